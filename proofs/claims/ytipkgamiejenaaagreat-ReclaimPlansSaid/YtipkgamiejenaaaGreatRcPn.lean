import Derived.Test.YtipkgamiejenaaaGreatMg20
import Derived.Test.YtipkgamiejenaaaGreatMg21
import Derived.Test.YtipkgamiejenaaaGreatMg5
import Derived.Test.YtipkgamiejenaaaGreatMg19
import Derived.Test.YtipkgamiejenaaaGreatMg7
/- The law ReclaimPlans of chapter 25. -/
namespace Go.Proofs.YtipkgamiejenaaaGreat
open Go Go.RowKit Go.MapKept
set_option linter.unusedVariables false
set_option linter.unusedSectionVars false
set_option linter.unusedSimpArgs false
set_option maxRecDepth 100000
set_option maxHeartbeats 4000000
namespace Rw
theorem plan_at (q : Int) (hq : 1 ≤ q) : ∀ (n : Nat) (w : Int) (k : Nat) (hk : k < n), 0 ≤ w → (Dr.plan n w q)[k]'(by rw [Dr.plan_len]; exact hk) = min (max (w - k * q) 0) q
  | n + 1, w, 0, _, hw => by simp only [Dr.plan, List.getElem_cons_zero]; omega
  | n + 1, w, k + 1, hk, hw => by
    simp only [Dr.plan, List.getElem_cons_succ]
    rw [plan_at q hq n (w - min w q) k (by omega) (by omega)]
    have e : ((k + 1 : Nat) : Int) * q = k * q + q := by rw [Int.natCast_add, Int.add_mul]; simp
    rw [e]
    have e2 : 0 ≤ (k : Int) * q := Int.mul_nonneg (by omega) (by omega)
    omega
/-- Behind how many ticks it is free. -/
def wh (l : List Int) (q : Int) (i : Int) : Int := if placeOf l i < 0 then 0 else placeOf l i / q + 1
theorem place_at {l : List Int} (hn : l.Nodup) (k : Nat) (hk : k < l.length) : placeOf l l[k] = k :=
  placeOf_some hk rfl fun j hj e => by
    have := (List.getElem_inj (h₀ := by omega) (h₁ := hk) hn).1 e
    omega
theorem wh_at {l : List Int} (hn : l.Nodup) (q k i : Nat) (hq : 1 ≤ q) (hi : i < q) (hk : q * k + i < l.length) : wh l q l[q * k + i] = (k : Int) + 1 := by
  unfold wh
  rw [place_at hn _ hk, if_neg (by omega)]
  have : (q * k + i) / q = k := by rw [Nat.mul_add_div (by omega), Nat.div_eq_of_lt hi]; omega
  have e : (((q * k + i : Nat) : Int) / (q : Int)) = (((q * k + i) / q : Nat) : Int) := by simp
  rw [e, this]
def tbl (f : Int → Int) (i : Nat) : List Int := (List.range i).map (fun j => f (j : Nat)) ++ List.replicate (10 - i) 0
theorem tbl_len (f : Int → Int) (i : Nat) (h : i ≤ 10) : (tbl f i).length = 10 := by simp [tbl]; omega
theorem tbl_set (f : Int → Int) (i : Nat) (h : i < 10) : (tbl f i).set i (f (i : Nat)) = tbl f (i + 1) := by
  unfold tbl
  rw [show 10 - i = (10 - (i + 1)) + 1 by omega, List.replicate_succ, List.set_append_right _ _ (by simp)]
  simp [List.range_succ]
theorem tbl_at (f : Int → Int) (z : Nat) (h : z < 10) : (tbl f 10)[z]'(by rw [tbl_len f 10 (by omega)]; exact h) = f (z : Nat) := by simp [tbl]
theorem st_nat (L q : Nat) : (Dr.st (L : Nat) (q : Nat)).toNat = if 0 < L % q then L / q + 1 else L / q := by
  unfold Dr.st
  have h1 : ((L : Int) % (q : Int)) = ((L % q : Nat) : Int) := by simp
  have h2 : ((L : Int) / (q : Int)) = ((L / q : Nat) : Int) := by simp
  rw [h1, h2]
  clear h1 h2
  generalize L / q = a
  generalize L % q = b
  by_cases h : 0 < b
  · rw [if_pos (by omega), if_pos h]; omega
  · rw [if_neg (by omega), if_neg h]; omega
theorem st_ceil (L q : Nat) (hq : 1 ≤ q) : L ≤ q * (Dr.st (L : Nat) (q : Nat)).toNat := by
  have h3 := Nat.div_add_mod L q
  have h4 := Nat.mod_lt L (show 0 < q by omega)
  rw [st_nat]
  split
  · rw [Nat.mul_add]; omega
  · omega
theorem st_floor (L q k : Nat) (hq : 1 ≤ q) (hk : k < (Dr.st (L : Nat) (q : Nat)).toNat) : q * k < L := by
  have h3 := Nat.div_add_mod L q
  rw [st_nat] at hk
  split at hk
  · have : k ≤ L / q := by omega
    have := Nat.mul_le_mul_left q this
    omega
  · have : k + 1 ≤ L / q := by omega
    have := Nat.mul_le_mul_left q this
    rw [Nat.mul_add] at this
    omega
end Rw
section
variable {P : Program} {n : Nat} {env : Env} {F : List HProp} {xT yT : TypeId} {x y : Operand}
theorem Runs.neBlR [ht : BoT P xT] {a : Bool} (hx : opnd env x = some (.bool a)) (hy : opnd env y = some (.bool a)) : Runs P n env F (.binOp .neq xT x y yT) (.bool false) := by
  have := Runs.neBl (P := P) (n := n) (F := F) (xT := xT) (yT := yT) hx hy
  rwa [decide_eq_false (by simp)] at this
end
theorem law25_Plans (a0 : Int) (h0 : 0 ≤ a0 ∧ a0 ≤ 255) (v : Value) (L : List Int) (hL8 : ∀ a ∈ L, 0 ≤ a ∧ a ≤ 255) (w : World) (F : List HProp) [hrd : Reads F v Rw.encU8 1 L] (hw : holds w F) :
    Ct Tryz.prog 9 #[.int .u8 a0, v] w fun e w' => e = .returned (.bool true) ∧ holds w' F := by
  refine Ct.go (args := [.int .u8 a0, v]) Tryz.func9 rfl rfl rfl hw ?_
  by_cases hL : 30 < (L.length : Int)
  · repeat' (first | ((apply GL.isCall; refine GL.call1 rfl rfl (fun w h => law25_works w _ h) ?_)) | first | refine stp ?_ | (refine stpB ?_; intro _) | (refine spl ?_ ?_ <;> intro hc <;> ((try simp only [decide_eq_true_eq, decide_eq_false_iff_not, Bool.not_true, Bool.not_false, ne_eq, Classical.not_not, Int.not_lt, Int.not_le] at hc); (try (exfalso; first | omega | exact hc trivial | exact hc rfl)))))
    all_goals (first | (exfalso; omega) | (refine GE.resOne rfl (by (repeat (first | apply Res.nil | (apply Res.tmp; rfl) | (refine Res.cellA rfl rfl rfl ?_) | (refine Res.cell1 rfl rfl ?_)))) (fun w h => ?_); exact ⟨rfl, h.sub⟩))
  obtain ⟨q, hq⟩ : ∃ q : Nat, 1 + a0 % 5 = q := ⟨(1 + a0 % 5).toNat, by omega⟩
  have hqb : 1 ≤ q ∧ q ≤ 5 := by omega
  have hI0 : St.Inv (St.new 10 64) 0 := St.Inv.new 10 64 (by omega) (by omega)
  have hq1 : 1 ≤ (q : Int) ∧ (q : Int) ≤ 1048576 := by omega
  have hz1 : 0 ≤ (0 : Int) ∧ (0 : Int) ≤ 1048576 := by omega
  have hO0 : Rc.Ok (⟨St.new 10 64, q, 0, [], List.replicate 64 0, [], 0⟩ : Rc.S) 0 := Rc.Ok.new hI0 hq1 hz1
  obtain ⟨M0, hM0⟩ : ∃ M0, M0 = (⟨St.new 10 64, q, 0, [], List.replicate 64 0, [], 0⟩ : Rc.S) := ⟨_, rfl⟩
  have hMk := fun w (F : List HProp) h => store_Make 10 64 (by omega) (by omega) (by omega) (by omega) (by decide) w F h
  have hRk := fun w (F : List HProp) h => rf19_Make 10 64 (by omega) (by omega) (by omega) (by omega) (by decide) w F h
  have hNw := fun sb w (F : List HProp) h => rec_New sb (St.new 10 64) 0 hI0 (by omega) (q : Int) 0 hq1 hz1 w F h
  have hNr : ∀ (q1 : RfM) (w : World) (F : List HProp), holds w (refS (.agg #[.int .i64 ((St.new 10 64).size : Nat), .slice q1.ca (St.new 10 64).ch.length q1.cc, .slice q1.xa (St.new 10 64).tx.length q1.xc, .slice q1.wa (St.new 10 64).wi.length q1.wc, .slice q1.sa (St.new 10 64).stack.length q1.sc, .int .i64 q1.e0, .int .i64 q1.e1, .int .i64 q1.e2, .int .i64 q1.e3]) (St.new 10 64) :: F) → Ct Tryz.prog 47 #[.agg #[.int .i64 ((St.new 10 64).size : Nat), .slice q1.ca (St.new 10 64).ch.length q1.cc, .slice q1.xa (St.new 10 64).tx.length q1.xc, .slice q1.wa (St.new 10 64).wi.length q1.wc, .slice q1.sa (St.new 10 64).stack.length q1.sc, .int .i64 q1.e0, .int .i64 q1.e1, .int .i64 q1.e2, .int .i64 q1.e3], .int .i64 (q : Nat), .int .i64 0] w fun e w' => ∃ y : RrM, e = .returned (.tuple #[.agg #[.int .i64 (M0.t.size : Nat), .slice y.q.ca M0.t.ch.length y.q.cc, .slice y.q.xa M0.t.tx.length y.q.xc, .slice y.q.wa M0.t.wi.length y.q.wc, .slice y.q.sa M0.t.stack.length y.q.sc, .int .i64 y.q.e0, .int .i64 y.q.e1, .int .i64 y.q.e2, .int .i64 y.q.e3, .int .i64 M0.q, .int .i64 M0.low, .slice y.la M0.line.length y.lc, .slice y.wa M0.want.length y.wc, .slice y.va M0.lv.length y.vc, .int .i64 M0.fr], .int .i64 0]) ∧ holds w' (refR (.agg #[.int .i64 (M0.t.size : Nat), .slice y.q.ca M0.t.ch.length y.q.cc, .slice y.q.xa M0.t.tx.length y.q.xc, .slice y.q.wa M0.t.wi.length y.q.wc, .slice y.q.sa M0.t.stack.length y.q.sc, .int .i64 y.q.e0, .int .i64 y.q.e1, .int .i64 y.q.e2, .int .i64 y.q.e3, .int .i64 M0.q, .int .i64 M0.low, .slice y.la M0.line.length y.lc, .slice y.wa M0.want.length y.wc, .slice y.va M0.lv.length y.vc, .int .i64 M0.fr]) M0 :: F) := by
    subst hM0
    exact fun q1 w F h => ref25_NewX q1 (St.new 10 64) (q : Int) 0 hq1 hz1 w F h
  rw [← hM0] at hNw hO0
  have hM0t : M0.t = St.new 10 64 := by rw [hM0]
  repeat' (first | (first | (rw [hq]) | (apply GL.isAny; refine GL.run (Runs.rem rfl rfl (by omega)) rfl ?_) | (apply GL.isCall; refine GL.call (vs := [.int .i64 ((10 : Nat) : Int), .int .i64 ((64 : Nat) : Int)]) rfl rfl (fun w h => hMk w _ h) (fun sb => ?_)) | (apply GL.isCall; refine GL.call (vs := [.int .i64 ((10 : Nat) : Int), .int .i64 ((64 : Nat) : Int)]) rfl rfl (fun w h => hRk w _ h) (fun v1 => ?_); refine GL.pure (fun wx hx => ?_); obtain ⟨q1, ⟨rfl, hev1⟩, -⟩ := refS.open hx; clear hx hev1) | (apply GL.isCall; refine GL.callH (storeP sb (St.new 10 64)) (vs := [.pointer (some ⟨sb, 0, none⟩), .int .i64 (q : Nat), .int .i64 0]) rfl rfl (fun w h => hNw sb w _ h) (fun rb => ?_)) | (apply GL.isCall; refine GL.callH (refS (.agg #[.int .i64 ((St.new 10 64).size : Nat), .slice q1.ca (St.new 10 64).ch.length q1.cc, .slice q1.xa (St.new 10 64).tx.length q1.xc, .slice q1.wa (St.new 10 64).wi.length q1.wc, .slice q1.sa (St.new 10 64).stack.length q1.sc, .int .i64 q1.e0, .int .i64 q1.e1, .int .i64 q1.e2, .int .i64 q1.e3]) (St.new 10 64)) (vs := [.agg #[.int .i64 ((St.new 10 64).size : Nat), .slice q1.ca (St.new 10 64).ch.length q1.cc, .slice q1.xa (St.new 10 64).tx.length q1.xc, .slice q1.wa (St.new 10 64).wi.length q1.wc, .slice q1.sa (St.new 10 64).stack.length q1.sc, .int .i64 q1.e0, .int .i64 q1.e1, .int .i64 q1.e2, .int .i64 q1.e3], .int .i64 (q : Nat), .int .i64 0]) rfl rfl (fun w h => hNr q1 w _ h) (fun x1 => ?_); (repeat (apply GL.isAny; refine GL.runA rfl ?_)); apply GL.isAlloc; refine GL.alloc (e := 94) rfl (fun b12 => ?_))) | first | refine stp ?_ | (refine stpB ?_; intro _) | (refine spl ?_ ?_ <;> intro hc <;> ((try simp only [decide_eq_true_eq, decide_eq_false_iff_not, Bool.not_true, Bool.not_false, ne_eq, Classical.not_not, Int.not_lt, Int.not_le] at hc); (try (exfalso; first | omega | exact hc trivial | exact hc rfl)))))
  all_goals (first | (exfalso; omega) | (exfalso; simp at hc; done) | skip)
  refine G.imp (F' := blk b12 (.cells #[.int .i64 (M0.t.size : Nat), .slice x1.q.ca M0.t.ch.length x1.q.cc, .slice x1.q.xa M0.t.tx.length x1.q.xc, .slice x1.q.wa M0.t.wi.length x1.q.wc, .slice x1.q.sa M0.t.stack.length x1.q.sc, .int .i64 x1.q.e0, .int .i64 x1.q.e1, .int .i64 x1.q.e2, .int .i64 x1.q.e3, .int .i64 M0.q, .int .i64 M0.low, .slice x1.la M0.line.length x1.lc, .slice x1.wa M0.want.length x1.wc, .slice x1.va M0.lv.length x1.vc, .int .i64 M0.fr] 94 (0, 0)) :: refS (.agg #[.int .i64 (M0.t.size : Nat), .slice x1.q.ca M0.t.ch.length x1.q.cc, .slice x1.q.xa M0.t.tx.length x1.q.xc, .slice x1.q.wa M0.t.wi.length x1.q.wc, .slice x1.q.sa M0.t.stack.length x1.q.sc, .int .i64 x1.q.e0, .int .i64 x1.q.e1, .int .i64 x1.q.e2, .int .i64 x1.q.e3]) M0.t :: rows encI1 1 (.slice x1.la M0.line.length x1.lc) M0.line :: owns 3 encI1 1 (.slice x1.wa M0.want.length x1.wc) M0.want :: owns 3 encI1 1 (.slice x1.va M0.lv.length x1.vc) M0.lv :: recP rb sb M0 0 :: storeP sb M0.t :: F) ?_ (fun w h => by
    have h2 : holds w (refR (.agg #[.int .i64 (M0.t.size : Nat), .slice x1.q.ca M0.t.ch.length x1.q.cc, .slice x1.q.xa M0.t.tx.length x1.q.xc, .slice x1.q.wa M0.t.wi.length x1.q.wc, .slice x1.q.sa M0.t.stack.length x1.q.sc, .int .i64 x1.q.e0, .int .i64 x1.q.e1, .int .i64 x1.q.e2, .int .i64 x1.q.e3, .int .i64 M0.q, .int .i64 M0.low, .slice x1.la M0.line.length x1.lc, .slice x1.wa M0.want.length x1.wc, .slice x1.va M0.lv.length x1.vc, .int .i64 M0.fr]) M0 :: blk b12 (.cells #[.int .i64 (M0.t.size : Nat), .slice x1.q.ca M0.t.ch.length x1.q.cc, .slice x1.q.xa M0.t.tx.length x1.q.xc, .slice x1.q.wa M0.t.wi.length x1.q.wc, .slice x1.q.sa M0.t.stack.length x1.q.sc, .int .i64 x1.q.e0, .int .i64 x1.q.e1, .int .i64 x1.q.e2, .int .i64 x1.q.e3, .int .i64 M0.q, .int .i64 M0.low, .slice x1.la M0.line.length x1.lc, .slice x1.wa M0.want.length x1.wc, .slice x1.va M0.lv.length x1.vc, .int .i64 M0.fr] 94 (0, 0)) :: recP rb sb M0 0 :: storeP sb (St.new 10 64) :: F) := h.sub
    rw [← hM0t] at h2
    exact (refR.open2 h2).sub)
  refine G.sub (e := [(14, .int .i64 0), (1, v), (5, .int .i64 (q : Nat)), (6, .pointer (some ⟨sb, 0, none⟩)), (10, .pointer (some ⟨rb, 0, none⟩)), (12, .pointer (some ⟨b12, 0, none⟩))]) ?_ ⟨rfl, rfl, rfl, rfl, rfl, rfl, trivial⟩
  have hl0 : M0.t.ch.length = 10 := by rw [hM0t]; simp [St.new]
  refine G.loopK [1, 5, 6, 10, 12] (Nat × St.S × RfM) (fun y => [(14, .int .i64 (y.1 : Nat))]) (fun y => blk b12 (.cells #[.int .i64 (y.2.1.size : Nat), .slice y.2.2.ca y.2.1.ch.length y.2.2.cc, .slice y.2.2.xa y.2.1.tx.length y.2.2.xc, .slice y.2.2.wa y.2.1.wi.length y.2.2.wc, .slice y.2.2.sa y.2.1.stack.length y.2.2.sc, .int .i64 y.2.2.e0, .int .i64 y.2.2.e1, .int .i64 y.2.2.e2, .int .i64 y.2.2.e3, .int .i64 M0.q, .int .i64 M0.low, .slice x1.la M0.line.length x1.lc, .slice x1.wa M0.want.length x1.wc, .slice x1.va M0.lv.length x1.vc, .int .i64 M0.fr] 94 (0, 0)) :: refS (.agg #[.int .i64 (y.2.1.size : Nat), .slice y.2.2.ca y.2.1.ch.length y.2.2.cc, .slice y.2.2.xa y.2.1.tx.length y.2.2.xc, .slice y.2.2.wa y.2.1.wi.length y.2.2.wc, .slice y.2.2.sa y.2.1.stack.length y.2.2.sc, .int .i64 y.2.2.e0, .int .i64 y.2.2.e1, .int .i64 y.2.2.e2, .int .i64 y.2.2.e3]) y.2.1 :: rows encI1 1 (.slice x1.la M0.line.length x1.lc) M0.line :: owns 3 encI1 1 (.slice x1.wa M0.want.length x1.wc) M0.want :: owns 3 encI1 1 (.slice x1.va M0.lv.length x1.vc) M0.lv :: recP rb sb M0 0 :: storeP sb y.2.1 :: F) (fun y => y.1 ≤ 10 ∧ St.Inv y.2.1 y.1 ∧ y.2.1.ch.length = 10) (fun y => 10 - y.1) ((0, M0.t, x1.q)) (⟨Nat.zero_le _, by dsimp only; rw [hM0t]; exact hI0, hl0⟩) (by repeat (first | exact trivial | refine And.intro rfl ?_)) (fun w h => by (try dsimp only); first | exact h | exact h.sub | ((try simp only [List.take_zero, List.drop_zero, List.map_nil, List.nil_append, List.zipIdx_nil, List.filter_nil]); exact h.sub)) ?_
  rintro ⟨i, t, y⟩ ⟨hi, hI, hl⟩
  dsimp only at hi hI hl ⊢
  by_cases hlt : i < 10
  · have cT := fun (w : World) (F : List HProp) h' => store_Take sb t i hI (by omega) 1 w F h'
    have cR := fun (w : World) (F : List HProp) h' => rf19_TakeX y t i hI (by omega) 1 w F h'
    have hI2 := hI.take 1
    have hl2 := St.take_len t 1
    rw [hl] at hl2
    obtain ⟨T2, hT2⟩ : ∃ T2, T2 = (St.take t 1).1 := ⟨_, rfl⟩
    rw [← hT2] at cT hI2 hl2
    simp only [← hT2] at cR
    repeat' (first | (first | (apply GL.isCall; refine GL.callH1 (storeP sb t) (vs := [.pointer (some ⟨sb, 0, none⟩), .int .i64 1]) rfl rfl (fun w h => cT w _ h) ?_) | (apply GL.isCall; refine GL.callH (refS (.agg #[.int .i64 (t.size : Nat), .slice y.ca t.ch.length y.cc, .slice y.xa t.tx.length y.xc, .slice y.wa t.wi.length y.wc, .slice y.sa t.stack.length y.sc, .int .i64 y.e0, .int .i64 y.e1, .int .i64 y.e2, .int .i64 y.e3]) t) (vs := [.agg #[.int .i64 (t.size : Nat), .slice y.ca t.ch.length y.cc, .slice y.xa t.tx.length y.xc, .slice y.wa t.wi.length y.wc, .slice y.sa t.stack.length y.sc, .int .i64 y.e0, .int .i64 y.e1, .int .i64 y.e2, .int .i64 y.e3], .int .i64 1]) rfl rfl (fun w h => cR w _ h) (fun y2 => ?_))) | first | refine stp ?_ | (refine stpB ?_; intro _) | (refine spl ?_ ?_ <;> intro hc <;> ((try simp only [decide_eq_true_eq, decide_eq_false_iff_not, Bool.not_true, Bool.not_false, ne_eq, Classical.not_not, Int.not_lt, Int.not_le] at hc); (try (exfalso; first | omega | exact hc trivial | exact hc rfl)))))
    all_goals (first | (exfalso; omega) | (exfalso; simp at hc; done) | skip)
    refine GE.round (i + 1, T2, y2) ⟨hlt, by dsimp only; exact hI2, hl2⟩ (by repeat (first | exact trivial | refine And.intro rfl ?_)) (fun w h => by (try dsimp only); exact (show holds w (blk b12 (.cells #[.int .i64 (T2.size : Nat), .slice y2.ca T2.ch.length y2.cc, .slice y2.xa T2.tx.length y2.xc, .slice y2.wa T2.wi.length y2.wc, .slice y2.sa T2.stack.length y2.sc, .int .i64 y2.e0, .int .i64 y2.e1, .int .i64 y2.e2, .int .i64 y2.e3, .int .i64 M0.q, .int .i64 M0.low, .slice x1.la M0.line.length x1.lc, .slice x1.wa M0.want.length x1.wc, .slice x1.va M0.lv.length x1.vc, .int .i64 M0.fr] 94 (0, 0)) :: _) from h).sub) (by (try dsimp only); omega)
  obtain rfl : i = 10 := by omega
  obtain ⟨m0, hm0⟩ : ∃ m0, m0 = ({ M0 with t := t } : Rc.S) := ⟨_, rfl⟩
  have hO1 : Rc.Ok m0 10 := by
    rw [hm0, hM0]
    exact Rc.Ok.new (q := ((q : Nat) : Int)) (low := 0) hI hq1 hz1
  have hm0q : m0.q = q := by rw [hm0, hM0]
  have hm0l : m0.t.ch.length = 10 := by rw [hm0]; exact hl
  repeat' (first | refine stp ?_ | (refine stpB ?_; intro _) | (refine spl ?_ ?_ <;> intro hc <;> ((try simp only [decide_eq_true_eq, decide_eq_false_iff_not, Bool.not_true, Bool.not_false, ne_eq, Classical.not_not, Int.not_lt, Int.not_le] at hc); (try (exfalso; first | omega | exact hc trivial | exact hc rfl)))))
  all_goals (first | (exfalso; omega) | skip)
  refine G.imp (F' := recP rb sb m0 10 :: storeP sb m0.t :: refR (.agg #[.int .i64 (m0.t.size : Nat), .slice (⟨y, x1.la, x1.lc, x1.wa, x1.wc, x1.va, x1.vc⟩ : RrM).q.ca m0.t.ch.length (⟨y, x1.la, x1.lc, x1.wa, x1.wc, x1.va, x1.vc⟩ : RrM).q.cc, .slice (⟨y, x1.la, x1.lc, x1.wa, x1.wc, x1.va, x1.vc⟩ : RrM).q.xa m0.t.tx.length (⟨y, x1.la, x1.lc, x1.wa, x1.wc, x1.va, x1.vc⟩ : RrM).q.xc, .slice (⟨y, x1.la, x1.lc, x1.wa, x1.wc, x1.va, x1.vc⟩ : RrM).q.wa m0.t.wi.length (⟨y, x1.la, x1.lc, x1.wa, x1.wc, x1.va, x1.vc⟩ : RrM).q.wc, .slice (⟨y, x1.la, x1.lc, x1.wa, x1.wc, x1.va, x1.vc⟩ : RrM).q.sa m0.t.stack.length (⟨y, x1.la, x1.lc, x1.wa, x1.wc, x1.va, x1.vc⟩ : RrM).q.sc, .int .i64 (⟨y, x1.la, x1.lc, x1.wa, x1.wc, x1.va, x1.vc⟩ : RrM).q.e0, .int .i64 (⟨y, x1.la, x1.lc, x1.wa, x1.wc, x1.va, x1.vc⟩ : RrM).q.e1, .int .i64 (⟨y, x1.la, x1.lc, x1.wa, x1.wc, x1.va, x1.vc⟩ : RrM).q.e2, .int .i64 (⟨y, x1.la, x1.lc, x1.wa, x1.wc, x1.va, x1.vc⟩ : RrM).q.e3, .int .i64 m0.q, .int .i64 m0.low, .slice (⟨y, x1.la, x1.lc, x1.wa, x1.wc, x1.va, x1.vc⟩ : RrM).la m0.line.length (⟨y, x1.la, x1.lc, x1.wa, x1.wc, x1.va, x1.vc⟩ : RrM).lc, .slice (⟨y, x1.la, x1.lc, x1.wa, x1.wc, x1.va, x1.vc⟩ : RrM).wa m0.want.length (⟨y, x1.la, x1.lc, x1.wa, x1.wc, x1.va, x1.vc⟩ : RrM).wc, .slice (⟨y, x1.la, x1.lc, x1.wa, x1.wc, x1.va, x1.vc⟩ : RrM).va m0.lv.length (⟨y, x1.la, x1.lc, x1.wa, x1.wc, x1.va, x1.vc⟩ : RrM).vc, .int .i64 m0.fr]) m0 :: blk b12 (.cells #[.int .i64 (m0.t.size : Nat), .slice (⟨y, x1.la, x1.lc, x1.wa, x1.wc, x1.va, x1.vc⟩ : RrM).q.ca m0.t.ch.length (⟨y, x1.la, x1.lc, x1.wa, x1.wc, x1.va, x1.vc⟩ : RrM).q.cc, .slice (⟨y, x1.la, x1.lc, x1.wa, x1.wc, x1.va, x1.vc⟩ : RrM).q.xa m0.t.tx.length (⟨y, x1.la, x1.lc, x1.wa, x1.wc, x1.va, x1.vc⟩ : RrM).q.xc, .slice (⟨y, x1.la, x1.lc, x1.wa, x1.wc, x1.va, x1.vc⟩ : RrM).q.wa m0.t.wi.length (⟨y, x1.la, x1.lc, x1.wa, x1.wc, x1.va, x1.vc⟩ : RrM).q.wc, .slice (⟨y, x1.la, x1.lc, x1.wa, x1.wc, x1.va, x1.vc⟩ : RrM).q.sa m0.t.stack.length (⟨y, x1.la, x1.lc, x1.wa, x1.wc, x1.va, x1.vc⟩ : RrM).q.sc, .int .i64 (⟨y, x1.la, x1.lc, x1.wa, x1.wc, x1.va, x1.vc⟩ : RrM).q.e0, .int .i64 (⟨y, x1.la, x1.lc, x1.wa, x1.wc, x1.va, x1.vc⟩ : RrM).q.e1, .int .i64 (⟨y, x1.la, x1.lc, x1.wa, x1.wc, x1.va, x1.vc⟩ : RrM).q.e2, .int .i64 (⟨y, x1.la, x1.lc, x1.wa, x1.wc, x1.va, x1.vc⟩ : RrM).q.e3, .int .i64 m0.q, .int .i64 m0.low, .slice (⟨y, x1.la, x1.lc, x1.wa, x1.wc, x1.va, x1.vc⟩ : RrM).la m0.line.length (⟨y, x1.la, x1.lc, x1.wa, x1.wc, x1.va, x1.vc⟩ : RrM).lc, .slice (⟨y, x1.la, x1.lc, x1.wa, x1.wc, x1.va, x1.vc⟩ : RrM).wa m0.want.length (⟨y, x1.la, x1.lc, x1.wa, x1.wc, x1.va, x1.vc⟩ : RrM).wc, .slice (⟨y, x1.la, x1.lc, x1.wa, x1.wc, x1.va, x1.vc⟩ : RrM).va m0.lv.length (⟨y, x1.la, x1.lc, x1.wa, x1.wc, x1.va, x1.vc⟩ : RrM).vc, .int .i64 m0.fr] 94 (0, 0)) :: F) ?_ (fun w h => by
    subst hm0
    exact act0_shut (K := 0) (K' := 10) (by rw [hl, hl0]) (by omega) (show holds w (blk b12 (.cells #[.int .i64 (t.size : Nat), .slice y.ca t.ch.length y.cc, .slice y.xa t.tx.length y.xc, .slice y.wa t.wi.length y.wc, .slice y.sa t.stack.length y.sc, .int .i64 y.e0, .int .i64 y.e1, .int .i64 y.e2, .int .i64 y.e3, .int .i64 M0.q, .int .i64 M0.low, .slice x1.la M0.line.length x1.lc, .slice x1.wa M0.want.length x1.wc, .slice x1.va M0.lv.length x1.vc, .int .i64 M0.fr] 94 (0, 0)) :: refS (.agg #[.int .i64 (t.size : Nat), .slice y.ca t.ch.length y.cc, .slice y.xa t.tx.length y.xc, .slice y.wa t.wi.length y.wc, .slice y.sa t.stack.length y.sc, .int .i64 y.e0, .int .i64 y.e1, .int .i64 y.e2, .int .i64 y.e3]) t :: rows encI1 1 (.slice x1.la M0.line.length x1.lc) M0.line :: owns 3 encI1 1 (.slice x1.wa M0.want.length x1.wc) M0.want :: owns 3 encI1 1 (.slice x1.va M0.lv.length x1.vc) M0.lv :: recP rb sb M0 0 :: storeP sb t :: F) from h))
  refine G.loopK [1, 5, 6, 10, 12] (RpS) (fun y => [(15, .int .i64 (y.i : Nat))]) (fun y => recP rb sb y.m y.K :: storeP sb y.m.t :: refR (.agg #[.int .i64 (y.m.t.size : Nat), .slice y.x.q.ca y.m.t.ch.length y.x.q.cc, .slice y.x.q.xa y.m.t.tx.length y.x.q.xc, .slice y.x.q.wa y.m.t.wi.length y.x.q.wc, .slice y.x.q.sa y.m.t.stack.length y.x.q.sc, .int .i64 y.x.q.e0, .int .i64 y.x.q.e1, .int .i64 y.x.q.e2, .int .i64 y.x.q.e3, .int .i64 y.m.q, .int .i64 y.m.low, .slice y.x.la y.m.line.length y.x.lc, .slice y.x.wa y.m.want.length y.x.wc, .slice y.x.va y.m.lv.length y.x.vc, .int .i64 y.m.fr]) y.m :: blk b12 (.cells #[.int .i64 (y.m.t.size : Nat), .slice y.x.q.ca y.m.t.ch.length y.x.q.cc, .slice y.x.q.xa y.m.t.tx.length y.x.q.xc, .slice y.x.q.wa y.m.t.wi.length y.x.q.wc, .slice y.x.q.sa y.m.t.stack.length y.x.q.sc, .int .i64 y.x.q.e0, .int .i64 y.x.q.e1, .int .i64 y.x.q.e2, .int .i64 y.x.q.e3, .int .i64 y.m.q, .int .i64 y.m.low, .slice y.x.la y.m.line.length y.x.lc, .slice y.x.wa y.m.want.length y.x.wc, .slice y.x.va y.m.lv.length y.x.vc, .int .i64 y.m.fr] 94 (0, 0)) :: F) (fun y => y.i ≤ L.length ∧ Rc.Ok y.m y.K ∧ y.m.t.ch.length = 10 ∧ y.m.q = q ∧ y.K = 10 + y.i) (fun y => L.length - y.i) (⟨0, m0, 10, ⟨y, x1.la, x1.lc, x1.wa, x1.wc, x1.va, x1.vc⟩⟩) (⟨Nat.zero_le _, hO1, hm0l, hm0q, rfl⟩) (by repeat (first | exact trivial | refine And.intro rfl ?_)) (fun w h => by (try dsimp only); first | exact h | exact h.sub | ((try simp only [List.take_zero, List.drop_zero, List.map_nil, List.nil_append, List.zipIdx_nil, List.filter_nil]); exact h.sub)) ?_
  clear hO0 hM0 hM0t hNw hNr hI hl hl0 hO1 hm0 hm0q hm0l
  rintro ⟨i, m, K, x⟩ ⟨hi, hO, hml, hmq, hK⟩
  dsimp only at hi hO hml hmq hK ⊢
  have hln := hO.wt.len
  by_cases hlt : i < L.length
  · have hb8 := hL8 _ (List.getElem_mem hlt)
    obtain ⟨a, ha⟩ : ∃ a, a = L[i] % 10 := ⟨_, rfl⟩
    have hO2 := hO.put a 1
    have hml2 : (Rc.put m a 1).1.t.ch.length = 10 := by rw [Rc.put_chl]; exact hml
    have hmq2 : (Rc.put m a 1).1.q = q := by rw [← hmq]; unfold Rc.put; split <;> rfl
    have cT := fun (w : World) (F : List HProp) h' => rec_Put rb sb m K hO (by omega) a 1 w F h'
    have cR := fun (w : World) (F : List HProp) h' => ref25_PutX x m K hO (by omega) a 1 (by omega) w F h'
    obtain ⟨m2, hm2⟩ : ∃ m2, m2 = (Rc.put m a 1).1 := ⟨_, rfl⟩
    rw [← hm2] at cT hO2 hml2 hmq2
    simp only [← hm2] at cR
    repeat' (first | (first | (rw [← ha]) | (apply GL.isAny; refine GL.run (Runs.rem rfl rfl (by omega)) rfl ?_) | (refine G.isRegion 19 ?_; refine G.drawTailX 7 [(10, 9), (11, 10)] (by kernel_rfl) (by simp only [List.take_succ_cons, List.take_zero]; rfl) (by simp only [List.drop_succ_cons, List.drop_zero]; rfl) (by kernel_rfl) ?_) | (apply GL.isCall; refine GL.callHH1 (recP rb sb m K) (storeP sb m.t) (vs := [.pointer (some ⟨rb, 0, none⟩), .int .i64 a, .int .i64 1]) rfl rfl (fun w h => cT w _ h) ?_) | (apply GL.isCall; refine GL.callH (refR (.agg #[.int .i64 (m.t.size : Nat), .slice x.q.ca m.t.ch.length x.q.cc, .slice x.q.xa m.t.tx.length x.q.xc, .slice x.q.wa m.t.wi.length x.q.wc, .slice x.q.sa m.t.stack.length x.q.sc, .int .i64 x.q.e0, .int .i64 x.q.e1, .int .i64 x.q.e2, .int .i64 x.q.e3, .int .i64 m.q, .int .i64 m.low, .slice x.la m.line.length x.lc, .slice x.wa m.want.length x.wc, .slice x.va m.lv.length x.vc, .int .i64 m.fr]) m) (vs := [.agg #[.int .i64 (m.t.size : Nat), .slice x.q.ca m.t.ch.length x.q.cc, .slice x.q.xa m.t.tx.length x.q.xc, .slice x.q.wa m.t.wi.length x.q.wc, .slice x.q.sa m.t.stack.length x.q.sc, .int .i64 x.q.e0, .int .i64 x.q.e1, .int .i64 x.q.e2, .int .i64 x.q.e3, .int .i64 m.q, .int .i64 m.low, .slice x.la m.line.length x.lc, .slice x.wa m.want.length x.wc, .slice x.va m.lv.length x.vc, .int .i64 m.fr], .int .i64 a, .int .i64 1]) rfl rfl (fun w h => cR w _ h) (fun y2 => ?_))) | first | refine stp ?_ | (refine stpB ?_; intro _) | (refine spl ?_ ?_ <;> intro hc <;> ((try simp only [decide_eq_true_eq, decide_eq_false_iff_not, Bool.not_true, Bool.not_false, ne_eq, Classical.not_not, Int.not_lt, Int.not_le] at hc); (try (exfalso; first | omega | exact hc trivial | exact hc rfl)))))
    all_goals (first | (exfalso; omega) | (exfalso; simp at hc; done) | skip)
    refine GE.round ⟨i + 1, m2, K + 1, y2⟩ ⟨hlt, hO2, hml2, hmq2, by dsimp only; omega⟩ (by repeat (first | exact trivial | refine And.intro rfl ?_)) (fun w h => by (try dsimp only); exact h.sub) (by (try dsimp only); omega)
  obtain rfl : i = L.length := by omega
  have hnd := hO.wt.nd
  have hq0 := hO.q
  repeat' (first | (apply GL.isAny; refine GL.makeSl encI1 0 10 10 rfl rfl rfl rfl rfl (Nat.le_refl _) (by omega) (by unfold maxLen; omega) rfl (fun g => ?_)) | first | refine stp ?_ | (refine stpB ?_; intro _) | (refine spl ?_ ?_ <;> intro hc <;> ((try simp only [decide_eq_true_eq, decide_eq_false_iff_not, Bool.not_true, Bool.not_false, ne_eq, Classical.not_not, Int.not_lt, Int.not_le] at hc); (try (exfalso; first | omega | exact hc trivial | exact hc rfl)))))
  all_goals (first | (exfalso; omega) | skip)
  refine G.sub (e := [(17, .int .i64 0), (10, .pointer (some ⟨rb, 0, none⟩)), (12, .pointer (some ⟨b12, 0, none⟩)), (16, .slice (some ⟨g, 0, none⟩) 10 10)]) ?_ ⟨rfl, rfl, rfl, rfl, trivial⟩
  refine G.loopK [10, 12, 16] (Nat) (fun i => [(17, .int .i64 (i : Nat))]) (fun i => owns 3 encI1 1 (.slice (some ⟨g, 0, none⟩) 10 10) (Rw.tbl (Rw.wh m.line m.q) i) :: recP rb sb m K :: storeP sb m.t :: refR (.agg #[.int .i64 (m.t.size : Nat), .slice x.q.ca m.t.ch.length x.q.cc, .slice x.q.xa m.t.tx.length x.q.xc, .slice x.q.wa m.t.wi.length x.q.wc, .slice x.q.sa m.t.stack.length x.q.sc, .int .i64 x.q.e0, .int .i64 x.q.e1, .int .i64 x.q.e2, .int .i64 x.q.e3, .int .i64 m.q, .int .i64 m.low, .slice x.la m.line.length x.lc, .slice x.wa m.want.length x.wc, .slice x.va m.lv.length x.vc, .int .i64 m.fr]) m :: blk b12 (.cells #[.int .i64 (m.t.size : Nat), .slice x.q.ca m.t.ch.length x.q.cc, .slice x.q.xa m.t.tx.length x.q.xc, .slice x.q.wa m.t.wi.length x.q.wc, .slice x.q.sa m.t.stack.length x.q.sc, .int .i64 x.q.e0, .int .i64 x.q.e1, .int .i64 x.q.e2, .int .i64 x.q.e3, .int .i64 m.q, .int .i64 m.low, .slice x.la m.line.length x.lc, .slice x.wa m.want.length x.wc, .slice x.va m.lv.length x.vc, .int .i64 m.fr] 94 (0, 0)) :: F) (fun i => i ≤ 10) (fun i => 10 - i) (0) (Nat.zero_le _) (by repeat (first | exact trivial | refine And.intro rfl ?_)) (fun w h => by (try dsimp only); first | exact h | exact h.sub | ((try simp only [List.take_zero, List.drop_zero, List.map_nil, List.nil_append, List.zipIdx_nil, List.filter_nil]); exact h.sub)) ?_
  intro i hi
  by_cases hlt : i < 10
  · have cW := fun (w : World) (F : List HProp) h' => rec_When rb sb m K hO (by omega) (by omega) (i : Nat) w F h'
    have cV := fun (v : Value) (w : World) (F : List HProp) h' => ref25_When m K hO (by omega) v (i : Nat) (by omega) w F h'
    obtain ⟨W, hW⟩ : ∃ W, W = Rw.wh m.line m.q (i : Nat) := ⟨_, rfl⟩
    have hWs := Rw.tbl_set (Rw.wh m.line m.q) i hlt
    have htl := Rw.tbl_len (Rw.wh m.line m.q) i (by omega)
    rw [← hW] at hWs
    unfold Rw.wh at hW
    obtain ⟨b, hb⟩ : ∃ b, b = decide (0 ≤ placeOf m.line (i : Nat)) := ⟨_, rfl⟩
    rw [← hW, ← hb] at cW
    rw [← hW, ← hb] at cV
    repeat' (first | (first | (apply GL.isAny; first | refine GL.run (Runs.neqIF rfl rfl rfl) rfl ?_ | refine GL.run (Runs.neBlR rfl rfl) rfl ?_) | (apply GL.isCall; refine GL.callH1 (recP rb sb m K) (vs := [.pointer (some ⟨rb, 0, none⟩), .int .i64 (i : Nat)]) rfl rfl (fun w h => cW w _ h) ?_) | (apply GL.isCall; refine GL.callH1 (refR (.agg #[.int .i64 (m.t.size : Nat), .slice x.q.ca m.t.ch.length x.q.cc, .slice x.q.xa m.t.tx.length x.q.xc, .slice x.q.wa m.t.wi.length x.q.wc, .slice x.q.sa m.t.stack.length x.q.sc, .int .i64 x.q.e0, .int .i64 x.q.e1, .int .i64 x.q.e2, .int .i64 x.q.e3, .int .i64 m.q, .int .i64 m.low, .slice x.la m.line.length x.lc, .slice x.wa m.want.length x.wc, .slice x.va m.lv.length x.vc, .int .i64 m.fr]) m) (vs := [.agg #[.int .i64 (m.t.size : Nat), .slice x.q.ca m.t.ch.length x.q.cc, .slice x.q.xa m.t.tx.length x.q.xc, .slice x.q.wa m.t.wi.length x.q.wc, .slice x.q.sa m.t.stack.length x.q.sc, .int .i64 x.q.e0, .int .i64 x.q.e1, .int .i64 x.q.e2, .int .i64 x.q.e3, .int .i64 m.q, .int .i64 m.low, .slice x.la m.line.length x.lc, .slice x.wa m.want.length x.wc, .slice x.va m.lv.length x.vc, .int .i64 m.fr], .int .i64 (i : Nat)]) rfl rfl (fun w h => cV _ w _ h) ?_) | (apply GL.isStore; refine GL.setElem (i := i) W rfl rfl (by kernel_rfl) (by omega) rfl ?_)) | first | refine stp ?_ | (refine stpB ?_; intro _) | (refine spl ?_ ?_ <;> intro hc <;> ((try simp only [decide_eq_true_eq, decide_eq_false_iff_not, Bool.not_true, Bool.not_false, ne_eq, Classical.not_not, Int.not_lt, Int.not_le] at hc); (try (exfalso; first | omega | exact hc trivial | exact hc rfl)))))
    all_goals (first | (exfalso; omega) | (exfalso; simp at hc; done) | skip)
    refine GE.round (i + 1) hlt (by repeat (first | exact trivial | refine And.intro rfl ?_)) (fun w h => by (try dsimp only); rw [hWs] at h; exact h.sub) (by (try dsimp only); omega)
  obtain rfl : i = 10 := by omega
  obtain ⟨tb, htb⟩ : ∃ tb, tb = Rw.tbl (Rw.wh m.line m.q) 10 := ⟨_, rfl⟩
  have htbl : tb.length = 10 := by rw [htb]; exact Rw.tbl_len _ 10 (by omega)
  rw [← htb]
  have cP := fun (w : World) (F : List HProp) h' => rec_Plan rb sb m K hO (by omega) (by omega) w F h'
  have cQ := fun (v : Value) (w : World) (F : List HProp) h' => ref25_Plan m K hO (by omega) v (by omega) w F h'
  obtain ⟨N, hN⟩ : ∃ N, N = (Dr.st (m.line.length : Nat) m.q).toNat := ⟨_, rfl⟩
  obtain ⟨pl, hpl⟩ : ∃ pl, pl = Dr.plan N (m.line.length : Nat) m.q := ⟨_, rfl⟩
  have hpll : pl.length = N := by rw [hpl, Dr.plan_len]
  rw [← hN, ← hpl] at cP
  rw [← hN, ← hpl] at cQ
  rw [hmq] at hN hpl
  have hceil := Rw.st_ceil m.line.length q hqb.1
  have hfl := fun k hk => Rw.st_floor m.line.length q k hqb.1 hk
  rw [← hN] at hceil hfl
  have hN10 : N ≤ 10 := by
    by_cases h : N = 0
    · omega
    · have h3 := hfl (N - 1) (by omega)
      have h4 := Nat.mul_le_mul_right (N - 1) hqb.1
      omega
  repeat' (first | (first | (apply GL.isCall; refine GL.callH (recP rb sb m K) (vs := [.pointer (some ⟨rb, 0, none⟩)]) rfl rfl (fun w h => cP w _ h) (fun pv => ?_)) | (apply GL.isCall; refine GL.callH (refR (.agg #[.int .i64 (m.t.size : Nat), .slice x.q.ca m.t.ch.length x.q.cc, .slice x.q.xa m.t.tx.length x.q.xc, .slice x.q.wa m.t.wi.length x.q.wc, .slice x.q.sa m.t.stack.length x.q.sc, .int .i64 x.q.e0, .int .i64 x.q.e1, .int .i64 x.q.e2, .int .i64 x.q.e3, .int .i64 m.q, .int .i64 m.low, .slice x.la m.line.length x.lc, .slice x.wa m.want.length x.wc, .slice x.va m.lv.length x.vc, .int .i64 m.fr]) m) (vs := [.agg #[.int .i64 (m.t.size : Nat), .slice x.q.ca m.t.ch.length x.q.cc, .slice x.q.xa m.t.tx.length x.q.xc, .slice x.q.wa m.t.wi.length x.q.wc, .slice x.q.sa m.t.stack.length x.q.sc, .int .i64 x.q.e0, .int .i64 x.q.e1, .int .i64 x.q.e2, .int .i64 x.q.e3, .int .i64 m.q, .int .i64 m.low, .slice x.la m.line.length x.lc, .slice x.wa m.want.length x.wc, .slice x.va m.lv.length x.vc, .int .i64 m.fr]]) rfl rfl (fun w h => cQ _ w _ h) (fun qv => ?_)) | (apply GL.isCall; refine GL.call1 (vs := [pv, qv]) rfl rfl (fun w h => st_IntsR pv qv pl (by omega) w _ h) ?_)) | first | refine stp ?_ | (refine stpB ?_; intro _) | (refine spl ?_ ?_ <;> intro hc <;> ((try simp only [decide_eq_true_eq, decide_eq_false_iff_not, Bool.not_true, Bool.not_false, ne_eq, Classical.not_not, Int.not_lt, Int.not_le] at hc); (try (exfalso; first | omega | exact hc trivial | exact hc rfl)))))
  all_goals (first | (exfalso; omega) | (exfalso; simp at hc; done) | skip)
  refine G.sub (e := [(23, .int .i64 0), (10, .pointer (some ⟨rb, 0, none⟩)), (16, .slice (some ⟨g, 0, none⟩) 10 10), (22, pv)]) ?_ ⟨rfl, rfl, rfl, rfl, trivial⟩
  refine G.loopK [10, 16, 22] (Nat × Rc.S × Nat) (fun y => [(23, .int .i64 (y.1 : Nat))]) (fun y => owns 3 encI1 1 (.slice (some ⟨g, 0, none⟩) 10 10) tb :: owns 3 encI1 1 pv pl :: recP rb sb y.2.1 y.2.2 :: storeP sb y.2.1.t :: F) (fun y => y.1 ≤ N ∧ Rc.Ok y.2.1 y.2.2 ∧ y.2.1.t.ch.length = 10 ∧ y.2.1.q = q ∧ y.2.2 ≤ 50 + 21 * y.1 ∧ y.2.1.line = m.line.drop (q * y.1)) (fun y => N - y.1) ((0, m, K)) (⟨Nat.zero_le _, hO, hml, hmq, by dsimp only; omega, by simp⟩) (by repeat (first | exact trivial | refine And.intro rfl ?_)) (fun w h => by (try dsimp only); first | exact h | exact h.sub | ((try simp only [List.take_zero, List.drop_zero, List.map_nil, List.nil_append, List.zipIdx_nil, List.filter_nil]); exact h.sub)) ?_
  rintro ⟨k, mk, Kk⟩ ⟨hk, hOk, hkl, hkq, hKk, hkd⟩
  dsimp only at hk hOk hkl hkq hKk hkd ⊢
  have hlk := hOk.wt.len
  by_cases hkn : k < N
  · have hqk := hfl k hkn
    have hqq : mk.q.toNat = q := by rw [hkq]; rfl
    have cK := fun (w : World) (F : List HProp) (ir : Reads F (.slice none 0 0) encI1 1 []) h' => rec_Tick rb sb mk Kk hOk (by omega) (.slice none 0 0) [] (by simp) w F h'
    have hO2 := hOk.tick [] (by simp)
    have hl2 : (Rc.tick mk []).line = m.line.drop (q * (k + 1)) := by
      have : (Rc.tick mk []).line = mk.line.drop mk.q.toNat := rfl
      rw [this, hqq, hkd, List.drop_drop, Nat.mul_succ]
    have hq2 : (Rc.tick mk []).q = q := hkq
    have hc2 := Rc.tick_chl hOk []
    rw [hqq] at cK
    obtain ⟨o, ho⟩ : ∃ o, o = mk.line.take q := ⟨_, rfl⟩
    rw [← ho] at cK
    obtain ⟨m2, hm2⟩ : ∃ m2, m2 = Rc.tick mk [] := ⟨_, rfl⟩
    rw [← hm2] at cK hO2 hl2 hq2 hc2
    have hol : o.length = min q (m.line.length - q * k) := by rw [ho, List.length_take, hkd, List.length_drop]
    have hpk : pl[k]'(by omega) = (o.length : Int) := by
      have h3 := Rw.plan_at (q : Int) (by omega) N (m.line.length : Nat) k hkn (by omega)
      have e : ((q * k : Nat) : Int) = (k : Int) * q := by rw [Int.natCast_mul, Int.mul_comm]
      have h5 : pl[k]'(by omega) = (Dr.plan N (m.line.length : Nat) (q : Int))[k]'(by rw [Dr.plan_len]; exact hkn) := by congr 1
      rw [h5, h3, ← e]
      omega
    have hoz : ∀ j (hj : j < o.length), ∃ z : Nat, ∃ hz : z < tb.length, o[j] = z ∧ tb[z] = (k : Int) + 1 := fun j hj => by
      have hjq : q * k + j < m.line.length := by omega
      have e1 : o[j] = m.line[q * k + j] := by
        have e2 : o[j] = (mk.line.take q)[j]'(by rw [← ho]; exact hj) := by congr 1
        rw [e2, List.getElem_take]
        have e3 : mk.line[j]'(by rw [hkd, List.length_drop]; omega) = (m.line.drop (q * k))[j]'(by rw [List.length_drop]; omega) := by congr 1
        rw [e3, List.getElem_drop]
      obtain ⟨z, hz1, hz2, _⟩ := hO.wt.ph _ (List.getElem_mem hjq)
      have hzt : z < tb.length := by omega
      refine ⟨z, hzt, by rw [e1]; exact hz1, ?_⟩
      have h4 := Rw.wh_at hnd q k j hqb.1 (by omega) hjq
      have e4 : tb[z] = (Rw.tbl (Rw.wh m.line m.q) 10)[z]'(by rw [← htb]; exact hzt) := by congr 1
      rw [e4, Rw.tbl_at (Rw.wh m.line m.q) z (by omega), ← hz1, hmq]
      exact h4
    repeat' (first | (first | (rw [hpk]) | (apply GL.isAny; first | refine GL.run (Runs.neqIF rfl rfl rfl) rfl ?_ | refine GL.run (Runs.neBlR rfl rfl) rfl ?_) | (refine G.isRegion 35 ?_; refine G.nilOwn 3 encI1 1 ?_; apply G.region) | (apply GL.isCall; refine GL.callHH (recP rb sb mk Kk) (storeP sb mk.t) (vs := [.pointer (some ⟨rb, 0, none⟩), .slice none 0 0]) rfl rfl (fun w h => cK w _ inferInstance h) (fun u => ?_))) | first | refine stp ?_ | (refine stpB ?_; intro _) | (refine spl ?_ ?_ <;> intro hc <;> ((try simp only [decide_eq_true_eq, decide_eq_false_iff_not, Bool.not_true, Bool.not_false, ne_eq, Classical.not_not, Int.not_lt, Int.not_le] at hc); (try (exfalso; first | omega | exact hc trivial | exact hc rfl)))))
    all_goals (first | (exfalso; omega) | (exfalso; simp at hc; done) | skip)
    refine G.sub (e := [(26, .int .i64 0), (10, .pointer (some ⟨rb, 0, none⟩)), (16, .slice (some ⟨g, 0, none⟩) 10 10), (22, pv), (23, .int .i64 (k : Nat)), (24, u)]) ?_ ⟨rfl, rfl, rfl, rfl, rfl, rfl, trivial⟩
    obtain ⟨K2, hK2⟩ : ∃ K2, K2 = Kk + 1 + 2 * mk.line.length := ⟨_, rfl⟩
    rw [← hK2] at hO2 ⊢
    refine G.loopK [10, 16, 22, 23, 24] (Nat) (fun j => [(26, .int .i64 (j : Nat))]) (fun _ => owns 3 encI1 1 u o :: owns 3 encI1 1 (.slice (some ⟨g, 0, none⟩) 10 10) tb :: owns 3 encI1 1 pv pl :: recP rb sb m2 K2 :: storeP sb m2.t :: F) (fun j => j ≤ o.length) (fun j => o.length - j) (0) (Nat.zero_le _) (by repeat (first | exact trivial | refine And.intro rfl ?_)) (fun w h => by (try dsimp only); first | exact h | exact h.sub | ((try simp only [List.take_zero, List.drop_zero, List.map_nil, List.nil_append, List.zipIdx_nil, List.filter_nil]); exact h.sub)) ?_
    intro j hj
    by_cases hjl : j < o.length
    · obtain ⟨z, hz, hoj, htz⟩ := hoz j hjl
      repeat' (first | (first | (rw [hoj]) | (rw [htz]) | (apply GL.isAny; first | refine GL.run (Runs.neqIF rfl rfl rfl) rfl ?_ | refine GL.run (Runs.neBlR rfl rfl) rfl ?_)) | first | refine stp ?_ | (refine stpB ?_; intro _) | (refine spl ?_ ?_ <;> intro hc <;> ((try simp only [decide_eq_true_eq, decide_eq_false_iff_not, Bool.not_true, Bool.not_false, ne_eq, Classical.not_not, Int.not_lt, Int.not_le] at hc); (try (exfalso; first | omega | exact hc trivial | exact hc rfl)))))
      all_goals (first | (exfalso; omega) | (exfalso; simp at hc; done) | skip)
      refine GE.round (j + 1) hjl (by repeat (first | exact trivial | refine And.intro rfl ?_)) (fun w h => by (try dsimp only); exact h.sub) (by (try dsimp only); omega)
    · obtain rfl : j = o.length := by omega
      repeat' (first | refine stp ?_ | (refine stpB ?_; intro _) | (refine spl ?_ ?_ <;> intro hc <;> ((try simp only [decide_eq_true_eq, decide_eq_false_iff_not, Bool.not_true, Bool.not_false, ne_eq, Classical.not_not, Int.not_lt, Int.not_le] at hc); (try (exfalso; first | omega | exact hc trivial | exact hc rfl)))))
      all_goals (first | (exfalso; omega) | skip)
      refine GE.round (k + 1, m2, K2) ⟨hkn, hO2, by rw [hc2]; exact hkl, hq2, by dsimp only; omega, hl2⟩ (by repeat (first | exact trivial | refine And.intro rfl ?_)) (fun w h => by (try dsimp only); exact h.sub) (by (try dsimp only); omega)
  obtain rfl : k = N := by omega
  have hkl0 : mk.line = [] := by rw [hkd]; exact List.drop_eq_nil_of_le (by omega)
  have cW := fun (w : World) (F : List HProp) h' => rec_Waiting rb sb mk Kk hOk (by omega) w F h'
  rw [hkl0] at cW
  repeat' (first | (first | (apply GL.isCall; refine GL.call1 rfl rfl (fun w h => law25_works w _ h) ?_) | (refine G.isRegion 44 ?_; apply G.region; apply GL.isAny; refine GL.alloc rfl (fun zb => ?_)) | (apply GL.isCall; refine GL.call1 rfl rfl (fun w h => rec_WhenN 0 w _ h) ?_) | (apply GL.isCall; refine GL.call1 rfl rfl (fun w h => rec_WhenZ zb 0 w _ h) ?_) | (apply GL.isCall; refine GL.call1 rfl rfl (fun w h => rec_PlanN w _ h) ?_) | (apply GL.isCall; refine GL.call1 rfl rfl (fun w h => rec_PlanZ zb w _ h) ?_) | (apply GL.isCall; refine GL.callH (recP rb sb mk Kk) (vs := [.pointer (some ⟨rb, 0, none⟩)]) rfl rfl (fun w h => cW w _ h) (fun a => ?_)) | (apply GL.isAny; refine GL.run (Runs.lenLit rfl) rfl ?_)) | first | refine stp ?_ | (refine stpB ?_; intro _) | (refine spl ?_ ?_ <;> intro hc <;> ((try simp only [decide_eq_true_eq, decide_eq_false_iff_not, Bool.not_true, Bool.not_false, ne_eq, Classical.not_not, Int.not_lt, Int.not_le] at hc); (try (exfalso; first | omega | exact hc trivial | exact hc rfl)))))
  all_goals (first | (exfalso; omega) | (exfalso; simp at hc; done) | skip)
  all_goals (refine GE.resOne rfl (by (repeat (first | apply Res.nil | (apply Res.tmp; rfl) | (refine Res.cellA rfl rfl rfl ?_) | (refine Res.cell1 rfl rfl ?_)))) (fun w h => ?_); exact ⟨rfl, h.sub⟩)
end Go.Proofs.YtipkgamiejenaaaGreat
