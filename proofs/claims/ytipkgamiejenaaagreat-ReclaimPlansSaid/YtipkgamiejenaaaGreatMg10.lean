import Derived.Test.YtipkgamiejenaaaGreatMg9

import Derived.Test.YtipkgamiejenaaaGreatTypes
import Derived.Tactics
import Derived.Tactics2
import Derived.Defers
import Derived.Laws.Pointers
import Derived.Laws.LoneSync
import Derived.RegionTactic
import Derived.RegionCalls
import Derived.ChangeAlike
/- Package bytes: bytes are put row by row; a text is put, bytes are wiped. -/
namespace Go.Proofs.YtipkgamiejenaaaGreat
open Go Go.RowKit Go.MapKept
set_option linter.unusedVariables false
set_option linter.unusedSimpArgs false
set_option maxRecDepth 100000
set_option maxHeartbeats 2000000
instance : ZeroT Tryz.prog 274 (encRow By.zrow) 64 64 := (inferInstance : ZeroT Tryz.prog 274 _ _ _)
theorem Runs.lookRow {P : Program} {n : Nat} {env : Env} {F F' : List HProp} {t k e : TypeId} {x y : Operand} {b size bytes : Nat} {i : Int} {m : List (Int × List UInt8)} [hm : MapT P t k e] [hk : IntT P k .i64] [hz : ZeroT P e (encRow By.zrow) size bytes] (hx : opnd env x = some (.map (some b))) (hy : opnd env y = some (.int .i64 i)) [hr : HasMap F b encRow m F'] :
    Runs P n env F (.lookup t x y false) (encRow ((alGet m i).getD By.zrow)) := by
  cases h : alGet m i with
  | none => exact Runs.lookupN hx hy h
  | some u => exact Runs.lookupS hx hy h
theorem Runs.sliceArrM {P : Program} {n : Nat} {env : Env} {F : List HProp} {t e : TypeId} {x y z : Operand} {b m : Nat} {i j : Int} (k q : Nat) [ht : ArrT P t m e 1] (hx : opnd env x = some (.pointer (some ⟨b, 0, none⟩))) (hlo : opnd env y = some (.int .i64 i)) (hhi : opnd env z = some (.int .i64 j)) (hi : i = (k : Nat)) (hj : j = (k : Int) + (q : Nat)) (hqm : k + q ≤ m) (hkm : k < m) :
    Runs P n env F (.slice t x (some y) (some z) none) (.slice (some ⟨b, k, none⟩) q (m - k)) := by
  have h := Runs.sliceArr (P := P) (n := n) (env := env) (F := F) (t := t) (x := x) (lo := some y) (up := some z) (b := b) (m := m) (i := i) (j := j) k (k + q) hx (by simp [bnd, hlo]) (by simp [bnd, hhi]) hi (by omega) (by omega) hqm hkm
  rw [Nat.add_sub_cancel_left] at h; exact h
section
variable (b sz : Nat) (tx : List UInt8)
theorem bytes_put (g : FuncId) [hg : Own Tryz.prog g] (first cap : List Value) (E : HProp) (k0 nn : Nat) (d : List UInt8) (hnn : d.length = nn) (hfit : k0 + d.length ≤ sz)
    (hfill : ∀ (rb k mm i : Nat) (row : List UInt8) (w : World) (F : List HProp), k + mm ≤ 64 → 0 < mm → i + mm ≤ d.length → holds w (byB 274 rb 64 row :: E :: F) → Ct Tryz.prog g (first ++ [Value.slice (some ⟨rb, k, none⟩) mm (64 - k), Value.int .i64 (i : Nat)] ++ cap).toArray w fun e w' => e = .returned (.tuple #[]) ∧ holds w' (byB 274 rb 64 (By.splice row k ((d.drop i).take mm)) :: E :: F))
    (w : World) (F : List HProp) (hw : holds w (bytesP b sz tx :: E :: F)) :
    Ct Tryz.prog 169 #[.pointer (some ⟨b, 0, none⟩), .int .i64 (k0 : Nat), .int .i64 (nn : Nat), .func (.func g) first.toArray cap.toArray] w fun e w' => e = .returned (.tuple #[]) ∧ holds w' (bytesP b sz (By.splice tx k0 d) :: E :: F) := by
  subst hnn
  obtain ⟨m, am, ⟨e1, e2, e3, e4⟩, h1⟩ := bytesP.open hw
  refine Ct.go (args := [.pointer (some ⟨b, 0, none⟩), .int .i64 (k0 : Nat), .int .i64 (d.length : Nat), .func (.func g) first.toArray cap.toArray]) Tryz.func169 rfl rfl rfl h1 ?_
  repeat' (first | refine stp ?_ | (refine stpB ?_; intro _) | (refine spl ?_ ?_ <;> intro hc <;> ((try simp only [decide_eq_true_eq, decide_eq_false_iff_not, Bool.not_true, Bool.not_false, ne_eq, Classical.not_not, Int.not_lt, Int.not_le] at hc); (try (exfalso; first | omega | exact hc trivial | exact hc rfl)))))
  refine G.loopK [0, 1, 2, 3] (Nat × List (Int × List UInt8)) (fun y => [(8, .int .i64 y.1)]) (fun y => blk b (.cells #[.map (some m), .int .i64 (sz : Nat)] 219 (0, 0)) :: imap encRow m y.2 :: E :: F) (fun y => y.1 ≤ d.length ∧ By.Rows y.2 (By.splice tx k0 (d.take y.1))) (fun y => d.length - y.1) ((0, am)) (⟨Nat.zero_le _, by rw [List.take_zero, By.splice_nil]; exact e4⟩) (by repeat (first | exact trivial | refine And.intro rfl ?_)) (fun w h => by (try dsimp only); first | exact h | exact h.sub | ((try simp only [List.take_zero, List.drop_zero, List.map_nil, List.nil_append, List.zipIdx_nil, List.filter_nil]); exact h.sub)) ?_
  rintro ⟨i, am2⟩ ⟨hi, hR⟩
  dsimp only at hi hR ⊢
  by_cases hlt : i < d.length
  · obtain ⟨a, ha⟩ : ∃ a, a = (k0 + i) / 64 := ⟨_, rfl⟩
    obtain ⟨k, hk⟩ : ∃ k, k = (k0 + i) % 64 := ⟨_, rfl⟩
    obtain ⟨mm, hm⟩ : ∃ mm, mm = min (64 - k) (d.length - i) := ⟨_, rfl⟩
    have hda : ((k0 : Int) + i) / 64 = (a : Nat) := by omega
    have hdk : ((k0 : Int) + i) % 64 = (k : Nat) := by omega
    have hdm : min (64 - (k : Int)) ((d.length : Int) - i) = (mm : Nat) := by omega
    have hl : (By.splice tx k0 (d.take i)).length = sz := by rw [By.splice_len _ _ _ (by rw [List.length_take]; omega)]; exact e1
    generalize ht : By.splice tx k0 (d.take i) = t at hR hl
    have ha64 : 64 * a < t.length := by omega
    have hrow := hR.get a ha64
    have hrl := By.row_len t a (by omega)
    have hsl : ((d.drop i).take mm).length = mm := by rw [List.length_take, List.length_drop]; omega
    have hput := hR.put (by omega) a k (s := (d.drop i).take mm) (by omega) ha64
    have hmore := By.splice_more tx d k0 i mm (by omega) (by omega)
    rw [ht, show k0 + i = 64 * a + k by omega] at hmore
    rw [hmore] at hput
    have hsp : (By.splice (By.row t a) k ((d.drop i).take mm)).length = 64 := by rw [By.splice_len _ _ _ (by omega)]; exact hrl
    have hz : By.zrow.length = 64 := rfl
    have hF := fun rb w F h => hfill rb k mm i (By.row t a) w F (by omega) (by omega) (by omega) h
    generalize hq : By.splice (By.row t a) k ((d.drop i).take mm) = q at hput hsp hF
    have hn : (i : Int) + mm = ((i + mm : Nat) : Int) := by omega
    repeat' (first | (first | (refine G.isRegion 3 ?_; rw [hda, hdk]; apply G.region) | (refine G.isRegion 5 ?_; rw [hdm]; apply G.region) | (apply GL.isAny; refine GL.run (v := encRow (By.row t a)) (by apply Runs.isLookup; rw [← hrow]; exact Runs.lookRow rfl rfl) rfl ?_) | (apply GL.isAlloc; refine GL.alloc rfl (fun rb => ?_)) | (apply GL.isStore; refine GL.storeBy (l := By.row t a) rfl rfl hrl rfl ?_) | (apply GL.isAny; refine GL.run (by apply Runs.isSlice; exact Runs.sliceArrM k mm rfl rfl rfl rfl rfl (by omega) (by omega)) rfl ?_) | (apply GL.isCall; refine GL.callV1 (first := first) (captured := cap) (vs := [.slice (some ⟨rb, k, none⟩) mm (64 - k), .int .i64 (i : Nat)]) rfl rfl rfl (fun w h => hF rb w (blk b (.cells #[.map (some m), .int .i64 (sz : Nat)] 219 (0, 0)) :: imap encRow m am2 :: F) h.sub) ?_) | (apply GL.isAny; refine GL.run (by apply Runs.isLoad; exact Runs.loadBy rfl) rfl ?_) | (apply GL.isAny; refine GL.run (by apply Runs.isBin; exact Runs.eqlBy (m := 64) (l := q) (r := By.zrow) rfl rfl hsp hz) rfl ?_) | refine G.drawTail 6 (by kernel_rfl) (by simp only [List.take_succ_cons, List.take_zero]; rfl) (by simp only [List.drop_succ_cons, List.drop_zero]; rfl) (by kernel_rfl) ?_ | (apply GD.isAny; refine GD.run (by apply Runs.isLoad; exact Runs.loadBy rfl) rfl ?_) | (refine GL.mapDelete rfl rfl rfl ?_) | (refine GL.mapUpdate q rfl rfl rfl rfl ?_)) | first | refine stp ?_ | (refine stpB ?_; intro _) | (refine spl ?_ ?_ <;> intro hc <;> ((try simp only [decide_eq_true_eq, decide_eq_false_iff_not, Bool.not_true, Bool.not_false, ne_eq, Classical.not_not, Int.not_lt, Int.not_le] at hc); (try (exfalso; first | omega | exact hc trivial | exact hc rfl)))))
    all_goals (first | (exfalso; omega) | skip)
    · have hp : By.putRow am2 a q = alDel am2 a := by unfold By.putRow; rw [if_pos hc]
      rw [hp] at hput
      rw [hn]
      refine GE.round ((i + mm, alDel am2 a)) (⟨by omega, hput⟩) (by repeat (first | exact trivial | refine And.intro rfl ?_)) (fun w h => by (try dsimp only); exact h.sub) (by (try dsimp only); omega)
    · have hp : By.putRow am2 a q = alSet am2 a q := by unfold By.putRow; rw [if_neg hc]
      rw [hp] at hput
      rw [hn]
      refine GE.round ((i + mm, alSet am2 a q)) (⟨by omega, hput⟩) (by repeat (first | exact trivial | refine And.intro rfl ?_)) (fun w h => by (try dsimp only); exact h.sub) (by (try dsimp only); omega)
  · obtain rfl : i = d.length := by omega
    rw [List.take_of_length_le (Nat.le_refl _)] at hR
    repeat' (first | refine stp ?_ | (refine stpB ?_; intro _) | (refine spl ?_ ?_ <;> intro hc <;> ((try simp only [decide_eq_true_eq, decide_eq_false_iff_not, Bool.not_true, Bool.not_false, ne_eq, Classical.not_not, Int.not_lt, Int.not_le] at hc); (try (exfalso; first | omega | exact hc trivial | exact hc rfl)))))
    all_goals (first | (exfalso; omega) | skip)
    (first | refine GE.res0 (.inl rfl) rfl (fun w h => ?_) | refine GE.res0 (.inr rfl) rfl (fun w h => ?_))
    exact ⟨rfl, bytesP.shut (m := m) ⟨by rw [By.splice_len _ _ _ (by omega)]; exact e1, e2, e3, hR⟩ h.sub⟩
theorem bytes_Wipe1 (rb k mm i : Nat) (row : List UInt8) (hk : k + mm ≤ 64) (hm : 0 < mm) (w : World) (F : List HProp) (hw : holds w (byB 274 rb 64 row :: F)) :
    Ct Tryz.prog 224 #[.slice (some ⟨rb, k, none⟩) mm (64 - k), .int .i64 (i : Nat)] w fun e w' => e = .returned (.tuple #[]) ∧ holds w' (byB 274 rb 64 (By.splice row k (List.replicate mm 0)) :: F) := by
  refine Ct.go (args := [.slice (some ⟨rb, k, none⟩) mm (64 - k), .int .i64 (i : Nat)]) Tryz.func224 rfl rfl rfl hw ?_
  repeat' (first | ((refine GL.clearBy rfl hm (by omega) ?_)) | first | refine stp ?_ | (refine stpB ?_; intro _) | (refine spl ?_ ?_ <;> intro hc <;> ((try simp only [decide_eq_true_eq, decide_eq_false_iff_not, Bool.not_true, Bool.not_false, ne_eq, Classical.not_not, Int.not_lt, Int.not_le] at hc); (try (exfalso; first | omega | exact hc trivial | exact hc rfl)))))

  (first | refine GE.res0 (.inl rfl) rfl (fun w h => ?_) | refine GE.res0 (.inr rfl) rfl (fun w h => ?_))
  exact ⟨rfl, h.sub⟩
end
end Go.Proofs.YtipkgamiejenaaaGreat

/- Package bytes: Store, Wipe, Load. -/
namespace Go.Proofs.YtipkgamiejenaaaGreat
open Go Go.RowKit Go.MapKept
set_option linter.unusedVariables false
set_option linter.unusedSimpArgs false
set_option maxRecDepth 100000
set_option maxHeartbeats 2000000
namespace By
theorem fill (cut : List UInt8) (n i q : Nat) (hc : cut.length = n) (h : i + q ≤ n) : splice (cut.take i ++ List.replicate (n - i) 0) i ((cut.drop i).take q) = cut.take (i + q) ++ List.replicate (n - (i + q)) 0 := by
  have l1 : (cut.take i).length = i := by rw [List.length_take]; omega
  have l2 : ((cut.drop i).take q).length = q := by rw [List.length_take, List.length_drop]; omega
  have l3 : (cut.take i ++ List.replicate (n - i) (0 : UInt8)).take i = cut.take i := by rw [List.take_append_of_le_length (by omega), List.take_of_length_le (by omega)]
  have l4 : (cut.take i ++ List.replicate (n - i) (0 : UInt8)).drop (i + q) = List.replicate (n - (i + q)) 0 := by
    rw [List.drop_append, l1, show (cut.take i).drop (i + q) = [] from List.drop_eq_nil_of_le (by omega), List.nil_append, List.drop_replicate]
    congr 1; omega
  unfold splice
  rw [l2, l3, l4, ← List.take_add]
end By
def encB1 (c : UInt8) : List Value := [u8v c]
instance : Enc encB1 1 := ⟨fun _ => rfl, fun _ => by simp [encB1, u8v, Value.oneCell'], by omega⟩
theorem flat_bytes : ∀ l : List UInt8, l.flatMap encB1 = l.map u8v
  | [] => rfl
  | a :: l => by rw [List.flatMap_cons, flat_bytes l]; rfl
theorem byB.ofOwn {w : World} {T : TypeId} {g k : Nat} {l : List UInt8} {F : List HProp} (h : holds w (owns T encB1 1 (.slice (some ⟨g, 0, none⟩) k k) l :: F)) : holds w (byB T g k l :: F) := by
  obtain ⟨hl, ho⟩ := holds.open_own h
  rcases ho with ⟨h1, _⟩ | ⟨g', cap, cur, h1, h2, h3, h4, h5, h6⟩
  · cases h1
  · simp only [Value.slice.injEq, Option.some.injEq, Addr.mk.injEq] at h1
    obtain ⟨⟨rfl, -, -⟩, hk, rfl⟩ := h1
    refine byB.shut hk.symm ?_
    have e : cur = (l.map u8v).toArray := by
      apply Array.ext'
      rw [List.take_of_length_le (by simp at h4 ⊢; omega), flat_bytes] at h5
      exact h5
    rw [← e]; exact h6
abbrev fStore1 : FuncId := 170
abbrev fWipe1 : FuncId := 224
def nilP : HProp := fun _ => True
theorem holds.addNil {w : World} {F : List HProp} (h : holds w F) : holds w (nilP :: F) := by
  obtain ⟨f, hf, hs⟩ := h
  exact ⟨f, hf, ⟨f.os, f.tape, f.output, fun _ => none⟩, f, trivial, hs, ⟨rfl, rfl, rfl, rfl, rfl, rfl, fun _ => .inl ⟨rfl, rfl⟩⟩⟩
section
variable (b sz : Nat) (tx : List UInt8)
theorem bytes_Wipe (k n : Int) (hb : n ≤ 1099511627776) (w : World) (F : List HProp) (hw : holds w (bytesP b sz tx :: F)) :
    Ct Tryz.prog 191 #[.pointer (some ⟨b, 0, none⟩), .int .i64 k, .int .i64 n] w fun e w' => e = .returned (.int .i64 (if St.off tx k n then 15 else 0)) ∧ holds w' (bytesP b sz (if St.off tx k n then tx else By.splice tx k.toNat (St.zeros n.toNat)) :: F) := by
  obtain ⟨m, am, ⟨e1, e2, e3, e4⟩, h1⟩ := bytesP.open hw
  have hck := fun w (F : List HProp) [SeesBlk F b #[.map (some m), .int .i64 (sz : Nat)]] h => bytes_check b sz e3.2 m k n w F h
  have eo : (k < 0 ∨ n < 0 ∨ (sz : Int) < k + n) ↔ St.off tx k n := by unfold St.off; rw [e1]
  refine Ct.go (args := [.pointer (some ⟨b, 0, none⟩), .int .i64 k, .int .i64 n]) Tryz.func191 rfl rfl rfl h1 ?_
  by_cases ho : St.off tx k n
  · rw [if_pos ho, if_pos ho]
    rw [if_pos (eo.2 ho)] at hck
    repeat' (first | (first | (apply GL.isCall; refine GL.call1 rfl rfl (fun w h => hck w _ h) ?_) | (apply GD.isAny; refine GD.call rfl rfl (fun w F' h => hck w _ h) ?_)) | first | refine stp ?_ | (refine stpB ?_; intro _) | (refine spl ?_ ?_ <;> intro hc <;> ((try simp only [decide_eq_true_eq, decide_eq_false_iff_not, Bool.not_true, Bool.not_false, ne_eq, Classical.not_not, Int.not_lt, Int.not_le] at hc); (try (exfalso; first | omega | exact hc trivial | exact hc rfl)))))
    all_goals (first | (exfalso; simp at hc; done) | (refine GE.resOne rfl (by (repeat (first | apply Res.nil | (apply Res.tmp; rfl) | (refine Res.cellA rfl rfl rfl ?_) | (refine Res.cell1 rfl rfl ?_)))) (fun w h => ?_); exact ⟨rfl, bytesP.shut (m := m) ⟨e1, e2, e3, e4⟩ h.sub⟩))
  · rw [if_neg ho, if_neg ho]
    rw [if_neg (fun h => ho (eo.1 h))] at hck
    unfold St.off at ho
    obtain ⟨k0, rfl⟩ : ∃ k0 : Nat, k = k0 := ⟨k.toNat, by omega⟩
    obtain ⟨n0, rfl⟩ : ∃ n0 : Nat, n = n0 := ⟨n.toNat, by omega⟩
    rw [Int.toNat_natCast, Int.toNat_natCast]
    have hzl : (St.zeros n0).length = n0 := by simp [St.zeros]
    have hput := fun w (F : List HProp) h => bytes_put b sz tx fWipe1 [] [] nilP k0 n0 (St.zeros n0) hzl (by rw [hzl]; omega) (fun rb k mm i row w F q1 q2 q3 h => by
      have e : ((St.zeros n0).drop i).take mm = List.replicate mm 0 := by
        rw [hzl] at q3
        unfold St.zeros
        rw [List.drop_replicate, List.take_replicate, Nat.min_eq_left (by omega)]
      rw [e]
      exact bytes_Wipe1 rb k mm i row q1 q2 w (nilP :: F) h) w F h
    repeat' (first | (first | first | (apply GL.isCall; refine GL.call1 rfl rfl (fun w h => hck w _ h) ?_) | (apply GD.isAny; refine GD.call rfl rfl (fun w F' h => hck w _ h) ?_) | (apply GL.isCall; refine GL.call1 (vs := [.pointer (some ⟨b, 0, none⟩), .int .i64 (k0 : Nat), .int .i64 (n0 : Nat), .func (.func fWipe1) #[] #[]]) rfl rfl (fun w h => hput w F ((bytesP.shut (m := m) (am := am) ⟨e1, e2, e3, e4⟩ (holds.sub (H := blk b (.cells #[.map (some m), .int .i64 (sz : Nat)] 219 (0, 0)) :: imap encRow m am :: F) h)).addNil.order [1, 0])) ?_)) | first | refine stp ?_ | (refine stpB ?_; intro _) | (refine spl ?_ ?_ <;> intro hc <;> ((try simp only [decide_eq_true_eq, decide_eq_false_iff_not, Bool.not_true, Bool.not_false, ne_eq, Classical.not_not, Int.not_lt, Int.not_le] at hc); (try (exfalso; first | omega | exact hc trivial | exact hc rfl)))))
    all_goals (first | (exfalso; simp at hc; done) | (refine GE.resOne rfl (by (repeat (first | apply Res.nil | (apply Res.tmp; rfl) | (refine Res.cellA rfl rfl rfl ?_) | (refine Res.cell1 rfl rfl ?_)))) (fun w h => ?_); exact ⟨rfl, h.sub⟩))
end
end Go.Proofs.YtipkgamiejenaaaGreat

/- sync.Once, one goroutine: Do calls the function the first time, and nothing later. -/
namespace Go.Proofs.YtipkgamiejenaaaGreat
open Go Go.RowKit Go.MapKept
set_option linter.unusedVariables false
set_option linter.unusedSimpArgs false
set_option maxRecDepth 100000
set_option maxHeartbeats 1600000
/-- A cell among others. -/
structure CellAt (b o : Nat) (Y : Value → HProp) : Prop where
  get : ∀ v w F, holds w (Y v :: F) → w.cell? ⟨b, o, none⟩ = some v ∧ w.frozen? ⟨b, o, none⟩ = false
  set : ∀ v v' w F, holds w (Y v :: F) → holds (w.setCell ⟨b, o, none⟩ v') (Y v' :: F)
class MarkF (P : Program) (f : FuncId) : Prop where
  run : ∀ w, (callFunc f #[]).run P w = .ok (.value (.tuple #[])) w
class MarkA (P : Program) (f : FuncId) : Prop where
  run : ∀ (a : Addr) w, (callFunc f #[.pointer (some a)]).run P w = .ok (.value (.tuple #[])) w
section
variable {P : Program} {n d : Nat} {Q : Exit → Act → World → Prop} {env : Env} {F F' : List HProp} {ops : Array Oper} {rest : List Oper} {ty T : TypeId} {pos : String} {aft : Array Edge} {f : FuncId} {k : IntKind} {xs : List Operand} {b o : Nat} {i j : Int} {ts : Array TypeId} {u v : Value} {Y : Value → HProp}
theorem Runs.loadC {t : TypeId} {x : Operand} (hY : CellAt b o Y) [CellT P t] (hx : opnd env x = some (.pointer (some ⟨b, o, none⟩))) [hh : Has F (Y v) F'] : Runs P n env F (.load t x) v := .mk fun a w ty pos aft g d hf hw => by
  have h1 := (hY.get _ _ _ (hw.perm hh.perm)).1
  have := run_loadCell (P := P) (t := t) h1
  simp [execOp, hf.eval hx, Instr.loadAt, Instr.sureAddr, this, Result.andThen]
theorem Runs.markF [hm : MarkF P f] : Runs P n env F (.call { callee := .value (.func f), args := #[], argTypes := ts }) (.tuple #[]) := .mk fun a w ty pos aft g d hf hw => hf.callRun (xs := []) (vs := []) rfl (hm.run w)
theorem Runs.markA {p : Addr} [hm : MarkA P f] (hx : opnds env xs = some [.pointer (some p)]) : Runs P n env F (.call { callee := .value (.func f), args := xs.toArray, argTypes := ts }) (.tuple #[]) := .mk fun a w ty pos aft g d hf hw => hf.callRun hx (hm.run p w)
theorem Runs.extLoadC (hY : CellAt b o Y) [he : ExtLoad P f k] [hh : Has F (Y (.int k i)) F'] (hx : opnds env xs = some [.pointer (some ⟨b, o, none⟩)]) : Runs P n env F (.call { callee := .value (.func f), args := xs.toArray, argTypes := ts }) (.int k i) := .mk fun a w ty pos aft g d hf hw =>
  hf.callRun hx (he.run _ _ w (hY.get _ _ _ (hw.perm hh.perm)).1)
theorem GL.extStoreC (hY : CellAt b o Y) [hs : ExtStore P f] (hx : opnds env xs = some [.pointer (some ⟨b, o, none⟩), .int k i]) [hh : Has F (Y u) F'] (hd : Nat.blt d n = true)
    (h : GL P n ops Q rest ((d, .tuple #[]) :: env) (Y (.int k i) :: F')) :
    GL P n ops Q (⟨some d, .call { callee := .value (.func f), args := xs.toArray, argTypes := ts }, ty, pos, aft, none⟩ :: rest) env F := .mk fun a w hf hw => by
  refine wpList_plain rfl fun K hK => ?_
  have h1 := hw.perm hh.perm
  obtain ⟨g1, g2⟩ := hY.get _ _ _ h1
  unfold Oper.wp
  rw [hf.callRun hx (hs.run ⟨b, o, none⟩ k i u w g1 g2)]
  exact hK _ _ (h _ _ (hf.put hd _) (hY.set _ _ _ _ h1))
theorem GL.extAddC (hY : CellAt b o Y) [hs : ExtAdd P f k] (hx : opnds env xs = some [.pointer (some ⟨b, o, none⟩), .int k j]) [hh : Has F (Y (.int k i)) F'] (hd : Nat.blt d n = true)
    (h : GL P n ops Q rest ((d, .int k (k.wrap (i + j))) :: env) (Y (.int k (k.wrap (i + j))) :: F')) :
    GL P n ops Q (⟨some d, .call { callee := .value (.func f), args := xs.toArray, argTypes := ts }, ty, pos, aft, none⟩ :: rest) env F := .mk fun a w hf hw => by
  refine wpList_plain rfl fun K hK => ?_
  have h1 := hw.perm hh.perm
  obtain ⟨g1, g2⟩ := hY.get _ _ _ h1
  unfold Oper.wp
  rw [hf.callRun hx (hs.run ⟨b, o, none⟩ i j w g1 g2)]
  exact hK _ _ (h _ _ (hf.put hd _) (hY.set _ _ _ _ h1))
theorem GL.extCasC (hY : CellAt b o Y) [hs : ExtCas P f k] (hx : opnds env xs = some [.pointer (some ⟨b, o, none⟩), .int k i, .int k j]) [hh : Has F (Y (.int k i)) F'] (hd : Nat.blt d n = true)
    (h : GL P n ops Q rest ((d, .bool true) :: env) (Y (.int k j) :: F')) :
    GL P n ops Q (⟨some d, .call { callee := .value (.func f), args := xs.toArray, argTypes := ts }, ty, pos, aft, none⟩ :: rest) env F := .mk fun a w hf hw => by
  refine wpList_plain rfl fun K hK => ?_
  have h1 := hw.perm hh.perm
  obtain ⟨g1, g2⟩ := hY.get _ _ _ h1
  unfold Oper.wp
  rw [hf.callRun hx (hs.run ⟨b, o, none⟩ i j w g1 g2)]
  exact hK _ _ (h _ _ (hf.put hd _) (hY.set _ _ _ _ h1))
def unsB (P : Program) (s t : TypeId) : Bool := match P.underlying s, P.underlying t with
  | some (.pointer e), some .unsafePointer => (P.info? e).map (fun i => decide (i.size = 0)) == some false
  | _, _ => false
theorem Runs.convUns {s t : TypeId} {x : Operand} (hY : CellAt b o Y) (hb : unsB P s t = true) (hx : opnd env x = some (.pointer (some ⟨b, o, none⟩))) [hh : Has F (Y v) F'] : Runs P n env F (.convert s t x) (.pointer (some ⟨b, o, none⟩)) := .mk fun a w ty pos aft g d hf hw => by
  have h1 := (hY.get _ _ _ (hw.perm hh.perm)).1
  unfold unsB at hb
  split at hb
  · rename_i e g1 g2
    have := run_convert_to_unsafe g1 g2 (by simpa using hb) h1
    simp [execOp, hf.eval hx, this, Result.andThen]
  · cases hb
theorem CtD.go {fn : Func} {c : Code} {args : List Value} {w : World} {u : FrameMode} {R : Ending → World → Prop} (hf : P.funcs[f]? = some fn) (hb : fn.body = some c) (hn : fn.ntmps = n) (hargs : Nat.ble args.length n = true) (hw : holds w F)
    (h : G P n c (bodyPost P fn R) (env0 0 args) F) : CallsD P f args.toArray u w fun e u' w' => u' = u ∧ R e w' := by
  have hle : args.length ≤ n := by simpa using hargs
  refine callsD_of_wp hf hb (h _ w ⟨?_, rfl, fun k v hk => ?_⟩ hw)
  · simp [hn]; omega
  · obtain ⟨h1, h2⟩ := look_env0 _ _ _ _ hk
    rw [Nat.sub_zero] at h2
    have hlt := (List.getElem?_eq_some_iff.1 h2).1
    have h3 : args[k] = v := by have := List.getElem?_eq_getElem hlt; rw [h2] at this; exact (Option.some.inj this).symm
    simp [Array.getElem?_append, hlt, h3]
end
instance : FieldT Tryz.prog 140 0 0 21 := .of (by kernel_rfl)
instance : Own Tryz.prog 226 := ⟨Tryz.call226⟩
instance : Own Tryz.prog 227 := ⟨Tryz.call227⟩
instance : MarkF Tryz.prog 233 := ⟨fun w => run_call_mark0 Tryz.func233 (by kernel_rfl) (by kernel_rfl) (by kernel_rfl) .disable (by kernel_rfl) w⟩
instance : MarkF Tryz.prog 235 := ⟨fun w => run_call_mark0 Tryz.func235 (by kernel_rfl) (by kernel_rfl) (by kernel_rfl) .enable (by kernel_rfl) w⟩
instance : MarkA Tryz.prog 236 := ⟨fun a w => run_call_marked Tryz.func236 (by kernel_rfl) (by kernel_rfl) (by kernel_rfl) .acquire (by kernel_rfl) a w⟩
instance : MarkA Tryz.prog 238 := ⟨fun a w => run_call_marked Tryz.func238 (by kernel_rfl) (by kernel_rfl) (by kernel_rfl) .releaseMerge (by kernel_rfl) a w⟩
instance : ExtStore Tryz.prog 228 := .of Tryz.func228 (by kernel_rfl) (by kernel_rfl) (by kernel_rfl) (by kernel_rfl)
instance : ExtLoad Tryz.prog 203 .u32 := .of Tryz.func203 (by kernel_rfl) (by kernel_rfl) (by kernel_rfl) .u32 (by kernel_rfl)
instance : ExtAdd Tryz.prog 239 .i32 := .of Tryz.func239 (by kernel_rfl) (by kernel_rfl) (by kernel_rfl) .i32 (by kernel_rfl)
instance : ExtCas Tryz.prog 234 .i32 := .of Tryz.func234 (by kernel_rfl) (by kernel_rfl) (by kernel_rfl) .i32 (by kernel_rfl)
theorem once_b32 (w : World) (F : List HProp) (hw : holds w F) :
    Ct Tryz.prog 229 #[.bool true] w fun e w' => e = .returned (.int .u32 1) ∧ holds w' F := by
  refine Ct.go (args := [.bool true]) Tryz.func229 rfl rfl rfl hw ?_
  repeat' (first | refine stp ?_ | (refine stpB ?_; intro _) | (refine spl ?_ ?_ <;> intro hc <;> ((try simp only [decide_eq_true_eq, decide_eq_false_iff_not, Bool.not_true, Bool.not_false, ne_eq, Classical.not_not, Int.not_lt, Int.not_le] at hc); (try (exfalso; first | omega | exact hc trivial | exact hc rfl)))))
  all_goals (first | (exfalso; simp at hc; done) | (refine GE.resOne rfl (by (repeat (first | apply Res.nil | (apply Res.tmp; rfl) | (refine Res.cellA rfl rfl rfl ?_) | (refine Res.cell1 rfl rfl ?_)))) (fun w h => ?_); exact ⟨rfl, h.sub⟩))
section
variable (b o : Nat) (Y : Value → HProp) (hY : CellAt b o Y)
include hY
theorem once_Store (v : Value) (u : FrameMode) (w : World) (F : List HProp) (hw : holds w (Y v :: F)) :
    CallsD Tryz.prog 206 #[.pointer (some ⟨b, o, none⟩), .bool true] u w fun e u' w' => u' = u ∧ (e = .returned (.tuple #[]) ∧ holds w' (Y (.int .u32 1) :: F)) := by
  refine CtD.go (args := [.pointer (some ⟨b, o, none⟩), .bool true]) Tryz.func206 rfl rfl rfl hw ?_
  repeat' (first | (first | refine G.drawTail 5 (by kernel_rfl) (by simp only [List.take_succ_cons, List.take_zero]; rfl) (by simp only [List.drop_succ_cons, List.drop_zero]; rfl) (by kernel_rfl) ?_ | (apply GD.isAny; refine GD.call rfl rfl (fun w F' h => once_b32 w _ h) ?_) | (refine GL.extStoreC hY (u := v) (k := .u32) (i := 1) rfl rfl ?_)) | first | refine stp ?_ | (refine stpB ?_; intro _) | (refine spl ?_ ?_ <;> intro hc <;> ((try simp only [decide_eq_true_eq, decide_eq_false_iff_not, Bool.not_true, Bool.not_false, ne_eq, Classical.not_not, Int.not_lt, Int.not_le] at hc); (try (exfalso; first | omega | exact hc trivial | exact hc rfl)))))
  (first | refine GE.res0 (.inl rfl) rfl (fun w h => ?_) | refine GE.res0 (.inr rfl) rfl (fun w h => ?_))
  exact ⟨rfl, h⟩
theorem once_Load (i : Int) (w : World) (F : List HProp) (hw : holds w (Y (.int .u32 i) :: F)) :
    Ct Tryz.prog 149 #[.pointer (some ⟨b, o, none⟩)] w fun e w' => e = .returned (.bool (decide (i ≠ 0))) ∧ holds w' (Y (.int .u32 i) :: F) := by
  refine Ct.go (args := [.pointer (some ⟨b, o, none⟩)]) Tryz.func149 rfl rfl rfl hw ?_
  repeat' (first | ((apply GL.isAny; refine GL.run (Runs.extLoadC hY (k := .u32) (i := i) rfl) rfl ?_)) | first | refine stp ?_ | (refine stpB ?_; intro _) | (refine spl ?_ ?_ <;> intro hc <;> ((try simp only [decide_eq_true_eq, decide_eq_false_iff_not, Bool.not_true, Bool.not_false, ne_eq, Classical.not_not, Int.not_lt, Int.not_le] at hc); (try (exfalso; first | omega | exact hc trivial | exact hc rfl)))))
  refine GE.resOne rfl (by (repeat (first | apply Res.nil | (apply Res.tmp; rfl) | (refine Res.cellA rfl rfl rfl ?_) | (refine Res.cell1 rfl rfl ?_)))) (fun w h => ?_); exact ⟨rfl, h.sub⟩
theorem once_lockI (w : World) (F : List HProp) (hw : holds w (Y (.int .i32 0) :: F)) :
    Ct Tryz.prog 226 #[.pointer (some ⟨b, o, none⟩)] w fun e w' => e = .returned (.tuple #[]) ∧ holds w' (Y (.int .i32 1) :: F) := by
  refine Ct.go (args := [.pointer (some ⟨b, o, none⟩)]) Tryz.func226 rfl rfl rfl hw ?_
  repeat' (first | (first | (apply GL.isAny; refine GL.run Runs.markF rfl ?_) | (apply GL.isAny; refine GL.run (Runs.markA rfl) rfl ?_) | (refine GL.extCasC hY (k := .i32) (i := 0) (j := 1) rfl rfl ?_) | (apply GL.isAny; refine GL.run (Runs.convUns hY (v := .int .i32 1) (by kernel_rfl) rfl) rfl ?_)) | first | refine stp ?_ | (refine stpB ?_; intro _) | (refine spl ?_ ?_ <;> intro hc <;> ((try simp only [decide_eq_true_eq, decide_eq_false_iff_not, Bool.not_true, Bool.not_false, ne_eq, Classical.not_not, Int.not_lt, Int.not_le] at hc); (try (exfalso; first | omega | exact hc trivial | exact hc rfl)))))
  all_goals (first | (exfalso; simp at hc; done) | ((first | refine GE.res0 (.inl rfl) rfl (fun w h => ?_) | refine GE.res0 (.inr rfl) rfl (fun w h => ?_)); exact ⟨rfl, h⟩))
theorem once_lock (w : World) (F : List HProp) (hw : holds w (Y (.int .i32 0) :: F)) :
    Ct Tryz.prog 204 #[.pointer (some ⟨b, o, none⟩)] w fun e w' => e = .returned (.tuple #[]) ∧ holds w' (Y (.int .i32 1) :: F) := by
  refine Ct.go (args := [.pointer (some ⟨b, o, none⟩)]) Tryz.func204 rfl rfl rfl hw ?_
  repeat' (first | ((apply GL.isCall; refine GL.call1 (vs := [.pointer (some ⟨b, o, none⟩)]) rfl rfl (fun w h => once_lockI b o Y hY w _ h) ?_)) | first | refine stp ?_ | (refine stpB ?_; intro _) | (refine spl ?_ ?_ <;> intro hc <;> ((try simp only [decide_eq_true_eq, decide_eq_false_iff_not, Bool.not_true, Bool.not_false, ne_eq, Classical.not_not, Int.not_lt, Int.not_le] at hc); (try (exfalso; first | omega | exact hc trivial | exact hc rfl)))))
  (first | refine GE.res0 (.inl rfl) rfl (fun w h => ?_) | refine GE.res0 (.inr rfl) rfl (fun w h => ?_))
  exact ⟨rfl, h⟩
theorem once_unlockI (w : World) (F : List HProp) (hw : holds w (Y (.int .i32 1) :: F)) :
    Ct Tryz.prog 227 #[.pointer (some ⟨b, o, none⟩)] w fun e w' => e = .returned (.tuple #[]) ∧ holds w' (Y (.int .i32 0) :: F) := by
  refine Ct.go (args := [.pointer (some ⟨b, o, none⟩)]) Tryz.func227 rfl rfl rfl hw ?_
  repeat' (first | (first | (apply GL.isAny; refine GL.run Runs.markF rfl ?_) | (apply GL.isAny; refine GL.run (Runs.markA rfl) rfl ?_) | (refine GL.extAddC hY (k := .i32) (i := 1) (j := -1) rfl rfl ?_) | (apply GL.isAny; refine GL.run (Runs.convUns hY (v := .int .i32 1) (by kernel_rfl) rfl) rfl ?_) | (apply GL.isAny; refine GL.run (Runs.loadC hY (v := .int .i32 1) rfl) rfl ?_)) | first | refine stp ?_ | (refine stpB ?_; intro _) | (refine spl ?_ ?_ <;> intro hc <;> ((try simp only [decide_eq_true_eq, decide_eq_false_iff_not, Bool.not_true, Bool.not_false, ne_eq, Classical.not_not, Int.not_lt, Int.not_le] at hc); (try (exfalso; first | omega | exact hc trivial | exact hc rfl)))))
  all_goals (first | (exfalso; simp at hc; done) | ((first | refine GE.res0 (.inl rfl) rfl (fun w h => ?_) | refine GE.res0 (.inr rfl) rfl (fun w h => ?_)); exact ⟨rfl, h⟩))
theorem once_unlock (u : FrameMode) (w : World) (F : List HProp) (hw : holds w (Y (.int .i32 1) :: F)) :
    CallsD Tryz.prog 205 #[.pointer (some ⟨b, o, none⟩)] u w fun e u' w' => u' = u ∧ (e = .returned (.tuple #[]) ∧ holds w' (Y (.int .i32 0) :: F)) := by
  refine CtD.go (args := [.pointer (some ⟨b, o, none⟩)]) Tryz.func205 rfl rfl rfl hw ?_
  repeat' (first | ((apply GL.isCall; refine GL.call1 (vs := [.pointer (some ⟨b, o, none⟩)]) rfl rfl (fun w h => once_unlockI b o Y hY w _ h) ?_)) | first | refine stp ?_ | (refine stpB ?_; intro _) | (refine spl ?_ ?_ <;> intro hc <;> ((try simp only [decide_eq_true_eq, decide_eq_false_iff_not, Bool.not_true, Bool.not_false, ne_eq, Classical.not_not, Int.not_lt, Int.not_le] at hc); (try (exfalso; first | omega | exact hc trivial | exact hc rfl)))))
  (first | refine GE.res0 (.inl rfl) rfl (fun w h => ?_) | refine GE.res0 (.inr rfl) rfl (fun w h => ?_))
  exact ⟨rfl, h⟩
end
/-- A place where a sync.Once lies: what it says (done, the lock) beside the rest s. -/
structure OnceAt {σ : Type} (b o : Nat) (X : σ → Value → Value → HProp) : Prop where
  c0 : ∀ s l, CellAt b o (fun d => X s d l)
  c1 : ∀ s d, CellAt b (o + 1) (fun l => X s d l)
section
variable {σ α : Type} {b o : Nat} {X : σ → Value → Value → HProp} (hX : OnceAt b o X) (s0 : σ) (s1 : α → σ) (g : FuncId) (first cap : List Value) (w : World) (F : List HProp) (F' : α → List HProp)
include hX
theorem once_slow (hg : ∀ (args : Array Value) (w : World), (callFunc g args).run Tryz.prog w = .ok (.enter g args) w) (hf : ∀ w, holds w (X s0 (.int .u32 0) (.int .i32 1) :: F) → Ct Tryz.prog g (first ++ cap).toArray w fun e w' => ∃ x, e = .returned (.tuple #[]) ∧ holds w' (X (s1 x) (.int .u32 0) (.int .i32 1) :: F' x))
    (hw : holds w (X s0 (.int .u32 0) (.int .i32 0) :: F)) :
    Ct Tryz.prog 150 #[.pointer (some ⟨b, o, none⟩), .func (.func g) first.toArray cap.toArray] w fun e w' => ∃ x, e = .returned (.tuple #[]) ∧ holds w' (X (s1 x) (.int .u32 1) (.int .i32 0) :: F' x) := by
  have hL := (once_lock b (o + 1) _ (hX.c1 s0 (.int .u32 0)) w F hw).out
  have hnot : ∀ (x : Bool) (w : World), (Op.unary .not (.bool x)).run Tryz.prog w = .ok (.bool (!x)) w := fun _ _ => rfl
  refine ⟨?_⟩
  go_enter_defers Tryz.func150, Tryz.ntmps150
  go_wp2_with (go_at_call 204; refine hL.mono ?_; rintro e w1 ⟨rfl, h1⟩)
  have hD := (once_Load b o _ (hX.c0 s0 (.int .i32 1)) 0 w1 F h1).out
  refine hD.mono ?_
  rintro e w2 ⟨rfl, h2⟩
  go_wp2_with fail
  refine (hf _ h2).out.mono ?_
  rintro e w3 ⟨x, rfl, h3⟩
  go_wp2
  have hS := fun u w h => once_Store b o _ (hX.c0 (s1 x) (.int .i32 1)) (.int .u32 0) u w (F' x) h
  have hU := fun u w h => once_unlock b (o + 1) _ (hX.c1 (s1 x) (.int .u32 1)) u w (F' x) h
  refine leaves_cons (f := 206) (args := #[.pointer (some ⟨b, o, none⟩), .bool true]) (by simp) (by simp [go_sem]) ?_
  refine (hS .returning _ h3).mono ?_
  rintro e u' w'' ⟨rfl, rfl, h4⟩
  refine leaves_cons (f := 205) (args := #[.pointer (some ⟨b, o + 1, none⟩)]) (by simp [settle]) (by simp [go_sem]) ?_
  refine (hU _ _ h4).mono ?_
  rintro e u' w'' ⟨rfl, rfl, h5⟩
  simp only [Leaves, settle]
  exact ⟨_, results_none rfl _ _ _, x, rfl, h5⟩
theorem once_Do (hg : ∀ (args : Array Value) (w : World), (callFunc g args).run Tryz.prog w = .ok (.enter g args) w) (hf : ∀ w, holds w (X s0 (.int .u32 0) (.int .i32 1) :: F) → Ct Tryz.prog g (first ++ cap).toArray w fun e w' => ∃ x, e = .returned (.tuple #[]) ∧ holds w' (X (s1 x) (.int .u32 0) (.int .i32 1) :: F' x))
    (hw : holds w (X s0 (.int .u32 0) (.int .i32 0) :: F)) :
    Ct Tryz.prog 82 #[.pointer (some ⟨b, o, none⟩), .func (.func g) first.toArray cap.toArray] w fun e w' => ∃ x, e = .returned (.tuple #[]) ∧ holds w' (X (s1 x) (.int .u32 1) (.int .i32 0) :: F' x) := by
  refine Ct.go (args := [.pointer (some ⟨b, o, none⟩), .func (.func g) first.toArray cap.toArray]) Tryz.func82 rfl rfl rfl hw ?_
  have h0 := fun w h => once_Load b o _ (hX.c0 s0 (.int .i32 0)) 0 w F h
  repeat' (first | (first | (apply GL.isCall; refine GL.call1 (vs := [.pointer (some ⟨b, o, none⟩)]) rfl rfl (fun w h => h0 w h) ?_) | (apply GL.isCall; refine GL.call (vs := [.pointer (some ⟨b, o, none⟩), .func (.func g) first.toArray cap.toArray]) rfl rfl (fun w h => once_slow hX s0 s1 g first cap w F F' hg hf h) (fun x => ?_))) | first | refine stp ?_ | (refine stpB ?_; intro _) | (refine spl ?_ ?_ <;> intro hc <;> ((try simp only [decide_eq_true_eq, decide_eq_false_iff_not, Bool.not_true, Bool.not_false, ne_eq, Classical.not_not, Int.not_lt, Int.not_le] at hc); (try (exfalso; first | omega | exact hc trivial | exact hc rfl)))))
  all_goals (first | (exfalso; simp at hc; done) | ((first | refine GE.res0 (.inl rfl) rfl (fun w h => ?_) | refine GE.res0 (.inr rfl) rfl (fun w h => ?_)); exact ⟨_, rfl, h⟩))
/-- Done already. -/
theorem once_Done (fv : Value) (hw : holds w (X s0 (.int .u32 1) (.int .i32 0) :: F)) :
    Ct Tryz.prog 82 #[.pointer (some ⟨b, o, none⟩), fv] w fun e w' => e = .returned (.tuple #[]) ∧ holds w' (X s0 (.int .u32 1) (.int .i32 0) :: F) := by
  refine Ct.go (args := [.pointer (some ⟨b, o, none⟩), fv]) Tryz.func82 rfl rfl rfl hw ?_
  have h0 := fun w h => once_Load b o _ (hX.c0 s0 (.int .i32 0)) 1 w F h
  repeat' (first | ((apply GL.isCall; refine GL.call1 (vs := [.pointer (some ⟨b, o, none⟩)]) rfl rfl (fun w h => h0 w h) ?_)) | first | refine stp ?_ | (refine stpB ?_; intro _) | (refine spl ?_ ?_ <;> intro hc <;> ((try simp only [decide_eq_true_eq, decide_eq_false_iff_not, Bool.not_true, Bool.not_false, ne_eq, Classical.not_not, Int.not_lt, Int.not_le] at hc); (try (exfalso; first | omega | exact hc trivial | exact hc rfl)))))
  all_goals (first | (exfalso; simp at hc; done) | ((first | refine GE.res0 (.inl rfl) rfl (fun w h => ?_) | refine GE.res0 (.inr rfl) rfl (fun w h => ?_)); exact ⟨rfl, h⟩))
end
end Go.Proofs.YtipkgamiejenaaaGreat

/- Package count: a book of counts that are laid when the first is asked for. -/
namespace Go.Proofs.YtipkgamiejenaaaGreat
open Go Go.RowKit Go.MapKept
set_option linter.unusedVariables false
set_option linter.unusedSimpArgs false
set_option maxRecDepth 100000
set_option maxHeartbeats 1000000
instance : ExtLoad Tryz.prog 216 .i64 := .of Tryz.func216 (by kernel_rfl) (by kernel_rfl) (by kernel_rfl) .i64 (by kernel_rfl)
instance : ExtAdd Tryz.prog 217 .i64 := .of Tryz.func217 (by kernel_rfl) (by kernel_rfl) (by kernel_rfl) .i64 (by kernel_rfl)
theorem cellAt_blk (b : Nat) (c1 c2 : List Value) (T : TypeId) : CellAt b c1.length (fun v => blk b (.cells (c1 ++ v :: c2).toArray T (0, 0))) := by
  refine ⟨fun v w F h => ⟨?_, h.notFrozen⟩, fun v v' w F h => ?_⟩
  · rw [cell_of_row w b c1.length _ T (0, 0) h.get_blk]; simp
  · have := h.setAt (o := c1.length) (u := v')
    rw [show (c1 ++ v :: c2).toArray.toList.set c1.length v' = c1 ++ v' :: c2 by simp] at this
    exact this
/-- A whole block of ints, of k cells. -/
def rowX (T : TypeId) (g k : Nat) (l : List Int) : HProp := fun f => l.length = k ∧ blk g (.cells (l.map (.int .i64 ·)).toArray T (0, 0)) f
theorem rowX.open {w : World} {T : TypeId} {g k : Nat} {l : List Int} {F : List HProp} (h : holds w (rowX T g k l :: F)) : l.length = k ∧ holds w (blk g (.cells (l.map (.int .i64 ·)).toArray T (0, 0)) :: F) := holds.open_pure h
theorem rowX.shut {w : World} {T : TypeId} {g k : Nat} {l : List Int} {F : List HProp} (e : l.length = k) (h : holds w (blk g (.cells (l.map (.int .i64 ·)).toArray T (0, 0)) :: F)) : holds w (rowX T g k l :: F) := h.mono fun f hf => ⟨e, hf⟩
instance {T : TypeId} {g k : Nat} {l : List Int} {F : List HProp} : Reads (rowX T g k l :: F) (.slice (some ⟨g, 0, none⟩) k k) encI1 1 l := ⟨fun w h => by
  obtain ⟨rfl, h1⟩ := rowX.open h
  refine ⟨by simpa using Enc.flat_len (enc := encI1) (n := 1) l, _, _, rfl, Nat.le_refl _, .inr ⟨g, 0, rfl, fun i hi => ?_⟩⟩
  rw [cell_of_row w g (0 + i) _ T (0, 0) h1.get_blk, flat_ints]
  simp⟩
theorem rowX.ofOwn {w : World} {T : TypeId} {g k : Nat} {l : List Int} {F : List HProp} (h : holds w (owns T encI1 1 (.slice (some ⟨g, 0, none⟩) k k) l :: F)) : holds w (rowX T g k l :: F) := by
  obtain ⟨hl, ho⟩ := holds.open_own h
  rcases ho with ⟨h1, _⟩ | ⟨g', cap, cur, h1, h2, h3, h4, h5, h6⟩
  · cases h1
  · simp only [Value.slice.injEq, Option.some.injEq, Addr.mk.injEq] at h1
    obtain ⟨⟨rfl, -, -⟩, hk, rfl⟩ := h1
    refine rowX.shut hk.symm ?_
    have e : cur = (l.map (.int .i64 ·)).toArray := by
      apply Array.ext'
      rw [List.take_of_length_le (by simp at h4 ⊢; omega), flat_ints] at h5
      exact h5
    rw [← e]; exact h6
theorem CellAt.pure {b o : Nat} {Y : Value → HProp} (p : Prop) (h : CellAt b o Y) : CellAt b o (fun v f => p ∧ Y v f) := ⟨fun v w F hw => h.get v w F (holds.open_pure hw).2, fun v v' w F hw => by
  obtain ⟨hp, hw⟩ := holds.open_pure hw
  exact (h.set v v' w F hw).mono fun f hf => ⟨hp, hf⟩⟩
/-- The cell i of a row. -/
def rowC (T : TypeId) (g k i : Nat) (l : List Int) (v : Value) : HProp := fun f => l.length = k ∧ blk g (.cells ((l.take i).map (Value.int .i64 ·) ++ v :: (l.drop (i + 1)).map (Value.int .i64 ·)).toArray T (0, 0)) f
theorem rowC.cellAt (T : TypeId) (g k i : Nat) (l : List Int) (hi : i < l.length) : CellAt g i (rowC T g k i l) := by
  have h := cellAt_blk g ((l.take i).map (Value.int .i64 ·)) ((l.drop (i + 1)).map (Value.int .i64 ·)) T
  rw [List.length_map, List.length_take, Nat.min_eq_left (by omega)] at h
  exact h.pure (l.length = k)
theorem rowX.cell {w : World} {T : TypeId} {g k i : Nat} {l : List Int} {F : List HProp} (hi : i < l.length) (h : holds w (rowX T g k l :: F)) : holds w (rowC T g k i l (.int .i64 l[i]) :: F) := h.mono fun f ⟨e, hf⟩ => ⟨e, by
  have e2 : (l.take i).map (Value.int .i64 ·) ++ Value.int .i64 l[i] :: (l.drop (i + 1)).map (Value.int .i64 ·) = l.map (Value.int .i64 ·) := by
    rw [← List.map_cons, ← List.map_append, ← List.drop_eq_getElem_cons hi, List.take_append_drop]
  rw [e2]; exact hf⟩
theorem rowX.back {w : World} {T : TypeId} {g k i : Nat} {l : List Int} {x : Int} {F : List HProp} (hi : i < l.length) (h : holds w (rowC T g k i l (.int .i64 x) :: F)) : holds w (rowX T g k (l.set i x) :: F) := h.mono fun f ⟨e, hf⟩ => ⟨by simpa using e, by
  have e2 : (l.take i).map (Value.int .i64 ·) ++ Value.int .i64 x :: (l.drop (i + 1)).map (Value.int .i64 ·) = (l.set i x).map (Value.int .i64 ·) := by
    rw [List.set_eq_take_append_cons_drop, if_pos hi, List.map_append, List.map_cons]
  rw [← e2]; exact hf⟩
section
variable (b o : Nat) (Y : Value → HProp) (hY : CellAt b o Y) (x : Int)
include hY
theorem i64_Load (w : World) (F : List HProp) {F' : List HProp} [hh : Has F (Y (.int .i64 x)) F'] (hw : holds w F) :
    Ct Tryz.prog 177 #[.pointer (some ⟨b, o, none⟩)] w fun e w' => e = .returned (.int .i64 x) ∧ holds w' F := by
  refine Ct.go (args := [.pointer (some ⟨b, o, none⟩)]) Tryz.func177 rfl rfl rfl hw ?_
  repeat' (first | ((apply GL.isAny; refine GL.run (Runs.extLoadC hY (k := .i64) (i := x) rfl) rfl ?_)) | first | refine stp ?_ | (refine stpB ?_; intro _) | (refine spl ?_ ?_ <;> intro hc <;> ((try simp only [decide_eq_true_eq, decide_eq_false_iff_not, Bool.not_true, Bool.not_false, ne_eq, Classical.not_not, Int.not_lt, Int.not_le] at hc); (try (exfalso; first | omega | exact hc trivial | exact hc rfl)))))
  refine GE.resOne rfl (by (repeat (first | apply Res.nil | (apply Res.tmp; rfl) | (refine Res.cellA rfl rfl rfl ?_) | (refine Res.cell1 rfl rfl ?_)))) (fun w h => ?_); exact ⟨rfl, h.sub⟩
theorem i64_Add (y : Int) (hb : -9223372036854775808 ≤ x + y ∧ x + y ≤ 9223372036854775807) (w : World) (F : List HProp) (hw : holds w (Y (.int .i64 x) :: F)) :
    Ct Tryz.prog 178 #[.pointer (some ⟨b, o, none⟩), .int .i64 y] w fun e w' => e = .returned (.int .i64 (x + y)) ∧ holds w' (Y (.int .i64 (x + y)) :: F) := by
  refine Ct.go (args := [.pointer (some ⟨b, o, none⟩), .int .i64 y]) Tryz.func178 rfl rfl rfl hw ?_
  have e : IntKind.i64.wrap (x + y) = x + y := IntWalk.i64_in _ hb
  repeat' (first | ((refine GL.extAddC hY (k := .i64) (i := x) (j := y) rfl rfl ?_; rw [e])) | first | refine stp ?_ | (refine stpB ?_; intro _) | (refine spl ?_ ?_ <;> intro hc <;> ((try simp only [decide_eq_true_eq, decide_eq_false_iff_not, Bool.not_true, Bool.not_false, ne_eq, Classical.not_not, Int.not_lt, Int.not_le] at hc); (try (exfalso; first | omega | exact hc trivial | exact hc rfl)))))
  refine GE.resOne rfl (by (repeat (first | apply Res.nil | (apply Res.tmp; rfl) | (refine Res.cellA rfl rfl rfl ?_) | (refine Res.cell1 rfl rfl ?_)))) (fun w h => ?_); exact ⟨rfl, h.sub⟩
end
/-- A book of n counts. -/
def bookP (v : Value) (n : Nat) (l : List Int) : HProp := fun f => ∃ kb, v = .pointer (some ⟨kb, 0, none⟩) ∧ ((l = List.replicate n 0 ∧ blk kb (.cells #[.int .i64 (n : Nat), .int .u32 0, .int .i32 0, .int .u32 0, .slice none 0 0] 209 (0, 0)) f) ∨ ∃ g, sep [blk kb (.cells #[.int .i64 (n : Nat), .int .u32 1, .int .i32 0, .int .u32 0, .slice (some ⟨g, 0, none⟩) n n] 209 (0, 0)), rowX 260 g n l] f)
theorem bookP.open {w : World} {v : Value} {n : Nat} {l : List Int} {F : List HProp} (h : holds w (bookP v n l :: F)) : ∃ kb, v = .pointer (some ⟨kb, 0, none⟩) ∧ ((l = List.replicate n 0 ∧ holds w (blk kb (.cells #[.int .i64 (n : Nat), .int .u32 0, .int .i32 0, .int .u32 0, .slice none 0 0] 209 (0, 0)) :: F)) ∨ ∃ g, holds w (blk kb (.cells #[.int .i64 (n : Nat), .int .u32 1, .int .i32 0, .int .u32 0, .slice (some ⟨g, 0, none⟩) n n] 209 (0, 0)) :: rowX 260 g n l :: F)) := by
  obtain ⟨kb, h⟩ := holds.open_ex h
  obtain ⟨e, h⟩ := holds.open_pure h
  refine ⟨kb, e, ?_⟩
  obtain ⟨f, hf, f1, f2, ha, hs, j⟩ := h
  rcases ha with ⟨e, ha⟩ | ⟨g, ha⟩
  · exact .inl ⟨e, f, hf, f1, f2, ha, hs, j⟩
  · exact .inr ⟨g, holds_sep.1 ⟨f, hf, f1, f2, ha, hs, j⟩⟩
theorem bookP.shutN {w : World} {kb n : Nat} {F : List HProp} (h : holds w (blk kb (.cells #[.int .i64 (n : Nat), .int .u32 0, .int .i32 0, .int .u32 0, .slice none 0 0] 209 (0, 0)) :: F)) : holds w (bookP (.pointer (some ⟨kb, 0, none⟩)) n (List.replicate n 0) :: F) := h.mono fun f hf => ⟨kb, rfl, .inl ⟨rfl, hf⟩⟩
theorem bookP.shutL {w : World} {kb n g : Nat} {l : List Int} {F : List HProp} (h : holds w (blk kb (.cells #[.int .i64 (n : Nat), .int .u32 1, .int .i32 0, .int .u32 0, .slice (some ⟨g, 0, none⟩) n n] 209 (0, 0)) :: rowX 260 g n l :: F)) : holds w (bookP (.pointer (some ⟨kb, 0, none⟩)) n l :: F) :=
  (holds_sep (l := [blk kb (.cells #[.int .i64 (n : Nat), .int .u32 1, .int .i32 0, .int .u32 0, .slice (some ⟨g, 0, none⟩) n n] 209 (0, 0)), rowX 260 g n l]).2 h).mono fun f hf => ⟨kb, rfl, .inr ⟨g, hf⟩⟩
theorem count_New (n : Nat) (h0 : 0 < n) (hn : n ≤ 64) (w : World) (F : List HProp) (hw : holds w F) :
    Ct Tryz.prog 67 #[.int .i64 (n : Nat)] w fun e w' => ∃ v : Nat, e = .returned (.pointer (some ⟨v, 0, none⟩)) ∧ holds w' (bookP (.pointer (some ⟨v, 0, none⟩)) n (List.replicate n 0) :: F) := by
  refine Ct.go (args := [.int .i64 (n : Nat)]) Tryz.func67 rfl rfl rfl hw ?_
  repeat' (first | ((apply GL.isBox; refine GL.boxA (cs := #[.int .i64 (n : Nat), .int .u32 0, .int .i32 0, .int .u32 0, .slice none 0 0]) rfl rfl (fun bb => ?_))) | first | refine stp ?_ | (refine stpB ?_; intro _) | (refine spl ?_ ?_ <;> intro hc <;> ((try simp only [decide_eq_true_eq, decide_eq_false_iff_not, Bool.not_true, Bool.not_false, ne_eq, Classical.not_not, Int.not_lt, Int.not_le] at hc); (try (exfalso; first | omega | exact hc trivial | exact hc rfl)))))
  all_goals (first | (exfalso; omega) | (refine GE.resOne rfl (by (repeat (first | apply Res.nil | (apply Res.tmp; rfl) | (refine Res.cellA rfl rfl rfl ?_) | (refine Res.cell1 rfl rfl ?_)))) (fun w h => ?_); exact ⟨bb, rfl, bookP.shutN h⟩))
theorem once_book (kb n : Nat) : OnceAt kb 1 (fun (s d l : Value) => blk kb (.cells #[.int .i64 (n : Nat), d, l, .int .u32 0, s] 209 (0, 0))) := ⟨fun s l => cellAt_blk kb [.int .i64 (n : Nat)] [l, .int .u32 0, s] 209, fun s d => cellAt_blk kb [.int .i64 (n : Nat), d] [.int .u32 0, s] 209⟩
theorem count_lay (kb n : Nat) (hn : n ≤ 64) (w : World) (F : List HProp) (hw : holds w (blk kb (.cells #[.int .i64 (n : Nat), .int .u32 0, .int .i32 1, .int .u32 0, .slice none 0 0] 209 (0, 0)) :: F)) :
    Ct Tryz.prog 215 #[.pointer (some ⟨kb, 0, none⟩)] w fun e w' => ∃ g : Nat, e = .returned (.tuple #[]) ∧ holds w' (blk kb (.cells #[.int .i64 (n : Nat), .int .u32 0, .int .i32 1, .int .u32 0, .slice (some ⟨g, 0, none⟩) n n] 209 (0, 0)) :: rowX 260 g n (List.replicate n 0) :: F) := by
  refine Ct.go (args := [.pointer (some ⟨kb, 0, none⟩)]) Tryz.func215 rfl rfl rfl hw ?_
  repeat' (first | ((apply GL.isAny; refine GL.makeSl encI1 0 n n rfl rfl rfl rfl rfl (Nat.le_refl _) (by omega) (by unfold maxLen; omega) rfl (fun g => ?_))) | first | refine stp ?_ | (refine stpB ?_; intro _) | (refine spl ?_ ?_ <;> intro hc <;> ((try simp only [decide_eq_true_eq, decide_eq_false_iff_not, Bool.not_true, Bool.not_false, ne_eq, Classical.not_not, Int.not_lt, Int.not_le] at hc); (try (exfalso; first | omega | exact hc trivial | exact hc rfl)))))
  (first | refine GE.res0 (.inl rfl) rfl (fun w h => ?_) | refine GE.res0 (.inr rfl) rfl (fun w h => ?_))
  exact ⟨g, rfl, (rowX.ofOwn (h.order [1, 0])).order [1, 0]⟩
section
variable (v : Value) (n : Nat) (hn : n ≤ 64) (l : List Int) (hl : l.length = n)
include hn
/-- The place of a count, laid. -/
theorem count_count (i : Nat) (hi : i < n) (w : World) (F : List HProp) (hw : holds w (bookP v n l :: F)) :
    Ct Tryz.prog 176 #[v, .int .i64 (i : Nat)] w fun e w' => ∃ x : {x : Nat × Nat // v = .pointer (some ⟨x.1, 0, none⟩)}, e = .returned (.pointer (some ⟨x.1.2, i, none⟩)) ∧ holds w' (blk x.1.1 (.cells #[.int .i64 (n : Nat), .int .u32 1, .int .i32 0, .int .u32 0, .slice (some ⟨x.1.2, 0, none⟩) n n] 209 (0, 0)) :: rowX 260 x.1.2 n l :: F) := by
  obtain ⟨kb, rfl, ⟨rfl, h1⟩ | ⟨g, h1⟩⟩ := bookP.open hw
  · refine Ct.go (args := [.pointer (some ⟨kb, 0, none⟩), .int .i64 (i : Nat)]) Tryz.func176 rfl rfl rfl h1 ?_
    have hO := fun w h => once_Do (once_book kb n) (.slice none 0 0) (fun g : Nat => .slice (some ⟨g, 0, none⟩) n n) 215 [.pointer (some ⟨kb, 0, none⟩)] [] w F (fun g => rowX 260 g n (List.replicate n 0) :: F) (fun _ _ => rfl) (fun w h => count_lay kb n hn w F h) h
    repeat' (first | (first | (apply GL.isCall; refine GL.call (vs := [.pointer (some ⟨kb, 1, none⟩), .func (.func 215) #[.pointer (some ⟨kb, 0, none⟩)] #[]]) rfl rfl (fun w h => hO w h) (fun g => ?_)) | (apply GL.isAny; refine GL.run (by apply Runs.isIndexA; exact Runs.indexAddr (k := i) rfl rfl rfl rfl (by rw [List.length_replicate]; exact hi)) rfl ?_)) | first | refine stp ?_ | (refine stpB ?_; intro _) | (refine spl ?_ ?_ <;> intro hc <;> ((try simp only [decide_eq_true_eq, decide_eq_false_iff_not, Bool.not_true, Bool.not_false, ne_eq, Classical.not_not, Int.not_lt, Int.not_le] at hc); (try (exfalso; first | omega | exact hc trivial | exact hc rfl)))))
    all_goals (first | (exfalso; omega) | (refine GE.resOne rfl (by (repeat (first | apply Res.nil | (apply Res.tmp; rfl) | (refine Res.cellA rfl rfl rfl ?_) | (refine Res.cell1 rfl rfl ?_)))) (fun w h => ?_); exact ⟨⟨(kb, g), rfl⟩, by simp [rowB, rowO], h⟩))
  · refine Ct.go (args := [.pointer (some ⟨kb, 0, none⟩), .int .i64 (i : Nat)]) Tryz.func176 rfl rfl rfl h1 ?_
    have hl := (rowX.open (h1.order [1, 0])).1
    have hO := fun w h => once_Done (once_book kb n) (.slice (some ⟨g, 0, none⟩) n n) w (rowX 260 g n l :: F) (.func (.func 215) #[.pointer (some ⟨kb, 0, none⟩)] #[]) h
    repeat' (first | (first | (apply GL.isCall; refine GL.call1 (vs := [.pointer (some ⟨kb, 1, none⟩), .func (.func 215) #[.pointer (some ⟨kb, 0, none⟩)] #[]]) rfl rfl (fun w h => hO w h) ?_) | (apply GL.isAny; refine GL.run (by apply Runs.isIndexA; exact Runs.indexAddr (k := i) rfl rfl rfl rfl (by omega)) rfl ?_)) | first | refine stp ?_ | (refine stpB ?_; intro _) | (refine spl ?_ ?_ <;> intro hc <;> ((try simp only [decide_eq_true_eq, decide_eq_false_iff_not, Bool.not_true, Bool.not_false, ne_eq, Classical.not_not, Int.not_lt, Int.not_le] at hc); (try (exfalso; first | omega | exact hc trivial | exact hc rfl)))))
    all_goals (first | (exfalso; omega) | (refine GE.resOne rfl (by (repeat (first | apply Res.nil | (apply Res.tmp; rfl) | (refine Res.cellA rfl rfl rfl ?_) | (refine Res.cell1 rfl rfl ?_)))) (fun w h => ?_); exact ⟨⟨(kb, g), rfl⟩, by simp [rowB, rowO], h⟩))
include hl
theorem count_Add (i : Nat) (hi : i < n) (y : Int) (hy : 0 ≤ y) (h0 : 0 ≤ l.getD i 0) (hb : l.getD i 0 + y ≤ 4611686018427387904) (w : World) (F : List HProp) (hw : holds w (bookP v n l :: F)) :
    Ct Tryz.prog 112 #[v, .int .i64 (i : Nat), .int .i64 y] w fun e w' => e = .returned (.int .i64 0) ∧ holds w' (bookP v n (l.set i (l.getD i 0 + y)) :: F) := by
  have hil : i < l.length := by omega
  have eg : l.getD i 0 = l[i] := by rw [List.getD_eq_getElem?_getD, List.getElem?_eq_getElem hil]; rfl
  rw [eg] at h0 hb ⊢
  obtain ⟨kb0, hv, hcase⟩ := bookP.open hw
  have hn0 : (n : Int) ≠ 0 := by omega
  have hsee : ∃ c2 : List Value, ∃ FF : List HProp, holds w (blk kb0 (.cells (.int .i64 (n : Nat) :: c2).toArray 209 (0, 0)) :: FF) ∧ ∀ w', holds w' (blk kb0 (.cells (.int .i64 (n : Nat) :: c2).toArray 209 (0, 0)) :: FF) → holds w' (bookP v n l :: F) := by
    subst hv
    rcases hcase with ⟨rfl, h⟩ | ⟨g, h⟩
    · exact ⟨_, _, h, fun w' h' => bookP.shutN h'⟩
    · exact ⟨_, _, h, fun w' h' => bookP.shutL h'⟩
  obtain ⟨c2, FF, h1, hback⟩ := hsee
  have hCC := fun w (h : holds w (bookP v n l :: F)) => count_count v n hn l i hi w F h
  subst hv
  refine Ct.go (args := [.pointer (some ⟨kb0, 0, none⟩), .int .i64 (i : Nat), .int .i64 y]) Tryz.func112 rfl rfl rfl h1 ?_
  repeat' (first | (first | (refine G.isRegion 3 ?_; refine G.imp (F' := bookP (.pointer (some ⟨kb0, 0, none⟩)) n l :: F) ?_ (fun w h => hback w h); apply G.region) | (apply GL.isCall; refine GL.call (vs := [.pointer (some ⟨kb0, 0, none⟩), .int .i64 (i : Nat)]) rfl rfl (fun w h => hCC w h) (fun x => ?_); obtain ⟨⟨kb, g⟩, hx⟩ := x; dsimp only; refine GL.imp (F' := rowC 260 g n i l (.int .i64 l[i]) :: blk kb (.cells #[.int .i64 (n : Nat), .int .u32 1, .int .i32 0, .int .u32 0, .slice (some ⟨g, 0, none⟩) n n] 209 (0, 0)) :: F) ?_ (fun w h => rowX.cell hil (h.order [1, 0]))) | first | (apply GL.isCall; refine GL.call1 rfl rfl (fun w h => i64_Load g i _ (rowC.cellAt 260 g n i l hil) l[i] w _ h) ?_) | (apply GD.isAny; refine GD.call rfl rfl (fun w F' h => i64_Load g i _ (rowC.cellAt 260 g n i l hil) l[i] w _ h) ?_) | first | (apply GL.isCall; refine GL.call1 rfl rfl (fun w h => i64_Add g i _ (rowC.cellAt 260 g n i l hil) l[i] y (by omega) w _ h) ?_) | (apply GD.isAny; refine GD.call rfl rfl (fun w F' h => i64_Add g i _ (rowC.cellAt 260 g n i l hil) l[i] y (by omega) w _ h) ?_)) | first | refine stp ?_ | (refine stpB ?_; intro _) | (refine spl ?_ ?_ <;> intro hc <;> ((try simp only [decide_eq_true_eq, decide_eq_false_iff_not, Bool.not_true, Bool.not_false, ne_eq, Classical.not_not, Int.not_lt, Int.not_le] at hc); (try (exfalso; first | omega | exact hc trivial | exact hc rfl)))))
  all_goals (first | (exfalso; omega) | skip)
  refine GE.resOne rfl (by (repeat (first | apply Res.nil | (apply Res.tmp; rfl) | (refine Res.cellA rfl rfl rfl ?_) | (refine Res.cell1 rfl rfl ?_)))) (fun w h => ?_)
  obtain ⟨rfl⟩ : kb0 = kb := by simpa using hx
  exact ⟨rfl, bookP.shutL ((rowX.back hil h).order [1, 0])⟩
theorem count_Get (i : Nat) (hi : i < n) (w : World) (F : List HProp) (hw : holds w (bookP v n l :: F)) :
    Ct Tryz.prog 125 #[v, .int .i64 (i : Nat)] w fun e w' => e = .returned (.int .i64 (l.getD i 0)) ∧ holds w' (bookP v n l :: F) := by
  have hil : i < l.length := by omega
  have eg : l.getD i 0 = l[i] := by rw [List.getD_eq_getElem?_getD, List.getElem?_eq_getElem hil]; rfl
  rw [eg]
  refine Ct.go (args := [v, .int .i64 (i : Nat)]) Tryz.func125 rfl rfl rfl hw ?_
  repeat' (first | (first | (apply GL.isCall; refine GL.call (vs := [v, .int .i64 (i : Nat)]) rfl rfl (fun w h => count_count v n hn l i hi w F h) (fun x => ?_); obtain ⟨⟨kb, g⟩, hx⟩ := x; dsimp only at hx ⊢; refine GL.imp (F' := rowC 260 g n i l (.int .i64 l[i]) :: blk kb (.cells #[.int .i64 (n : Nat), .int .u32 1, .int .i32 0, .int .u32 0, .slice (some ⟨g, 0, none⟩) n n] 209 (0, 0)) :: F) ?_ (fun w h => rowX.cell hil (h.order [1, 0]))) | first | (apply GL.isCall; refine GL.call1 rfl rfl (fun w h => i64_Load g i _ (rowC.cellAt 260 g n i l hil) l[i] w _ h) ?_) | (apply GD.isAny; refine GD.call rfl rfl (fun w F' h => i64_Load g i _ (rowC.cellAt 260 g n i l hil) l[i] w _ h) ?_)) | first | refine stp ?_ | (refine stpB ?_; intro _) | (refine spl ?_ ?_ <;> intro hc <;> ((try simp only [decide_eq_true_eq, decide_eq_false_iff_not, Bool.not_true, Bool.not_false, ne_eq, Classical.not_not, Int.not_lt, Int.not_le] at hc); (try (exfalso; first | omega | exact hc trivial | exact hc rfl)))))
  all_goals (first | (exfalso; omega) | skip)
  refine GE.resOne rfl (by (repeat (first | apply Res.nil | (apply Res.tmp; rfl) | (refine Res.cellA rfl rfl rfl ?_) | (refine Res.cell1 rfl rfl ?_)))) (fun w h => ?_)
  subst hx
  have h2 := rowX.back hil h
  rw [List.set_getElem_self] at h2
  exact ⟨rfl, bookP.shutL (h2.order [1, 0])⟩
end
end Go.Proofs.YtipkgamiejenaaaGreat
