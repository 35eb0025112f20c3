import Derived.Test.YtipkgamiejenaaaGreatMg21
import Derived.Test.YtipkgamiejenaaaGreatMg7

import Derived.Test.YtipkgamiejenaaaGreatMg20
import Derived.Test.YtipkgamiejenaaaGreatMg17
/- Reference 25: New. -/
namespace Go.Proofs.YtipkgamiejenaaaGreat
open Go Go.RowKit Go.MapKept
set_option linter.unusedVariables false
set_option linter.unusedSectionVars false
set_option linter.unusedSimpArgs false
set_option maxRecDepth 100000
set_option maxHeartbeats 2000000
theorem GE.caseX {n : Nat} {e : Exit} {Q : Exit → Act → World → Prop} {env : Env} {F : List HProp} {α : Type} {F' : α → List HProp} (h : ∀ x, GE n e Q env (F' x)) (hi : ∀ w, holds w F → ∃ x, holds w (F' x)) : GE n e Q env F := .mk fun a w hf hw => by
  obtain ⟨x, hx⟩ := hi w hw
  exact h x a w hf hx
theorem ref25_NewE (v : Value) (t : St.S) (qu low : Int) (hb : qu < 1 ∨ 1048576 < qu ∨ low < 0 ∨ 1048576 < low) (w : World) (F : List HProp) (hw : holds w (refS v t :: F)) :
    Ct Tryz.prog 47 #[v, .int .i64 qu, .int .i64 low] w fun e w' => e = .returned (.tuple #[.agg #[.int .i64 0, .slice none 0 0, .slice none 0 0, .slice none 0 0, .slice none 0 0, .int .i64 0, .int .i64 0, .int .i64 0, .int .i64 0, .int .i64 0, .int .i64 0, .slice none 0 0, .slice none 0 0, .slice none 0 0, .int .i64 0], .int .i64 2]) ∧ holds w' F := by
  obtain ⟨q, ⟨rfl, hev⟩, h1⟩ := refS.open hw
  refine Ct.go (args := [.agg #[.int .i64 (t.size : Nat), .slice q.ca t.ch.length q.cc, .slice q.xa t.tx.length q.xc, .slice q.wa t.wi.length q.wc, .slice q.sa t.stack.length q.sc, .int .i64 q.e0, .int .i64 q.e1, .int .i64 q.e2, .int .i64 q.e3], .int .i64 qu, .int .i64 low]) Tryz.func47 rfl rfl rfl h1 ?_
  repeat' (first | refine stp ?_ | (refine stpB ?_; intro _) | (refine spl ?_ ?_ <;> intro hc <;> ((try simp only [decide_eq_true_eq, decide_eq_false_iff_not, Bool.not_true, Bool.not_false, ne_eq, Classical.not_not, Int.not_lt, Int.not_le] at hc); (try (exfalso; first | omega | exact hc trivial | exact hc rfl)))))
  all_goals (first | (exfalso; omega) | skip)
  all_goals (refine GE.resMany rfl (by (repeat (first | apply Res.nil | (apply Res.tmp; rfl) | (refine Res.cellA rfl rfl rfl ?_) | (refine Res.cell1 rfl rfl ?_)))) (fun w h => ?_); exact ⟨rfl, h.sub⟩)
theorem ref25_New (v : Value) (t : St.S) (qu low : Int) (hq : 1 ≤ qu ∧ qu ≤ 1048576) (hl : 0 ≤ low ∧ low ≤ 1048576) (w : World) (F : List HProp) (hw : holds w (refS v t :: F)) :
    Ct Tryz.prog 47 #[v, .int .i64 qu, .int .i64 low] w fun e w' => ∃ v', e = .returned (.tuple #[v', .int .i64 0]) ∧ holds w' (refR v' ⟨t, qu, low, [], List.replicate 64 0, [], 0⟩ :: F) := by
  have hw0 := hw
  obtain ⟨q, ⟨rfl, hev⟩, h1⟩ := refS.open hw
  refine Ct.go (args := [.agg #[.int .i64 (t.size : Nat), .slice q.ca t.ch.length q.cc, .slice q.xa t.tx.length q.xc, .slice q.wa t.wi.length q.wc, .slice q.sa t.stack.length q.sc, .int .i64 q.e0, .int .i64 q.e1, .int .i64 q.e2, .int .i64 q.e3], .int .i64 qu, .int .i64 low]) Tryz.func47 rfl rfl rfl hw0 ?_
  repeat' (first | (first | (refine G.isRegion 0 ?_; apply G.region; apply GL.isBox; refine GL.boxA rfl rfl (fun b3 => ?_)) | (apply GL.isAlloc; refine GL.alloc rfl (fun b6 => ?_)) | (refine G.isRegion 3 ?_; refine G.drawW [⟨none, [], some 5, none, fun _ => True, fun _ => blk b6 (.cells (Value.agg #[.int .i64 0, .slice none 0 0, .slice none 0 0, .slice none 0 0, .slice none 0 0, .int .i64 0, .int .i64 0, .int .i64 0, .int .i64 0, .int .i64 0, .int .i64 0, .slice none 0 0, .slice none 0 0, .slice none 0 0, .int .i64 0]).cells 94 (0, 0))⟩, ⟨some 3, [], some 5, some 26, IsSl 64 64, fun u => owns 3 encI1 1 u (List.replicate 64 0)⟩, ⟨some 5, [0, 1], none, none, fun _ => True, fun _ f => ∃ b : Nat, sep [blk b6 (.cells #[.int .i64 (t.size : Nat), .slice q.ca t.ch.length q.cc, .slice q.xa t.tx.length q.xc, .slice q.wa t.wi.length q.wc, .slice q.sa t.stack.length q.sc, .int .i64 q.e0, .int .i64 q.e1, .int .i64 q.e2, .int .i64 q.e3, .int .i64 qu, .int .i64 low, .slice none 0 0, .slice (some ⟨b, 0, none⟩) 64 64, .slice none 0 0, .int .i64 0] 94 (0, 0)), owns 3 encI1 1 (.slice (some ⟨b, 0, none⟩) 64 64) (List.replicate 64 0)] f⟩] [] [0] [2] (by kernel_rfl) (by kernel_rfl) rfl ⟨⟨_, rfl, .inl rfl⟩, trivial⟩ ?_) | (apply GW.isAny; first | refine GW.runA rfl rfl ?_ | refine GW.seeA rfl rfl ⟨⟨_, rfl, .inl rfl⟩, trivial⟩ rfl ?_) | (apply GW.isAny; refine GW.eff rfl rfl rfl rfl rfl trivial rfl trivial (fun u hu => by obtain ⟨b, rfl⟩ := hu; rfl) (DoesW.makeSl encI1 0 64 64 rfl rfl rfl rfl rfl (Nat.le_refl _) (by omega) (by unfold maxLen; omega)) rfl (fun u hu => ?_); obtain ⟨g, rfl⟩ := hu) | (apply GW.isAny; refine GW.store rfl rfl rfl rfl rfl ⟨⟨_, rfl, .inl rfl⟩, ⟨_, rfl, .inr (.inr ⟨_, _, rfl, rfl, rfl⟩)⟩, trivial⟩ rfl trivial rfl (DoesW.storeTake (vs := #[.int .i64 (t.size : Nat), .slice q.ca t.ch.length q.cc, .slice q.xa t.tx.length q.xc, .slice q.wa t.wi.length q.wc, .slice q.sa t.stack.length q.sc, .int .i64 q.e0, .int .i64 q.e1, .int .i64 q.e2, .int .i64 q.e3, .int .i64 qu, .int .i64 low, .slice none 0 0, .slice (some ⟨g, 0, none⟩) 64 64, .slice none 0 0, .int .i64 0]) (fun f => ∃ b : Nat, sep [blk b6 (.cells #[.int .i64 (t.size : Nat), .slice q.ca t.ch.length q.cc, .slice q.xa t.tx.length q.xc, .slice q.wa t.wi.length q.wc, .slice q.sa t.stack.length q.sc, .int .i64 q.e0, .int .i64 q.e1, .int .i64 q.e2, .int .i64 q.e3, .int .i64 qu, .int .i64 low, .slice none 0 0, .slice (some ⟨b, 0, none⟩) 64 64, .slice none 0 0, .int .i64 0] 94 (0, 0)), owns 3 encI1 1 (.slice (some ⟨b, 0, none⟩) 64 64) (List.replicate 64 0)] f) rfl rfl rfl rfl rfl (fun w G h => (holds_sep (l := [_, _]).2 h).mono fun f hf => ⟨g, hf⟩)) ?_) | (refine GW.nilE rfl ⟨⟨_, rfl, .inr (.inl rfl)⟩, trivial⟩ ?_; dsimp only [List.cons_append, List.nil_append])) | first | refine stp ?_ | (refine stpB ?_; intro _) | (refine spl ?_ ?_ <;> intro hc <;> ((try simp only [decide_eq_true_eq, decide_eq_false_iff_not, Bool.not_true, Bool.not_false, ne_eq, Classical.not_not, Int.not_lt, Int.not_le] at hc); (try (exfalso; first | omega | exact hc trivial | exact hc rfl)))))
  all_goals (first | (exfalso; omega) | skip)
  refine GE.caseX (F' := fun b : Nat => blk b6 (.cells #[.int .i64 (t.size : Nat), .slice q.ca t.ch.length q.cc, .slice q.xa t.tx.length q.xc, .slice q.wa t.wi.length q.wc, .slice q.sa t.stack.length q.sc, .int .i64 q.e0, .int .i64 q.e1, .int .i64 q.e2, .int .i64 q.e3, .int .i64 qu, .int .i64 low, .slice none 0 0, .slice (some ⟨b, 0, none⟩) 64 64, .slice none 0 0, .int .i64 0] 94 (0, 0)) :: owns 3 encI1 1 (.slice (some ⟨b, 0, none⟩) 64 64) (List.replicate 64 0) :: refS (.agg #[.int .i64 (t.size : Nat), .slice q.ca t.ch.length q.cc, .slice q.xa t.tx.length q.xc, .slice q.wa t.wi.length q.wc, .slice q.sa t.stack.length q.sc, .int .i64 q.e0, .int .i64 q.e1, .int .i64 q.e2, .int .i64 q.e3]) t :: F) (fun b => ?_) (fun w h => by
    obtain ⟨b, h⟩ := holds.open_ex h
    have h2 := holds_sep.1 h
    dsimp only [List.cons_append, List.nil_append] at h2
    exact ⟨b, h2.sub⟩)
  refine GE.resMany rfl (by (repeat (first | apply Res.nil | (apply Res.tmp; rfl) | (refine Res.cellA rfl rfl rfl ?_) | (refine Res.cell1 rfl rfl ?_)))) (fun w h => ?_)
  refine ⟨.agg #[.int .i64 (t.size : Nat), .slice q.ca t.ch.length q.cc, .slice q.xa t.tx.length q.xc, .slice q.wa t.wi.length q.wc, .slice q.sa t.stack.length q.sc, .int .i64 q.e0, .int .i64 q.e1, .int .i64 q.e2, .int .i64 q.e3, .int .i64 qu, .int .i64 low, .slice none 0 0, .slice (some ⟨b, 0, none⟩) 64 64, .slice none 0 0, .int .i64 0], rfl, ?_⟩
  have h0 : holds w (refS (.agg #[.int .i64 (t.size : Nat), .slice q.ca t.ch.length q.cc, .slice q.xa t.tx.length q.xc, .slice q.wa t.wi.length q.wc, .slice q.sa t.stack.length q.sc, .int .i64 q.e0, .int .i64 q.e1, .int .i64 q.e2, .int .i64 q.e3]) t :: owns 3 encI1 1 (.slice (some ⟨b, 0, none⟩) 64 64) (List.replicate 64 0) :: F) := h.sub
  have h2 := holds_ownRow_nil h0 3 1
  have h3 := holds_roRow_nil h2 1
  have h4 : holds w (refS (.agg #[.int .i64 (t.size : Nat), .slice q.ca t.ch.length q.cc, .slice q.xa t.tx.length q.xc, .slice q.wa t.wi.length q.wc, .slice q.sa t.stack.length q.sc, .int .i64 q.e0, .int .i64 q.e1, .int .i64 q.e2, .int .i64 q.e3]) t :: rows encI1 1 (.slice none 0 0) ([] : List Int) :: owns 3 encI1 1 (.slice (some ⟨b, 0, none⟩) 64 64) (List.replicate 64 0) :: owns 3 encI1 1 (.slice none 0 0) ([] : List Int) :: F) := by
    have h5 : holds w (rows encI1 1 (.slice none 0 0) ([] : List Int) :: owns 3 encI1 1 (.slice none 0 0) ([] : List Int) :: refS (.agg #[.int .i64 (t.size : Nat), .slice q.ca t.ch.length q.cc, .slice q.xa t.tx.length q.xc, .slice q.wa t.wi.length q.wc, .slice q.sa t.stack.length q.sc, .int .i64 q.e0, .int .i64 q.e1, .int .i64 q.e2, .int .i64 q.e3]) t :: owns 3 encI1 1 (.slice (some ⟨b, 0, none⟩) 64 64) (List.replicate 64 0) :: F) := h3
    exact h5.sub
  exact refR.shut (m := ⟨t, qu, low, [], List.replicate 64 0, [], 0⟩) ⟨q, none, 0, some ⟨b, 0, none⟩, 64, none, 0⟩ h4
end Go.Proofs.YtipkgamiejenaaaGreat

/- Reference 25: Paid. -/
namespace Go.Proofs.YtipkgamiejenaaaGreat
open Go Go.RowKit Go.MapKept
set_option linter.unusedVariables false
set_option linter.unusedSectionVars false
set_option linter.unusedSimpArgs false
set_option maxRecDepth 100000
set_option maxHeartbeats 2000000
variable (m : Rc.S) (K : Nat) (hO : Rc.Ok m K) (hK : K ≤ 900000)
include hO hK
theorem ref25_Paid (v : Value) (c n : Int) (hn : n ≤ 9223372036854775807) (w : World) (F : List HProp) (hw : holds w (refR v m :: F)) :
    Ct Tryz.prog 50 #[v, .int .i64 c, .int .i64 n] w fun e w' => ∃ v', e = .returned (.tuple #[v', .int .i64 (Rc.paid m c n).2]) ∧ holds w' (refR v' (Rc.paid m c n).1 :: F) := by
  obtain ⟨x, rfl, h1⟩ := refR.open hw
  have hwl := hO.wl
  unfold Rc.paid
  refine Ct.go (args := [.agg #[.int .i64 (m.t.size : Nat), .slice x.q.ca m.t.ch.length x.q.cc, .slice x.q.xa m.t.tx.length x.q.xc, .slice x.q.wa m.t.wi.length x.q.wc, .slice x.q.sa m.t.stack.length x.q.sc, .int .i64 x.q.e0, .int .i64 x.q.e1, .int .i64 x.q.e2, .int .i64 x.q.e3, .int .i64 m.q, .int .i64 m.low, .slice x.la m.line.length x.lc, .slice x.wa m.want.length x.wc, .slice x.va m.lv.length x.vc, .int .i64 m.fr], .int .i64 c, .int .i64 n]) Tryz.func50 rfl rfl rfl h1 ?_
  by_cases h0 : c < 0 ∨ 64 ≤ c ∨ n < 0
  · rw [if_pos h0]
    repeat' (first | refine stp ?_ | (refine stpB ?_; intro _) | (refine spl ?_ ?_ <;> intro hc <;> ((try simp only [decide_eq_true_eq, decide_eq_false_iff_not, Bool.not_true, Bool.not_false, ne_eq, Classical.not_not, Int.not_lt, Int.not_le] at hc); (try (exfalso; first | omega | exact hc trivial | exact hc rfl)))))
    all_goals (first | (exfalso; omega) | (exfalso; simp at hc; omega) | skip)
    all_goals (refine GE.resMany rfl (by (repeat (first | apply Res.nil | (apply Res.tmp; rfl) | (refine Res.cellA rfl rfl rfl ?_) | (refine Res.cell1 rfl rfl ?_)))) (fun w h => ?_); exact ⟨.agg #[.int .i64 (m.t.size : Nat), .slice x.q.ca m.t.ch.length x.q.cc, .slice x.q.xa m.t.tx.length x.q.xc, .slice x.q.wa m.t.wi.length x.q.wc, .slice x.q.sa m.t.stack.length x.q.sc, .int .i64 x.q.e0, .int .i64 x.q.e1, .int .i64 x.q.e2, .int .i64 x.q.e3, .int .i64 m.q, .int .i64 m.low, .slice x.la m.line.length x.lc, .slice x.wa m.want.length x.wc, .slice x.va m.lv.length x.vc, .int .i64 m.fr], rfl, refR.shut x h.sub⟩)
  · rw [if_neg h0]
    obtain ⟨k, rfl⟩ : ∃ k : Nat, c = k := ⟨c.toNat, by omega⟩
    have hk : k < m.want.length := by omega
    have hb := hO.wb m.want[k] (List.getElem_mem hk)
    obtain ⟨o, ho⟩ : ∃ o, o = max (m.want[k] - n) 0 := ⟨_, rfl⟩
    have hP := fun w (F : List HProp) h' => ref24_Paid m.want[k] n hb (by omega) w F h'
    rw [← ho] at hP
    have es : Tr.paid m.want (k : Int).toNat n = m.want.set k o := by
      unfold Tr.paid
      rw [Int.toNat_natCast, ho, List.getD_eq_getElem?_getD, List.getElem?_eq_getElem hk]; rfl
    rw [es]
    repeat' (first | (first | (apply GL.isAny; refine GL.build0 encI1 1 rfl (fun u0 _ => ?_)) | (apply GL.isCall; refine GL.appendAny (ys := m.want) rfl rfl rfl rfl rfl rfl (by simp only [List.length_nil]; omega) (by simp only [List.length_nil]; omega) rfl (fun r1 _ => ?_); rw [List.nil_append]; refine GL.pure (fun wx hx => ?_); obtain ⟨r1a, r1c, rfl, _⟩ := (Reads.at_ (v := r1) (enc := encI1) (n := 1) (l := m.want) wx hx).form; clear hx) | (refine G.isRegion 4 ?_; refine G.drawTail 11 (by kernel_rfl) (by simp only [List.take_succ_cons, List.take_zero]; rfl) (by simp only [List.drop_succ_cons, List.drop_zero]; rfl) (by kernel_rfl) ?_) | (apply GD.isAny; refine GD.call rfl rfl (fun w F' h => hP w _ h) ?_) | (apply GL.isStore; refine GL.setElem (i := k) o rfl rfl (by kernel_rfl) hk rfl ?_)) | first | refine stp ?_ | (refine stpB ?_; intro _) | (refine spl ?_ ?_ <;> intro hc <;> ((try simp only [decide_eq_true_eq, decide_eq_false_iff_not, Bool.not_true, Bool.not_false, ne_eq, Classical.not_not, Int.not_lt, Int.not_le] at hc); (try (exfalso; first | omega | exact hc trivial | exact hc rfl)))))
    all_goals (first | (exfalso; omega) | (exfalso; simp at hc; omega) | skip)
    refine GE.resMany rfl (by (repeat (first | apply Res.nil | (apply Res.tmp; rfl) | (refine Res.cellA rfl rfl rfl ?_) | (refine Res.cell1 rfl rfl ?_)))) (fun w h => ?_)
    refine ⟨.agg #[.int .i64 (m.t.size : Nat), .slice x.q.ca m.t.ch.length x.q.cc, .slice x.q.xa m.t.tx.length x.q.xc, .slice x.q.wa m.t.wi.length x.q.wc, .slice x.q.sa m.t.stack.length x.q.sc, .int .i64 x.q.e0, .int .i64 x.q.e1, .int .i64 x.q.e2, .int .i64 x.q.e3, .int .i64 m.q, .int .i64 m.low, .slice x.la m.line.length x.lc, .slice r1a m.want.length r1c, .slice x.va m.lv.length x.vc, .int .i64 m.fr], rfl, ?_⟩
    have h2 : holds w (refS (.agg #[.int .i64 (m.t.size : Nat), .slice x.q.ca m.t.ch.length x.q.cc, .slice x.q.xa m.t.tx.length x.q.xc, .slice x.q.wa m.t.wi.length x.q.wc, .slice x.q.sa m.t.stack.length x.q.sc, .int .i64 x.q.e0, .int .i64 x.q.e1, .int .i64 x.q.e2, .int .i64 x.q.e3]) m.t :: rows encI1 1 (.slice x.la m.line.length x.lc) m.line :: owns 3 encI1 1 (.slice r1a m.want.length r1c) (m.want.set k o) :: owns 3 encI1 1 (.slice x.va m.lv.length x.vc) m.lv :: F) := h.sub
    have hl : (m.want.set k o).length = m.want.length := List.length_set
    have h3 := refR.shut (m := { m with want := m.want.set k o }) ⟨x.q, x.la, x.lc, r1a, r1c, x.va, x.vc⟩ (F := F) (w := w) (by dsimp only; rw [hl]; exact h2)
    dsimp only at h3
    rw [hl] at h3
    exact h3
end Go.Proofs.YtipkgamiejenaaaGreat

/- append(s, make([]T, k)...): zeros are appended to an owned row; append of a row that is there, in a drawn region. -/
namespace Go.Proofs.YtipkgamiejenaaaGreat
open Go Go.RowKit Go.MapKept
set_option linter.unusedVariables false
set_option linter.unusedSectionVars false
set_option linter.unusedSimpArgs false
section
variable {P : Program} {w : World} {l : List HProp}
theorem run_append_zeros {t it ty e : TypeId} {kk : IntKind} {i : TypeInfo} {z : Value} {size bytes : Nat} (ht : P.underlying t = some (.slice e)) (hit : P.underlying it = some (.int kk)) (hi : P.info? e = some i) (hz : i.zero = some z)
    (hsize : i.size = size) (hby : i.bytes = bytes) (hzs : z.cells.size = size) (hsz : 0 < size)
    {v : Value} {n : Nat} {xs : List Value} (hw : holds w (ownRow e size v n xs :: l)) (m : Nat) (h1 : ∀ u ∈ (Builtin.zeroCells z.cells m).toList, u.oneCell' = true)
    (h63 : n + m ≤ maxLen) (hbytes : (n + m) * bytes ≤ 140737488355328) :
    ∃ v' w', (Builtin.append_ #[t, it] ty #[v, .int .i64 (m : Nat)]).run P w = .ok v' w' ∧ holds w' (ownRow e size v' (n + m) (xs ++ (Builtin.zeroCells z.cells m).toList) :: l) := by
  subst hsize
  subst hby
  have hsmall : n + m ≤ 9223372036854775807 := by simp only [maxLen] at h63; omega
  have hmb : m * i.bytes ≤ 140737488355328 := Nat.le_trans (Nat.mul_le_mul_right _ (by omega)) hbytes
  have hwr : IntKind.i64.wrap (m : Int) = m := IntWalk.i64_in _ (by simp only [maxLen] at h63; omega)
  have hw0 : IntKind.i64.wrap 0 = 0 := by decide
  have hmb' : ¬ (281474976710656 < (m : Int) * i.bytes) := by
    have : ((m * i.bytes : Nat) : Int) ≤ 140737488355328 := by omega
    rw [Int.natCast_mul] at this; omega
  obtain ⟨hlx, ha⟩ := hw.open_own
  obtain ⟨news, hnews⟩ : ∃ news, news = (Builtin.zeroCells z.cells m).toList := ⟨_, rfl⟩
  have hna : Builtin.zeroCells z.cells m = news.toArray := by rw [hnews]
  have hl : news.length = m * i.size := by rw [hnews, Array.length_toList, size_zeroCells, hzs]
  rw [← hnews] at h1 ⊢
  have grown : ∀ (old : Nat), old < n + m → holds w l →
      holds (w.drew.alloc (.cells (xs.toArray ++ news.toArray ++ Builtin.zeroCells z.cells (grownCap w (n + m) old e - (n + m))) e))
        (ownRow e i.size (.slice (some ⟨w.heap.size, 0, none⟩) (n + m) (grownCap w (n + m) old e)) (n + m) (xs ++ news) :: l) := by
    intro old ho hh
    have hge := grownCap_ge w (n + m) old e
    have hcm : grownCap w (n + m) old e ≤ maxLen := grownCap_le_maxLen w (n + m) old e h63
    have h2 := (hh.drew.alloc (.cells (xs.toArray ++ news.toArray ++ Builtin.zeroCells z.cells (grownCap w (n + m) old e - (n + m))) e (0, 0))).mkRow (size := i.size) (n := n + m) (cap := grownCap w (n + m) old e) hge hcm (by
      simp only [Array.size_append, List.size_toArray, madeSize, hzs, hlx, hl, ← Nat.add_mul]
      congr 1
      omega)
    have h3 : (xs.toArray ++ news.toArray ++ Builtin.zeroCells z.cells (grownCap w (n + m) old e - (n + m))).toList.take ((n + m) * i.size) = xs ++ news := by
      simp only [Array.toList_append]
      have : (xs ++ news).length = (n + m) * i.size := by rw [List.length_append, hlx, hl, Nat.add_mul]
      rw [← this]
      exact List.take_left
    rw [h3] at h2
    exact h2
  by_cases hm0 : m = 0
  · subst hm0
    obtain rfl : news = [] := List.eq_nil_of_length_eq_zero (by omega)
    refine ⟨v, w, ?_, by simpa using hw⟩
    rcases ha with ⟨rfl, rfl, rfl, hh⟩ | ⟨g, cap, cur, rfl, hnc, hcm, hcs, htake, hb⟩
    · simp [Builtin.append_, run_underlying ht, run_underlying hit, sizeOf, typeInfo, hi, asInt, asIntOf, Result.andThen, hw0]
    · simp [Builtin.append_, run_underlying ht, run_underlying hit, sizeOf, typeInfo, hi, asInt, asIntOf, storeCells, Result.andThen, hw0, hnc]
  have hms : ¬ (m * i.size = 0) := fun h => by rcases Nat.mul_eq_zero.1 h with h | h <;> omega
  have hneg : ¬ ((m : Int) < 0) := by omega
  rcases ha with ⟨rfl, rfl, rfl, hh⟩ | ⟨g, cap, cur, rfl, hnc, hcm, hcs, htake, hb⟩
  · have hn : ¬ (m = 0) := hm0
    have h63' : ¬ (9223372036854775807 < (m : Int)) := by omega
    have h48' : ¬ (281474976710656 < Builtin.nextslicecap m 0 * i.bytes) := by rw [nextslicecap_zero (by omega)]; omega
    have hr : (Builtin.append_ #[t, it] ty #[.slice none 0 0, .int .i64 (m : Nat)]).run P w = .ok (.slice (some ⟨w.heap.size, 0, none⟩) m (grownCap w m 0 e)) (w.drew.alloc (.cells (news.toArray ++ Builtin.zeroCells z.cells (grownCap w m 0 e - m)) e)) := by
      simp [Builtin.append_, run_underlying ht, run_underlying hit, sizeOf, typeInfo, zeroValue, hi, hz, asInt, asIntOf, hwr, hmb', hneg, hn, hms, h63', h48', Question.forced, run_firstCells_none, newRow, grownCap, ← hna]
    have hgr := grown 0 (by omega) hh
    simp only [Nat.zero_add, List.nil_append, Array.empty_append] at hgr ⊢
    exact ⟨_, _, hr, hgr⟩
  · by_cases hroom : n + m ≤ cap
    · have hfit : n * i.size + news.length ≤ cur.size := by rw [hl, hcs, ← Nat.add_mul]; exact Nat.mul_le_mul_right _ hroom
      have hst := run_storeCells_at P g (n * i.size) e news 0 cur w hb.get_blk (by simpa using hfit) h1
      simp only [Nat.add_zero] at hst
      have hr : (Builtin.append_ #[t, it] ty #[.slice (some ⟨g, 0, none⟩) n cap, .int .i64 (m : Nat)]).run P w = .ok (.slice (some ⟨g, 0, none⟩) (n + m) cap) (w.setRow g (cur.toList.take (n * i.size) ++ news ++ cur.toList.drop (n * i.size + news.length)).toArray) := by
        simp [Builtin.append_, run_underlying ht, run_underlying hit, sizeOf, typeInfo, zeroValue, hi, hz, asInt, asIntOf, hwr, hmb', hneg, hroom, hms, hna, Addr.add_lit, hst]
      refine ⟨_, _, hr, ?_⟩
      have h2 := hb.turn (w' := w.setRow g (cur.toList.take (n * i.size) ++ news ++ cur.toList.drop (n * i.size + news.length)).toArray) ⟨rfl, rfl, rfl, by simp, fun k _ hk => setRow_other w g k _ (fun e => hk (by simp [e]))⟩ (setRow_heap w g cur _ e _ hb.get_blk)
      have h3 := h2.mkRow (size := i.size) (n := n + m) (cap := cap) hroom hcm (by
        simp only [List.size_toArray, List.length_append, List.length_take, List.length_drop, Array.length_toList]
        omega)
      have h4 : ((cur.toList.take (n * i.size) ++ news ++ cur.toList.drop (n * i.size + news.length)).toArray).toList.take ((n + m) * i.size) = xs ++ news := by
        rw [htake]
        have : (xs ++ news).length = (n + m) * i.size := by rw [List.length_append, hlx, hl, Nat.add_mul]
        rw [← this]
        exact List.take_left
      rw [h4] at h3
      exact h3
    · have hold : ∀ j u, xs[j]? = some u → w.cell? ((⟨g, 0, none⟩ : Addr).add j) = some u := by
        intro j u hu
        have hadd : (⟨g, 0, none⟩ : Addr).add j = ⟨g, j, none⟩ := by rw [addr_add, Nat.zero_add]
        rw [hadd, cell_of_row w g j cur e (0, 0) hb.get_blk]
        rw [← htake, List.getElem?_take] at hu
        split at hu
        · simpa using hu
        · cases hu
      have hn : ¬ (n + m ≤ cap) := hroom
      have h63' : ¬ (9223372036854775807 < ((n : Int) + (m : Int))) := by omega
      have h48' : ¬ (281474976710656 < Builtin.nextslicecap (n + m) cap * i.bytes) := by have := growslice_fits (need := n + m) (old := cap) (bytes := i.bytes) (by omega) hbytes; omega
      have hfo := run_firstCells_some (P := P) w.drew i.size n ⟨g, 0, none⟩ n cap xs hlx (by simpa using hold)
      have hr : (Builtin.append_ #[t, it] ty #[.slice (some ⟨g, 0, none⟩) n cap, .int .i64 (m : Nat)]).run P w = .ok (.slice (some ⟨w.heap.size, 0, none⟩) (n + m) (grownCap w (n + m) cap e)) (w.drew.alloc (.cells (xs.toArray ++ news.toArray ++ Builtin.zeroCells z.cells (grownCap w (n + m) cap e - (n + m))) e)) := by
        simp [Builtin.append_, run_underlying ht, run_underlying hit, sizeOf, typeInfo, zeroValue, hi, hz, asInt, asIntOf, hwr, hmb', hneg, hn, hms, h63', h48', Question.forced, hfo, newRow, grownCap, hna]
        congr 2
        apply Array.ext'
        simp [List.append_assoc]
      exact ⟨_, _, hr, grown cap (by omega) hb.tail⟩
theorem zeroCells_one (z : Value) (m : Nat) : (Builtin.zeroCells #[z] m).toList = List.replicate m z := by
  unfold Builtin.zeroCells
  apply List.ext_getElem
  · simp
  · intro j h1 h2
    have hj : j < m := by simpa using h1
    rw [List.getElem_replicate, Array.getElem_toList, Array.getElem_map]
    simp [Nat.mod_one]
end
section
variable {P : Program} {n : Nat} {env : Env} {F : List HProp} {ops : Array Oper} {Q : Exit → Act → World → Prop} {rest : List Oper} {d : Tmp} {ty : TypeId} {pos : String} {aft : Array Edge}
/-- append of zeros. -/
theorem GL.appendZ {α : Type} {t it T e : TypeId} {kk : IntKind} {x y : Operand} {v z : Value} {enc : α → List Value} {m bytes : Nat} {l : List α} {F' : List HProp} (z0 : α) (k : Nat) [ht : SliceT P t e m] [hz : ZeroT P e z m bytes] [hk : IntT P it kk] (hx : opnd env x = some v) (hy : opnd env y = some (.int .i64 (k : Nat))) [hr : HasOwn F v T enc m l F'] [he : Enc enc m]
    (hT : T = e) (hm1 : m = 1) (hzc : z.cells = #[z]) (hz0 : enc z0 = [z]) (hlen : (l.length + k) * bytes ≤ 140737488355328) (hl63 : l.length + k ≤ 140737488355328) (hd : Nat.blt d n = true)
    (h : ∀ r, isUndef r = false → GL P n ops Q rest ((d, r) :: env) (owns T enc m r (l ++ List.replicate k z0) :: F')) : GL P n ops Q (⟨some d, .call { callee := .builtin .append, args := #[x, y], argTypes := #[t, it] }, ty, pos, aft, none⟩ :: rest) env F := .mk fun a w hf hw => by
  subst hT
  refine wpList_plain rfl fun K hK => ?_
  obtain ⟨i, g1, g2, g3⟩ := ht.ok
  obtain ⟨i', k1, k2, k3, k4, k5⟩ := hz.ok
  have hii : i = i' := by rw [g2] at k1; exact Option.some.inj k1
  subst hii
  have hzo : (Builtin.zeroCells z.cells k).toList = (List.replicate k z0).flatMap enc := by
    rw [hzc, zeroCells_one]
    clear hlen hl63 hy h
    induction k with
    | zero => rfl
    | succ k ih => rw [List.replicate_succ, List.replicate_succ, List.flatMap_cons, hz0, ← ih]; rfl
  obtain ⟨v', w', hrun, hh⟩ := run_append_zeros (P := P) (ty := ty) g1 hk.ok g2 k2 g3 k4 k5 he.pos (hw.perm hr.perm) k (fun u hu => by
    rw [hzo] at hu
    obtain ⟨y, _, hy'⟩ := List.mem_flatMap.1 hu
    exact he.one y u hy') (by unfold maxLen; omega) hlen
  unfold Oper.wp
  simp only [execOp, resolve, invoke, builtin, Sem.run_bind, Sem.run_pure, Result.andThen_ok, List.map_toArray, List.map_cons, List.map_nil, hf.eval hx, hf.eval hy, hrun]
  have hu : isUndef v' = false := by rcases (holds.open_own hh).2 with ⟨rfl, _⟩ | ⟨g, cap, cur, rfl, _⟩ <;> rfl
  refine hK _ _ (h v' hu _ _ (hf.put hd _) ?_)
  have e1 : owns T enc m v' (l ++ List.replicate k z0) = ownRow T m v' (l.length + k) (l.flatMap enc ++ (Builtin.zeroCells z.cells k).toList) := by
    unfold owns; rw [List.length_append, List.length_replicate, List.flatMap_append, hzo]
  rw [e1]; exact hh
theorem DoesW.appendR {α : Type} {t e : TypeId} {size bytes m m' : Nat} {z v u : Value} {x y : Operand} {enc enc' : α → List Value} {l ys : List α} [ht : SliceT P t e size] [hz : ZeroT P e z size bytes] [he : Enc enc m] (hm : m = size) (hx : opnd env x = some v) (hy : opnd env y = some u) [hr : Reads F u enc' m' ys] (hee : enc' = enc) (hmm : m' = m)
    (hlen : (l.length + ys.length) * bytes ≤ 140737488355328) (hl63 : l.length + ys.length ≤ 140737488355328) :
    DoesW P n env F [owns e enc m v l] [] (.call { callee := .builtin .append, args := #[x, y], argTypes := #[t, t] }) IsSlc (fun r => owns e enc m r (l ++ ys)) :=
  .ofDoes (show Does P n env ([] ++ F) _ _ _ from Does.appendR hm hx hy hee hmm hlen hl63) fun u w G h => owns_isSlc h
theorem DoesW.build0 {α : Type} {t e : TypeId} {size : Nat} (enc : α → List Value) (m : Nat) [ht : SliceT P t e size] : DoesW P n env F [] [] (.buildSlice t 0 #[]) IsSlc (fun u => owns e enc m u []) :=
  .ofDoes (show Does P n env ([] ++ F) _ _ _ from Does.build0 enc m) fun u w G h => owns_isSlc h
end
end Go.Proofs.YtipkgamiejenaaaGreat

/- Reference 25: Tick. -/
namespace Go.Proofs.YtipkgamiejenaaaGreat
open Go Go.RowKit Go.MapKept
set_option linter.unusedVariables false
set_option linter.unusedSectionVars false
set_option linter.unusedSimpArgs false
set_option maxRecDepth 100000
set_option maxHeartbeats 4000000
theorem ref21_TakeR (v : Value) (i : Int) (l : List Int) (hl : l.length ≤ 1000000) (w : World) (F : List HProp) (hw : holds w (rows encI1 1 v (i :: l) :: F)) :
    Ct Tryz.prog 117 #[v] w fun e w' => ∃ v', e = .returned (.tuple #[v', .int .i64 i, .int .i64 0]) ∧ holds w' (rows encI1 1 v' l :: F) := by
  simp only [rows_intsW] at hw ⊢
  have h := ref21_Take w v (i :: l) F (by simp only [List.length_cons]; omega) hw
  simpa [ringGet] using (⟨h⟩ : Ct _ _ _ _ _)
structure RtS where
  k : Nat
  q : RfM
  la : Option Addr
  lc : Nat
  ov : Value
theorem ref25_LackR (t : St.S) (q : RfM) (qu low fr : Int) (la wa va : Option Addr) (ll lc wl wc vc : Nat) (lv : List Int) (hlow : 0 ≤ low ∧ low ≤ 1048576) (hlv : ∀ x ∈ lv, 0 ≤ x ∧ x ≤ 1048576) (hn : lv.length ≤ 1000000) (w : World) (F : List HProp) [Reads F (.slice va lv.length vc) encI1 1 lv] (hw : holds w F) :
    Ct Tryz.prog 120 #[.agg #[.int .i64 (t.size : Nat), .slice q.ca t.ch.length q.cc, .slice q.xa t.tx.length q.xc, .slice q.wa t.wi.length q.wc, .slice q.sa t.stack.length q.sc, .int .i64 q.e0, .int .i64 q.e1, .int .i64 q.e2, .int .i64 q.e3, .int .i64 qu, .int .i64 low, .slice la ll lc, .slice wa wl wc, .slice va lv.length vc, .int .i64 fr]] w fun e w' => e = .returned (.int .i64 (Wm.lack low lv.getLast?)) ∧ holds w' F := by
  refine Ct.go (args := [.agg #[.int .i64 (t.size : Nat), .slice q.ca t.ch.length q.cc, .slice q.xa t.tx.length q.xc, .slice q.wa t.wi.length q.wc, .slice q.sa t.stack.length q.sc, .int .i64 q.e0, .int .i64 q.e1, .int .i64 q.e2, .int .i64 q.e3, .int .i64 qu, .int .i64 low, .slice la ll lc, .slice wa wl wc, .slice va lv.length vc, .int .i64 fr]]) Tryz.func120 rfl rfl rfl hw ?_
  repeat' (first | ((apply GL.isCall; refine GL.call1 rfl rfl (fun w h => ref23_Lack low hlow _ lv hlv hn w _ h) ?_)) | first | refine stp ?_ | (refine stpB ?_; intro _) | (refine spl ?_ ?_ <;> intro hc <;> ((try simp only [decide_eq_true_eq, decide_eq_false_iff_not, Bool.not_true, Bool.not_false, ne_eq, Classical.not_not, Int.not_lt, Int.not_le] at hc); (try (exfalso; first | omega | exact hc trivial | exact hc rfl)))))
  refine GE.resOne rfl (by (repeat (first | apply Res.nil | (apply Res.tmp; rfl) | (refine Res.cellA rfl rfl rfl ?_) | (refine Res.cell1 rfl rfl ?_)))) (fun w h => ?_)
  exact ⟨rfl, h.sub⟩
variable (m : Rc.S) (K : Nat) (hO : Rc.Ok m K) (hK : K + 2 * m.line.length ≤ 900000)
include hO hK
theorem ref25_TickE (v u : Value) (p : List Int) (hp : 64 < p.length) (w : World) (F : List HProp) [Reads F u encI1 1 p] (hw : holds w (refR v m :: F)) :
    Ct Tryz.prog 49 #[v, u] w fun e w' => e = .returned (.tuple #[v, .slice none 0 0, .int .i64 2]) ∧ holds w' (refR v m :: F) := by
  obtain ⟨x, rfl, h1⟩ := refR.open hw
  refine Ct.go (args := [.agg #[.int .i64 (m.t.size : Nat), .slice x.q.ca m.t.ch.length x.q.cc, .slice x.q.xa m.t.tx.length x.q.xc, .slice x.q.wa m.t.wi.length x.q.wc, .slice x.q.sa m.t.stack.length x.q.sc, .int .i64 x.q.e0, .int .i64 x.q.e1, .int .i64 x.q.e2, .int .i64 x.q.e3, .int .i64 m.q, .int .i64 m.low, .slice x.la m.line.length x.lc, .slice x.wa m.want.length x.wc, .slice x.va m.lv.length x.vc, .int .i64 m.fr], u]) Tryz.func49 rfl rfl rfl h1 ?_
  repeat' (first | refine stp ?_ | (refine stpB ?_; intro _) | (refine spl ?_ ?_ <;> intro hc <;> ((try simp only [decide_eq_true_eq, decide_eq_false_iff_not, Bool.not_true, Bool.not_false, ne_eq, Classical.not_not, Int.not_lt, Int.not_le] at hc); (try (exfalso; first | omega | exact hc trivial | exact hc rfl)))))
  all_goals (first | (exfalso; omega) | skip)
  refine GE.resMany rfl (by (repeat (first | apply Res.nil | (apply Res.tmp; rfl) | (refine Res.cellA rfl rfl rfl ?_) | (refine Res.cell1 rfl rfl ?_)))) (fun w h => ?_)
  exact ⟨rfl, refR.shut x h.sub⟩
theorem ref25_Tick (v u : Value) (p : List Int) (hp : p.length ≤ 64) (w : World) (F : List HProp) [Reads F u encI1 1 p] (hw : holds w (refR v m :: F)) :
    Ct Tryz.prog 49 #[v, u] w fun e w' => ∃ r : Value × Value, e = .returned (.tuple #[r.1, r.2, .int .i64 0]) ∧ holds w' (owns 3 encI1 1 r.2 (m.line.take m.q.toNat) :: refR r.1 (Rc.tick m p) :: F) := by
  obtain ⟨x, rfl, h1⟩ := refR.open hw
  have hq := hO.q
  refine Ct.go (args := [.agg #[.int .i64 (m.t.size : Nat), .slice x.q.ca m.t.ch.length x.q.cc, .slice x.q.xa m.t.tx.length x.q.xc, .slice x.q.wa m.t.wi.length x.q.wc, .slice x.q.sa m.t.stack.length x.q.sc, .int .i64 x.q.e0, .int .i64 x.q.e1, .int .i64 x.q.e2, .int .i64 x.q.e3, .int .i64 m.q, .int .i64 m.low, .slice x.la m.line.length x.lc, .slice x.wa m.want.length x.wc, .slice x.va m.lv.length x.vc, .int .i64 m.fr], u]) Tryz.func49 rfl rfl rfl h1 ?_
  repeat' (first | (first | (apply GL.isBox; refine GL.boxA rfl rfl (fun b2 => ?_)) | (apply GL.isAlloc; refine GL.alloc rfl (fun b4 => ?_)) | (refine G.isRegion 3 ?_; refine G.nilOwn 3 encI1 1 ?_; apply G.region)) | first | refine stp ?_ | (refine stpB ?_; intro _) | (refine spl ?_ ?_ <;> intro hc <;> ((try simp only [decide_eq_true_eq, decide_eq_false_iff_not, Bool.not_true, Bool.not_false, ne_eq, Classical.not_not, Int.not_lt, Int.not_le] at hc); (try (exfalso; first | omega | exact hc trivial | exact hc rfl)))))
  all_goals (first | (exfalso; omega) | skip)
  refine G.imp (F' := blk b2 (.cells #[.int .i64 (m.t.size : Nat), .slice x.q.ca m.t.ch.length x.q.cc, .slice x.q.xa m.t.tx.length x.q.xc, .slice x.q.wa m.t.wi.length x.q.wc, .slice x.q.sa m.t.stack.length x.q.sc, .int .i64 x.q.e0, .int .i64 x.q.e1, .int .i64 x.q.e2, .int .i64 x.q.e3, .int .i64 m.q, .int .i64 m.low, .slice x.la m.line.length x.lc, .slice x.wa m.want.length x.wc, .slice x.va m.lv.length x.vc, .int .i64 m.fr] 94 (0, 0)) :: refS (.agg #[.int .i64 (m.t.size : Nat), .slice x.q.ca m.t.ch.length x.q.cc, .slice x.q.xa m.t.tx.length x.q.xc, .slice x.q.wa m.t.wi.length x.q.wc, .slice x.q.sa m.t.stack.length x.q.sc, .int .i64 x.q.e0, .int .i64 x.q.e1, .int .i64 x.q.e2, .int .i64 x.q.e3]) m.t :: rows encI1 1 (.slice x.la m.line.length x.lc) m.line :: owns 3 encI1 1 (.slice none 0 0) ([] : List Int) :: owns 3 encI1 1 (.slice x.wa m.want.length x.wc) m.want :: owns 3 encI1 1 (.slice x.va m.lv.length x.vc) m.lv :: blk b4 (.cells (Value.agg #[.int .i64 0, .slice none 0 0, .slice none 0 0, .slice none 0 0, .slice none 0 0, .int .i64 0, .int .i64 0, .int .i64 0, .int .i64 0, .int .i64 0, .int .i64 0, .slice none 0 0, .slice none 0 0, .slice none 0 0, .int .i64 0]).cells 94 (0, 0)) :: F) ?_ (fun w h => h.sub)
  refine G.loopK [1, 2, 4] (RtS) (fun y => [(8, .int .i64 (y.k : Nat)), (7, y.ov)]) (fun y => blk b2 (.cells #[.int .i64 ((Rc.drain y.k m.t m.line).1.size : Nat), .slice y.q.ca (Rc.drain y.k m.t m.line).1.ch.length y.q.cc, .slice y.q.xa (Rc.drain y.k m.t m.line).1.tx.length y.q.xc, .slice y.q.wa (Rc.drain y.k m.t m.line).1.wi.length y.q.wc, .slice y.q.sa (Rc.drain y.k m.t m.line).1.stack.length y.q.sc, .int .i64 y.q.e0, .int .i64 y.q.e1, .int .i64 y.q.e2, .int .i64 y.q.e3, .int .i64 m.q, .int .i64 m.low, .slice y.la (m.line.drop y.k).length y.lc, .slice x.wa m.want.length x.wc, .slice x.va m.lv.length x.vc, .int .i64 m.fr] 94 (0, 0)) :: refS (.agg #[.int .i64 ((Rc.drain y.k m.t m.line).1.size : Nat), .slice y.q.ca (Rc.drain y.k m.t m.line).1.ch.length y.q.cc, .slice y.q.xa (Rc.drain y.k m.t m.line).1.tx.length y.q.xc, .slice y.q.wa (Rc.drain y.k m.t m.line).1.wi.length y.q.wc, .slice y.q.sa (Rc.drain y.k m.t m.line).1.stack.length y.q.sc, .int .i64 y.q.e0, .int .i64 y.q.e1, .int .i64 y.q.e2, .int .i64 y.q.e3]) (Rc.drain y.k m.t m.line).1 :: rows encI1 1 (.slice y.la (m.line.drop y.k).length y.lc) (m.line.drop y.k) :: owns 3 encI1 1 y.ov (m.line.take y.k) :: owns 3 encI1 1 (.slice x.wa m.want.length x.wc) m.want :: owns 3 encI1 1 (.slice x.va m.lv.length x.vc) m.lv :: blk b4 (.cells (Value.agg #[.int .i64 0, .slice none 0 0, .slice none 0 0, .slice none 0 0, .slice none 0 0, .int .i64 0, .int .i64 0, .int .i64 0, .int .i64 0, .int .i64 0, .int .i64 0, .slice none 0 0, .slice none 0 0, .slice none 0 0, .int .i64 0]).cells 94 (0, 0)) :: F) (fun y => y.k ≤ m.line.length ∧ (y.k : Int) ≤ m.q) (fun y => m.line.length - y.k) (⟨0, x.q, x.la, x.lc, .slice none 0 0⟩) (⟨Nat.zero_le _, by dsimp only; omega⟩) (by repeat (first | exact trivial | refine And.intro rfl ?_)) (fun w h => by (try dsimp only); first | exact h | exact h.sub | ((try simp only [List.take_zero, List.drop_zero, List.map_nil, List.nil_append, List.zipIdx_nil, List.filter_nil]); exact h.sub)) ?_
  rintro ⟨k, q, la, lc, ov⟩ ⟨hk, hkq⟩
  dsimp only at hk hkq ⊢
  obtain ⟨hTI, hTW, hTs, hTl⟩ := Rc.drain_inv k m.t m.line K hO.inv hO.wt
  have hlt : (m.line.take k).length = k := by rw [List.length_take]; omega
  rw [hlt] at hTI
  by_cases hgo : (k : Int) < m.q ∧ k < m.line.length
  · obtain ⟨hk1, hk2⟩ := hgo
    have hsu := Rc.drain_succ k m.t m.line hk2
    have hd := List.drop_eq_getElem_cons hk2
    have ht : m.line.take (k + 1) = m.line.take k ++ [m.line[k]] := List.take_succ_eq_append_getElem hk2
    obtain ⟨i, hi⟩ : ∃ i, i = m.line[k] := ⟨_, rfl⟩
    obtain ⟨T, hT⟩ : ∃ T, T = (Rc.drain k m.t m.line).1 := ⟨_, rfl⟩
    obtain ⟨l', hl'⟩ : ∃ l', l' = m.line.drop (k + 1) := ⟨_, rfl⟩
    obtain ⟨o, ho⟩ : ∃ o, o = m.line.take k := ⟨_, rfl⟩
    have hll : l'.length ≤ 1000000 := by rw [hl', List.length_drop]; omega
    rw [← ho] at hlt
    rw [← hi] at hd ht hsu
    rw [← hl'] at hd
    rw [← ho] at ht
    rw [← hT] at hTI hsu
    rw [← hT, ← ho, hd]
    obtain ⟨T2, hT2⟩ : ∃ T2, T2 = Rc.wipe T i := ⟨_, rfl⟩
    have hW := fun (w : World) (F : List HProp) h' => ref25_wiped (.agg #[.int .i64 (T.size : Nat), .slice q.ca T.ch.length q.cc, .slice q.xa T.tx.length q.xc, .slice q.wa T.wi.length q.wc, .slice q.sa T.stack.length q.sc, .int .i64 q.e0, .int .i64 q.e1, .int .i64 q.e2, .int .i64 q.e3]) T (K + 2 * k) hTI (by omega) i w F h'
    rw [← hT2] at hW hsu
    repeat' (first | (first | (apply GL.isBuildS; refine GL.buildSlice1 rfl rfl rfl rfl rfl (fun bx => ?_)) | (apply GL.isCall; refine GL.append1 (i) rfl rfl rfl rfl (by rfl) (by omega) (by omega) rfl (fun ov2 => ?_)) | (apply GL.isCall; refine GL.callH (rows encI1 1 (.slice la (i :: l').length lc) (i :: l')) (vs := [.slice la (i :: l').length lc]) rfl rfl (fun w h => ref21_TakeR _ i l' hll w _ h) (fun v2 => ?_); refine GL.pure (fun wx hx => ?_); obtain ⟨a2, c2, rfl, _⟩ := (Reads.at_ (v := v2) (enc := encI1) (n := 1) (l := l') wx hx).form; clear hx) | (apply GL.isCall; refine GL.callH (refS (.agg #[.int .i64 (T.size : Nat), .slice q.ca T.ch.length q.cc, .slice q.xa T.tx.length q.xc, .slice q.wa T.wi.length q.wc, .slice q.sa T.stack.length q.sc, .int .i64 q.e0, .int .i64 q.e1, .int .i64 q.e2, .int .i64 q.e3]) T) (vs := [.agg #[.int .i64 (T.size : Nat), .slice q.ca T.ch.length q.cc, .slice q.xa T.tx.length q.xc, .slice q.wa T.wi.length q.wc, .slice q.sa T.stack.length q.sc, .int .i64 q.e0, .int .i64 q.e1, .int .i64 q.e2, .int .i64 q.e3], .int .i64 i]) rfl rfl (fun w h => hW w _ h) (fun v3 => ?_); refine GL.pure (fun wx hx => ?_); obtain ⟨q3, ⟨rfl, hev3⟩, _⟩ := refS.open hx; clear hx)) | first | refine stp ?_ | (refine stpB ?_; intro _) | (refine spl ?_ ?_ <;> intro hc <;> ((try simp only [decide_eq_true_eq, decide_eq_false_iff_not, Bool.not_true, Bool.not_false, ne_eq, Classical.not_not, Int.not_lt, Int.not_le] at hc); (try (exfalso; first | omega | exact hc trivial | exact hc rfl)))))
    all_goals (first | (exfalso; omega) | (exfalso; simp at hc; omega) | skip)
    refine GE.round ⟨k + 1, q3, a2, c2, ov2⟩ ⟨by dsimp only; omega, by dsimp only; omega⟩ (by repeat (first | exact trivial | refine And.intro rfl ?_)) (fun w h => by (try dsimp only); rw [hsu, ht, ← hl']; exact (show holds w (owns 3 encI1 1 ov2 (o ++ [i]) :: blk bx (.cells (Value.int .i64 i).cells 3 (0, 0)) :: blk b2 (.cells #[.int .i64 (T2.size : Nat), .slice q3.ca T2.ch.length q3.cc, .slice q3.xa T2.tx.length q3.xc, .slice q3.wa T2.wi.length q3.wc, .slice q3.sa T2.stack.length q3.sc, .int .i64 q3.e0, .int .i64 q3.e1, .int .i64 q3.e2, .int .i64 q3.e3, .int .i64 m.q, .int .i64 m.low, .slice a2 l'.length c2, .slice x.wa m.want.length x.wc, .slice x.va m.lv.length x.vc, .int .i64 m.fr] 94 (0, 0)) :: refS (.agg #[.int .i64 (T2.size : Nat), .slice q3.ca T2.ch.length q3.cc, .slice q3.xa T2.tx.length q3.xc, .slice q3.wa T2.wi.length q3.wc, .slice q3.sa T2.stack.length q3.sc, .int .i64 q3.e0, .int .i64 q3.e1, .int .i64 q3.e2, .int .i64 q3.e3]) T2 :: rows encI1 1 (.slice a2 l'.length c2) l' :: owns 3 encI1 1 (.slice x.wa m.want.length x.wc) m.want :: owns 3 encI1 1 (.slice x.va m.lv.length x.vc) m.lv :: blk b4 (.cells (Value.agg #[.int .i64 0, .slice none 0 0, .slice none 0 0, .slice none 0 0, .slice none 0 0, .int .i64 0, .int .i64 0, .int .i64 0, .int .i64 0, .int .i64 0, .int .i64 0, .slice none 0 0, .slice none 0 0, .slice none 0 0, .int .i64 0]).cells 94 (0, 0)) :: F) from h).sub) (by (try dsimp only); omega)
  · obtain ⟨L, hL⟩ : ∃ L, L = m.line.take m.q.toNat := ⟨_, rfl⟩
    have hkL : k = L.length := by rw [hL, List.length_take]; omega
    subst hkL
    have hLL : L.length ≤ m.line.length := by rw [hL, List.length_take]; omega
    have e1 : m.line.take L.length = L := by rw [hL, List.length_take, List.take_eq_take_iff]; omega
    have e2 : m.line.drop L.length = m.line.drop m.q.toNat := by rw [hL, List.length_take]; exact Rc.drop_min _ _
    have e3 : (Rc.drain L.length m.t m.line).1 = (Rc.drain m.q.toNat m.t m.line).1 := Rc.drain_len hL
    have hlb := Rc.lev_in hO
    have hlv0 : Rc.lev m = St.cntP (Rc.drain m.q.toNat m.t m.line).1.ch 0 := rfl
    rw [e3] at hTI hTl hTs
    rw [e1, e2, e3, ← hL]
    obtain ⟨t', ht'⟩ : ∃ t', t' = (Rc.drain m.q.toNat m.t m.line).1 := ⟨_, rfl⟩
    obtain ⟨l', hl'⟩ : ∃ l', l' = m.line.drop m.q.toNat := ⟨_, rfl⟩
    have htk : Rc.tick m p = ⟨t', m.q, m.low, l', Tr.ask (Wm.lack m.low (some (Rc.lev m))) p, m.lv ++ [Rc.lev m], m.fr + (L.length : Nat)⟩ := by rw [ht', hl', hL]; rfl
    rw [htk]
    rw [← ht'] at hTI hTl hTs hlv0
    rw [← ht', ← hl']
    obtain ⟨lw, hlw⟩ : ∃ lw, lw = Rc.lev m := ⟨_, rfl⟩
    rw [← hlw] at hlb hlv0 ⊢
    obtain ⟨c1, hc1⟩ : ∃ c1, c1 = St.cntP t'.ch 1 := ⟨_, rfl⟩
    obtain ⟨c2, hc2⟩ : ∃ c2, c2 = St.cntP t'.ch 2 := ⟨_, rfl⟩
    obtain ⟨c3, hc3⟩ : ∃ c3, c3 = St.cntP t'.ch 3 := ⟨_, rfl⟩
    have hM := fun w (F : List HProp) h' => rf19_Many (.agg #[.int .i64 (t'.size : Nat), .slice q.ca t'.ch.length q.cc, .slice q.xa t'.tx.length q.xc, .slice q.wa t'.wi.length q.wc, .slice q.sa t'.stack.length q.sc, .int .i64 q.e0, .int .i64 q.e1, .int .i64 q.e2, .int .i64 q.e3]) t' (K + 2 * L.length) hTI (by omega) w F h'
    rw [← hc1, ← hc2, ← hc3, ← hlv0] at hM
    have hgo2 : ¬ ((L.length : Int) < m.q ∧ 0 < l'.length) := by rw [hl', List.length_drop]; omega
    have hfr := hO.fr
    have hll := hO.ll
    obtain ⟨lk, hlk⟩ : ∃ lk, lk = Wm.lack m.low (some lw) := ⟨_, rfl⟩
    have hlkb : 0 ≤ lk ∧ lk ≤ 1048576 := by rw [hlk]; unfold Wm.lack; have := hO.low; dsimp only; split <;> omega
    have hLk := fun (a : Option Addr) (c : Nat) (w : World) (F : List HProp) (ir : Reads F (.slice a (m.lv ++ [lw]).length c) encI1 1 (m.lv ++ [lw])) h' => ref25_LackR t' q m.q m.low (m.fr + (L.length : Nat)) la x.wa a l'.length lc m.want.length x.wc c (m.lv ++ [lw]) hO.low (fun y hy => by rcases List.mem_append.1 hy with hy | hy; exact hO.lv y hy; simp at hy; subst hy; exact hlb) (by simp; omega) w F h'
    rw [show (m.lv ++ [lw]).getLast? = some lw by simp, ← hlk] at hLk
    obtain ⟨kz, hkz⟩ : ∃ kz : Nat, (64 : Int) - (p.length : Nat) = kz := ⟨64 - p.length, by omega⟩
    have hkz2 : kz = 64 - p.length := by omega
    have hsp : (Tr.spread lk p).length = p.length := Tr.spread_len _ _
    repeat' (first | (first | (refine G.isRegion 5 ?_; apply G.join (11) ([(1, u), (2, .pointer (some ⟨b2, 0, none⟩)), (4, .pointer (some ⟨b4, 0, none⟩)), (7, ov)]); intro K; apply G.region) | (refine G.isRegion 11 ?_; exact (K.sub (by repeat (first | exact trivial | refine And.intro rfl ?_))).imp (fun w h => h.sub)) | (refine G.isRegion 12 ?_; refine G.imp (F' := blk b2 (.cells #[.int .i64 (t'.size : Nat), .slice q.ca t'.ch.length q.cc, .slice q.xa t'.tx.length q.xc, .slice q.wa t'.wi.length q.wc, .slice q.sa t'.stack.length q.sc, .int .i64 q.e0, .int .i64 q.e1, .int .i64 q.e2, .int .i64 q.e3, .int .i64 m.q, .int .i64 m.low, .slice la l'.length lc, .slice x.wa m.want.length x.wc, .slice x.va m.lv.length x.vc, .int .i64 (m.fr + (L.length : Nat))] 94 (0, 0)) :: refS (.agg #[.int .i64 (t'.size : Nat), .slice q.ca t'.ch.length q.cc, .slice q.xa t'.tx.length q.xc, .slice q.wa t'.wi.length q.wc, .slice q.sa t'.stack.length q.sc, .int .i64 q.e0, .int .i64 q.e1, .int .i64 q.e2, .int .i64 q.e3]) t' :: rows encI1 1 (.slice la l'.length lc) l' :: owns 3 encI1 1 ov L :: owns 3 encI1 1 (.slice x.wa m.want.length x.wc) m.want :: owns 3 encI1 1 (.slice x.va m.lv.length x.vc) m.lv :: blk b4 (.cells (Value.agg #[.int .i64 0, .slice none 0 0, .slice none 0 0, .slice none 0 0, .slice none 0 0, .int .i64 0, .int .i64 0, .int .i64 0, .int .i64 0, .int .i64 0, .int .i64 0, .slice none 0 0, .slice none 0 0, .slice none 0 0, .int .i64 0]).cells 94 (0, 0)) :: F) ?_ (fun w h => by exact h); refine G.drawW [⟨none, [], some 11, none, fun _ => True, fun _ => blk b2 (.cells #[.int .i64 (t'.size : Nat), .slice q.ca t'.ch.length q.cc, .slice q.xa t'.tx.length q.xc, .slice q.wa t'.wi.length q.wc, .slice q.sa t'.stack.length q.sc, .int .i64 q.e0, .int .i64 q.e1, .int .i64 q.e2, .int .i64 q.e3, .int .i64 m.q, .int .i64 m.low, .slice la l'.length lc, .slice x.wa m.want.length x.wc, .slice x.va m.lv.length x.vc, .int .i64 (m.fr + (L.length : Nat))] 94 (0, 0))⟩, ⟨some 0, [], some 3, some 52, IsSlc, fun u => owns 3 encI1 1 u []⟩, ⟨some 3, [1], some 9, some 55, IsSlc, fun u => owns 3 encI1 1 u m.lv⟩, ⟨some 6, [], none, some 58, fun u => u = .agg #[.int .i64 lw, .int .i64 c1, .int .i64 c2, .int .i64 c3], fun _ _ => True⟩, ⟨some 8, [], some 9, some 60, IsSlc, fun u => owns 3 encI1 1 u [lw]⟩, ⟨some 9, [2, 4], none, some 61, IsSlc, fun u => owns 3 encI1 1 u (m.lv ++ [lw])⟩, ⟨some 11, [0], none, some 61, fun _ => True, fun u => blk b2 (.cells #[.int .i64 (t'.size : Nat), .slice q.ca t'.ch.length q.cc, .slice q.xa t'.tx.length q.xc, .slice q.wa t'.wi.length q.wc, .slice q.sa t'.stack.length q.sc, .int .i64 q.e0, .int .i64 q.e1, .int .i64 q.e2, .int .i64 q.e3, .int .i64 m.q, .int .i64 m.low, .slice la l'.length lc, .slice x.wa m.want.length x.wc, u, .int .i64 (m.fr + (L.length : Nat))] 94 (0, 0))⟩] [(2, [0]), (5, [0])] [0] [3, 5, 6] (by kernel_rfl) (by kernel_rfl) rfl ⟨⟨_, rfl, .inl rfl⟩, trivial⟩ ?_) | (apply GW.isAny; first | refine GW.runA rfl rfl ?_ | refine GW.seeA rfl rfl ⟨⟨_, rfl, .inl rfl⟩, trivial⟩ rfl ?_) | (apply GW.isAny; refine GW.eff rfl rfl rfl rfl rfl trivial rfl trivial (fun u hu => hu.defd) (DoesW.build0 encI1 1) rfl (fun u hu => ?_); obtain ⟨a6, k6, c6, rfl⟩ := hu) | (apply GW.isAny; refine GW.eff rfl rfl rfl rfl rfl ⟨⟨_, rfl, .inr (.inr ⟨_, _, rfl, rfl, rfl⟩)⟩, trivial⟩ rfl trivial (fun u hu => hu.defd) (DoesW.appendR (ys := m.lv) rfl rfl rfl rfl rfl (by simp only [List.length_nil]; omega) (by simp only [List.length_nil]; omega)) rfl (fun u hu => ?_); obtain ⟨a7, k7, d7, rfl⟩ := hu) | (apply GW.isAny; refine GW.eff rfl rfl rfl rfl rfl trivial rfl trivial (fun u hu => by subst hu; rfl) (DoesW.callKX (refS (.agg #[.int .i64 (t'.size : Nat), .slice q.ca t'.ch.length q.cc, .slice q.xa t'.tx.length q.xc, .slice q.wa t'.wi.length q.wc, .slice q.sa t'.stack.length q.sc, .int .i64 q.e0, .int .i64 q.e1, .int .i64 q.e2, .int .i64 q.e3]) t') (vs := [.agg #[.int .i64 (t'.size : Nat), .slice q.ca t'.ch.length q.cc, .slice q.xa t'.tx.length q.xc, .slice q.wa t'.wi.length q.wc, .slice q.sa t'.stack.length q.sc, .int .i64 q.e0, .int .i64 q.e1, .int .i64 q.e2, .int .i64 q.e3]]) rfl (fun w G h => hM w _ h)) rfl (fun u hu => ?_); subst hu) | (apply GW.isAny; refine GW.eff rfl rfl rfl rfl rfl trivial rfl trivial (fun u hu => hu.defd) (DoesW.buildOne lw rfl (by omega) rfl rfl) rfl (fun u hu => ?_); obtain ⟨a8, k8, d8, rfl⟩ := hu) | (apply GW.isAny; refine GW.eff rfl rfl rfl rfl rfl ⟨⟨_, rfl, .inr (.inr ⟨_, _, rfl, rfl, rfl⟩)⟩, ⟨_, rfl, .inr (.inr ⟨_, _, rfl, rfl, rfl⟩)⟩, trivial⟩ rfl trivial (fun u hu => hu.defd) (DoesW.append rfl rfl rfl (by simp; omega) (by simp; omega)) rfl (fun u hu => ?_); obtain ⟨a9, k9, d9, rfl⟩ := hu) | (apply GW.isAny; refine GW.storeOn (v7 := .slice a9 k9 d9) rfl rfl rfl rfl rfl rfl rfl ⟨⟨_, rfl, .inl rfl⟩, trivial⟩ rfl trivial rfl (DoesW.storeBlk (R := fun _ => True) rfl rfl rfl rfl rfl rfl) ?_) | (refine GW.nilE rfl ⟨⟨_, rfl, .inr (.inr ⟨_, _, rfl, rfl, rfl⟩)⟩, ⟨_, rfl, .inr (.inr ⟨_, _, rfl, rfl, rfl⟩)⟩, ⟨_, rfl, .inr (.inr ⟨_, _, rfl, rfl, rfl⟩)⟩, trivial⟩ ?_; dsimp only [List.cons_append, List.nil_append]) | (refine G.isRegion 13 ?_; refine G.pure (fun wx hx => ?_); obtain ⟨_, _, e9, _⟩ := (Reads.at_ (v := .slice a9 k9 d9) (enc := encI1) (n := 1) (l := m.lv ++ [lw]) wx hx).form; cases e9; clear hx; apply G.region) | (apply GL.isAny; refine GL.build0 encI1 1 rfl (fun u0 _ => ?_)) | (apply GL.isCall; refine GL.call1 (vs := [.agg #[.int .i64 (t'.size : Nat), .slice q.ca t'.ch.length q.cc, .slice q.xa t'.tx.length q.xc, .slice q.wa t'.wi.length q.wc, .slice q.sa t'.stack.length q.sc, .int .i64 q.e0, .int .i64 q.e1, .int .i64 q.e2, .int .i64 q.e3, .int .i64 m.q, .int .i64 m.low, .slice la l'.length lc, .slice x.wa m.want.length x.wc, .slice a9 (m.lv ++ [lw]).length d9, .int .i64 (m.fr + (L.length : Nat))]]) rfl rfl (fun w h => hLk a9 d9 w _ inferInstance h) ?_) | (apply GL.isCall; refine GL.call rfl rfl (fun w h => ref24_Spread lk hlkb u p hp w _ h) (fun u1 => ?_)) | (apply GL.isCall; refine GL.appendAny (ys := Tr.spread lk p) rfl rfl rfl rfl rfl rfl (by simp only [List.length_nil]; omega) (by simp only [List.length_nil]; omega) rfl (fun r1 _ => ?_); rw [List.nil_append]) | (rw [hkz]) | (apply GL.isCall; refine GL.appendZ (0 : Int) kz rfl rfl rfl rfl rfl rfl (by omega) (by omega) rfl (fun r2 _ => ?_); refine GL.pure (fun wx hx => ?_); obtain ⟨r2a, r2c, rfl, _⟩ := (Reads.at_ (v := r2) (enc := encI1) (n := 1) (l := Tr.spread lk p ++ List.replicate kz 0) wx hx).form; clear hx)) | first | refine stp ?_ | (refine stpB ?_; intro _) | (refine spl ?_ ?_ <;> intro hc <;> ((try simp only [decide_eq_true_eq, decide_eq_false_iff_not, Bool.not_true, Bool.not_false, ne_eq, Classical.not_not, Int.not_lt, Int.not_le] at hc); (try (exfalso; first | omega | exact hc trivial | exact hc rfl)))))
    all_goals (first | (exfalso; omega) | skip)
    all_goals
      refine GE.resMany rfl (by (repeat (first | apply Res.nil | (apply Res.tmp; rfl) | (refine Res.cellA rfl rfl rfl ?_) | (refine Res.cell1 rfl rfl ?_)))) (fun w h => ?_)
      refine ⟨(.agg #[.int .i64 (t'.size : Nat), .slice q.ca t'.ch.length q.cc, .slice q.xa t'.tx.length q.xc, .slice q.wa t'.wi.length q.wc, .slice q.sa t'.stack.length q.sc, .int .i64 q.e0, .int .i64 q.e1, .int .i64 q.e2, .int .i64 q.e3, .int .i64 m.q, .int .i64 m.low, .slice la l'.length lc, .slice r2a (Tr.spread lk p ++ List.replicate kz 0).length r2c, .slice a9 (m.lv ++ [lw]).length d9, .int .i64 (m.fr + (L.length : Nat))], ov), rfl, ?_⟩
      have h2 : holds w (refS (.agg #[.int .i64 (t'.size : Nat), .slice q.ca t'.ch.length q.cc, .slice q.xa t'.tx.length q.xc, .slice q.wa t'.wi.length q.wc, .slice q.sa t'.stack.length q.sc, .int .i64 q.e0, .int .i64 q.e1, .int .i64 q.e2, .int .i64 q.e3]) t' :: rows encI1 1 (.slice la l'.length lc) l' :: owns 3 encI1 1 (.slice r2a (Tr.spread lk p ++ List.replicate kz 0).length r2c) (Tr.spread lk p ++ List.replicate kz 0) :: owns 3 encI1 1 (.slice a9 (m.lv ++ [lw]).length d9) (m.lv ++ [lw]) :: owns 3 encI1 1 ov L :: F) := h.sub
      have h3 := refR.shut (m := ⟨t', m.q, m.low, l', Tr.ask lk p, m.lv ++ [lw], m.fr + (L.length : Nat)⟩) ⟨q, la, lc, r2a, r2c, a9, d9⟩ (F := owns 3 encI1 1 ov L :: F) (w := w) (by unfold Tr.ask; rw [← hkz2]; exact h2)
      rw [show Tr.ask lk p = Tr.spread lk p ++ List.replicate kz 0 by unfold Tr.ask; rw [← hkz2]] at h3
      dsimp only
      rw [← hlk, show Tr.ask lk p = Tr.spread lk p ++ List.replicate kz 0 by unfold Tr.ask; rw [← hkz2]]
      exact h3.sub
end Go.Proofs.YtipkgamiejenaaaGreat

/- The law StorePlays of chapter 19. -/
namespace Go.Proofs.YtipkgamiejenaaaGreat
open Go Go.RowKit Go.MapKept
set_option linter.unusedVariables false
set_option linter.unusedSectionVars false
set_option linter.unusedSimpArgs false
set_option maxRecDepth 100000
set_option maxHeartbeats 4000000
structure PlS where
  i : Nat
  t : St.S
  q : RfM
def tup0 : Value → Value
  | .tuple t => t.getD 0 undef
  | v => v
def ActR (t : St.S) (u : Value) : Prop := ∃ q : RfM, u = .tuple #[.agg #[.int .i64 ((t).size : Nat), .slice (q).ca (t).ch.length (q).cc, .slice (q).xa (t).tx.length (q).xc, .slice (q).wa (t).wi.length (q).wc, .slice (q).sa (t).stack.length (q).sc, .int .i64 (q).e0, .int .i64 (q).e1, .int .i64 (q).e2, .int .i64 (q).e3], .bool true]
theorem ActR.defd {t : St.S} {u : Value} (h : ActR t u) : isUndef u = false := by obtain ⟨q, rfl⟩ := h; rfl
def actP (sb : Nat) (t : St.S) (u : Value) : HProp := sep [storeP sb t, refS (tup0 u) t]
def actQ (sb : Nat) (t : St.S) (b : Nat) : HProp := fun f => ∃ q : RfM, sep [blk b (.cells #[.int .i64 ((t).size : Nat), .slice (q).ca (t).ch.length (q).cc, .slice (q).xa (t).tx.length (q).xc, .slice (q).wa (t).wi.length (q).wc, .slice (q).sa (t).stack.length (q).sc, .int .i64 (q).e0, .int .i64 (q).e1, .int .i64 (q).e2, .int .i64 (q).e3] 34 (0, 0)), storeP sb t, refS (.agg #[.int .i64 ((t).size : Nat), .slice (q).ca (t).ch.length (q).cc, .slice (q).xa (t).tx.length (q).xc, .slice (q).wa (t).wi.length (q).wc, .slice (q).sa (t).stack.length (q).sc, .int .i64 (q).e0, .int .i64 (q).e1, .int .i64 (q).e2, .int .i64 (q).e3]) t] f
theorem St.Inv.act {t : St.S} {K : Nat} (h : St.Inv t K) (a : ActM) : St.Inv (St.act t a) (K + 1) := by
  unfold St.act
  split; exact h.take _
  split; exact h.give _ _
  split; exact h.start _
  split; exact h.step _ _
  split; exact h.mono (by omega)
  exact h.put _ _ _ _
theorem actQ.shut {w : World} {sb b : Nat} {t : St.S} {q : RfM} {G : List HProp} (h : holds w (blk b (.cells #[.int .i64 ((t).size : Nat), .slice (q).ca (t).ch.length (q).cc, .slice (q).xa (t).tx.length (q).xc, .slice (q).wa (t).wi.length (q).wc, .slice (q).sa (t).stack.length (q).sc, .int .i64 (q).e0, .int .i64 (q).e1, .int .i64 (q).e2, .int .i64 (q).e3] 34 (0, 0)) :: ([actP sb t (.tuple #[.agg #[.int .i64 ((t).size : Nat), .slice (q).ca (t).ch.length (q).cc, .slice (q).xa (t).tx.length (q).xc, .slice (q).wa (t).wi.length (q).wc, .slice (q).sa (t).stack.length (q).sc, .int .i64 (q).e0, .int .i64 (q).e1, .int .i64 (q).e2, .int .i64 (q).e3], .bool true])] ++ G))) : holds w (actQ sb t b :: G) := by
  have h2 : holds w (storeP sb t :: refS (.agg #[.int .i64 ((t).size : Nat), .slice (q).ca (t).ch.length (q).cc, .slice (q).xa (t).tx.length (q).xc, .slice (q).wa (t).wi.length (q).wc, .slice (q).sa (t).stack.length (q).sc, .int .i64 (q).e0, .int .i64 (q).e1, .int .i64 (q).e2, .int .i64 (q).e3]) t :: blk b (.cells #[.int .i64 ((t).size : Nat), .slice (q).ca (t).ch.length (q).cc, .slice (q).xa (t).tx.length (q).xc, .slice (q).wa (t).wi.length (q).wc, .slice (q).sa (t).stack.length (q).sc, .int .i64 (q).e0, .int .i64 (q).e1, .int .i64 (q).e2, .int .i64 (q).e3] 34 (0, 0)) :: G) := holds_sep.1 (show holds w (sep [storeP sb t, refS (.agg #[.int .i64 ((t).size : Nat), .slice (q).ca (t).ch.length (q).cc, .slice (q).xa (t).tx.length (q).xc, .slice (q).wa (t).wi.length (q).wc, .slice (q).sa (t).stack.length (q).sc, .int .i64 (q).e0, .int .i64 (q).e1, .int .i64 (q).e2, .int .i64 (q).e3]) t] :: blk b (.cells #[.int .i64 ((t).size : Nat), .slice (q).ca (t).ch.length (q).cc, .slice (q).xa (t).tx.length (q).xc, .slice (q).wa (t).wi.length (q).wc, .slice (q).sa (t).stack.length (q).sc, .int .i64 (q).e0, .int .i64 (q).e1, .int .i64 (q).e2, .int .i64 (q).e3] 34 (0, 0)) :: G) from (show holds w (blk b (.cells #[.int .i64 ((t).size : Nat), .slice (q).ca (t).ch.length (q).cc, .slice (q).xa (t).tx.length (q).xc, .slice (q).wa (t).wi.length (q).wc, .slice (q).sa (t).stack.length (q).sc, .int .i64 (q).e0, .int .i64 (q).e1, .int .i64 (q).e2, .int .i64 (q).e3] 34 (0, 0)) :: sep [storeP sb t, refS (.agg #[.int .i64 ((t).size : Nat), .slice (q).ca (t).ch.length (q).cc, .slice (q).xa (t).tx.length (q).xc, .slice (q).wa (t).wi.length (q).wc, .slice (q).sa (t).stack.length (q).sc, .int .i64 (q).e0, .int .i64 (q).e1, .int .i64 (q).e2, .int .i64 (q).e3]) t] :: G) from h).order [1, 0])
  exact (holds_sep.2 (show holds w ([blk b (.cells #[.int .i64 ((t).size : Nat), .slice (q).ca (t).ch.length (q).cc, .slice (q).xa (t).tx.length (q).xc, .slice (q).wa (t).wi.length (q).wc, .slice (q).sa (t).stack.length (q).sc, .int .i64 (q).e0, .int .i64 (q).e1, .int .i64 (q).e2, .int .i64 (q).e3] 34 (0, 0)), storeP sb t, refS (.agg #[.int .i64 ((t).size : Nat), .slice (q).ca (t).ch.length (q).cc, .slice (q).xa (t).tx.length (q).xc, .slice (q).wa (t).wi.length (q).wc, .slice (q).sa (t).stack.length (q).sc, .int .i64 (q).e0, .int .i64 (q).e1, .int .i64 (q).e2, .int .i64 (q).e3]) t] ++ G) from h2.order [2, 0, 1])).mono fun f hf => ⟨q, hf⟩
theorem actQ.open {w : World} {sb b : Nat} {t : St.S} {G : List HProp} (h : holds w (actQ sb t b :: G)) : ∃ q : RfM, holds w (blk b (.cells #[.int .i64 ((t).size : Nat), .slice (q).ca (t).ch.length (q).cc, .slice (q).xa (t).tx.length (q).xc, .slice (q).wa (t).wi.length (q).wc, .slice (q).sa (t).stack.length (q).sc, .int .i64 (q).e0, .int .i64 (q).e1, .int .i64 (q).e2, .int .i64 (q).e3] 34 (0, 0)) :: storeP sb t :: refS (.agg #[.int .i64 ((t).size : Nat), .slice (q).ca (t).ch.length (q).cc, .slice (q).xa (t).tx.length (q).xc, .slice (q).wa (t).wi.length (q).wc, .slice (q).sa (t).stack.length (q).sc, .int .i64 (q).e0, .int .i64 (q).e1, .int .i64 (q).e2, .int .i64 (q).e3]) t :: G) := by
  obtain ⟨q, h⟩ := holds.open_ex h
  exact ⟨q, holds_sep.1 h⟩
theorem refS.open2 {w : World} {q : RfM} {t : St.S} {F : List HProp} (h : holds w (refS (.agg #[.int .i64 ((t).size : Nat), .slice (q).ca (t).ch.length (q).cc, .slice (q).xa (t).tx.length (q).xc, .slice (q).wa (t).wi.length (q).wc, .slice (q).sa (t).stack.length (q).sc, .int .i64 (q).e0, .int .i64 (q).e1, .int .i64 (q).e2, .int .i64 (q).e3]) t :: F)) : t.ev = [q.e0, q.e1, q.e2, q.e3] ∧ holds w (owns 84 encCk 3 (.slice q.ca t.ch.length q.cc) t.ch :: owns 9 encTx 1 (.slice q.xa t.tx.length q.xc) t.tx :: owns 3 encI1 1 (.slice q.wa t.wi.length q.wc) t.wi :: owns 3 encI1 1 (.slice q.sa t.stack.length q.sc) t.stack :: F) := by
  obtain ⟨q', ⟨e, hev⟩, h1⟩ := refS.open h
  obtain ⟨a1, a2, a3, a4, a5, a6, a7, a8, a9, a10, a11, a12⟩ := q
  obtain ⟨c1, c2, c3, c4, c5, c6, c7, c8, c9, c10, c11, c12⟩ := q'
  simp only [Value.agg.injEq, Array.mk.injEq, List.cons.injEq, Value.slice.injEq, Value.int.injEq, true_and, and_true] at e
  obtain ⟨⟨rfl, rfl⟩, ⟨rfl, rfl⟩, ⟨rfl, rfl⟩, ⟨rfl, rfl⟩, rfl, rfl, rfl, rfl⟩ := e
  exact ⟨hev, h1⟩
theorem st_IntsR (v u : Value) (l : List Int) (hn : l.length ≤ 1048576) (w : World) (F : List HProp) [Reads F v encI1 1 l] [Reads F u encI1 1 l] (hw : holds w F) :
    Ct Tryz.prog 20 #[v, u] w fun e w' => e = .returned (.bool true) ∧ holds w' F :=
  (st_Ints v u l l hn hn w F hw).mono fun e w' ⟨he, hh⟩ => ⟨by rw [he, decide_eq_true rfl], hh⟩
theorem same_ref (u : Value) (q : RfM) (t : St.S) (hn : t.ch.length ≤ 1048576) (w : World) (F : List HProp) [Reads F u encCk 3 t.ch] (hw : holds w (refS (.agg #[.int .i64 ((t).size : Nat), .slice (q).ca (t).ch.length (q).cc, .slice (q).xa (t).tx.length (q).xc, .slice (q).wa (t).wi.length (q).wc, .slice (q).sa (t).stack.length (q).sc, .int .i64 (q).e0, .int .i64 (q).e1, .int .i64 (q).e2, .int .i64 (q).e3]) t :: F)) :
    Ct Tryz.prog 19 #[u, .slice q.ca t.ch.length q.cc] w fun e w' => e = .returned (.bool true) ∧ holds w' (refS (.agg #[.int .i64 ((t).size : Nat), .slice (q).ca (t).ch.length (q).cc, .slice (q).xa (t).tx.length (q).xc, .slice (q).wa (t).wi.length (q).wc, .slice (q).sa (t).stack.length (q).sc, .int .i64 (q).e0, .int .i64 (q).e1, .int .i64 (q).e2, .int .i64 (q).e3]) t :: F) := by
  obtain ⟨hev, h1⟩ := refS.open2 hw
  exact (base_SameChunks u (.slice q.ca t.ch.length q.cc) t.ch t.ch (by omega) (by omega) w _ h1).mono fun e w' ⟨he, hh⟩ => ⟨by rw [he, decide_eq_true rfl], refS.shut hev hh⟩
end Go.Proofs.YtipkgamiejenaaaGreat
