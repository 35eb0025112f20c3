import Derived.Test.YtipkgamiejenaaaGreatMg19

import Derived.Test.YtipkgamiejenaaaGreatMg15
import Derived.Test.YtipkgamiejenaaaGreatMg7
import Derived.Test.YtipkgamiejenaaaGreatMg17
/- Reference 19: Is, Stale, Defer. -/
namespace Go.Proofs.YtipkgamiejenaaaGreat
open Go Go.RowKit Go.MapKept
set_option linter.unusedVariables false
set_option linter.unusedSectionVars false
set_option linter.unusedSimpArgs false
set_option maxRecDepth 100000
set_option maxHeartbeats 4000000
theorem rf17_TakeN' (v : Value) (l : List Int) (hl : l = []) (w : World) (F : List HProp) (hw : holds w (owns 3 encI1 1 v l :: F)) :
    Ct Tryz.prog 93 #[v] w fun e w' => e = .returned (.tuple #[v, .int .i64 0, .bool false]) ∧ holds w' (owns 3 encI1 1 v l :: F) := by
  subst hl; exact rf17_TakeN v w F hw
theorem rf17_TakeY' (v : Value) (l l1 : List Int) (y : Int) (hl : l1 ++ [y] = l) (hb : l.length ≤ 1048576) (w : World) (F : List HProp) (hw : holds w (owns 3 encI1 1 v l :: F)) :
    Ct Tryz.prog 93 #[v] w fun e w' => ∃ r : Option Addr × Nat, e = .returned (.tuple #[.slice r.1 l1.length r.2, .int .i64 y, .bool true]) ∧ holds w' (owns 3 encI1 1 (.slice r.1 l1.length r.2) l1 :: F) := by
  subst hl; exact rf17_TakeY v l1 y (by rw [List.length_append] at hb; omega) w F hw
theorem St.Inv.stk {t : St.S} {K : Nat} (h : St.Inv t K) : t.stack.length ≤ t.ch.length :=
  Stk.nodup_len _ _ h.nodup fun x hx => by obtain ⟨i, hi, rfl, _⟩ := (h.free x).1 hx; omega
theorem St.Inv.ev4 {t : St.S} {K : Nat} (h : St.Inv t K) (hK : K ≤ 1000000) {q : RfM} (he : t.ev = [q.e0, q.e1, q.e2, q.e3]) : (0 ≤ q.e0 ∧ q.e0 ≤ 1000000) ∧ (0 ≤ q.e1 ∧ q.e1 ≤ 1000000) ∧ (0 ≤ q.e2 ∧ q.e2 ≤ 1000000) ∧ (0 ≤ q.e3 ∧ q.e3 ≤ 1000000) := by
  have := h.ev
  rw [he] at this
  have a0 := this q.e0 (by simp)
  have a1 := this q.e1 (by simp)
  have a2 := this q.e2 (by simp)
  have a3 := this q.e3 (by simp)
  omega
theorem rf19_Is (sz : Int) (ca xa wa sa : Option Addr) (cn cc xn xc wn wc sn sc : Nat) (e0 e1 e2 e3 : Int) (i : Int) (w : World) (F : List HProp) (hw : holds w F) :
    Ct Tryz.prog 76 #[.agg #[.int .i64 sz, .slice ca cn cc, .slice xa xn xc, .slice wa wn wc, .slice sa sn sc, .int .i64 e0, .int .i64 e1, .int .i64 e2, .int .i64 e3], .int .i64 i] w fun e w' => e = .returned (.bool (decide (0 ≤ i ∧ i < (cn : Int)))) ∧ holds w' F := by
  refine Ct.go (args := [.agg #[.int .i64 sz, .slice ca cn cc, .slice xa xn xc, .slice wa wn wc, .slice sa sn sc, .int .i64 e0, .int .i64 e1, .int .i64 e2, .int .i64 e3], .int .i64 i]) Tryz.func76 rfl rfl rfl hw ?_
  by_cases h0 : 0 ≤ i
  · have hd : decide (0 ≤ i ∧ i < (cn : Int)) = decide (i < (cn : Int)) := decide_eq_decide.2 ⟨fun h => h.2, fun h => ⟨h0, h⟩⟩
    rw [hd]
    repeat' (first | ((apply GL.isAny; refine GL.run (Runs.lenLit rfl) rfl ?_)) | first | refine stp ?_ | (refine stpB ?_; intro _) | (refine spl ?_ ?_ <;> intro hc <;> ((try simp only [decide_eq_true_eq, decide_eq_false_iff_not, Bool.not_true, Bool.not_false, ne_eq, Classical.not_not, Int.not_lt, Int.not_le] at hc); (try (exfalso; first | omega | exact hc trivial | exact hc rfl)))))
    all_goals (refine GE.resOne rfl (by (repeat (first | apply Res.nil | (apply Res.tmp; rfl) | (refine Res.cellA rfl rfl rfl ?_) | (refine Res.cell1 rfl rfl ?_)))) (fun w h => ?_); exact ⟨rfl, h.sub⟩)
  · rw [decide_eq_false (fun h => h0 h.1)]
    repeat' (first | refine stp ?_ | (refine stpB ?_; intro _) | (refine spl ?_ ?_ <;> intro hc <;> ((try simp only [decide_eq_true_eq, decide_eq_false_iff_not, Bool.not_true, Bool.not_false, ne_eq, Classical.not_not, Int.not_lt, Int.not_le] at hc); (try (exfalso; first | omega | exact hc trivial | exact hc rfl)))))
    all_goals (refine GE.resOne rfl (by (repeat (first | apply Res.nil | (apply Res.tmp; rfl) | (refine Res.cellA rfl rfl rfl ?_) | (refine Res.cell1 rfl rfl ?_)))) (fun w h => ?_); exact ⟨rfl, h.sub⟩)
section
variable (v : Value) (t : St.S) (K : Nat) (hI : St.Inv t K) (hK : K ≤ 1000000)
include hI hK
theorem rf19_Defer (i ow : Int) (w : World) (F : List HProp) (hw : holds w (refS v t :: F)) :
    Ct Tryz.prog 36 #[v, .int .i64 i, .int .i64 ow] w fun e w' => ∃ v', e = .returned (.tuple #[v', .int .i64 (St.give t i ow).2]) ∧ holds w' (refS v' (St.give t i ow).1 :: F) := by
  obtain ⟨q, ⟨rfl, hev⟩, h1⟩ := refS.open hw
  have hnc := hI.ncap
  obtain ⟨b0, b1, b2, b3⟩ := hI.ev4 hK hev
  unfold St.give
  refine Ct.go (args := [.agg #[.int .i64 (t.size : Nat), .slice q.ca t.ch.length q.cc, .slice q.xa t.tx.length q.xc, .slice q.wa t.wi.length q.wc, .slice q.sa t.stack.length q.sc, .int .i64 q.e0, .int .i64 q.e1, .int .i64 q.e2, .int .i64 q.e3], .int .i64 i, .int .i64 ow]) Tryz.func36 rfl rfl rfl h1 ?_
  by_cases ho : t.out i
  · rw [if_pos ho]
    have hd : decide (0 ≤ i ∧ i < (t.ch.length : Int)) = false := decide_eq_false (by unfold St.S.out at ho; omega)
    repeat' (first | (first | (apply GL.isCall; refine GL.call1 rfl rfl (fun w h => rf19_Is (t.size : Nat) q.ca q.xa q.wa q.sa t.ch.length q.cc t.tx.length q.xc t.wi.length q.wc t.stack.length q.sc q.e0 q.e1 q.e2 q.e3 i w _ h) ?_) | (rw [hd])) | first | refine stp ?_ | (refine stpB ?_; intro _) | (refine spl ?_ ?_ <;> intro hc <;> ((try simp only [decide_eq_true_eq, decide_eq_false_iff_not, Bool.not_true, Bool.not_false, ne_eq, Classical.not_not, Int.not_lt, Int.not_le] at hc); (try (exfalso; first | omega | exact hc trivial | exact hc rfl)))))
    all_goals (first | (exfalso; simp at hc; done) | skip)
    all_goals (refine GE.resMany rfl (by (repeat (first | apply Res.nil | (apply Res.tmp; rfl) | (refine Res.cellA rfl rfl rfl ?_) | (refine Res.cell1 rfl rfl ?_)))) (fun w h => ?_); exact ⟨_, rfl, refS.shut hev h.sub⟩)
  rw [if_neg ho]
  obtain ⟨k, rfl, hk⟩ := St.out_ex ho
  have hd : decide (0 ≤ (k : Int) ∧ (k : Int) < (t.ch.length : Int)) = true := decide_eq_true (by omega)
  rw [t.c_eq k hk]
  by_cases hp : (t.ch[k]).phase ≠ 1 ∨ (t.ch[k]).owner ≠ ow
  · rw [if_pos hp]
    repeat' (first | (first | (apply GL.isCall; refine GL.call1 rfl rfl (fun w h => rf19_Is (t.size : Nat) q.ca q.xa q.wa q.sa t.ch.length q.cc t.tx.length q.xc t.wi.length q.wc t.stack.length q.sc q.e0 q.e1 q.e2 q.e3 (k : Int) w _ h) ?_) | (rw [hd])) | first | refine stp ?_ | (refine stpB ?_; intro _) | (refine spl ?_ ?_ <;> intro hc <;> ((try simp only [decide_eq_true_eq, decide_eq_false_iff_not, Bool.not_true, Bool.not_false, ne_eq, Classical.not_not, Int.not_lt, Int.not_le] at hc); (try (exfalso; first | omega | exact hc trivial | exact hc rfl)))))
    all_goals (first | (exfalso; simp at hc; done) | (exfalso; omega) | skip)
    all_goals (refine GE.resMany rfl (by (repeat (first | apply Res.nil | (apply Res.tmp; rfl) | (refine Res.cellA rfl rfl rfl ?_) | (refine Res.cell1 rfl rfl ?_)))) (fun w h => ?_); exact ⟨_, rfl, refS.shut hev h.sub⟩)
  · rw [if_neg hp]
    repeat' (first | (first | (apply GL.isCall; refine GL.call1 rfl rfl (fun w h => rf19_Is (t.size : Nat) q.ca q.xa q.wa q.sa t.ch.length q.cc t.tx.length q.xc t.wi.length q.wc t.stack.length q.sc q.e0 q.e1 q.e2 q.e3 (k : Int) w _ h) ?_) | (rw [hd]) | (refine G.isRegion 5 ?_; refine G.drawTail 9 (by kernel_rfl) (by simp only [List.take_succ_cons, List.take_zero]; rfl) (by simp only [List.drop_succ_cons, List.drop_zero]; rfl) (by kernel_rfl) ?_) | (apply GL.isCall; refine GL.callH (owns 84 encCk 3 (.slice q.ca t.ch.length q.cc) t.ch) (vs := [.agg #[.int .i64 (t.size : Nat), .slice q.ca t.ch.length q.cc, .slice q.xa t.tx.length q.xc, .slice q.wa t.wi.length q.wc, .slice q.sa t.stack.length q.sc, .int .i64 q.e0, .int .i64 q.e1, .int .i64 q.e2, .int .i64 q.e3], .int .i64 k, .agg (encCk ⟨2, 0, (t.ch[k]).gen⟩).toArray, .int .i64 1]) rfl rfl (fun w h => rf19_with1 (t.size : Nat) q.ca q.xa q.wa q.sa q.cc t.tx.length q.xc t.wi.length q.wc t.stack.length q.sc q.e0 q.e1 q.e2 q.e3 b1 t.ch hnc k hk ⟨2, 0, (t.ch[k]).gen⟩ w _ h) (fun r2 => ?_))) | first | refine stp ?_ | (refine stpB ?_; intro _) | (refine spl ?_ ?_ <;> intro hc <;> ((try simp only [decide_eq_true_eq, decide_eq_false_iff_not, Bool.not_true, Bool.not_false, ne_eq, Classical.not_not, Int.not_lt, Int.not_le] at hc); (try (exfalso; first | omega | exact hc trivial | exact hc rfl)))))
    all_goals (first | (exfalso; simp at hc; done) | (exfalso; omega) | skip)
    all_goals (refine GE.resMany rfl (by (repeat (first | apply Res.nil | (apply Res.tmp; rfl) | (refine Res.cellA rfl rfl rfl ?_) | (refine Res.cell1 rfl rfl ?_)))) (fun w h => ?_); exact ⟨_, rfl, refS.shut (t := { t with ch := t.ch.set k ⟨2, 0, (t.ch[k]).gen⟩, ev := St.up t.ev 1 }) (by rw [hev]; rfl) h.sub⟩)
end
end Go.Proofs.YtipkgamiejenaaaGreat

/- Reference 19: Begin, Load, Put. -/
namespace Go.Proofs.YtipkgamiejenaaaGreat
open Go Go.RowKit Go.MapKept
set_option linter.unusedVariables false
set_option linter.unusedSectionVars false
set_option linter.unusedSimpArgs false
set_option maxRecDepth 100000
set_option maxHeartbeats 4000000
section
variable (v : Value) (t : St.S) (K : Nat) (hI : St.Inv t K) (hK : K ≤ 1000000)
include hI hK
theorem rf19_Begin (i : Int) (w : World) (F : List HProp) (hw : holds w (refS v t :: F)) :
    Ct Tryz.prog 71 #[v, .int .i64 i] w fun e w' => ∃ v', e = .returned (.tuple #[v', .int .i64 (St.start t i).2]) ∧ holds w' (refS v' (St.start t i).1 :: F) := by
  obtain ⟨q, ⟨rfl, hev⟩, h1⟩ := refS.open hw
  have hnc := hI.ncap
  have hn2 := hI.n2
  obtain ⟨b0, b1, b2, b3⟩ := hI.ev4 hK hev
  unfold St.start
  refine Ct.go (args := [.agg #[.int .i64 (t.size : Nat), .slice q.ca t.ch.length q.cc, .slice q.xa t.tx.length q.xc, .slice q.wa t.wi.length q.wc, .slice q.sa t.stack.length q.sc, .int .i64 q.e0, .int .i64 q.e1, .int .i64 q.e2, .int .i64 q.e3], .int .i64 i]) Tryz.func71 rfl rfl rfl h1 ?_
  by_cases ho : t.out i
  · rw [if_pos ho]
    have hd : decide (0 ≤ i ∧ i < (t.ch.length : Int)) = false := decide_eq_false (by unfold St.S.out at ho; omega)
    repeat' (first | (first | (apply GL.isCall; refine GL.call1 rfl rfl (fun w h => rf19_Is (t.size : Nat) q.ca q.xa q.wa q.sa t.ch.length q.cc t.tx.length q.xc t.wi.length q.wc t.stack.length q.sc q.e0 q.e1 q.e2 q.e3 i w _ h) ?_) | (rw [hd])) | first | refine stp ?_ | (refine stpB ?_; intro _) | (refine spl ?_ ?_ <;> intro hc <;> ((try simp only [decide_eq_true_eq, decide_eq_false_iff_not, Bool.not_true, Bool.not_false, ne_eq, Classical.not_not, Int.not_lt, Int.not_le] at hc); (try (exfalso; first | omega | exact hc trivial | exact hc rfl)))))
    all_goals (first | (exfalso; simp at hc; done) | skip)
    all_goals (refine GE.resMany rfl (by (repeat (first | apply Res.nil | (apply Res.tmp; rfl) | (refine Res.cellA rfl rfl rfl ?_) | (refine Res.cell1 rfl rfl ?_)))) (fun w h => ?_); exact ⟨_, rfl, refS.shut hev h.sub⟩)
  rw [if_neg ho]
  obtain ⟨k, rfl, hk⟩ := St.out_ex ho
  have hd : decide (0 ≤ (k : Int) ∧ (k : Int) < (t.ch.length : Int)) = true := decide_eq_true (by omega)
  rw [t.c_eq k hk]
  by_cases hp : (t.ch[k]).phase ≠ 2
  · rw [if_pos hp]
    repeat' (first | (first | (apply GL.isCall; refine GL.call1 rfl rfl (fun w h => rf19_Is (t.size : Nat) q.ca q.xa q.wa q.sa t.ch.length q.cc t.tx.length q.xc t.wi.length q.wc t.stack.length q.sc q.e0 q.e1 q.e2 q.e3 (k : Int) w _ h) ?_) | (rw [hd])) | first | refine stp ?_ | (refine stpB ?_; intro _) | (refine spl ?_ ?_ <;> intro hc <;> ((try simp only [decide_eq_true_eq, decide_eq_false_iff_not, Bool.not_true, Bool.not_false, ne_eq, Classical.not_not, Int.not_lt, Int.not_le] at hc); (try (exfalso; first | omega | exact hc trivial | exact hc rfl)))))
    all_goals (first | (exfalso; simp at hc; done) | (exfalso; omega) | skip)
    all_goals (refine GE.resMany rfl (by (repeat (first | apply Res.nil | (apply Res.tmp; rfl) | (refine Res.cellA rfl rfl rfl ?_) | (refine Res.cell1 rfl rfl ?_)))) (fun w h => ?_); exact ⟨_, rfl, refS.shut hev h.sub⟩)
  · rw [if_neg hp]
    repeat' (first | (first | (apply GL.isCall; refine GL.call1 rfl rfl (fun w h => rf19_Is (t.size : Nat) q.ca q.xa q.wa q.sa t.ch.length q.cc t.tx.length q.xc t.wi.length q.wc t.stack.length q.sc q.e0 q.e1 q.e2 q.e3 (k : Int) w _ h) ?_) | (rw [hd]) | (apply GL.isAny; refine GL.build0 encI1 1 rfl (fun u0 _ => ?_)) | (apply GL.isCall; refine GL.appendAny rfl rfl rfl rfl rfl rfl (by simp only [List.length_nil]; omega) (by simp only [List.length_nil]; omega) rfl (fun r _ => ?_); rw [List.nil_append]; refine GL.pure (fun wx hx => ?_); obtain ⟨ra, rc, rfl, _⟩ := (Reads.at_ (v := r) (enc := encI1) (n := 1) (l := t.wi) wx hx).form) | (apply GL.isStore; refine GL.setElem (i := k) (0 : Int) rfl rfl (by kernel_rfl) (by omega) rfl ?_) | (refine G.isRegion 7 ?_; refine G.drawTail 9 (by kernel_rfl) (by simp only [List.take_succ_cons, List.take_zero]; rfl) (by simp only [List.drop_succ_cons, List.drop_zero]; rfl) (by kernel_rfl) ?_) | (apply GL.isCall; refine GL.callH (owns 84 encCk 3 (.slice q.ca t.ch.length q.cc) t.ch) (vs := [.agg #[.int .i64 (t.size : Nat), .slice q.ca t.ch.length q.cc, .slice q.xa t.tx.length q.xc, .slice ra t.wi.length rc, .slice q.sa t.stack.length q.sc, .int .i64 q.e0, .int .i64 q.e1, .int .i64 q.e2, .int .i64 q.e3], .int .i64 k, .agg (encCk ⟨3, 0, (t.ch[k]).gen⟩).toArray, .int .i64 2]) rfl rfl (fun w h => rf19_with2 (t.size : Nat) q.ca q.xa ra q.sa q.cc t.tx.length q.xc t.wi.length rc t.stack.length q.sc q.e0 q.e1 q.e2 q.e3 b2 t.ch hnc k hk ⟨3, 0, (t.ch[k]).gen⟩ w _ h) (fun r2 => ?_))) | first | refine stp ?_ | (refine stpB ?_; intro _) | (refine spl ?_ ?_ <;> intro hc <;> ((try simp only [decide_eq_true_eq, decide_eq_false_iff_not, Bool.not_true, Bool.not_false, ne_eq, Classical.not_not, Int.not_lt, Int.not_le] at hc); (try (exfalso; first | omega | exact hc trivial | exact hc rfl)))))
    all_goals (first | (exfalso; simp at hc; done) | (exfalso; omega) | skip)
    all_goals (refine GE.resMany rfl (by (repeat (first | apply Res.nil | (apply Res.tmp; rfl) | (refine Res.cellA rfl rfl rfl ?_) | (refine Res.cell1 rfl rfl ?_)))) (fun w h => ?_); exact ⟨_, rfl, refS.shut (t := { t with wi := t.wi.set k 0, ch := t.ch.set k ⟨3, 0, (t.ch[k]).gen⟩, ev := St.up t.ev 2 }) (by rw [hev]; rfl) h.sub⟩)
end
end Go.Proofs.YtipkgamiejenaaaGreat

/- Reference 19: Put, Step. -/
namespace Go.Proofs.YtipkgamiejenaaaGreat
open Go Go.RowKit Go.MapKept
set_option linter.unusedVariables false
set_option linter.unusedSectionVars false
set_option linter.unusedSimpArgs false
set_option maxRecDepth 100000
set_option maxHeartbeats 4000000
section
variable (v : Value) (t : St.S) (K : Nat) (hI : St.Inv t K) (hK : K ≤ 1000000)
include hI hK
end
end Go.Proofs.YtipkgamiejenaaaGreat

/- Reference 19: Many. -/
namespace Go.Proofs.YtipkgamiejenaaaGreat
open Go Go.RowKit Go.MapKept
set_option linter.unusedVariables false
set_option linter.unusedSectionVars false
set_option linter.unusedSimpArgs false
set_option maxRecDepth 100000
set_option maxHeartbeats 4000000
theorem St.cntP_snoc (l : List ChunkM) (k : Nat) (hk : k < l.length) (p : Int) : St.cntP (l.take (k + 1)) p = St.cntP (l.take k) p + (if (l[k]).phase = p then 1 else 0) := by
  unfold St.cntP
  rw [List.take_succ_eq_append_getElem hk, List.filter_append, List.length_append]
  by_cases h : (l[k]).phase = p
  · rw [if_pos h]; simp [h]
  · rw [if_neg h]; simp [h]
theorem St.cntP_bd (l : List ChunkM) (p : Int) : 0 ≤ St.cntP l p ∧ St.cntP l p ≤ l.length := by
  unfold St.cntP
  have := List.length_filter_le (fun c : ChunkM => c.phase == p) l
  omega
section
variable (v : Value) (t : St.S) (K : Nat) (hI : St.Inv t K) (hK : K ≤ 1000000)
include hI hK
theorem rf19_Many (w : World) (F : List HProp) (hw : holds w (refS v t :: F)) :
    Ct Tryz.prog 16 #[v] w fun e w' => e = .returned (.agg #[.int .i64 (St.cntP (t.ch) 0), .int .i64 (St.cntP (t.ch) 1), .int .i64 (St.cntP (t.ch) 2), .int .i64 (St.cntP (t.ch) 3)]) ∧ holds w' (refS v t :: F) := by
  obtain ⟨q, ⟨rfl, hev⟩, h1⟩ := refS.open hw
  have hnc := hI.ncap
  refine Ct.go (args := [.agg #[.int .i64 (t.size : Nat), .slice q.ca t.ch.length q.cc, .slice q.xa t.tx.length q.xc, .slice q.wa t.wi.length q.wc, .slice q.sa t.stack.length q.sc, .int .i64 q.e0, .int .i64 q.e1, .int .i64 q.e2, .int .i64 q.e3]]) Tryz.func16 rfl rfl rfl h1 ?_
  repeat' (first | (first | (refine G.isRegion 1 ?_; apply G.region; apply GL.isAlloc; refine GL.alloc rfl (fun b3 => ?_)) | (apply GL.isAlloc; refine GL.alloc rfl (fun b2 => ?_)) | (apply GL.isBox; refine GL.boxA (cs := #[.int .i64 (t.size : Nat), .slice q.ca t.ch.length q.cc, .slice q.xa t.tx.length q.xc, .slice q.wa t.wi.length q.wc, .slice q.sa t.stack.length q.sc, .int .i64 q.e0, .int .i64 q.e1, .int .i64 q.e2, .int .i64 q.e3]) rfl rfl (fun b1 => ?_))) | first | refine stp ?_ | (refine stpB ?_; intro _) | (refine spl ?_ ?_ <;> intro hc <;> ((try simp only [decide_eq_true_eq, decide_eq_false_iff_not, Bool.not_true, Bool.not_false, ne_eq, Classical.not_not, Int.not_lt, Int.not_le] at hc); (try (exfalso; first | omega | exact hc trivial | exact hc rfl)))))
  refine G.loopK [1, 2, 3] (Nat) (fun k => [(4, .int .i64 k)]) (fun k => blk b3 (.cells #[.int .i64 (St.cntP (t.ch.take k) 0), .int .i64 (St.cntP (t.ch.take k) 1), .int .i64 (St.cntP (t.ch.take k) 2), .int .i64 (St.cntP (t.ch.take k) 3)] 32 (0, 0)) :: blk b2 (.cells #[.int .i64 0, .int .i64 0, .int .i64 0, .int .i64 0] 32 (0, 0)) :: blk b1 (.cells #[.int .i64 (t.size : Nat), .slice q.ca t.ch.length q.cc, .slice q.xa t.tx.length q.xc, .slice q.wa t.wi.length q.wc, .slice q.sa t.stack.length q.sc, .int .i64 q.e0, .int .i64 q.e1, .int .i64 q.e2, .int .i64 q.e3] 34 (0, 0)) :: owns 84 encCk 3 (.slice q.ca t.ch.length q.cc) t.ch :: owns 9 encTx 1 (.slice q.xa t.tx.length q.xc) t.tx :: owns 3 encI1 1 (.slice q.wa t.wi.length q.wc) t.wi :: owns 3 encI1 1 (.slice q.sa t.stack.length q.sc) t.stack :: F) (fun k => k ≤ t.ch.length) (fun k => t.ch.length - k) (0) (Nat.zero_le _) (by repeat (first | exact trivial | refine And.intro rfl ?_)) (fun w h => by (try dsimp only); first | exact h | exact h.sub | ((try simp only [List.take_zero, List.drop_zero, List.map_nil, List.nil_append, List.zipIdx_nil, List.filter_nil]); exact h.sub)) ?_
  intro k hk
  by_cases hlt : k < t.ch.length
  · have hph := (hI.cell k hlt).ph
    have hs := St.cntP_snoc t.ch k hlt
    have c0 := St.cntP_bd (t.ch.take k) 0
    have c1 := St.cntP_bd (t.ch.take k) 1
    have c2 := St.cntP_bd (t.ch.take k) 2
    have c3 := St.cntP_bd (t.ch.take k) 3
    have hl : (t.ch.take k).length = k := by rw [List.length_take]; omega
    rw [hl] at c0 c1 c2 c3
    have e0 := hs 0
    have e1 := hs 1
    have e2 := hs 2
    have e3 := hs 3
    have hc4 : (t.ch[k]).phase = 0 ∨ (t.ch[k]).phase = 1 ∨ (t.ch[k]).phase = 2 ∨ (t.ch[k]).phase = 3 := by omega
    rcases hc4 with hp | hp | hp | hp
    all_goals rw [hp] at e0 e1 e2 e3
    all_goals simp only [Int.reduceEq, if_true, if_false, Int.add_zero] at e0 e1 e2 e3
    all_goals (repeat' (first | (first | (apply GL.isAny; refine GL.run (Runs.lenLit rfl) rfl ?_) | (rw [hp])) | first | refine stp ?_ | (refine stpB ?_; intro _) | (refine spl ?_ ?_ <;> intro hc <;> ((try simp only [decide_eq_true_eq, decide_eq_false_iff_not, Bool.not_true, Bool.not_false, ne_eq, Classical.not_not, Int.not_lt, Int.not_le] at hc); (try (exfalso; first | omega | exact hc trivial | exact hc rfl))))))
    all_goals (first | (exfalso; omega) | skip)
    all_goals (first | refine GE.imp (F' := blk b3 (.cells #[.int .i64 (St.cntP (t.ch.take k) 0 + 1), .int .i64 (St.cntP (t.ch.take k) 1), .int .i64 (St.cntP (t.ch.take k) 2), .int .i64 (St.cntP (t.ch.take k) 3)] 32 (0, 0)) :: blk b2 (.cells #[.int .i64 0, .int .i64 0, .int .i64 0, .int .i64 0] 32 (0, 0)) :: blk b1 (.cells #[.int .i64 (t.size : Nat), .slice q.ca t.ch.length q.cc, .slice q.xa t.tx.length q.xc, .slice q.wa t.wi.length q.wc, .slice q.sa t.stack.length q.sc, .int .i64 q.e0, .int .i64 q.e1, .int .i64 q.e2, .int .i64 q.e3] 34 (0, 0)) :: owns 84 encCk 3 (.slice q.ca t.ch.length q.cc) t.ch :: owns 9 encTx 1 (.slice q.xa t.tx.length q.xc) t.tx :: owns 3 encI1 1 (.slice q.wa t.wi.length q.wc) t.wi :: owns 3 encI1 1 (.slice q.sa t.stack.length q.sc) t.stack :: F) ?_ (fun w h => h) | refine GE.imp (F' := blk b3 (.cells #[.int .i64 (St.cntP (t.ch.take k) 0), .int .i64 (St.cntP (t.ch.take k) 1 + 1), .int .i64 (St.cntP (t.ch.take k) 2), .int .i64 (St.cntP (t.ch.take k) 3)] 32 (0, 0)) :: blk b2 (.cells #[.int .i64 0, .int .i64 0, .int .i64 0, .int .i64 0] 32 (0, 0)) :: blk b1 (.cells #[.int .i64 (t.size : Nat), .slice q.ca t.ch.length q.cc, .slice q.xa t.tx.length q.xc, .slice q.wa t.wi.length q.wc, .slice q.sa t.stack.length q.sc, .int .i64 q.e0, .int .i64 q.e1, .int .i64 q.e2, .int .i64 q.e3] 34 (0, 0)) :: owns 84 encCk 3 (.slice q.ca t.ch.length q.cc) t.ch :: owns 9 encTx 1 (.slice q.xa t.tx.length q.xc) t.tx :: owns 3 encI1 1 (.slice q.wa t.wi.length q.wc) t.wi :: owns 3 encI1 1 (.slice q.sa t.stack.length q.sc) t.stack :: F) ?_ (fun w h => h) | refine GE.imp (F' := blk b3 (.cells #[.int .i64 (St.cntP (t.ch.take k) 0), .int .i64 (St.cntP (t.ch.take k) 1), .int .i64 (St.cntP (t.ch.take k) 2 + 1), .int .i64 (St.cntP (t.ch.take k) 3)] 32 (0, 0)) :: blk b2 (.cells #[.int .i64 0, .int .i64 0, .int .i64 0, .int .i64 0] 32 (0, 0)) :: blk b1 (.cells #[.int .i64 (t.size : Nat), .slice q.ca t.ch.length q.cc, .slice q.xa t.tx.length q.xc, .slice q.wa t.wi.length q.wc, .slice q.sa t.stack.length q.sc, .int .i64 q.e0, .int .i64 q.e1, .int .i64 q.e2, .int .i64 q.e3] 34 (0, 0)) :: owns 84 encCk 3 (.slice q.ca t.ch.length q.cc) t.ch :: owns 9 encTx 1 (.slice q.xa t.tx.length q.xc) t.tx :: owns 3 encI1 1 (.slice q.wa t.wi.length q.wc) t.wi :: owns 3 encI1 1 (.slice q.sa t.stack.length q.sc) t.stack :: F) ?_ (fun w h => h) | refine GE.imp (F' := blk b3 (.cells #[.int .i64 (St.cntP (t.ch.take k) 0), .int .i64 (St.cntP (t.ch.take k) 1), .int .i64 (St.cntP (t.ch.take k) 2), .int .i64 (St.cntP (t.ch.take k) 3 + 1)] 32 (0, 0)) :: blk b2 (.cells #[.int .i64 0, .int .i64 0, .int .i64 0, .int .i64 0] 32 (0, 0)) :: blk b1 (.cells #[.int .i64 (t.size : Nat), .slice q.ca t.ch.length q.cc, .slice q.xa t.tx.length q.xc, .slice q.wa t.wi.length q.wc, .slice q.sa t.stack.length q.sc, .int .i64 q.e0, .int .i64 q.e1, .int .i64 q.e2, .int .i64 q.e3] 34 (0, 0)) :: owns 84 encCk 3 (.slice q.ca t.ch.length q.cc) t.ch :: owns 9 encTx 1 (.slice q.xa t.tx.length q.xc) t.tx :: owns 3 encI1 1 (.slice q.wa t.wi.length q.wc) t.wi :: owns 3 encI1 1 (.slice q.sa t.stack.length q.sc) t.stack :: F) ?_ (fun w h => h))
    all_goals (refine GE.round (k + 1) hlt (by repeat (first | exact trivial | refine And.intro rfl ?_)) (fun w h => by (try dsimp only); rw [e0, e1, e2, e3]; exact h.sub) (by (try dsimp only); omega))
  · obtain rfl : k = t.ch.length := by omega
    rw [List.take_length]
    repeat' (first | ((apply GL.isAny; refine GL.run (Runs.lenLit rfl) rfl ?_)) | first | refine stp ?_ | (refine stpB ?_; intro _) | (refine spl ?_ ?_ <;> intro hc <;> ((try simp only [decide_eq_true_eq, decide_eq_false_iff_not, Bool.not_true, Bool.not_false, ne_eq, Classical.not_not, Int.not_lt, Int.not_le] at hc); (try (exfalso; first | omega | exact hc trivial | exact hc rfl)))))
    all_goals (first | (exfalso; omega) | skip)
    all_goals (refine GE.resOne rfl (by (repeat (first | apply Res.nil | (apply Res.tmp; rfl) | (refine Res.cellA rfl rfl rfl ?_) | (refine Res.cell1 rfl rfl ?_)))) (fun w h => ?_); exact ⟨rfl, refS.shut hev h.sub⟩)
end
end Go.Proofs.YtipkgamiejenaaaGreat

/- Reference 17: New. -/
namespace Go.Proofs.YtipkgamiejenaaaGreat
open Go Go.RowKit Go.MapKept
set_option linter.unusedVariables false
set_option linter.unusedSectionVars false
set_option linter.unusedSimpArgs false
set_option maxRecDepth 100000
set_option maxHeartbeats 4000000
def dn (n : Nat) : List Int := ((List.range n).reverse).map (Nat.cast : Nat → Int)
theorem dn_len (n : Nat) : (dn n).length = n := by simp [dn]
theorem dn_at (n k : Nat) (h : k < (dn n).length) : (dn n)[k] = ((n - 1 - k : Nat) : Int) := by
  have := dn_len n
  simp [dn, List.getElem_reverse]
theorem rf17_New (n : Nat) (hn : n ≤ 1048576) (w : World) (F : List HProp) (hw : holds w F) :
    Ct Tryz.prog 69 #[.int .i64 (n : Nat)] w fun e w' => ∃ v, e = .returned v ∧ holds w' (owns 3 encI1 1 v (dn n) :: F) := by
  refine Ct.go (args := [.int .i64 (n : Nat)]) Tryz.func69 rfl rfl rfl hw ?_
  repeat' (first | refine stp ?_ | (refine stpB ?_; intro _) | (refine spl ?_ ?_ <;> intro hc <;> ((try simp only [decide_eq_true_eq, decide_eq_false_iff_not, Bool.not_true, Bool.not_false, ne_eq, Classical.not_not, Int.not_lt, Int.not_le] at hc); (try (exfalso; first | omega | exact hc trivial | exact hc rfl)))))
  refine G.nilOwn 3 encI1 1 ?_
  refine G.loopK [0] (Int × Value × List Int) (fun y => [(4, .int .i64 y.1), (3, y.2.1)]) (fun y => owns 3 encI1 1 y.2.1 y.2.2 :: F) (fun y => -1 ≤ y.1 ∧ y.1 < n ∧ y.2.2 = (dn n).take (n - 1 - y.1 : Int).toNat) (fun y => (y.1 + 1).toNat) (((n : Int) - 1, .slice none 0 0, [])) (⟨by omega, by omega, by rw [show ((n : Int) - 1 - (n - 1)).toNat = 0 by omega]; rfl⟩) (by repeat (first | exact trivial | refine And.intro rfl ?_)) (fun w h => by (try dsimp only); first | exact h | exact h.sub | ((try simp only [List.take_zero, List.drop_zero, List.map_nil, List.nil_append, List.zipIdx_nil, List.filter_nil]); exact h.sub)) ?_
  rintro ⟨j, cv, cl⟩ ⟨h1, h2, h3⟩
  dsimp only at h1 h2 h3 ⊢
  have hln := dn_len n
  have hcl : cl.length ≤ 1048576 := by rw [h3, List.length_take]; omega
  by_cases hj : 0 ≤ j
  · repeat' (first | ((apply GL.isCall; refine GL.append1 (j) rfl rfl rfl rfl (by rfl) (by omega) (by omega) rfl (fun _ => ?_))) | first | refine stp ?_ | (refine stpB ?_; intro _) | (refine spl ?_ ?_ <;> intro hc <;> ((try simp only [decide_eq_true_eq, decide_eq_false_iff_not, Bool.not_true, Bool.not_false, ne_eq, Classical.not_not, Int.not_lt, Int.not_le] at hc); (try (exfalso; first | omega | exact hc trivial | exact hc rfl)))))
    all_goals (first | (exfalso; omega) | skip)
    rename_i cv2
    have hs : cl ++ [j] = (dn n).take (n - 1 - (j - 1) : Int).toNat := by
      rw [show ((n : Int) - 1 - (j - 1)).toNat = (n - 1 - j : Int).toNat + 1 by omega, List.take_succ_eq_append_getElem (by omega), ← h3, dn_at]
      congr 2; omega
    refine GE.round ((j - 1, cv2, cl ++ [j])) (⟨by dsimp only; omega, by dsimp only; omega, hs⟩) (by repeat (first | exact trivial | refine And.intro rfl ?_)) (fun w h => by (try dsimp only); exact h.sub) (by (try dsimp only); omega)
  · have hs : cl = dn n := by rw [h3, List.take_of_length_le (by omega)]
    repeat' (first | refine stp ?_ | (refine stpB ?_; intro _) | (refine spl ?_ ?_ <;> intro hc <;> ((try simp only [decide_eq_true_eq, decide_eq_false_iff_not, Bool.not_true, Bool.not_false, ne_eq, Classical.not_not, Int.not_lt, Int.not_le] at hc); (try (exfalso; first | omega | exact hc trivial | exact hc rfl)))))
    all_goals (first | (exfalso; omega) | skip)
    refine GE.resOne rfl (by (repeat (first | apply Res.nil | (apply Res.tmp; rfl) | (refine Res.cellA rfl rfl rfl ?_) | (refine Res.cell1 rfl rfl ?_)))) (fun w h => ?_)
    exact ⟨_, rfl, by rw [← hs]; exact h.sub⟩
end Go.Proofs.YtipkgamiejenaaaGreat

/- Reference 19: Owned. -/
namespace Go.Proofs.YtipkgamiejenaaaGreat
open Go Go.RowKit Go.MapKept
set_option linter.unusedVariables false
set_option linter.unusedSectionVars false
set_option linter.unusedSimpArgs false
set_option maxRecDepth 100000
set_option maxHeartbeats 4000000
section
variable (v : Value) (t : St.S) (K : Nat) (hI : St.Inv t K) (hK : K ≤ 1000000)
include hI hK
end
end Go.Proofs.YtipkgamiejenaaaGreat

/- Reference 19: Make. -/
namespace Go.Proofs.YtipkgamiejenaaaGreat
open Go Go.RowKit Go.MapKept
set_option linter.unusedVariables false
set_option linter.unusedSectionVars false
set_option linter.unusedSimpArgs false
set_option maxRecDepth 100000
set_option maxHeartbeats 4000000
theorem holds.cast1 {w : World} {A B : HProp} {F : List HProp} (e : A = B) (h : holds w (A :: F)) : holds w (B :: F) := e ▸ h
structure RfK where
  k : Nat
  ca : Option Addr
  cc : Nat
  xa : Option Addr
  xc : Nat
  wa : Option Addr
  wc : Nat
theorem rf19_Make (n sz : Nat) (h0 : 0 < n) (hn : n ≤ 1048576) (hs0 : 64 ≤ sz) (hs1 : sz ≤ 256) (hp : Pw.pow sz = true) (w : World) (F : List HProp) (hw : holds w F) :
    Ct Tryz.prog 12 #[.int .i64 (n : Nat), .int .i64 (sz : Nat)] w fun e w' => ∃ v : Value, e = .returned (.tuple #[v, .int .i64 0]) ∧ holds w' (refS v (St.new n sz) :: F) := by
  refine Ct.go (args := [.int .i64 (n : Nat), .int .i64 (sz : Nat)]) Tryz.func12 rfl rfl rfl hw ?_
  have hP := fun w (F : List HProp) h => ref01_Power sz (by omega) (by omega) w F h
  rw [hp] at hP
  have hdl := dn_len n
  repeat' (first | (first | first | (apply GL.isCall; refine GL.call1 rfl rfl (fun w h => hP w _ h) ?_) | (apply GD.isAny; refine GD.call rfl rfl (fun w F' h => hP w _ h) ?_) | (refine G.isRegion 0 ?_; apply G.region; apply GL.isAlloc; refine GL.alloc (e := 34) rfl (fun br => ?_)) | (apply GL.isAlloc; first | (refine GL.alloc (e := 34) rfl (fun bz => ?_))) | (apply GL.isCall; refine GL.call rfl rfl (fun w h => rf17_New n hn w _ h) (fun sv => ?_); refine GL.pure (fun wx hx => ?_); obtain ⟨sa, sc, rfl, _⟩ := (Reads.at_ (v := sv) (enc := encI1) (n := 1) (l := dn n) wx hx).form; clear hx)) | first | refine stp ?_ | (refine stpB ?_; intro _) | (refine spl ?_ ?_ <;> intro hc <;> ((try simp only [decide_eq_true_eq, decide_eq_false_iff_not, Bool.not_true, Bool.not_false, ne_eq, Classical.not_not, Int.not_lt, Int.not_le] at hc); (try (exfalso; first | omega | exact hc trivial | exact hc rfl)))))
  all_goals (first | (exfalso; omega) | (exfalso; simp at hc; done) | skip)
  refine G.nilOwn 84 encCk 3 ?_
  refine G.nilOwn 9 encTx 1 ?_
  refine G.nilOwn 3 encI1 1 ?_
  refine G.loopK [0, 1, 4, 6] (RfK) (fun y => [(7, .int .i64 (y.k : Nat))]) (fun y => owns 3 encI1 1 (.slice y.wa (List.replicate (y.k) (0 : Int)).length y.wc) (List.replicate (y.k) (0 : Int)) :: owns 9 encTx 1 (.slice y.xa (List.replicate (y.k) (St.zeros sz)).length y.xc) (List.replicate (y.k) (St.zeros sz)) :: owns 84 encCk 3 (.slice y.ca (List.replicate (y.k) St.ch0).length y.cc) (List.replicate (y.k) St.ch0) :: blk bz (.cells #[.int .i64 (sz : Nat), .slice y.ca (List.replicate (y.k) St.ch0).length y.cc, .slice y.xa (List.replicate (y.k) (St.zeros sz)).length y.xc, .slice y.wa (List.replicate (y.k) (0 : Int)).length y.wc, .slice sa (dn n).length sc, .int .i64 0, .int .i64 0, .int .i64 0, .int .i64 0] 34 (0, 0)) :: owns 3 encI1 1 (.slice sa (dn n).length sc) (dn n) :: blk br (.cells #[.int .i64 0, .slice none 0 0, .slice none 0 0, .slice none 0 0, .slice none 0 0, .int .i64 0, .int .i64 0, .int .i64 0, .int .i64 0] 34 (0, 0)) :: F) (fun y => y.k ≤ n) (fun y => n - y.k) (⟨0, none, 0, none, 0, none, 0⟩) (Nat.zero_le _) (by repeat (first | exact trivial | refine And.intro rfl ?_)) (fun w h => by (try dsimp only); first | exact h | exact h.sub | ((try simp only [List.take_zero, List.drop_zero, List.map_nil, List.nil_append, List.zipIdx_nil, List.filter_nil]); exact h.sub)) ?_
  rintro ⟨k, ca, cc, xa, xc, wa, wc⟩ hk
  dsimp only at hk ⊢
  have l1 : (List.replicate (k) St.ch0).length = k := List.length_replicate ..
  have l2 : (List.replicate (k) (St.zeros sz)).length = k := List.length_replicate ..
  have l3 : (List.replicate (k) (0 : Int)).length = k := List.length_replicate ..
  by_cases hlt : k < n
  · repeat' (first | (first | (apply GL.isCall; refine GL.append1 (St.ch0) rfl rfl rfl rfl (by rfl) (by omega) (by omega) rfl (fun r => ?_); refine GL.pure (fun wx hx => ?_); obtain ⟨ya, yc, rfl, _⟩ := (Reads.at_ (v := r) (enc := encCk) (n := 3) (l := List.replicate (k) St.ch0 ++ [St.ch0]) wx hx).form; clear hx) | (apply GL.isCall; refine GL.append1 ((0 : Int)) rfl rfl rfl rfl (by rfl) (by omega) (by omega) rfl (fun r => ?_); refine GL.pure (fun wx hx => ?_); obtain ⟨ua, uc, rfl, _⟩ := (Reads.at_ (v := r) (enc := encI1) (n := 1) (l := List.replicate (k) (0 : Int) ++ [(0 : Int)]) wx hx).form; clear hx) | (refine G.isRegion 8 ?_; refine G.drawW [⟨none, [], some 5, none, fun _ => True, fun _ => owns 9 encTx 1 (.slice xa (List.replicate (k) (St.zeros sz)).length xc) (List.replicate (k) (St.zeros sz))⟩, ⟨some 3, [], none, some 46, fun u => u = .string (bs (St.zeros sz)), fun _ _ => True⟩, ⟨some 4, [], some 5, some 47, IsSlc, fun u => owns 9 encTx 1 u [St.zeros sz]⟩, ⟨some 5, [0, 2], none, some 48, IsSlc, fun u => owns 9 encTx 1 u (List.replicate (k) (St.zeros sz) ++ [St.zeros sz])⟩, ⟨none, [], some 7, none, fun _ => True, fun _ => blk bz (.cells (#[.int .i64 (sz : Nat), .slice ca (List.replicate (k) St.ch0).length cc, .slice xa (List.replicate (k) (St.zeros sz)).length xc, .slice wa (List.replicate (k) (0 : Int)).length wc, .slice sa (dn n).length sc, .int .i64 0, .int .i64 0, .int .i64 0, .int .i64 0].toList.set (0 + 1) (.slice ya (List.replicate (k) St.ch0 ++ [St.ch0]).length yc)).toArray 34 (0, 0))⟩, ⟨some 7, [4], none, some 48, fun _ => True, fun u => blk bz (.cells #[.int .i64 (sz : Nat), .slice ya (List.replicate (k) St.ch0 ++ [St.ch0]).length yc, u, .slice wa (List.replicate (k) (0 : Int)).length wc, .slice sa (dn n).length sc, .int .i64 0, .int .i64 0, .int .i64 0, .int .i64 0] 34 (0, 0))⟩] [(1, [4])] [0, 4] [1, 3, 5] (by kernel_rfl) (by kernel_rfl) rfl ⟨⟨_, rfl, .inl rfl⟩, ⟨_, rfl, .inl rfl⟩, trivial⟩ ?_) | (apply GW.isAny; first | refine GW.runA rfl rfl ?_ | refine GW.seeA rfl rfl ⟨⟨_, rfl, .inl rfl⟩, trivial⟩ rfl ?_) | (apply GW.isAny; refine GW.see (L := [blk bz (.cells (#[.int .i64 (sz : Nat), .slice ca (List.replicate (k) St.ch0).length cc, .slice xa (List.replicate (k) (St.zeros sz)).length xc, .slice wa (List.replicate (k) (0 : Int)).length wc, .slice sa (dn n).length sc, .int .i64 0, .int .i64 0, .int .i64 0, .int .i64 0].toList.set (0 + 1) (.slice ya (List.replicate (k) St.ch0 ++ [St.ch0]).length yc)).toArray 34 (0, 0))]) rfl rfl ⟨⟨_, rfl, .inl rfl⟩, trivial⟩ (by show Runs _ _ _ (_ :: _) _ _; first | (apply Runs.isMove; exact Runs.move rfl) | (apply Runs.isLoad; first | exact Runs.loadBlk rfl rfl | exact Runs.loadRow rfl (by first | omega | decide) rfl | exact Runs.loadRow0 rfl (by first | omega | decide) rfl | exact Runs.loadElem rfl (by first | omega | decide) | exact Runs.loadWhole rfl rfl | exact Runs.loadBlkA rfl rfl rfl) | (apply Runs.isFieldA; exact Runs.fieldAddr rfl) | (apply Runs.isBin; first | (apply Runs.eql <;> rfl) | (apply Runs.lss <;> rfl) | (apply Runs.neq <;> rfl) | (apply Runs.leq <;> rfl) | (apply Runs.gtr <;> rfl) | (apply Runs.geq <;> rfl) | exact Runs.add rfl rfl (by omega) | exact Runs.sub rfl rfl (by omega) | exact Runs.mul rfl rfl (by omega) | exact Runs.quo rfl rfl (by omega) | exact Runs.rem rfl rfl (by omega) | exact Runs.shr rfl rfl | exact Runs.shl rfl rfl (by omega) | exact Runs.and20 rfl rfl | exact Runs.shrU rfl rfl | exact Runs.eqlPtrNil rfl | exact Runs.neqPtrNil rfl | exact Runs.eqlMapNil rfl | exact Runs.neqMapNil rfl | exact Runs.eqlSlNil rfl | exact Runs.eqlInts rfl rfl rfl rfl | exact Runs.neqInts rfl rfl rfl rfl) | (apply Runs.isAssign; exact Runs.assign rfl) | (apply Runs.isIndexA; first | exact Runs.indexAddr rfl rfl rfl rfl (by first | omega | decide) | exact Runs.indexAddrI rfl rfl rfl (by first | omega | decide) (by first | omega | decide) | exact Runs.indexArr rfl rfl rfl (by first | omega | decide)) | (apply Runs.isPick; first | exact Runs.pickT rfl rfl | exact Runs.pickF rfl rfl) | (apply Runs.isExtract; exact Runs.extract rfl rfl) | (apply Runs.isBuiltin; first | exact Runs.lenRow rfl | exact Runs.min2 rfl rfl | exact Runs.max2 rfl rfl | exact Runs.lenMap rfl | exact Runs.lenArr rfl) | (apply Runs.isLookup; first | exact Runs.lookupI rfl rfl | exact Runs.lookupS rfl rfl (by assumption) | exact Runs.lookupN rfl rfl (by assumption) | exact Runs.lookup rfl rfl | exact Runs.lookupOk rfl rfl) | (apply Runs.isSlice; first | exact Runs.slice _ _ rfl rfl rfl rfl rfl rfl ⟨⟨(by first | omega | decide), (by first | omega | decide)⟩, .inl rfl⟩ | exact Runs.slice3 _ _ rfl rfl rfl rfl rfl rfl rfl ⟨⟨(by first | omega | decide), (by first | omega | decide)⟩, .inr rfl⟩) | (apply Runs.isConvert; exact Runs.convII rfl (by omega)) | (apply Runs.isField; first | exact Runs.fieldVal rfl rfl | exact Runs.fieldAgg rfl) | (apply Runs.isBuild; exact Runs.build rfl rfl) | (apply Runs.isIndex; first | exact Runs.indexVal rfl rfl rfl (by first | omega | decide) rfl | exact Runs.indexAgg rfl rfl rfl rfl rfl) | (apply Runs.isUn; first | exact Runs.not rfl | exact Runs.neg rfl (by omega)) | (apply Runs.isMakeFunc; exact Runs.makeFunc rfl rfl) | (apply Runs.isNilCheck; exact Runs.nilCheck rfl)) rfl ?_) | (apply GW.isAny; refine GW.eff rfl rfl rfl rfl rfl trivial rfl trivial (fun u hu => by subst hu; rfl) (DoesW.callK (vs := [.int .i64 (sz : Nat)]) rfl (fun w F' h => rf10_New sz (by omega) w _ h)) rfl (fun u hu => ?_); subst hu) | (apply GW.isAny; refine GW.eff rfl rfl rfl rfl rfl trivial rfl trivial (fun u hu => hu.defd) (DoesW.buildOne (St.zeros sz) rfl (by omega) rfl rfl) rfl (fun u hu => ?_); obtain ⟨a6, k6, c6, rfl⟩ := hu) | (apply GW.isAny; refine GW.eff rfl rfl rfl rfl rfl ⟨⟨_, rfl, .inl rfl⟩, ⟨_, rfl, .inr (.inr ⟨_, _, rfl, rfl, rfl⟩)⟩, trivial⟩ rfl trivial (fun u hu => hu.defd) (DoesW.append rfl rfl rfl (by simp; omega) (by simp; omega)) rfl (fun u hu => ?_); obtain ⟨a7, k7, c7, rfl⟩ := hu) | (apply GW.isAny; refine GW.storeOn (v7 := .slice a7 k7 c7) rfl rfl rfl rfl rfl rfl rfl ⟨⟨_, rfl, .inl rfl⟩, trivial⟩ rfl trivial rfl (DoesW.storeBlk (R := fun _ => True) rfl rfl rfl rfl rfl rfl) ?_) | (refine GW.nilE rfl ⟨⟨_, rfl, .inr (.inr ⟨_, _, rfl, rfl, rfl⟩)⟩, ⟨_, rfl, .inr (.inr ⟨_, _, rfl, rfl, rfl⟩)⟩, ⟨_, rfl, .inr (.inr ⟨_, _, rfl, rfl, rfl⟩)⟩, trivial⟩ ?_; dsimp only [List.cons_append, List.nil_append]) | (refine G.isRegion 9 ?_; refine G.pure (fun wx hx => ?_); obtain ⟨_, _, e9, _⟩ := (Reads.at_ (v := .slice a7 k7 c7) (enc := encTx) (n := 1) (l := (List.replicate (k) (St.zeros sz) ++ [St.zeros sz])) wx hx).form; cases e9; clear hx; apply G.region)) | first | refine stp ?_ | (refine stpB ?_; intro _) | (refine spl ?_ ?_ <;> intro hc <;> ((try simp only [decide_eq_true_eq, decide_eq_false_iff_not, Bool.not_true, Bool.not_false, ne_eq, Classical.not_not, Int.not_lt, Int.not_le] at hc); (try (exfalso; first | omega | exact hc trivial | exact hc rfl)))))
    all_goals (first | (exfalso; omega) | skip)
    refine GE.round ⟨k + 1, ya, yc, a7, c7, ua, uc⟩ hlt (by repeat (first | exact trivial | refine And.intro rfl ?_)) (fun w h => by (try dsimp only); rw [List.replicate_succ', List.replicate_succ', List.replicate_succ']; exact (holds.cast1 (B := blk bz (.cells #[.int .i64 (sz : Nat), .slice ya (List.replicate (k) St.ch0 ++ [St.ch0]).length yc, .slice a7 (List.replicate (k) (St.zeros sz) ++ [St.zeros sz]).length c7, .slice ua (List.replicate (k) (0 : Int) ++ [(0 : Int)]).length uc, .slice sa (dn n).length sc, .int .i64 0, .int .i64 0, .int .i64 0, .int .i64 0] 34 (0, 0))) rfl h).sub) (by (try dsimp only); omega)
  · obtain rfl : k = n := by omega
    repeat' (first | refine stp ?_ | (refine stpB ?_; intro _) | (refine spl ?_ ?_ <;> intro hc <;> ((try simp only [decide_eq_true_eq, decide_eq_false_iff_not, Bool.not_true, Bool.not_false, ne_eq, Classical.not_not, Int.not_lt, Int.not_le] at hc); (try (exfalso; first | omega | exact hc trivial | exact hc rfl)))))
    all_goals (first | (exfalso; omega) | skip)
    refine GE.resMany rfl (by (repeat (first | apply Res.nil | (apply Res.tmp; rfl) | (refine Res.cellA rfl rfl rfl ?_) | (refine Res.cell1 rfl rfl ?_)))) (fun w h => ?_)
    exact ⟨_, rfl, refS.shut (t := St.new k sz) rfl (holds.sub (H := owns 84 encCk 3 (.slice ca (List.replicate (k) St.ch0).length cc) (List.replicate (k) St.ch0) :: owns 9 encTx 1 (.slice xa (List.replicate (k) (St.zeros sz)).length xc) (List.replicate (k) (St.zeros sz)) :: owns 3 encI1 1 (.slice wa (List.replicate (k) (0 : Int)).length wc) (List.replicate (k) (0 : Int)) :: owns 3 encI1 1 (.slice sa (dn k).length sc) (dn k) :: F) h)⟩
end Go.Proofs.YtipkgamiejenaaaGreat

/- Reference 19: Take. -/
namespace Go.Proofs.YtipkgamiejenaaaGreat
open Go Go.RowKit Go.MapKept
set_option linter.unusedVariables false
set_option linter.unusedSimpArgs false
set_option maxRecDepth 100000
set_option maxHeartbeats 4000000
section
variable (v : Value) (t : St.S) (K : Nat) (hI : St.Inv t K) (hK : K ≤ 1000000)
include hI hK
theorem rf19_Take (ow : Int) (w : World) (F : List HProp) (hw : holds w (refS v t :: F)) :
    Ct Tryz.prog 31 #[v, .int .i64 ow] w fun e w' => ∃ v', e = .returned (.tuple #[v', .int .i64 (St.take t ow).2.1, .int .i64 (St.take t ow).2.2]) ∧ holds w' (refS v' (St.take t ow).1 :: F) := by
  obtain ⟨q, ⟨rfl, hev⟩, h1⟩ := refS.open hw
  have hnc := hI.ncap
  have hsl := hI.stk
  unfold St.take
  refine Ct.go (args := [.agg #[.int .i64 (t.size : Nat), .slice q.ca t.ch.length q.cc, .slice q.xa t.tx.length q.xc, .slice q.wa t.wi.length q.wc, .slice q.sa t.stack.length q.sc, .int .i64 q.e0, .int .i64 q.e1, .int .i64 q.e2, .int .i64 q.e3], .int .i64 ow]) Tryz.func31 rfl rfl rfl h1 ?_
  by_cases h0 : ow < 1
  · rw [if_pos h0]
    repeat' (first | refine stp ?_ | (refine stpB ?_; intro _) | (refine spl ?_ ?_ <;> intro hc <;> ((try simp only [decide_eq_true_eq, decide_eq_false_iff_not, Bool.not_true, Bool.not_false, ne_eq, Classical.not_not, Int.not_lt, Int.not_le] at hc); (try (exfalso; first | omega | exact hc trivial | exact hc rfl)))))
    all_goals (refine GE.resMany rfl (by (repeat (first | apply Res.nil | (apply Res.tmp; rfl) | (refine Res.cellA rfl rfl rfl ?_) | (refine Res.cell1 rfl rfl ?_)))) (fun w h => ?_); exact ⟨_, rfl, refS.shut hev h.sub⟩)
  rw [if_neg h0]
  cases hg : t.stack.getLast? with
  | none =>
    have hs : t.stack = [] := List.getLast?_eq_none_iff.1 hg
    dsimp only
    repeat' (first | ((apply GL.isCall; refine GL.callH1 (owns 3 encI1 1 (.slice q.sa t.stack.length q.sc) t.stack) (vs := [.slice q.sa t.stack.length q.sc]) rfl rfl (fun w h => rf17_TakeN' (.slice q.sa t.stack.length q.sc) t.stack hs w _ h) ?_)) | first | refine stp ?_ | (refine stpB ?_; intro _) | (refine spl ?_ ?_ <;> intro hc <;> ((try simp only [decide_eq_true_eq, decide_eq_false_iff_not, Bool.not_true, Bool.not_false, ne_eq, Classical.not_not, Int.not_lt, Int.not_le] at hc); (try (exfalso; first | omega | exact hc trivial | exact hc rfl)))))
    all_goals (first | (exfalso; simp at hc; done) | skip)
    all_goals (refine GE.resMany rfl (by (repeat (first | apply Res.nil | (apply Res.tmp; rfl) | (refine Res.cellA rfl rfl rfl ?_) | (refine Res.cell1 rfl rfl ?_)))) (fun w h => ?_); exact ⟨_, rfl, refS.shut hev h.sub⟩)
  | some i =>
    have hs := St.snoc_last hg
    obtain ⟨k, hk, rfl, hp⟩ := (hI.free i).1 (by rw [← hs]; simp)
    dsimp only
    rw [t.c_eq k hk]
    obtain ⟨b0, b1, b2, b3⟩ := hI.ev4 hK hev
    repeat' (first | (first | (apply GL.isCall; refine GL.callH (owns 3 encI1 1 (.slice q.sa t.stack.length q.sc) t.stack) (vs := [.slice q.sa t.stack.length q.sc]) rfl rfl (fun w h => rf17_TakeY' (.slice q.sa t.stack.length q.sc) t.stack t.stack.dropLast k hs (by omega) w _ h) (fun r => ?_)) | (refine G.isRegion 7 ?_; refine G.drawAhead 10 11 [10, 12, 13, 14] (by kernel_rfl) rfl (by simp only [List.take_succ_cons, List.take_zero]; rfl) (by repeat (first | exact PickIs.nil | apply PickIs.cons rfl)) (by kernel_rfl) (Runs.move rfl) rfl ?_) | (apply GL.isCall; refine GL.callH (owns 84 encCk 3 (.slice q.ca t.ch.length q.cc) t.ch) (vs := [.agg #[.int .i64 (t.size : Nat), .slice q.ca t.ch.length q.cc, .slice q.xa t.tx.length q.xc, .slice q.wa t.wi.length q.wc, .slice r.1 t.stack.dropLast.length r.2, .int .i64 q.e0, .int .i64 q.e1, .int .i64 q.e2, .int .i64 q.e3], .int .i64 k, .agg (encCk ⟨1, ow, (t.ch[k]).gen⟩).toArray, .int .i64 0]) rfl rfl (fun w h => rf19_with0 (t.size : Nat) q.ca q.xa q.wa r.1 q.cc t.tx.length q.xc t.wi.length q.wc t.stack.dropLast.length r.2 q.e0 q.e1 q.e2 q.e3 b0 t.ch hnc k hk ⟨1, ow, (t.ch[k]).gen⟩ w _ h) (fun r2 => ?_))) | first | refine stp ?_ | (refine stpB ?_; intro _) | (refine spl ?_ ?_ <;> intro hc <;> ((try simp only [decide_eq_true_eq, decide_eq_false_iff_not, Bool.not_true, Bool.not_false, ne_eq, Classical.not_not, Int.not_lt, Int.not_le] at hc); (try (exfalso; first | omega | exact hc trivial | exact hc rfl)))))
    all_goals (refine GE.resMany rfl (by (repeat (first | apply Res.nil | (apply Res.tmp; rfl) | (refine Res.cellA rfl rfl rfl ?_) | (refine Res.cell1 rfl rfl ?_)))) (fun w h => ?_); exact ⟨_, rfl, refS.shut (t := { t with stack := t.stack.dropLast, ch := t.ch.set k ⟨1, ow, (t.ch[k]).gen⟩, ev := St.up t.ev 0 }) (by rw [hev]; rfl) h.sub⟩)
end
end Go.Proofs.YtipkgamiejenaaaGreat

/- Reference 19: Step. -/
namespace Go.Proofs.YtipkgamiejenaaaGreat
open Go Go.RowKit Go.MapKept
set_option linter.unusedVariables false
set_option linter.unusedSectionVars false
set_option linter.unusedSimpArgs false
set_option maxRecDepth 100000
set_option maxHeartbeats 4000000
section
variable (v : Value) (t : St.S) (K : Nat) (hI : St.Inv t K) (hK : K ≤ 1000000)
include hI hK
theorem rf19_Step (i n : Int) (w : World) (F : List HProp) (hw : holds w (refS v t :: F)) :
    Ct Tryz.prog 72 #[v, .int .i64 i, .int .i64 n] w fun e w' => ∃ v', e = .returned (.tuple #[v', .bool (St.step t i n).2.1, .int .i64 (St.step t i n).2.2]) ∧ holds w' (refS v' (St.step t i n).1 :: F) := by
  obtain ⟨q, ⟨rfl, hev⟩, h1⟩ := refS.open hw
  have hnc := hI.ncap
  have hn1 := hI.n1
  have hn2 := hI.n2
  have hsl := hI.stk
  obtain ⟨b0, b1, b2, b3⟩ := hI.ev4 hK hev
  unfold St.step
  refine Ct.go (args := [.agg #[.int .i64 (t.size : Nat), .slice q.ca t.ch.length q.cc, .slice q.xa t.tx.length q.xc, .slice q.wa t.wi.length q.wc, .slice q.sa t.stack.length q.sc, .int .i64 q.e0, .int .i64 q.e1, .int .i64 q.e2, .int .i64 q.e3], .int .i64 i, .int .i64 n]) Tryz.func72 rfl rfl rfl h1 ?_
  by_cases ho : t.out i
  · rw [if_pos (Or.inl ho)]
    have hd : decide (0 ≤ i ∧ i < (t.ch.length : Int)) = false := decide_eq_false (by unfold St.S.out at ho; omega)
    repeat' (first | (first | (apply GL.isCall; refine GL.call1 rfl rfl (fun w h => rf19_Is (t.size : Nat) q.ca q.xa q.wa q.sa t.ch.length q.cc t.tx.length q.xc t.wi.length q.wc t.stack.length q.sc q.e0 q.e1 q.e2 q.e3 i w _ h) ?_) | (rw [hd])) | first | refine stp ?_ | (refine stpB ?_; intro _) | (refine spl ?_ ?_ <;> intro hc <;> ((try simp only [decide_eq_true_eq, decide_eq_false_iff_not, Bool.not_true, Bool.not_false, ne_eq, Classical.not_not, Int.not_lt, Int.not_le] at hc); (try (exfalso; first | omega | exact hc trivial | exact hc rfl)))))
    all_goals (first | (exfalso; simp at hc; done) | skip)
    all_goals (refine GE.resMany rfl (by (repeat (first | apply Res.nil | (apply Res.tmp; rfl) | (refine Res.cellA rfl rfl rfl ?_) | (refine Res.cell1 rfl rfl ?_)))) (fun w h => ?_); exact ⟨_, rfl, refS.shut hev h.sub⟩)
  by_cases hn : n < 1
  · rw [if_pos (Or.inr hn)]
    have hd : decide (0 ≤ i ∧ i < (t.ch.length : Int)) = true := decide_eq_true (by unfold St.S.out at ho; omega)
    repeat' (first | (first | (apply GL.isCall; refine GL.call1 rfl rfl (fun w h => rf19_Is (t.size : Nat) q.ca q.xa q.wa q.sa t.ch.length q.cc t.tx.length q.xc t.wi.length q.wc t.stack.length q.sc q.e0 q.e1 q.e2 q.e3 i w _ h) ?_) | (rw [hd])) | first | refine stp ?_ | (refine stpB ?_; intro _) | (refine spl ?_ ?_ <;> intro hc <;> ((try simp only [decide_eq_true_eq, decide_eq_false_iff_not, Bool.not_true, Bool.not_false, ne_eq, Classical.not_not, Int.not_lt, Int.not_le] at hc); (try (exfalso; first | omega | exact hc trivial | exact hc rfl)))))
    all_goals (first | (exfalso; simp at hc; done) | skip)
    all_goals (refine GE.resMany rfl (by (repeat (first | apply Res.nil | (apply Res.tmp; rfl) | (refine Res.cellA rfl rfl rfl ?_) | (refine Res.cell1 rfl rfl ?_)))) (fun w h => ?_); exact ⟨_, rfl, refS.shut hev h.sub⟩)
  rw [if_neg (fun h => h.elim ho hn)]
  obtain ⟨k, rfl, hk⟩ := St.out_ex ho
  have hd : decide (0 ≤ (k : Int) ∧ (k : Int) < (t.ch.length : Int)) = true := decide_eq_true (by omega)
  rw [t.c_eq k hk]
  by_cases hp : (t.ch[k]).phase ≠ 3
  · rw [if_pos hp]
    repeat' (first | (first | (apply GL.isCall; refine GL.call1 rfl rfl (fun w h => rf19_Is (t.size : Nat) q.ca q.xa q.wa q.sa t.ch.length q.cc t.tx.length q.xc t.wi.length q.wc t.stack.length q.sc q.e0 q.e1 q.e2 q.e3 (k : Int) w _ h) ?_) | (rw [hd])) | first | refine stp ?_ | (refine stpB ?_; intro _) | (refine spl ?_ ?_ <;> intro hc <;> ((try simp only [decide_eq_true_eq, decide_eq_false_iff_not, Bool.not_true, Bool.not_false, ne_eq, Classical.not_not, Int.not_lt, Int.not_le] at hc); (try (exfalso; first | omega | exact hc trivial | exact hc rfl)))))
    all_goals (first | (exfalso; simp at hc; done) | (exfalso; omega) | skip)
    all_goals (refine GE.resMany rfl (by (repeat (first | apply Res.nil | (apply Res.tmp; rfl) | (refine Res.cellA rfl rfl rfl ?_) | (refine Res.cell1 rfl rfl ?_)))) (fun w h => ?_); exact ⟨_, rfl, refS.shut hev h.sub⟩)
  rw [if_neg hp]
  have hC := hI.cell k hk
  have hcx := hC.len
  have hge := hC.ge
  have hsz := hI.sz
  have hxe : t.x k = t.tx[k]'(by omega) := by unfold St.S.x; rw [Int.toNat_natCast, List.getD_eq_getElem?_getD, List.getElem?_eq_getElem (by omega)]; rfl
  have hwe : t.w k = t.wi[k]'(by omega) := by unfold St.S.w; rw [Int.toNat_natCast, List.getD_eq_getElem?_getD, List.getElem?_eq_getElem (by omega)]; rfl
  obtain ⟨⟨hw0, hw1⟩, _⟩ := hC.wip (by omega)
  rw [hxe] at hcx
  rw [hwe] at hw0 hw1
  obtain ⟨m, hmd⟩ : ∃ m, m = St.portion t k n := ⟨_, rfl⟩
  have hm : min n ((t.size : Int) - t.wi[k]'(by omega)) = (m : Int) := by rw [hmd]; unfold St.portion; rw [hwe]; omega
  have hwm : t.wi[k]'(by omega) + (m : Int) ≤ t.size := by omega
  obtain ⟨X, hX⟩ : ∃ X, X = By.splice (t.tx[k]'(by omega)) (t.wi[k]'(by omega)).toNat (St.zeros m) := ⟨_, rfl⟩
  have hwp : St.wiped t k n = { t with tx := t.tx.set k X, wi := t.wi.set k (t.wi[k]'(by omega) + m) } := by unfold St.wiped; rw [← hmd, hxe, hwe, hX]; rfl
  have hW := fun w (F : List HProp) h => rf10_Wipe (t.tx[k]'(by omega)) (t.wi[k]'(by omega)) m (by omega) w F h
  have hof : ¬ St.off (t.tx[k]'(by omega)) (t.wi[k]'(by omega)) m := by unfold St.off; omega
  rw [if_neg hof, Int.toNat_natCast, ← hX] at hW
  have hgs2 : (t.wi.set k (t.wi[k]'(by omega) + (m : Int)))[k]'(by rw [List.length_set]; omega) = t.wi[k]'(by omega) + (m : Int) := List.getElem_set_self ..
  have hls : (t.wi.set k (t.wi[k]'(by omega) + (m : Int))).length = t.wi.length := List.length_set ..
  rw [hwp, ← hmd, hwe]
  by_cases hlt : t.wi[k]'(by omega) + (m : Int) < t.size
  · rw [if_pos hlt]
    repeat' (first | (first | (apply GL.isCall; refine GL.call1 rfl rfl (fun w h => rf19_Is (t.size : Nat) q.ca q.xa q.wa q.sa t.ch.length q.cc t.tx.length q.xc t.wi.length q.wc t.stack.length q.sc q.e0 q.e1 q.e2 q.e3 (k : Int) w _ h) ?_) | (rw [hd]) | (rw [hm]) | (refine G.isRegion 7 ?_; apply G.region; apply GL.isAny; refine GL.build0 encTx 1 rfl (fun u0 _ => ?_)) | (refine G.isRegion 9 ?_; apply G.region; apply GL.isAny; refine GL.build0 encI1 1 rfl (fun u0 _ => ?_)) | (refine G.isRegion 13 ?_; apply G.region; apply GL.isAny; refine GL.build0 encI1 1 rfl (fun u0 _ => ?_)) | (apply GL.isCall; refine GL.appendAny (enc := encTx) (ys := t.tx) rfl rfl rfl rfl rfl rfl (by simp only [List.length_nil]; omega) (by simp only [List.length_nil]; omega) rfl (fun r _ => ?_); rw [List.nil_append]; refine GL.pure (fun wx hx => ?_); obtain ⟨xa, xc, rfl, _⟩ := (Reads.at_ (v := r) (enc := encTx) (n := 1) (l := t.tx) wx hx).form) | (apply GL.isCall; refine GL.appendAny (enc := encI1) (ys := t.wi) rfl rfl rfl rfl rfl rfl (by simp only [List.length_nil]; omega) (by simp only [List.length_nil]; omega) rfl (fun r _ => ?_); rw [List.nil_append]; refine GL.pure (fun wx hx => ?_); obtain ⟨wa, wc, rfl, _⟩ := (Reads.at_ (v := r) (enc := encI1) (n := 1) (l := t.wi) wx hx).form) | (apply GL.isCall; refine GL.appendAny (enc := encI1) (ys := t.stack) rfl rfl rfl rfl rfl rfl (by simp only [List.length_nil]; omega) (by simp only [List.length_nil]; omega) rfl (fun r _ => ?_); rw [List.nil_append]; refine GL.pure (fun wx hx => ?_); obtain ⟨sa, sc, rfl, _⟩ := (Reads.at_ (v := r) (enc := encI1) (n := 1) (l := t.stack) wx hx).form) | (apply GD.isAny; refine GD.run (by apply Runs.isCall; exact Runs.min2 rfl rfl) rfl ?_) | (apply GL.isAny; refine GL.run (by apply Runs.isCall; exact Runs.min2 rfl rfl) rfl ?_) | (apply GD.isAny; refine GD.call (vs := [.string (bs (t.tx[k]'(by omega))), .int .i64 (t.wi[k]'(by omega)), .int .i64 m]) rfl rfl (fun w F' h => hW w _ h) ?_) | (refine G.isRegion 10 ?_; refine G.drawTail 10 (by kernel_rfl) (by simp only [List.take_succ_cons, List.take_zero]; rfl) (by simp only [List.drop_succ_cons, List.drop_zero]; rfl) (by kernel_rfl) ?_) | (apply GL.isStore; refine GL.setElem (i := k) X rfl rfl (by kernel_rfl) (by omega) rfl ?_) | (apply GL.isStore; refine GL.setElem (i := k) (t.wi[k]'(by omega) + m) rfl rfl (by kernel_rfl) (by omega) rfl ?_) | (apply GL.isCall; refine GL.append1 (k : Int) rfl rfl rfl rfl (by rfl) (by omega) (by omega) rfl (fun r => ?_); refine GL.pure (fun wx hx => ?_); obtain ⟨ya, yc, rfl, _⟩ := (Reads.at_ (v := r) (enc := encI1) (n := 1) (l := t.stack ++ [(k : Int)]) wx hx).form) | (refine G.isRegion 14 ?_; refine G.drawTail 10 (by kernel_rfl) (by simp only [List.take_succ_cons, List.take_zero]; rfl) (by simp only [List.drop_succ_cons, List.drop_zero]; rfl) (by kernel_rfl) ?_) | (apply GL.isCall; refine GL.callH (owns 84 encCk 3 (.slice q.ca t.ch.length q.cc) t.ch) (vs := [.agg #[.int .i64 (t.size : Nat), .slice q.ca t.ch.length q.cc, .slice xa t.tx.length xc, .slice wa t.wi.length wc, .slice ya (t.stack ++ [(k : Int)]).length yc, .int .i64 q.e0, .int .i64 q.e1, .int .i64 q.e2, .int .i64 q.e3], .int .i64 k, .agg (encCk ⟨0, 0, (t.ch[k]).gen + 1⟩).toArray, .int .i64 3]) rfl rfl (fun w h => rf19_with3 (t.size : Nat) q.ca xa wa ya q.cc t.tx.length xc t.wi.length wc (t.stack ++ [(k : Int)]).length yc q.e0 q.e1 q.e2 q.e3 b3 t.ch hnc k hk ⟨0, 0, (t.ch[k]).gen + 1⟩ w _ h) (fun r2 => ?_))) | first | refine stp ?_ | (refine stpB ?_; intro _) | (refine spl ?_ ?_ <;> intro hc <;> ((try simp only [decide_eq_true_eq, decide_eq_false_iff_not, Bool.not_true, Bool.not_false, ne_eq, Classical.not_not, Int.not_lt, Int.not_le] at hc); (try (exfalso; first | omega | exact hc trivial | exact hc rfl)))))
    all_goals (first | (exfalso; simp at hc; done) | (exfalso; omega) | skip)
    all_goals (refine GE.resMany rfl (by (repeat (first | apply Res.nil | (apply Res.tmp; rfl) | (refine Res.cellA rfl rfl rfl ?_) | (refine Res.cell1 rfl rfl ?_)))) (fun w h => ?_); exact ⟨_, rfl, refS.shut (t := { t with tx := t.tx.set k X, wi := t.wi.set k (t.wi[k]'(by omega) + m) }) hev h.sub⟩)
  · rw [if_neg hlt]
    repeat' (first | (first | (apply GL.isCall; refine GL.call1 rfl rfl (fun w h => rf19_Is (t.size : Nat) q.ca q.xa q.wa q.sa t.ch.length q.cc t.tx.length q.xc t.wi.length q.wc t.stack.length q.sc q.e0 q.e1 q.e2 q.e3 (k : Int) w _ h) ?_) | (rw [hd]) | (rw [hm]) | (refine G.isRegion 7 ?_; apply G.region; apply GL.isAny; refine GL.build0 encTx 1 rfl (fun u0 _ => ?_)) | (refine G.isRegion 9 ?_; apply G.region; apply GL.isAny; refine GL.build0 encI1 1 rfl (fun u0 _ => ?_)) | (refine G.isRegion 13 ?_; apply G.region; apply GL.isAny; refine GL.build0 encI1 1 rfl (fun u0 _ => ?_)) | (apply GL.isCall; refine GL.appendAny (enc := encTx) (ys := t.tx) rfl rfl rfl rfl rfl rfl (by simp only [List.length_nil]; omega) (by simp only [List.length_nil]; omega) rfl (fun r _ => ?_); rw [List.nil_append]; refine GL.pure (fun wx hx => ?_); obtain ⟨xa, xc, rfl, _⟩ := (Reads.at_ (v := r) (enc := encTx) (n := 1) (l := t.tx) wx hx).form) | (apply GL.isCall; refine GL.appendAny (enc := encI1) (ys := t.wi) rfl rfl rfl rfl rfl rfl (by simp only [List.length_nil]; omega) (by simp only [List.length_nil]; omega) rfl (fun r _ => ?_); rw [List.nil_append]; refine GL.pure (fun wx hx => ?_); obtain ⟨wa, wc, rfl, _⟩ := (Reads.at_ (v := r) (enc := encI1) (n := 1) (l := t.wi) wx hx).form) | (apply GL.isCall; refine GL.appendAny (enc := encI1) (ys := t.stack) rfl rfl rfl rfl rfl rfl (by simp only [List.length_nil]; omega) (by simp only [List.length_nil]; omega) rfl (fun r _ => ?_); rw [List.nil_append]; refine GL.pure (fun wx hx => ?_); obtain ⟨sa, sc, rfl, _⟩ := (Reads.at_ (v := r) (enc := encI1) (n := 1) (l := t.stack) wx hx).form) | (apply GD.isAny; refine GD.run (by apply Runs.isCall; exact Runs.min2 rfl rfl) rfl ?_) | (apply GL.isAny; refine GL.run (by apply Runs.isCall; exact Runs.min2 rfl rfl) rfl ?_) | (apply GD.isAny; refine GD.call (vs := [.string (bs (t.tx[k]'(by omega))), .int .i64 (t.wi[k]'(by omega)), .int .i64 m]) rfl rfl (fun w F' h => hW w _ h) ?_) | (refine G.isRegion 10 ?_; refine G.drawTail 10 (by kernel_rfl) (by simp only [List.take_succ_cons, List.take_zero]; rfl) (by simp only [List.drop_succ_cons, List.drop_zero]; rfl) (by kernel_rfl) ?_) | (apply GL.isStore; refine GL.setElem (i := k) X rfl rfl (by kernel_rfl) (by omega) rfl ?_) | (apply GL.isStore; refine GL.setElem (i := k) (t.wi[k]'(by omega) + m) rfl rfl (by kernel_rfl) (by omega) rfl ?_) | (apply GL.isCall; refine GL.append1 (k : Int) rfl rfl rfl rfl (by rfl) (by omega) (by omega) rfl (fun r => ?_); refine GL.pure (fun wx hx => ?_); obtain ⟨ya, yc, rfl, _⟩ := (Reads.at_ (v := r) (enc := encI1) (n := 1) (l := t.stack ++ [(k : Int)]) wx hx).form) | (refine G.isRegion 14 ?_; refine G.drawTail 10 (by kernel_rfl) (by simp only [List.take_succ_cons, List.take_zero]; rfl) (by simp only [List.drop_succ_cons, List.drop_zero]; rfl) (by kernel_rfl) ?_) | (apply GL.isCall; refine GL.callH (owns 84 encCk 3 (.slice q.ca t.ch.length q.cc) t.ch) (vs := [.agg #[.int .i64 (t.size : Nat), .slice q.ca t.ch.length q.cc, .slice xa t.tx.length xc, .slice wa t.wi.length wc, .slice ya (t.stack ++ [(k : Int)]).length yc, .int .i64 q.e0, .int .i64 q.e1, .int .i64 q.e2, .int .i64 q.e3], .int .i64 k, .agg (encCk ⟨0, 0, (t.ch[k]).gen + 1⟩).toArray, .int .i64 3]) rfl rfl (fun w h => rf19_with3 (t.size : Nat) q.ca xa wa ya q.cc t.tx.length xc t.wi.length wc (t.stack ++ [(k : Int)]).length yc q.e0 q.e1 q.e2 q.e3 b3 t.ch hnc k hk ⟨0, 0, (t.ch[k]).gen + 1⟩ w _ h) (fun r2 => ?_))) | first | refine stp ?_ | (refine stpB ?_; intro _) | (refine spl ?_ ?_ <;> intro hc <;> ((try simp only [decide_eq_true_eq, decide_eq_false_iff_not, Bool.not_true, Bool.not_false, ne_eq, Classical.not_not, Int.not_lt, Int.not_le] at hc); (try (exfalso; first | omega | exact hc trivial | exact hc rfl)))))
    all_goals (first | (exfalso; simp at hc; done) | (exfalso; omega) | skip)
    all_goals (refine GE.resMany rfl (by (repeat (first | apply Res.nil | (apply Res.tmp; rfl) | (refine Res.cellA rfl rfl rfl ?_) | (refine Res.cell1 rfl rfl ?_)))) (fun w h => ?_); exact ⟨_, rfl, refS.shut (t := { t with tx := t.tx.set k X, wi := t.wi.set k (t.wi[k]'(by omega) + m), stack := t.stack ++ [(k : Int)], ch := t.ch.set k ⟨0, 0, (t.ch[k]).gen + 1⟩, ev := St.up t.ev 3 }) (by rw [hev]; rfl) h.sub⟩)
end
end Go.Proofs.YtipkgamiejenaaaGreat
