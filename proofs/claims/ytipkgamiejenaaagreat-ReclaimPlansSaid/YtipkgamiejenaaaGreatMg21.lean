import Derived.Test.YtipkgamiejenaaaGreatMg20
import Derived.Test.YtipkgamiejenaaaGreatMg19
import Derived.Test.YtipkgamiejenaaaGreatMg7

import Derived.Test.YtipkgamiejenaaaGreatMg17
import Derived.Test.YtipkgamiejenaaaGreatMg11
import Derived.Test.YtipkgamiejenaaaGreatMg14
/- Reference 25: Put. -/
namespace Go.Proofs.YtipkgamiejenaaaGreat
open Go Go.RowKit Go.MapKept
set_option linter.unusedVariables false
set_option linter.unusedSectionVars false
set_option linter.unusedSimpArgs false
set_option maxRecDepth 100000
set_option maxHeartbeats 2000000
theorem rf19_DeferN (v : Value) (t : St.S) (i ow : Int) (hn : (St.give t i ow).2 ≠ 0) (w : World) (F : List HProp) (hw : holds w (refS v t :: F)) :
    Ct Tryz.prog 36 #[v, .int .i64 i, .int .i64 ow] w fun e w' => e = .returned (.tuple #[v, .int .i64 (St.give t i ow).2]) ∧ holds w' (refS v t :: F) := by
  obtain ⟨q, ⟨rfl, hev⟩, h1⟩ := refS.open hw
  unfold St.give at hn ⊢
  refine Ct.go (args := [.agg #[.int .i64 (t.size : Nat), .slice q.ca t.ch.length q.cc, .slice q.xa t.tx.length q.xc, .slice q.wa t.wi.length q.wc, .slice q.sa t.stack.length q.sc, .int .i64 q.e0, .int .i64 q.e1, .int .i64 q.e2, .int .i64 q.e3], .int .i64 i, .int .i64 ow]) Tryz.func36 rfl rfl rfl h1 ?_
  by_cases ho : t.out i
  · rw [if_pos ho]
    have hd : decide (0 ≤ i ∧ i < (t.ch.length : Int)) = false := decide_eq_false (by unfold St.S.out at ho; omega)
    repeat' (first | (first | (apply GL.isCall; refine GL.call1 rfl rfl (fun w h => rf19_Is (t.size : Nat) q.ca q.xa q.wa q.sa t.ch.length q.cc t.tx.length q.xc t.wi.length q.wc t.stack.length q.sc q.e0 q.e1 q.e2 q.e3 i w _ h) ?_) | (rw [hd])) | first | refine stp ?_ | (refine stpB ?_; intro _) | (refine spl ?_ ?_ <;> intro hc <;> ((try simp only [decide_eq_true_eq, decide_eq_false_iff_not, Bool.not_true, Bool.not_false, ne_eq, Classical.not_not, Int.not_lt, Int.not_le] at hc); (try (exfalso; first | omega | exact hc trivial | exact hc rfl)))))
    all_goals (first | (exfalso; simp at hc; done) | skip)
    all_goals (refine GE.resMany rfl (by (repeat (first | apply Res.nil | (apply Res.tmp; rfl) | (refine Res.cellA rfl rfl rfl ?_) | (refine Res.cell1 rfl rfl ?_)))) (fun w h => ?_); exact ⟨rfl, refS.shut hev h.sub⟩)
  rw [if_neg ho] at hn
  rw [if_neg ho]
  obtain ⟨k, rfl, hk⟩ := St.out_ex ho
  have hd : decide (0 ≤ (k : Int) ∧ (k : Int) < (t.ch.length : Int)) = true := decide_eq_true (by omega)
  rw [t.c_eq k hk] at hn ⊢
  by_cases hp : (t.ch[k]).phase ≠ 1 ∨ (t.ch[k]).owner ≠ ow
  · rw [if_pos hp]
    repeat' (first | (first | (apply GL.isCall; refine GL.call1 rfl rfl (fun w h => rf19_Is (t.size : Nat) q.ca q.xa q.wa q.sa t.ch.length q.cc t.tx.length q.xc t.wi.length q.wc t.stack.length q.sc q.e0 q.e1 q.e2 q.e3 (k : Int) w _ h) ?_) | (rw [hd])) | first | refine stp ?_ | (refine stpB ?_; intro _) | (refine spl ?_ ?_ <;> intro hc <;> ((try simp only [decide_eq_true_eq, decide_eq_false_iff_not, Bool.not_true, Bool.not_false, ne_eq, Classical.not_not, Int.not_lt, Int.not_le] at hc); (try (exfalso; first | omega | exact hc trivial | exact hc rfl)))))
    all_goals (first | (exfalso; simp at hc; done) | (exfalso; omega) | skip)
    all_goals (refine GE.resMany rfl (by (repeat (first | apply Res.nil | (apply Res.tmp; rfl) | (refine Res.cellA rfl rfl rfl ?_) | (refine Res.cell1 rfl rfl ?_)))) (fun w h => ?_); exact ⟨rfl, refS.shut hev h.sub⟩)
  · rw [if_neg hp] at hn; exact absurd rfl hn
variable (m : Rc.S) (K : Nat) (hO : Rc.Ok m K) (hK : K ≤ 900000)
include hO hK
theorem ref25_Put (v : Value) (i ow : Int) (hn : m.line.length ≤ 1000000) (w : World) (F : List HProp) (hw : holds w (refR v m :: F)) :
    Ct Tryz.prog 48 #[v, .int .i64 i, .int .i64 ow] w fun e w' => ∃ v', e = .returned (.tuple #[v', .int .i64 (Rc.put m i ow).2]) ∧ holds w' (refR v' (Rc.put m i ow).1 :: F) := by
  obtain ⟨x, rfl, h1⟩ := refR.open hw
  unfold Rc.put
  refine Ct.go (args := [.agg #[.int .i64 (m.t.size : Nat), .slice x.q.ca m.t.ch.length x.q.cc, .slice x.q.xa m.t.tx.length x.q.xc, .slice x.q.wa m.t.wi.length x.q.wc, .slice x.q.sa m.t.stack.length x.q.sc, .int .i64 x.q.e0, .int .i64 x.q.e1, .int .i64 x.q.e2, .int .i64 x.q.e3, .int .i64 m.q, .int .i64 m.low, .slice x.la m.line.length x.lc, .slice x.wa m.want.length x.wc, .slice x.va m.lv.length x.vc, .int .i64 m.fr], .int .i64 i, .int .i64 ow]) Tryz.func48 rfl rfl rfl h1 ?_
  by_cases h0 : (St.give m.t i ow).2 = 0
  · rw [if_pos h0]
    have hD := fun w (F : List HProp) h' => rf19_Defer (.agg #[.int .i64 (m.t.size : Nat), .slice x.q.ca m.t.ch.length x.q.cc, .slice x.q.xa m.t.tx.length x.q.xc, .slice x.q.wa m.t.wi.length x.q.wc, .slice x.q.sa m.t.stack.length x.q.sc, .int .i64 x.q.e0, .int .i64 x.q.e1, .int .i64 x.q.e2, .int .i64 x.q.e3]) m.t K hO.inv (by omega) i ow w F h'
    rw [h0] at hD
    obtain ⟨t1, ht1⟩ : ∃ t1, t1 = (St.give m.t i ow).1 := ⟨_, rfl⟩
    rw [← ht1] at hD ⊢
    repeat' (first | (first | (apply GL.isCall; refine GL.callH (refS (.agg #[.int .i64 (m.t.size : Nat), .slice x.q.ca m.t.ch.length x.q.cc, .slice x.q.xa m.t.tx.length x.q.xc, .slice x.q.wa m.t.wi.length x.q.wc, .slice x.q.sa m.t.stack.length x.q.sc, .int .i64 x.q.e0, .int .i64 x.q.e1, .int .i64 x.q.e2, .int .i64 x.q.e3]) m.t) (vs := [.agg #[.int .i64 (m.t.size : Nat), .slice x.q.ca m.t.ch.length x.q.cc, .slice x.q.xa m.t.tx.length x.q.xc, .slice x.q.wa m.t.wi.length x.q.wc, .slice x.q.sa m.t.stack.length x.q.sc, .int .i64 x.q.e0, .int .i64 x.q.e1, .int .i64 x.q.e2, .int .i64 x.q.e3], .int .i64 i, .int .i64 ow]) rfl rfl (fun w h => hD w _ h) (fun v2 => ?_); refine GL.pure (fun wx hx => ?_); obtain ⟨q2, ⟨rfl, hev2⟩, _⟩ := refS.open hx; clear hx) | (apply GL.isAny; refine GL.build0 encI1 1 rfl (fun u0 _ => ?_)) | (apply GL.isCall; refine GL.appendAny (ys := m.line) rfl rfl rfl rfl rfl rfl (by simp only [List.length_nil]; omega) (by simp only [List.length_nil]; omega) rfl (fun r1 _ => ?_); rw [List.nil_append]) | (apply GL.isCall; refine GL.append1 (i) rfl rfl rfl rfl (by rfl) (by omega) (by omega) rfl (fun r2 => ?_); refine GL.pure (fun wx hx => ?_); obtain ⟨r2a, r2c, rfl, _⟩ := (Reads.at_ (v := r2) (enc := encI1) (n := 1) (l := m.line ++ [i]) wx hx).form; clear hx)) | first | refine stp ?_ | (refine stpB ?_; intro _) | (refine spl ?_ ?_ <;> intro hc <;> ((try simp only [decide_eq_true_eq, decide_eq_false_iff_not, Bool.not_true, Bool.not_false, ne_eq, Classical.not_not, Int.not_lt, Int.not_le] at hc); (try (exfalso; first | omega | exact hc trivial | exact hc rfl)))))
    all_goals (first | (exfalso; simp at hc; done) | skip)
    refine GE.resMany rfl (by (repeat (first | apply Res.nil | (apply Res.tmp; rfl) | (refine Res.cellA rfl rfl rfl ?_) | (refine Res.cell1 rfl rfl ?_)))) (fun w h => ?_)
    refine ⟨.agg #[.int .i64 (t1.size : Nat), .slice q2.ca t1.ch.length q2.cc, .slice q2.xa t1.tx.length q2.xc, .slice q2.wa t1.wi.length q2.wc, .slice q2.sa t1.stack.length q2.sc, .int .i64 q2.e0, .int .i64 q2.e1, .int .i64 q2.e2, .int .i64 q2.e3, .int .i64 m.q, .int .i64 m.low, .slice r2a (m.line ++ [i]).length r2c, .slice x.wa m.want.length x.wc, .slice x.va m.lv.length x.vc, .int .i64 m.fr], rfl, ?_⟩
    have h2 : holds w (owns 3 encI1 1 (.slice r2a (m.line ++ [i]).length r2c) (m.line ++ [i]) :: refS (.agg #[.int .i64 (t1.size : Nat), .slice q2.ca t1.ch.length q2.cc, .slice q2.xa t1.tx.length q2.xc, .slice q2.wa t1.wi.length q2.wc, .slice q2.sa t1.stack.length q2.sc, .int .i64 q2.e0, .int .i64 q2.e1, .int .i64 q2.e2, .int .i64 q2.e3]) t1 :: owns 3 encI1 1 (.slice x.wa m.want.length x.wc) m.want :: owns 3 encI1 1 (.slice x.va m.lv.length x.vc) m.lv :: F) := h.sub
    have h3 : holds w (rows encI1 1 (.slice r2a (m.line ++ [i]).length r2c) (m.line ++ [i]) :: refS (.agg #[.int .i64 (t1.size : Nat), .slice q2.ca t1.ch.length q2.cc, .slice q2.xa t1.tx.length q2.xc, .slice q2.wa t1.wi.length q2.wc, .slice q2.sa t1.stack.length q2.sc, .int .i64 q2.e0, .int .i64 q2.e1, .int .i64 q2.e2, .int .i64 q2.e3]) t1 :: owns 3 encI1 1 (.slice x.wa m.want.length x.wc) m.want :: owns 3 encI1 1 (.slice x.va m.lv.length x.vc) m.lv :: F) := holds.shareRow h2
    have h4 : holds w (refS (.agg #[.int .i64 (t1.size : Nat), .slice q2.ca t1.ch.length q2.cc, .slice q2.xa t1.tx.length q2.xc, .slice q2.wa t1.wi.length q2.wc, .slice q2.sa t1.stack.length q2.sc, .int .i64 q2.e0, .int .i64 q2.e1, .int .i64 q2.e2, .int .i64 q2.e3]) t1 :: rows encI1 1 (.slice r2a (m.line ++ [i]).length r2c) (m.line ++ [i]) :: owns 3 encI1 1 (.slice x.wa m.want.length x.wc) m.want :: owns 3 encI1 1 (.slice x.va m.lv.length x.vc) m.lv :: F) := h3.sub
    exact refR.shut (m := { m with t := t1, line := m.line ++ [i] }) ⟨q2, r2a, r2c, x.wa, x.wc, x.va, x.vc⟩ h4
  · rw [if_neg h0]
    have hD := fun w (F : List HProp) h' => rf19_DeferN (.agg #[.int .i64 (m.t.size : Nat), .slice x.q.ca m.t.ch.length x.q.cc, .slice x.q.xa m.t.tx.length x.q.xc, .slice x.q.wa m.t.wi.length x.q.wc, .slice x.q.sa m.t.stack.length x.q.sc, .int .i64 x.q.e0, .int .i64 x.q.e1, .int .i64 x.q.e2, .int .i64 x.q.e3]) m.t i ow h0 w F h'
    obtain ⟨r, hr⟩ : ∃ r, r = (St.give m.t i ow).2 := ⟨_, rfl⟩
    rw [← hr] at hD h0 ⊢
    repeat' (first | ((apply GL.isCall; refine GL.callH1 (refS (.agg #[.int .i64 (m.t.size : Nat), .slice x.q.ca m.t.ch.length x.q.cc, .slice x.q.xa m.t.tx.length x.q.xc, .slice x.q.wa m.t.wi.length x.q.wc, .slice x.q.sa m.t.stack.length x.q.sc, .int .i64 x.q.e0, .int .i64 x.q.e1, .int .i64 x.q.e2, .int .i64 x.q.e3]) m.t) (vs := [.agg #[.int .i64 (m.t.size : Nat), .slice x.q.ca m.t.ch.length x.q.cc, .slice x.q.xa m.t.tx.length x.q.xc, .slice x.q.wa m.t.wi.length x.q.wc, .slice x.q.sa m.t.stack.length x.q.sc, .int .i64 x.q.e0, .int .i64 x.q.e1, .int .i64 x.q.e2, .int .i64 x.q.e3], .int .i64 i, .int .i64 ow]) rfl rfl (fun w h => hD w _ h) ?_)) | first | refine stp ?_ | (refine stpB ?_; intro _) | (refine spl ?_ ?_ <;> intro hc <;> ((try simp only [decide_eq_true_eq, decide_eq_false_iff_not, Bool.not_true, Bool.not_false, ne_eq, Classical.not_not, Int.not_lt, Int.not_le] at hc); (try (exfalso; first | omega | exact hc trivial | exact hc rfl)))))
    all_goals (first | (exfalso; exact h0 hc) | (exfalso; simp at hc; omega) | skip)
    refine GE.resMany rfl (by (repeat (first | apply Res.nil | (apply Res.tmp; rfl) | (refine Res.cellA rfl rfl rfl ?_) | (refine Res.cell1 rfl rfl ?_)))) (fun w h => ?_)
    exact ⟨.agg #[.int .i64 (m.t.size : Nat), .slice x.q.ca m.t.ch.length x.q.cc, .slice x.q.xa m.t.tx.length x.q.xc, .slice x.q.wa m.t.wi.length x.q.wc, .slice x.q.sa m.t.stack.length x.q.sc, .int .i64 x.q.e0, .int .i64 x.q.e1, .int .i64 x.q.e2, .int .i64 x.q.e3, .int .i64 m.q, .int .i64 m.low, .slice x.la m.line.length x.lc, .slice x.wa m.want.length x.wc, .slice x.va m.lv.length x.vc, .int .i64 m.fr], rfl, refR.shut x h.sub⟩
end Go.Proofs.YtipkgamiejenaaaGreat

/- Reference 25: New. -/
namespace Go.Proofs.YtipkgamiejenaaaGreat
open Go Go.RowKit Go.MapKept
set_option linter.unusedVariables false
set_option linter.unusedSectionVars false
set_option linter.unusedSimpArgs false
set_option maxRecDepth 100000
set_option maxHeartbeats 2000000
theorem GE.caseX {n : Nat} {e : Exit} {Q : Exit → Act → World → Prop} {env : Env} {F : List HProp} {α : Type} {F' : α → List HProp} (h : ∀ x, GE n e Q env (F' x)) (hi : ∀ w, holds w F → ∃ x, holds w (F' x)) : GE n e Q env F := .mk fun a w hf hw => by
  obtain ⟨x, hx⟩ := hi w hw
  exact h x a w hf hx
theorem ref25_New (v : Value) (t : St.S) (qu low : Int) (hq : 1 ≤ qu ∧ qu ≤ 1048576) (hl : 0 ≤ low ∧ low ≤ 1048576) (w : World) (F : List HProp) (hw : holds w (refS v t :: F)) :
    Ct Tryz.prog 47 #[v, .int .i64 qu, .int .i64 low] w fun e w' => ∃ v', e = .returned (.tuple #[v', .int .i64 0]) ∧ holds w' (refR v' ⟨t, qu, low, [], List.replicate 64 0, [], 0⟩ :: F) := by
  have hw0 := hw
  obtain ⟨q, ⟨rfl, hev⟩, h1⟩ := refS.open hw
  refine Ct.go (args := [.agg #[.int .i64 (t.size : Nat), .slice q.ca t.ch.length q.cc, .slice q.xa t.tx.length q.xc, .slice q.wa t.wi.length q.wc, .slice q.sa t.stack.length q.sc, .int .i64 q.e0, .int .i64 q.e1, .int .i64 q.e2, .int .i64 q.e3], .int .i64 qu, .int .i64 low]) Tryz.func47 rfl rfl rfl hw0 ?_
  repeat' (first | (first | (refine G.isRegion 0 ?_; apply G.region; apply GL.isBox; refine GL.boxA rfl rfl (fun b3 => ?_)) | (apply GL.isAlloc; refine GL.alloc rfl (fun b6 => ?_)) | (refine G.isRegion 3 ?_; refine G.drawW [⟨none, [], some 5, none, fun _ => True, fun _ => blk b6 (.cells (Value.agg #[.int .i64 0, .slice none 0 0, .slice none 0 0, .slice none 0 0, .slice none 0 0, .int .i64 0, .int .i64 0, .int .i64 0, .int .i64 0, .int .i64 0, .int .i64 0, .slice none 0 0, .slice none 0 0, .slice none 0 0, .int .i64 0]).cells 94 (0, 0))⟩, ⟨some 3, [], some 5, some 26, IsSl 64 64, fun u => owns 3 encI1 1 u (List.replicate 64 0)⟩, ⟨some 5, [0, 1], none, none, fun _ => True, fun _ f => ∃ b : Nat, sep [blk b6 (.cells #[.int .i64 (t.size : Nat), .slice q.ca t.ch.length q.cc, .slice q.xa t.tx.length q.xc, .slice q.wa t.wi.length q.wc, .slice q.sa t.stack.length q.sc, .int .i64 q.e0, .int .i64 q.e1, .int .i64 q.e2, .int .i64 q.e3, .int .i64 qu, .int .i64 low, .slice none 0 0, .slice (some ⟨b, 0, none⟩) 64 64, .slice none 0 0, .int .i64 0] 94 (0, 0)), owns 3 encI1 1 (.slice (some ⟨b, 0, none⟩) 64 64) (List.replicate 64 0)] f⟩] [] [0] [2] (by kernel_rfl) (by kernel_rfl) rfl ⟨⟨_, rfl, .inl rfl⟩, trivial⟩ ?_) | (apply GW.isAny; first | refine GW.runA rfl rfl ?_ | refine GW.seeA rfl rfl ⟨⟨_, rfl, .inl rfl⟩, trivial⟩ rfl ?_) | (apply GW.isAny; refine GW.eff rfl rfl rfl rfl rfl trivial rfl trivial (fun u hu => by obtain ⟨b, rfl⟩ := hu; rfl) (DoesW.makeSl encI1 0 64 64 rfl rfl rfl rfl rfl (Nat.le_refl _) (by omega) (by unfold maxLen; omega)) rfl (fun u hu => ?_); obtain ⟨g, rfl⟩ := hu) | (apply GW.isAny; refine GW.store rfl rfl rfl rfl rfl ⟨⟨_, rfl, .inl rfl⟩, ⟨_, rfl, .inr (.inr ⟨_, _, rfl, rfl, rfl⟩)⟩, trivial⟩ rfl trivial rfl (DoesW.storeTake (vs := #[.int .i64 (t.size : Nat), .slice q.ca t.ch.length q.cc, .slice q.xa t.tx.length q.xc, .slice q.wa t.wi.length q.wc, .slice q.sa t.stack.length q.sc, .int .i64 q.e0, .int .i64 q.e1, .int .i64 q.e2, .int .i64 q.e3, .int .i64 qu, .int .i64 low, .slice none 0 0, .slice (some ⟨g, 0, none⟩) 64 64, .slice none 0 0, .int .i64 0]) (fun f => ∃ b : Nat, sep [blk b6 (.cells #[.int .i64 (t.size : Nat), .slice q.ca t.ch.length q.cc, .slice q.xa t.tx.length q.xc, .slice q.wa t.wi.length q.wc, .slice q.sa t.stack.length q.sc, .int .i64 q.e0, .int .i64 q.e1, .int .i64 q.e2, .int .i64 q.e3, .int .i64 qu, .int .i64 low, .slice none 0 0, .slice (some ⟨b, 0, none⟩) 64 64, .slice none 0 0, .int .i64 0] 94 (0, 0)), owns 3 encI1 1 (.slice (some ⟨b, 0, none⟩) 64 64) (List.replicate 64 0)] f) rfl rfl rfl rfl rfl (fun w G h => (holds_sep (l := [_, _]).2 h).mono fun f hf => ⟨g, hf⟩)) ?_) | (refine GW.nilE rfl ⟨⟨_, rfl, .inr (.inl rfl)⟩, trivial⟩ ?_; dsimp only [List.cons_append, List.nil_append])) | first | refine stp ?_ | (refine stpB ?_; intro _) | (refine spl ?_ ?_ <;> intro hc <;> ((try simp only [decide_eq_true_eq, decide_eq_false_iff_not, Bool.not_true, Bool.not_false, ne_eq, Classical.not_not, Int.not_lt, Int.not_le] at hc); (try (exfalso; first | omega | exact hc trivial | exact hc rfl)))))
  all_goals (first | (exfalso; omega) | skip)
  refine GE.caseX (F' := fun b : Nat => blk b6 (.cells #[.int .i64 (t.size : Nat), .slice q.ca t.ch.length q.cc, .slice q.xa t.tx.length q.xc, .slice q.wa t.wi.length q.wc, .slice q.sa t.stack.length q.sc, .int .i64 q.e0, .int .i64 q.e1, .int .i64 q.e2, .int .i64 q.e3, .int .i64 qu, .int .i64 low, .slice none 0 0, .slice (some ⟨b, 0, none⟩) 64 64, .slice none 0 0, .int .i64 0] 94 (0, 0)) :: owns 3 encI1 1 (.slice (some ⟨b, 0, none⟩) 64 64) (List.replicate 64 0) :: refS (.agg #[.int .i64 (t.size : Nat), .slice q.ca t.ch.length q.cc, .slice q.xa t.tx.length q.xc, .slice q.wa t.wi.length q.wc, .slice q.sa t.stack.length q.sc, .int .i64 q.e0, .int .i64 q.e1, .int .i64 q.e2, .int .i64 q.e3]) t :: F) (fun b => ?_) (fun w h => by
    obtain ⟨b, h⟩ := holds.open_ex h
    have h2 := holds_sep.1 h
    dsimp only [List.cons_append, List.nil_append] at h2
    exact ⟨b, h2.sub⟩)
  refine GE.resMany rfl (by (repeat (first | apply Res.nil | (apply Res.tmp; rfl) | (refine Res.cellA rfl rfl rfl ?_) | (refine Res.cell1 rfl rfl ?_)))) (fun w h => ?_)
  refine ⟨.agg #[.int .i64 (t.size : Nat), .slice q.ca t.ch.length q.cc, .slice q.xa t.tx.length q.xc, .slice q.wa t.wi.length q.wc, .slice q.sa t.stack.length q.sc, .int .i64 q.e0, .int .i64 q.e1, .int .i64 q.e2, .int .i64 q.e3, .int .i64 qu, .int .i64 low, .slice none 0 0, .slice (some ⟨b, 0, none⟩) 64 64, .slice none 0 0, .int .i64 0], rfl, ?_⟩
  have h0 : holds w (refS (.agg #[.int .i64 (t.size : Nat), .slice q.ca t.ch.length q.cc, .slice q.xa t.tx.length q.xc, .slice q.wa t.wi.length q.wc, .slice q.sa t.stack.length q.sc, .int .i64 q.e0, .int .i64 q.e1, .int .i64 q.e2, .int .i64 q.e3]) t :: owns 3 encI1 1 (.slice (some ⟨b, 0, none⟩) 64 64) (List.replicate 64 0) :: F) := h.sub
  have h2 := holds_ownRow_nil h0 3 1
  have h3 := holds_roRow_nil h2 1
  have h4 : holds w (refS (.agg #[.int .i64 (t.size : Nat), .slice q.ca t.ch.length q.cc, .slice q.xa t.tx.length q.xc, .slice q.wa t.wi.length q.wc, .slice q.sa t.stack.length q.sc, .int .i64 q.e0, .int .i64 q.e1, .int .i64 q.e2, .int .i64 q.e3]) t :: rows encI1 1 (.slice none 0 0) ([] : List Int) :: owns 3 encI1 1 (.slice (some ⟨b, 0, none⟩) 64 64) (List.replicate 64 0) :: owns 3 encI1 1 (.slice none 0 0) ([] : List Int) :: F) := by
    have h5 : holds w (rows encI1 1 (.slice none 0 0) ([] : List Int) :: owns 3 encI1 1 (.slice none 0 0) ([] : List Int) :: refS (.agg #[.int .i64 (t.size : Nat), .slice q.ca t.ch.length q.cc, .slice q.xa t.tx.length q.xc, .slice q.wa t.wi.length q.wc, .slice q.sa t.stack.length q.sc, .int .i64 q.e0, .int .i64 q.e1, .int .i64 q.e2, .int .i64 q.e3]) t :: owns 3 encI1 1 (.slice (some ⟨b, 0, none⟩) 64 64) (List.replicate 64 0) :: F) := h3
    exact h5.sub
  exact refR.shut (m := ⟨t, qu, low, [], List.replicate 64 0, [], 0⟩) ⟨q, none, 0, some ⟨b, 0, none⟩, 64, none, 0⟩ h4
end Go.Proofs.YtipkgamiejenaaaGreat

/- Reference 25: Paid. -/
namespace Go.Proofs.YtipkgamiejenaaaGreat
open Go Go.RowKit Go.MapKept
set_option linter.unusedVariables false
set_option linter.unusedSectionVars false
set_option linter.unusedSimpArgs false
set_option maxRecDepth 100000
set_option maxHeartbeats 2000000
variable (m : Rc.S) (K : Nat) (hO : Rc.Ok m K) (hK : K ≤ 900000)
include hO hK
end Go.Proofs.YtipkgamiejenaaaGreat

/- append(s, make([]T, k)...): zeros are appended to an owned row; append of a row that is there, in a drawn region. -/
namespace Go.Proofs.YtipkgamiejenaaaGreat
open Go Go.RowKit Go.MapKept
set_option linter.unusedVariables false
set_option linter.unusedSectionVars false
set_option linter.unusedSimpArgs false
section
variable {P : Program} {w : World} {l : List HProp}
end
section
variable {P : Program} {n : Nat} {env : Env} {F : List HProp} {ops : Array Oper} {Q : Exit → Act → World → Prop} {rest : List Oper} {d : Tmp} {ty : TypeId} {pos : String} {aft : Array Edge}
theorem DoesW.appendR {α : Type} {t e : TypeId} {size bytes m m' : Nat} {z v u : Value} {x y : Operand} {enc enc' : α → List Value} {l ys : List α} [ht : SliceT P t e size] [hz : ZeroT P e z size bytes] [he : Enc enc m] (hm : m = size) (hx : opnd env x = some v) (hy : opnd env y = some u) [hr : Reads F u enc' m' ys] (hee : enc' = enc) (hmm : m' = m)
    (hlen : (l.length + ys.length) * bytes ≤ 140737488355328) (hl63 : l.length + ys.length ≤ 140737488355328) :
    DoesW P n env F [owns e enc m v l] [] (.call { callee := .builtin .append, args := #[x, y], argTypes := #[t, t] }) IsSlc (fun r => owns e enc m r (l ++ ys)) :=
  .ofDoes (show Does P n env ([] ++ F) _ _ _ from Does.appendR hm hx hy hee hmm hlen hl63) fun u w G h => owns_isSlc h
theorem DoesW.build0 {α : Type} {t e : TypeId} {size : Nat} (enc : α → List Value) (m : Nat) [ht : SliceT P t e size] : DoesW P n env F [] [] (.buildSlice t 0 #[]) IsSlc (fun u => owns e enc m u []) :=
  .ofDoes (show Does P n env ([] ++ F) _ _ _ from Does.build0 enc m) fun u w G h => owns_isSlc h
end
end Go.Proofs.YtipkgamiejenaaaGreat

/- Reference 25: Tick. -/
namespace Go.Proofs.YtipkgamiejenaaaGreat
open Go Go.RowKit Go.MapKept
set_option linter.unusedVariables false
set_option linter.unusedSectionVars false
set_option linter.unusedSimpArgs false
set_option maxRecDepth 100000
set_option maxHeartbeats 4000000
structure RtS where
  k : Nat
  q : RfM
  la : Option Addr
  lc : Nat
  ov : Value
variable (m : Rc.S) (K : Nat) (hO : Rc.Ok m K) (hK : K + 2 * m.line.length ≤ 900000)
include hO hK
end Go.Proofs.YtipkgamiejenaaaGreat

/- The law StorePlays of chapter 19. -/
namespace Go.Proofs.YtipkgamiejenaaaGreat
open Go Go.RowKit Go.MapKept
set_option linter.unusedVariables false
set_option linter.unusedSectionVars false
set_option linter.unusedSimpArgs false
set_option maxRecDepth 100000
set_option maxHeartbeats 4000000
structure PlS where
  i : Nat
  t : St.S
  q : RfM
def tup0 : Value → Value
  | .tuple t => t.getD 0 undef
  | v => v
def ActR (t : St.S) (u : Value) : Prop := ∃ q : RfM, u = .tuple #[.agg #[.int .i64 ((t).size : Nat), .slice (q).ca (t).ch.length (q).cc, .slice (q).xa (t).tx.length (q).xc, .slice (q).wa (t).wi.length (q).wc, .slice (q).sa (t).stack.length (q).sc, .int .i64 (q).e0, .int .i64 (q).e1, .int .i64 (q).e2, .int .i64 (q).e3], .bool true]
theorem ActR.defd {t : St.S} {u : Value} (h : ActR t u) : isUndef u = false := by obtain ⟨q, rfl⟩ := h; rfl
def actP (sb : Nat) (t : St.S) (u : Value) : HProp := sep [storeP sb t, refS (tup0 u) t]
def actQ (sb : Nat) (t : St.S) (b : Nat) : HProp := fun f => ∃ q : RfM, sep [blk b (.cells #[.int .i64 ((t).size : Nat), .slice (q).ca (t).ch.length (q).cc, .slice (q).xa (t).tx.length (q).xc, .slice (q).wa (t).wi.length (q).wc, .slice (q).sa (t).stack.length (q).sc, .int .i64 (q).e0, .int .i64 (q).e1, .int .i64 (q).e2, .int .i64 (q).e3] 34 (0, 0)), storeP sb t, refS (.agg #[.int .i64 ((t).size : Nat), .slice (q).ca (t).ch.length (q).cc, .slice (q).xa (t).tx.length (q).xc, .slice (q).wa (t).wi.length (q).wc, .slice (q).sa (t).stack.length (q).sc, .int .i64 (q).e0, .int .i64 (q).e1, .int .i64 (q).e2, .int .i64 (q).e3]) t] f
theorem St.Inv.act {t : St.S} {K : Nat} (h : St.Inv t K) (a : ActM) : St.Inv (St.act t a) (K + 1) := by
  unfold St.act
  split; exact h.take _
  split; exact h.give _ _
  split; exact h.start _
  split; exact h.step _ _
  split; exact h.mono (by omega)
  exact h.put _ _ _ _
theorem actQ.shut {w : World} {sb b : Nat} {t : St.S} {q : RfM} {G : List HProp} (h : holds w (blk b (.cells #[.int .i64 ((t).size : Nat), .slice (q).ca (t).ch.length (q).cc, .slice (q).xa (t).tx.length (q).xc, .slice (q).wa (t).wi.length (q).wc, .slice (q).sa (t).stack.length (q).sc, .int .i64 (q).e0, .int .i64 (q).e1, .int .i64 (q).e2, .int .i64 (q).e3] 34 (0, 0)) :: ([actP sb t (.tuple #[.agg #[.int .i64 ((t).size : Nat), .slice (q).ca (t).ch.length (q).cc, .slice (q).xa (t).tx.length (q).xc, .slice (q).wa (t).wi.length (q).wc, .slice (q).sa (t).stack.length (q).sc, .int .i64 (q).e0, .int .i64 (q).e1, .int .i64 (q).e2, .int .i64 (q).e3], .bool true])] ++ G))) : holds w (actQ sb t b :: G) := by
  have h2 : holds w (storeP sb t :: refS (.agg #[.int .i64 ((t).size : Nat), .slice (q).ca (t).ch.length (q).cc, .slice (q).xa (t).tx.length (q).xc, .slice (q).wa (t).wi.length (q).wc, .slice (q).sa (t).stack.length (q).sc, .int .i64 (q).e0, .int .i64 (q).e1, .int .i64 (q).e2, .int .i64 (q).e3]) t :: blk b (.cells #[.int .i64 ((t).size : Nat), .slice (q).ca (t).ch.length (q).cc, .slice (q).xa (t).tx.length (q).xc, .slice (q).wa (t).wi.length (q).wc, .slice (q).sa (t).stack.length (q).sc, .int .i64 (q).e0, .int .i64 (q).e1, .int .i64 (q).e2, .int .i64 (q).e3] 34 (0, 0)) :: G) := holds_sep.1 (show holds w (sep [storeP sb t, refS (.agg #[.int .i64 ((t).size : Nat), .slice (q).ca (t).ch.length (q).cc, .slice (q).xa (t).tx.length (q).xc, .slice (q).wa (t).wi.length (q).wc, .slice (q).sa (t).stack.length (q).sc, .int .i64 (q).e0, .int .i64 (q).e1, .int .i64 (q).e2, .int .i64 (q).e3]) t] :: blk b (.cells #[.int .i64 ((t).size : Nat), .slice (q).ca (t).ch.length (q).cc, .slice (q).xa (t).tx.length (q).xc, .slice (q).wa (t).wi.length (q).wc, .slice (q).sa (t).stack.length (q).sc, .int .i64 (q).e0, .int .i64 (q).e1, .int .i64 (q).e2, .int .i64 (q).e3] 34 (0, 0)) :: G) from (show holds w (blk b (.cells #[.int .i64 ((t).size : Nat), .slice (q).ca (t).ch.length (q).cc, .slice (q).xa (t).tx.length (q).xc, .slice (q).wa (t).wi.length (q).wc, .slice (q).sa (t).stack.length (q).sc, .int .i64 (q).e0, .int .i64 (q).e1, .int .i64 (q).e2, .int .i64 (q).e3] 34 (0, 0)) :: sep [storeP sb t, refS (.agg #[.int .i64 ((t).size : Nat), .slice (q).ca (t).ch.length (q).cc, .slice (q).xa (t).tx.length (q).xc, .slice (q).wa (t).wi.length (q).wc, .slice (q).sa (t).stack.length (q).sc, .int .i64 (q).e0, .int .i64 (q).e1, .int .i64 (q).e2, .int .i64 (q).e3]) t] :: G) from h).order [1, 0])
  exact (holds_sep.2 (show holds w ([blk b (.cells #[.int .i64 ((t).size : Nat), .slice (q).ca (t).ch.length (q).cc, .slice (q).xa (t).tx.length (q).xc, .slice (q).wa (t).wi.length (q).wc, .slice (q).sa (t).stack.length (q).sc, .int .i64 (q).e0, .int .i64 (q).e1, .int .i64 (q).e2, .int .i64 (q).e3] 34 (0, 0)), storeP sb t, refS (.agg #[.int .i64 ((t).size : Nat), .slice (q).ca (t).ch.length (q).cc, .slice (q).xa (t).tx.length (q).xc, .slice (q).wa (t).wi.length (q).wc, .slice (q).sa (t).stack.length (q).sc, .int .i64 (q).e0, .int .i64 (q).e1, .int .i64 (q).e2, .int .i64 (q).e3]) t] ++ G) from h2.order [2, 0, 1])).mono fun f hf => ⟨q, hf⟩
theorem actQ.open {w : World} {sb b : Nat} {t : St.S} {G : List HProp} (h : holds w (actQ sb t b :: G)) : ∃ q : RfM, holds w (blk b (.cells #[.int .i64 ((t).size : Nat), .slice (q).ca (t).ch.length (q).cc, .slice (q).xa (t).tx.length (q).xc, .slice (q).wa (t).wi.length (q).wc, .slice (q).sa (t).stack.length (q).sc, .int .i64 (q).e0, .int .i64 (q).e1, .int .i64 (q).e2, .int .i64 (q).e3] 34 (0, 0)) :: storeP sb t :: refS (.agg #[.int .i64 ((t).size : Nat), .slice (q).ca (t).ch.length (q).cc, .slice (q).xa (t).tx.length (q).xc, .slice (q).wa (t).wi.length (q).wc, .slice (q).sa (t).stack.length (q).sc, .int .i64 (q).e0, .int .i64 (q).e1, .int .i64 (q).e2, .int .i64 (q).e3]) t :: G) := by
  obtain ⟨q, h⟩ := holds.open_ex h
  exact ⟨q, holds_sep.1 h⟩
theorem refS.open2 {w : World} {q : RfM} {t : St.S} {F : List HProp} (h : holds w (refS (.agg #[.int .i64 ((t).size : Nat), .slice (q).ca (t).ch.length (q).cc, .slice (q).xa (t).tx.length (q).xc, .slice (q).wa (t).wi.length (q).wc, .slice (q).sa (t).stack.length (q).sc, .int .i64 (q).e0, .int .i64 (q).e1, .int .i64 (q).e2, .int .i64 (q).e3]) t :: F)) : t.ev = [q.e0, q.e1, q.e2, q.e3] ∧ holds w (owns 84 encCk 3 (.slice q.ca t.ch.length q.cc) t.ch :: owns 9 encTx 1 (.slice q.xa t.tx.length q.xc) t.tx :: owns 3 encI1 1 (.slice q.wa t.wi.length q.wc) t.wi :: owns 3 encI1 1 (.slice q.sa t.stack.length q.sc) t.stack :: F) := by
  obtain ⟨q', ⟨e, hev⟩, h1⟩ := refS.open h
  obtain ⟨a1, a2, a3, a4, a5, a6, a7, a8, a9, a10, a11, a12⟩ := q
  obtain ⟨c1, c2, c3, c4, c5, c6, c7, c8, c9, c10, c11, c12⟩ := q'
  simp only [Value.agg.injEq, Array.mk.injEq, List.cons.injEq, Value.slice.injEq, Value.int.injEq, true_and, and_true] at e
  obtain ⟨⟨rfl, rfl⟩, ⟨rfl, rfl⟩, ⟨rfl, rfl⟩, ⟨rfl, rfl⟩, rfl, rfl, rfl, rfl⟩ := e
  exact ⟨hev, h1⟩
theorem st_IntsR (v u : Value) (l : List Int) (hn : l.length ≤ 1048576) (w : World) (F : List HProp) [Reads F v encI1 1 l] [Reads F u encI1 1 l] (hw : holds w F) :
    Ct Tryz.prog 20 #[v, u] w fun e w' => e = .returned (.bool true) ∧ holds w' F :=
  (st_Ints v u l l hn hn w F hw).mono fun e w' ⟨he, hh⟩ => ⟨by rw [he, decide_eq_true rfl], hh⟩
end Go.Proofs.YtipkgamiejenaaaGreat

/- Law 25: told. -/
namespace Go.Proofs.YtipkgamiejenaaaGreat
open Go Go.RowKit Go.MapKept
set_option linter.unusedVariables false
set_option linter.unusedSectionVars false
set_option linter.unusedSimpArgs false
set_option maxRecDepth 100000
set_option maxHeartbeats 4000000
variable (rb sb : Nat) (m : Rc.S) (K : Nat) (hO : Rc.Ok m K) (hK : K ≤ 900000)
include hO hK
end Go.Proofs.YtipkgamiejenaaaGreat

/- Law 25: the chapter's example; ReclaimNone. -/
namespace Go.Proofs.YtipkgamiejenaaaGreat
open Go Go.RowKit Go.MapKept
set_option linter.unusedVariables false
set_option linter.unusedSectionVars false
set_option linter.unusedSimpArgs false
set_option maxRecDepth 100000
set_option maxHeartbeats 4000000
theorem wk_Take (sb : Nat) (t : St.S) (K : Nat) (hI : St.Inv t K) (hK : K ≤ 100) (r : Int × Int) (hr : (St.take t 1).2 = r) (w : World) (F : List HProp) (hw : holds w (storeP sb t :: F)) :
    Ct Tryz.prog 25 #[.pointer (some ⟨sb, 0, none⟩), .int .i64 1] w fun e w' => e = .returned (.tuple #[.int .i64 r.1, .int .i64 r.2]) ∧ holds w' (storeP sb (St.take t 1).1 :: F) := by
  have := store_Take sb t K hI (by omega) 1 w F hw
  rw [← hr]; exact this
theorem wk_Put (rb sb : Nat) (m m' : Rc.S) (K : Nat) (hO : Rc.Ok m K) (hK : K ≤ 100) (i e : Int) (hm : Rc.put m i 1 = (m', e)) (t t' : St.S) (ht : m.t = t) (ht' : m'.t = t') (w : World) (F : List HProp) (hw : holds w (recP rb sb m K :: storeP sb t :: F)) :
    Ct Tryz.prog 40 #[.pointer (some ⟨rb, 0, none⟩), .int .i64 i, .int .i64 1] w fun x w' => x = .returned (.int .i64 e) ∧ holds w' (recP rb sb m' (K + 1) :: storeP sb t' :: F) := by
  subst ht ht'
  have := rec_Put rb sb m K hO (by omega) i 1 w F hw
  rw [hm] at this; exact this
theorem wk_Ahead (rb sb : Nat) (w : World) (F : List HProp) (hw : holds w (recP rb sb Wk.m3 7 :: F)) :
    Ct Tryz.prog 42 #[.pointer (some ⟨rb, 0, none⟩), .int .i64 1] w fun e w' => e = .returned (.int .i64 2) ∧ holds w' (recP rb sb Wk.m3 7 :: F) := by
  have := rec_Ahead rb sb Wk.m3 7 (Wk.o3.more (by omega)) (by omega) 1 w F hw
  rw [Wk.e5] at this; exact this
theorem wk_Ints (v u : Value) (l : List Int) (hl : l.length ≤ 1048576) (w : World) (F : List HProp) [Reads F v encI1 1 l] [Reads F u encI1 1 l] (hw : holds w F) :
    Ct Tryz.prog 20 #[v, u] w fun e w' => e = .returned (.bool true) ∧ holds w' F := by
  have := st_Ints v u l l hl hl w F hw
  rw [decide_eq_true rfl] at this; exact this
theorem wk_Freed (rb sb : Nat) (w : World) (F : List HProp) (hw : holds w (recP rb sb Wk.m5 17 :: F)) :
    Ct Tryz.prog 55 #[.pointer (some ⟨rb, 0, none⟩)] w fun e w' => e = .returned (.int .i64 3) ∧ holds w' (recP rb sb Wk.m5 17 :: F) := by
  have := rec_Freed rb sb Wk.m5 17 (Wk.o5.more (by omega)) (by omega) w F hw
  rw [Wk.e7] at this; exact this
theorem wk_Ticks (rb sb : Nat) (w : World) (F : List HProp) (hw : holds w (recP rb sb Wk.m5 17 :: F)) :
    Ct Tryz.prog 54 #[.pointer (some ⟨rb, 0, none⟩)] w fun e w' => e = .returned (.int .i64 2) ∧ holds w' (recP rb sb Wk.m5 17 :: F) := by
  have := rec_Ticks rb sb Wk.m5 17 (Wk.o5.more (by omega)) (by omega) w F hw
  rw [Wk.e8] at this; exact this
theorem wk_Low (rb sb : Nat) (w : World) (F : List HProp) (hw : holds w (recP rb sb Wk.m5 17 :: F)) :
    Ct Tryz.prog 56 #[.pointer (some ⟨rb, 0, none⟩)] w fun e w' => e = .returned (.bool false) ∧ holds w' (recP rb sb Wk.m5 17 :: F) := by
  have := rec_Low rb sb Wk.m5 17 (Wk.o5.more (by omega)) (by omega) w F hw
  rw [Wk.e8, Wk.e9] at this; exact this
theorem wk_Tick (rb sb : Nat) (m : Rc.S) (K : Nat) (hO : Rc.Ok m K) (hK : K ≤ 100) (v : Value) (p : List Int) (hp : p.length ≤ 64) (l o : List Int) (hl : m.line = l) (ho : l.take m.q.toNat = o) (hll : l.length ≤ 10) (w : World) (F : List HProp) [Reads F v encI1 1 p] (hw : holds w (recP rb sb m K :: storeP sb m.t :: F)) :
    Ct Tryz.prog 44 #[.pointer (some ⟨rb, 0, none⟩), v] w fun e w' => ∃ u : Value, e = .returned (.tuple #[u, .int .i64 0]) ∧ holds w' (owns 3 encI1 1 u o :: recP rb sb (Rc.tick m p) (K + 1 + 2 * l.length) :: storeP sb (Rc.tick m p).t :: F) := by
  have := rec_Tick rb sb m K hO (by rw [hl]; omega) v p hp w F hw
  rw [hl, ho] at this; exact this
theorem wk_New (sb : Nat) (w : World) (F : List HProp) (hw : holds w (storeP sb Wk.t3 :: F)) :
    Ct Tryz.prog 38 #[.pointer (some ⟨sb, 0, none⟩), .int .i64 2, .int .i64 4] w fun e w' => ∃ rb : Nat, e = .returned (.tuple #[.pointer (some ⟨rb, 0, none⟩), .int .i64 0]) ∧ holds w' (recP rb sb Wk.m0 3 :: storeP sb Wk.t3 :: F) := rec_New sb Wk.t3 3 Wk.i3 (by omega) 2 4 (by omega) (by omega) w F hw
namespace Wk
theorem q1 : Rc.put m0 2 1 = (m1, 0) := Prod.ext rfl e1
theorem q2 : Rc.put m1 0 1 = (m2, 0) := Prod.ext rfl e2
theorem q3 : Rc.put m2 1 1 = (m3, 0) := Prod.ext rfl e3
end Wk
theorem law25_works (w : World) (F : List HProp) (hw : holds w F) :
    Ct Tryz.prog 46 #[] w fun e w' => e = .returned (.bool true) ∧ holds w' F := by
  refine Ct.go (args := []) Tryz.func46 rfl rfl rfl hw ?_
  repeat' (first | (first | (apply GL.isCall; refine GL.call rfl rfl (fun w h => store_Make 4 64 (by omega) (by omega) (by omega) (by omega) (by decide) w _ h) (fun sb => ?_)) | (apply GL.isCall; refine GL.callH1 (storeP sb (St.new 4 64)) (vs := [.pointer (some ⟨sb, 0, none⟩), .int .i64 1]) rfl rfl (fun w h => wk_Take sb (St.new 4 64) 0 Wk.i0 (by omega) (0, 0) (by decide +kernel) w _ h) ?_) | (apply GL.isCall; refine GL.callH1 (storeP sb (St.take (St.new 4 64) 1).1) (vs := [.pointer (some ⟨sb, 0, none⟩), .int .i64 1]) rfl rfl (fun w h => wk_Take sb Wk.t1 1 Wk.i1 (by omega) (1, 0) (by decide +kernel) w _ h) ?_) | (apply GL.isCall; refine GL.callH1 (storeP sb (St.take Wk.t1 1).1) (vs := [.pointer (some ⟨sb, 0, none⟩), .int .i64 1]) rfl rfl (fun w h => wk_Take sb Wk.t2 2 Wk.i2 (by omega) (2, 0) (by decide +kernel) w _ h) ?_) | (apply GL.isCall; refine GL.callH (storeP sb (St.take Wk.t2 1).1) (vs := [.pointer (some ⟨sb, 0, none⟩), .int .i64 2, .int .i64 4]) rfl rfl (fun w h => wk_New sb w _ h) (fun rb => ?_)) | (apply GL.isCall; refine GL.callHH1 (recP rb sb Wk.m0 3) (storeP sb Wk.t3) (vs := [.pointer (some ⟨rb, 0, none⟩), .int .i64 2, .int .i64 1]) rfl rfl (fun w h => wk_Put rb sb Wk.m0 Wk.m1 3 Wk.o0 (by omega) 2 0 Wk.q1 Wk.t3 Wk.m1.t rfl rfl w _ h) ?_) | (apply GL.isCall; refine GL.callHH1 (recP rb sb Wk.m1 (3 + 1)) (storeP sb Wk.m1.t) (vs := [.pointer (some ⟨rb, 0, none⟩), .int .i64 0, .int .i64 1]) rfl rfl (fun w h => wk_Put rb sb Wk.m1 Wk.m2 (3 + 1) Wk.o1 (by omega) 0 0 Wk.q2 Wk.m1.t Wk.m2.t rfl rfl w _ h) ?_) | (apply GL.isCall; refine GL.callHH1 (recP rb sb Wk.m2 (3 + 1 + 1)) (storeP sb Wk.m2.t) (vs := [.pointer (some ⟨rb, 0, none⟩), .int .i64 1, .int .i64 1]) rfl rfl (fun w h => wk_Put rb sb Wk.m2 Wk.m3 (3 + 1 + 1) Wk.o2 (by omega) 1 0 Wk.q3 Wk.m2.t Wk.m3.t rfl rfl w _ h) ?_) | (apply GL.isCall; refine GL.callHH1 (recP rb sb Wk.m3 (3 + 1 + 1 + 1)) (storeP sb Wk.m3.t) (vs := [.pointer (some ⟨rb, 0, none⟩), .int .i64 1, .int .i64 1]) rfl rfl (fun w h => wk_Put rb sb Wk.m3 Wk.m3 (3 + 1 + 1 + 1) Wk.o3 (by omega) 1 18 Wk.p4 Wk.m3.t Wk.m3.t rfl rfl w _ h) ?_) | (apply GL.isCall; refine GL.callH1 (recP rb sb Wk.m3 (3 + 1 + 1 + 1 + 1)) (vs := [.pointer (some ⟨rb, 0, none⟩), .int .i64 1]) rfl rfl (fun w h => wk_Ahead rb sb w _ h) ?_) | (apply GL.isAny; refine GL.buildR (enc := encI1) [(9 : Int)] (parts := [(0, .const (.int .i64 9))]) rfl rfl rfl rfl rfl (fun l hl => match l, hl with | [_], _ => rfl) rfl (fun g0 => ?_)) | (apply GL.isCall; refine GL.callHH (recP rb sb Wk.m3 (3 + 1 + 1 + 1 + 1)) (storeP sb Wk.m3.t) (vs := [.pointer (some ⟨rb, 0, none⟩), .slice (some ⟨g0, 0, none⟩) 1 1]) rfl rfl (fun w h => wk_Tick rb sb Wk.m3 (3 + 1 + 1 + 1 + 1) (Wk.o3.more (by omega)) (by omega) _ [9] (by simp) [2, 0, 1] [2, 0] Wk.e5 (by rw [Wk.e10.1]; rfl) (by simp) w _ h) (fun u1 => ?_)) | (refine G.isRegion 8 ?_; refine G.nilOwn 3 encI1 1 ?_; apply G.region) | (apply GL.isCall; refine GL.callHH (recP rb sb (Rc.tick Wk.m3 [9]) (3 + 1 + 1 + 1 + 1 + 1 + 2 * [(2 : Int), 0, 1].length)) (storeP sb (Rc.tick Wk.m3 [9]).t) (vs := [.pointer (some ⟨rb, 0, none⟩), .slice none 0 0]) rfl rfl (fun w h => wk_Tick rb sb Wk.m4 14 (Wk.o4.more (by omega)) (by omega) _ [] (by simp) [1] [1] Wk.e6 (by rw [Wk.e10.2]; rfl) (by simp) w _ h) (fun u2 => ?_)) | (apply GL.isAny; refine GL.buildR (enc := encI1) [(2 : Int), 0] (parts := [(0, .const (.int .i64 2)), (1, .const (.int .i64 0))]) rfl rfl rfl rfl rfl (fun l hl => match l, hl with | [_, _], _ => rfl) rfl (fun g1 => ?_)) | (apply GL.isAny; refine GL.buildR (enc := encI1) [(1 : Int)] (parts := [(0, .const (.int .i64 1))]) rfl rfl rfl rfl rfl (fun l hl => match l, hl with | [_], _ => rfl) rfl (fun g2 => ?_)) | (apply GL.isCall; refine GL.call1 (vs := [u1, .slice (some ⟨g1, 0, none⟩) 2 2]) rfl rfl (fun w h => wk_Ints u1 _ [2, 0] (by simp) w _ h) ?_) | (apply GL.isCall; refine GL.call1 (vs := [u2, .slice (some ⟨g2, 0, none⟩) 1 1]) rfl rfl (fun w h => wk_Ints u2 _ [1] (by simp) w _ h) ?_) | (apply GL.isCall; refine GL.callH1 (recP rb sb (Rc.tick Wk.m4 []) (14 + 1 + 2 * [(1 : Int)].length)) (vs := [.pointer (some ⟨rb, 0, none⟩)]) rfl rfl (fun w h => wk_Freed rb sb w _ h) ?_) | (apply GL.isCall; refine GL.callH1 (recP rb sb Wk.m5 17) (vs := [.pointer (some ⟨rb, 0, none⟩)]) rfl rfl (fun w h => wk_Ticks rb sb w _ h) ?_) | (apply GL.isCall; refine GL.callH1 (recP rb sb Wk.m5 17) (vs := [.pointer (some ⟨rb, 0, none⟩)]) rfl rfl (fun w h => wk_Low rb sb w _ h) ?_)) | first | refine stp ?_ | (refine stpB ?_; intro _) | (refine spl ?_ ?_ <;> intro hc <;> ((try simp only [decide_eq_true_eq, decide_eq_false_iff_not, Bool.not_true, Bool.not_false, ne_eq, Classical.not_not, Int.not_lt, Int.not_le] at hc); (try (exfalso; first | omega | exact hc trivial | exact hc rfl)))))
  refine GE.resOne rfl (by (repeat (first | apply Res.nil | (apply Res.tmp; rfl) | (refine Res.cellA rfl rfl rfl ?_) | (refine Res.cell1 rfl rfl ?_)))) (fun w h => ?_)
  exact ⟨rfl, h.sub⟩
end Go.Proofs.YtipkgamiejenaaaGreat

/- The law ReclaimPlays of chapter 25: what is plain, and contracts in its form. -/
namespace Go.Proofs.YtipkgamiejenaaaGreat
open Go Go.RowKit Go.MapKept
set_option linter.unusedVariables false
set_option linter.unusedSectionVars false
set_option linter.unusedSimpArgs false
set_option maxRecDepth 100000
set_option maxHeartbeats 4000000
structure AcV where
  kd : Int
  i : Int
  ow : Int
  n : Int
  p : SlV
@[reducible] def encAc (s : AcV) : List Value := [.int .i64 s.kd, .int .i64 s.i, .int .i64 s.ow, .int .i64 s.n, s.p.v]
instance : Enc encAc 5 := ⟨fun _ => rfl, fun _ => by simp [encAc, Value.oneCell'], by omega⟩
/-- What the acts' slices hold. -/
structure AcR (F : List HProp) (L : List AcV) (M : List (List Int)) : Prop where
  len : L.length = M.length
  at_ : ∀ (i : Nat) (h : i < L.length) (h2 : i < M.length), Reads F (L[i]).p.v encI1 1 M[i]
structure RpS where
  i : Nat
  m : Rc.S
  K : Nat
  x : RrM
theorem refR.open2 {w : World} {x : RrM} {m : Rc.S} {F : List HProp} (h : holds w (refR (.agg #[.int .i64 (m.t.size : Nat), .slice x.q.ca m.t.ch.length x.q.cc, .slice x.q.xa m.t.tx.length x.q.xc, .slice x.q.wa m.t.wi.length x.q.wc, .slice x.q.sa m.t.stack.length x.q.sc, .int .i64 x.q.e0, .int .i64 x.q.e1, .int .i64 x.q.e2, .int .i64 x.q.e3, .int .i64 m.q, .int .i64 m.low, .slice x.la m.line.length x.lc, .slice x.wa m.want.length x.wc, .slice x.va m.lv.length x.vc, .int .i64 m.fr]) m :: F)) : holds w (refS (.agg #[.int .i64 (m.t.size : Nat), .slice x.q.ca m.t.ch.length x.q.cc, .slice x.q.xa m.t.tx.length x.q.xc, .slice x.q.wa m.t.wi.length x.q.wc, .slice x.q.sa m.t.stack.length x.q.sc, .int .i64 x.q.e0, .int .i64 x.q.e1, .int .i64 x.q.e2, .int .i64 x.q.e3]) m.t :: rows encI1 1 (.slice x.la m.line.length x.lc) m.line :: owns 3 encI1 1 (.slice x.wa m.want.length x.wc) m.want :: owns 3 encI1 1 (.slice x.va m.lv.length x.vc) m.lv :: F) := by
  obtain ⟨y, e, h1⟩ := refR.open h
  obtain ⟨⟨a1, a2, a3, a4, a5, a6, a7, a8, a9, a10, a11, a12⟩, b1, b2, b3, b4, b5, b6⟩ := x
  obtain ⟨⟨c1, c2, c3, c4, c5, c6, c7, c8, c9, c10, c11, c12⟩, d1, d2, d3, d4, d5, d6⟩ := y
  simp only [Value.agg.injEq, Array.mk.injEq, List.cons.injEq, Value.slice.injEq, Value.int.injEq, true_and, and_true] at e
  obtain ⟨⟨rfl, rfl⟩, ⟨rfl, rfl⟩, ⟨rfl, rfl⟩, ⟨rfl, rfl⟩, rfl, rfl, rfl, rfl, ⟨rfl, rfl⟩, ⟨rfl, rfl⟩, rfl, rfl⟩ := e
  exact h1
theorem recP.same {rb sb : Nat} {m : Rc.S} {t : St.S} {K : Nat} (h : t.ch.length = m.t.ch.length) : recP rb sb { m with t := t } K = recP rb sb m K := by
  unfold recP
  dsimp only
  rw [h]
theorem recP.grow {w : World} {rb sb : Nat} {m : Rc.S} {K K' : Nat} {F : List HProp} (hk : K ≤ K') (h : holds w (recP rb sb m K :: F)) : holds w (recP rb sb m K' :: F) := recP.more hk h
/-- A chunk was taken: the pieces as they are then. -/
theorem act0_shut {w : World} {rb sb b : Nat} {m : Rc.S} {x : RrM} {t : St.S} {y : RfM} {K K' : Nat} {G : List HProp} (ht : t.ch.length = m.t.ch.length) (hK : K ≤ K') (h : holds w (blk b (.cells #[.int .i64 (t.size : Nat), .slice y.ca t.ch.length y.cc, .slice y.xa t.tx.length y.xc, .slice y.wa t.wi.length y.wc, .slice y.sa t.stack.length y.sc, .int .i64 y.e0, .int .i64 y.e1, .int .i64 y.e2, .int .i64 y.e3, .int .i64 m.q, .int .i64 m.low, .slice x.la m.line.length x.lc, .slice x.wa m.want.length x.wc, .slice x.va m.lv.length x.vc, .int .i64 m.fr] 94 (0, 0)) :: refS (.agg #[.int .i64 (t.size : Nat), .slice y.ca t.ch.length y.cc, .slice y.xa t.tx.length y.xc, .slice y.wa t.wi.length y.wc, .slice y.sa t.stack.length y.sc, .int .i64 y.e0, .int .i64 y.e1, .int .i64 y.e2, .int .i64 y.e3]) t :: rows encI1 1 (.slice x.la m.line.length x.lc) m.line :: owns 3 encI1 1 (.slice x.wa m.want.length x.wc) m.want :: owns 3 encI1 1 (.slice x.va m.lv.length x.vc) m.lv :: recP rb sb m K :: storeP sb t :: G)) :
    holds w (recP rb sb { m with t := t } K' :: storeP sb t :: refR (.agg #[.int .i64 (({ m with t := t } : Rc.S).t.size : Nat), .slice (⟨y, x.la, x.lc, x.wa, x.wc, x.va, x.vc⟩ : RrM).q.ca ({ m with t := t } : Rc.S).t.ch.length (⟨y, x.la, x.lc, x.wa, x.wc, x.va, x.vc⟩ : RrM).q.cc, .slice (⟨y, x.la, x.lc, x.wa, x.wc, x.va, x.vc⟩ : RrM).q.xa ({ m with t := t } : Rc.S).t.tx.length (⟨y, x.la, x.lc, x.wa, x.wc, x.va, x.vc⟩ : RrM).q.xc, .slice (⟨y, x.la, x.lc, x.wa, x.wc, x.va, x.vc⟩ : RrM).q.wa ({ m with t := t } : Rc.S).t.wi.length (⟨y, x.la, x.lc, x.wa, x.wc, x.va, x.vc⟩ : RrM).q.wc, .slice (⟨y, x.la, x.lc, x.wa, x.wc, x.va, x.vc⟩ : RrM).q.sa ({ m with t := t } : Rc.S).t.stack.length (⟨y, x.la, x.lc, x.wa, x.wc, x.va, x.vc⟩ : RrM).q.sc, .int .i64 (⟨y, x.la, x.lc, x.wa, x.wc, x.va, x.vc⟩ : RrM).q.e0, .int .i64 (⟨y, x.la, x.lc, x.wa, x.wc, x.va, x.vc⟩ : RrM).q.e1, .int .i64 (⟨y, x.la, x.lc, x.wa, x.wc, x.va, x.vc⟩ : RrM).q.e2, .int .i64 (⟨y, x.la, x.lc, x.wa, x.wc, x.va, x.vc⟩ : RrM).q.e3, .int .i64 ({ m with t := t } : Rc.S).q, .int .i64 ({ m with t := t } : Rc.S).low, .slice (⟨y, x.la, x.lc, x.wa, x.wc, x.va, x.vc⟩ : RrM).la ({ m with t := t } : Rc.S).line.length (⟨y, x.la, x.lc, x.wa, x.wc, x.va, x.vc⟩ : RrM).lc, .slice (⟨y, x.la, x.lc, x.wa, x.wc, x.va, x.vc⟩ : RrM).wa ({ m with t := t } : Rc.S).want.length (⟨y, x.la, x.lc, x.wa, x.wc, x.va, x.vc⟩ : RrM).wc, .slice (⟨y, x.la, x.lc, x.wa, x.wc, x.va, x.vc⟩ : RrM).va ({ m with t := t } : Rc.S).lv.length (⟨y, x.la, x.lc, x.wa, x.wc, x.va, x.vc⟩ : RrM).vc, .int .i64 ({ m with t := t } : Rc.S).fr]) { m with t := t } :: blk b (.cells #[.int .i64 (t.size : Nat), .slice y.ca t.ch.length y.cc, .slice y.xa t.tx.length y.xc, .slice y.wa t.wi.length y.wc, .slice y.sa t.stack.length y.sc, .int .i64 y.e0, .int .i64 y.e1, .int .i64 y.e2, .int .i64 y.e3, .int .i64 m.q, .int .i64 m.low, .slice x.la m.line.length x.lc, .slice x.wa m.want.length x.wc, .slice x.va m.lv.length x.vc, .int .i64 m.fr] 94 (0, 0)) :: G) := by
  have h3 : holds w (refS (.agg #[.int .i64 (t.size : Nat), .slice y.ca t.ch.length y.cc, .slice y.xa t.tx.length y.xc, .slice y.wa t.wi.length y.wc, .slice y.sa t.stack.length y.sc, .int .i64 y.e0, .int .i64 y.e1, .int .i64 y.e2, .int .i64 y.e3]) t :: rows encI1 1 (.slice x.la m.line.length x.lc) m.line :: owns 3 encI1 1 (.slice x.wa m.want.length x.wc) m.want :: owns 3 encI1 1 (.slice x.va m.lv.length x.vc) m.lv :: recP rb sb m K :: storeP sb t :: blk b (.cells #[.int .i64 (t.size : Nat), .slice y.ca t.ch.length y.cc, .slice y.xa t.tx.length y.xc, .slice y.wa t.wi.length y.wc, .slice y.sa t.stack.length y.sc, .int .i64 y.e0, .int .i64 y.e1, .int .i64 y.e2, .int .i64 y.e3, .int .i64 m.q, .int .i64 m.low, .slice x.la m.line.length x.lc, .slice x.wa m.want.length x.wc, .slice x.va m.lv.length x.vc, .int .i64 m.fr] 94 (0, 0)) :: G) := h.order [1, 2, 3, 4, 5, 6, 0]
  have h4 := refR.shut (m := { m with t := t }) (⟨y, x.la, x.lc, x.wa, x.wc, x.va, x.vc⟩ : RrM) h3
  have h5 := h4.order [1, 2, 0]
  rw [← recP.same (t := t) ht] at h5
  exact recP.grow hK h5
/-- The reference's results, told with what lies where. -/
theorem ref25_PutX (x : RrM) (m : Rc.S) (K : Nat) (hO : Rc.Ok m K) (hK : K ≤ 900000) (i ow : Int) (hn : m.line.length ≤ 1000000) (w : World) (F : List HProp) (hw : holds w (refR (.agg #[.int .i64 (m.t.size : Nat), .slice x.q.ca m.t.ch.length x.q.cc, .slice x.q.xa m.t.tx.length x.q.xc, .slice x.q.wa m.t.wi.length x.q.wc, .slice x.q.sa m.t.stack.length x.q.sc, .int .i64 x.q.e0, .int .i64 x.q.e1, .int .i64 x.q.e2, .int .i64 x.q.e3, .int .i64 m.q, .int .i64 m.low, .slice x.la m.line.length x.lc, .slice x.wa m.want.length x.wc, .slice x.va m.lv.length x.vc, .int .i64 m.fr]) m :: F)) :
    Ct Tryz.prog 48 #[.agg #[.int .i64 (m.t.size : Nat), .slice x.q.ca m.t.ch.length x.q.cc, .slice x.q.xa m.t.tx.length x.q.xc, .slice x.q.wa m.t.wi.length x.q.wc, .slice x.q.sa m.t.stack.length x.q.sc, .int .i64 x.q.e0, .int .i64 x.q.e1, .int .i64 x.q.e2, .int .i64 x.q.e3, .int .i64 m.q, .int .i64 m.low, .slice x.la m.line.length x.lc, .slice x.wa m.want.length x.wc, .slice x.va m.lv.length x.vc, .int .i64 m.fr], .int .i64 i, .int .i64 ow] w fun e w' => ∃ y : RrM, e = .returned (.tuple #[.agg #[.int .i64 ((Rc.put m i ow).1.t.size : Nat), .slice y.q.ca (Rc.put m i ow).1.t.ch.length y.q.cc, .slice y.q.xa (Rc.put m i ow).1.t.tx.length y.q.xc, .slice y.q.wa (Rc.put m i ow).1.t.wi.length y.q.wc, .slice y.q.sa (Rc.put m i ow).1.t.stack.length y.q.sc, .int .i64 y.q.e0, .int .i64 y.q.e1, .int .i64 y.q.e2, .int .i64 y.q.e3, .int .i64 (Rc.put m i ow).1.q, .int .i64 (Rc.put m i ow).1.low, .slice y.la (Rc.put m i ow).1.line.length y.lc, .slice y.wa (Rc.put m i ow).1.want.length y.wc, .slice y.va (Rc.put m i ow).1.lv.length y.vc, .int .i64 (Rc.put m i ow).1.fr], .int .i64 (Rc.put m i ow).2]) ∧ holds w' (refR (.agg #[.int .i64 ((Rc.put m i ow).1.t.size : Nat), .slice y.q.ca (Rc.put m i ow).1.t.ch.length y.q.cc, .slice y.q.xa (Rc.put m i ow).1.t.tx.length y.q.xc, .slice y.q.wa (Rc.put m i ow).1.t.wi.length y.q.wc, .slice y.q.sa (Rc.put m i ow).1.t.stack.length y.q.sc, .int .i64 y.q.e0, .int .i64 y.q.e1, .int .i64 y.q.e2, .int .i64 y.q.e3, .int .i64 (Rc.put m i ow).1.q, .int .i64 (Rc.put m i ow).1.low, .slice y.la (Rc.put m i ow).1.line.length y.lc, .slice y.wa (Rc.put m i ow).1.want.length y.wc, .slice y.va (Rc.put m i ow).1.lv.length y.vc, .int .i64 (Rc.put m i ow).1.fr]) (Rc.put m i ow).1 :: F) :=
  (ref25_Put m K hO hK _ i ow hn w F hw).mono fun e w' ⟨v', he, hh⟩ => by
    obtain ⟨y, rfl, _⟩ := refR.open hh
    exact ⟨y, he, hh⟩
theorem ref25_NewX (q : RfM) (t : St.S) (qu low : Int) (hq : 1 ≤ qu ∧ qu ≤ 1048576) (hl : 0 ≤ low ∧ low ≤ 1048576) (w : World) (F : List HProp) (hw : holds w (refS (.agg #[.int .i64 (t.size : Nat), .slice q.ca t.ch.length q.cc, .slice q.xa t.tx.length q.xc, .slice q.wa t.wi.length q.wc, .slice q.sa t.stack.length q.sc, .int .i64 q.e0, .int .i64 q.e1, .int .i64 q.e2, .int .i64 q.e3]) t :: F)) :
    Ct Tryz.prog 47 #[.agg #[.int .i64 (t.size : Nat), .slice q.ca t.ch.length q.cc, .slice q.xa t.tx.length q.xc, .slice q.wa t.wi.length q.wc, .slice q.sa t.stack.length q.sc, .int .i64 q.e0, .int .i64 q.e1, .int .i64 q.e2, .int .i64 q.e3], .int .i64 qu, .int .i64 low] w fun e w' => ∃ y : RrM, e = .returned (.tuple #[.agg #[.int .i64 ((⟨t, qu, low, [], List.replicate 64 0, [], 0⟩ : Rc.S).t.size : Nat), .slice y.q.ca (⟨t, qu, low, [], List.replicate 64 0, [], 0⟩ : Rc.S).t.ch.length y.q.cc, .slice y.q.xa (⟨t, qu, low, [], List.replicate 64 0, [], 0⟩ : Rc.S).t.tx.length y.q.xc, .slice y.q.wa (⟨t, qu, low, [], List.replicate 64 0, [], 0⟩ : Rc.S).t.wi.length y.q.wc, .slice y.q.sa (⟨t, qu, low, [], List.replicate 64 0, [], 0⟩ : Rc.S).t.stack.length y.q.sc, .int .i64 y.q.e0, .int .i64 y.q.e1, .int .i64 y.q.e2, .int .i64 y.q.e3, .int .i64 (⟨t, qu, low, [], List.replicate 64 0, [], 0⟩ : Rc.S).q, .int .i64 (⟨t, qu, low, [], List.replicate 64 0, [], 0⟩ : Rc.S).low, .slice y.la (⟨t, qu, low, [], List.replicate 64 0, [], 0⟩ : Rc.S).line.length y.lc, .slice y.wa (⟨t, qu, low, [], List.replicate 64 0, [], 0⟩ : Rc.S).want.length y.wc, .slice y.va (⟨t, qu, low, [], List.replicate 64 0, [], 0⟩ : Rc.S).lv.length y.vc, .int .i64 (⟨t, qu, low, [], List.replicate 64 0, [], 0⟩ : Rc.S).fr], .int .i64 0]) ∧ holds w' (refR (.agg #[.int .i64 ((⟨t, qu, low, [], List.replicate 64 0, [], 0⟩ : Rc.S).t.size : Nat), .slice y.q.ca (⟨t, qu, low, [], List.replicate 64 0, [], 0⟩ : Rc.S).t.ch.length y.q.cc, .slice y.q.xa (⟨t, qu, low, [], List.replicate 64 0, [], 0⟩ : Rc.S).t.tx.length y.q.xc, .slice y.q.wa (⟨t, qu, low, [], List.replicate 64 0, [], 0⟩ : Rc.S).t.wi.length y.q.wc, .slice y.q.sa (⟨t, qu, low, [], List.replicate 64 0, [], 0⟩ : Rc.S).t.stack.length y.q.sc, .int .i64 y.q.e0, .int .i64 y.q.e1, .int .i64 y.q.e2, .int .i64 y.q.e3, .int .i64 (⟨t, qu, low, [], List.replicate 64 0, [], 0⟩ : Rc.S).q, .int .i64 (⟨t, qu, low, [], List.replicate 64 0, [], 0⟩ : Rc.S).low, .slice y.la (⟨t, qu, low, [], List.replicate 64 0, [], 0⟩ : Rc.S).line.length y.lc, .slice y.wa (⟨t, qu, low, [], List.replicate 64 0, [], 0⟩ : Rc.S).want.length y.wc, .slice y.va (⟨t, qu, low, [], List.replicate 64 0, [], 0⟩ : Rc.S).lv.length y.vc, .int .i64 (⟨t, qu, low, [], List.replicate 64 0, [], 0⟩ : Rc.S).fr]) ⟨t, qu, low, [], List.replicate 64 0, [], 0⟩ :: F) :=
  (ref25_New _ t qu low hq hl w F hw).mono fun e w' ⟨v', he, hh⟩ => by
    obtain ⟨y, rfl, _⟩ := refR.open hh
    exact ⟨y, he, hh⟩
theorem rf19_TakeX (q : RfM) (t : St.S) (K : Nat) (hI : St.Inv t K) (hK : K ≤ 1000000) (ow : Int) (w : World) (F : List HProp) (hw : holds w (refS (.agg #[.int .i64 (t.size : Nat), .slice q.ca t.ch.length q.cc, .slice q.xa t.tx.length q.xc, .slice q.wa t.wi.length q.wc, .slice q.sa t.stack.length q.sc, .int .i64 q.e0, .int .i64 q.e1, .int .i64 q.e2, .int .i64 q.e3]) t :: F)) :
    Ct Tryz.prog 31 #[.agg #[.int .i64 (t.size : Nat), .slice q.ca t.ch.length q.cc, .slice q.xa t.tx.length q.xc, .slice q.wa t.wi.length q.wc, .slice q.sa t.stack.length q.sc, .int .i64 q.e0, .int .i64 q.e1, .int .i64 q.e2, .int .i64 q.e3], .int .i64 ow] w fun e w' => ∃ y : RfM, e = .returned (.tuple #[.agg #[.int .i64 ((St.take t ow).1.size : Nat), .slice y.ca (St.take t ow).1.ch.length y.cc, .slice y.xa (St.take t ow).1.tx.length y.xc, .slice y.wa (St.take t ow).1.wi.length y.wc, .slice y.sa (St.take t ow).1.stack.length y.sc, .int .i64 y.e0, .int .i64 y.e1, .int .i64 y.e2, .int .i64 y.e3], .int .i64 (St.take t ow).2.1, .int .i64 (St.take t ow).2.2]) ∧ holds w' (refS (.agg #[.int .i64 ((St.take t ow).1.size : Nat), .slice y.ca (St.take t ow).1.ch.length y.cc, .slice y.xa (St.take t ow).1.tx.length y.xc, .slice y.wa (St.take t ow).1.wi.length y.wc, .slice y.sa (St.take t ow).1.stack.length y.sc, .int .i64 y.e0, .int .i64 y.e1, .int .i64 y.e2, .int .i64 y.e3]) (St.take t ow).1 :: F) :=
  (rf19_Take _ t K hI hK ow w F hw).mono fun e w' ⟨v', he, hh⟩ => by
    obtain ⟨y, ⟨rfl, _⟩, _⟩ := refS.open hh
    exact ⟨y, he, hh⟩
namespace Rc
/-- One act. -/
def act (m : S) (a : AcV) (p : List Int) : S :=
  if a.kd = 0 then { m with t := (St.take m.t a.ow).1 } else if a.kd = 1 then (put m a.i a.ow).1 else if a.kd = 2 then (if 64 < p.length then m else tick m p) else if a.kd = 3 then (paid m a.i a.n).1 else m
theorem Ok.act {m : S} {K : Nat} (h : Ok m K) (a : AcV) (hn : a.n ≤ 9223372036854775807) (p : List Int) : Ok (act m a p) (K + 1 + 2 * m.line.length) := by
  unfold Rc.act
  split
  · exact (h.take a.ow).more (by omega)
  split
  · exact (h.put a.i a.ow).more (by omega)
  split
  · split
    · exact h.more (by omega)
    · exact h.tick p (by omega)
  split
  · exact (h.paid a.i a.n hn).more (by omega)
  · exact h.more (by omega)
theorem put_chl (m : S) (i ow : Int) : (put m i ow).1.t.ch.length = m.t.ch.length := by
  unfold put
  split
  · exact St.give_len _ _ _
  · rfl
theorem tick_chl {m : S} {K : Nat} (h : Ok m K) (p : List Int) : (tick m p).t.ch.length = m.t.ch.length := (drain_inv m.q.toNat m.t m.line K h.inv h.wt).2.2.2
end Rc
end Go.Proofs.YtipkgamiejenaaaGreat

/- The law ReclaimPlays of chapter 25: the walk. -/
namespace Go.Proofs.YtipkgamiejenaaaGreat
open Go Go.RowKit Go.MapKept
set_option linter.unusedVariables false
set_option linter.unusedSectionVars false
set_option linter.unusedSimpArgs false
set_option maxRecDepth 100000
set_option maxHeartbeats 4000000
end Go.Proofs.YtipkgamiejenaaaGreat
