import Derived.Test.YtipkgamiejenaaaGreatMg21

import Derived.Test.YtipkgamiejenaaaGreatMg18
import Derived.Test.YtipkgamiejenaaaGreatMg17
import Derived.Test.YtipkgamiejenaaaGreatMg20
import Derived.Test.YtipkgamiejenaaaGreatMg7
import Derived.Test.YtipkgamiejenaaaGreatMg8
import Derived.Test.YtipkgamiejenaaaGreatGoMem
/- Reference 19: Begin, Load, Put. -/
namespace Go.Proofs.YtipkgamiejenaaaGreat
open Go Go.RowKit Go.MapKept
set_option linter.unusedVariables false
set_option linter.unusedSectionVars false
set_option linter.unusedSimpArgs false
set_option maxRecDepth 100000
set_option maxHeartbeats 4000000
section
variable (v : Value) (t : St.S) (K : Nat) (hI : St.Inv t K) (hK : K ≤ 1000000)
include hI hK
theorem rf19_Load (i ge k0 n : Int) (w : World) (F : List HProp) (hw : holds w (refS v t :: F)) :
    Ct Tryz.prog 73 #[v, .int .i64 i, .int .i64 ge, .int .i64 k0, .int .i64 n] w fun e w' => e = .returned (.tuple #[.string (bs (St.load t i ge k0 n).1), .int .i64 (St.load t i ge k0 n).2]) ∧ holds w' (refS v t :: F) := by
  obtain ⟨q, ⟨rfl, hev⟩, h1⟩ := refS.open hw
  have hnc := hI.ncap
  have hn1 := hI.n1
  unfold St.load
  refine Ct.go (args := [.agg #[.int .i64 (t.size : Nat), .slice q.ca t.ch.length q.cc, .slice q.xa t.tx.length q.xc, .slice q.wa t.wi.length q.wc, .slice q.sa t.stack.length q.sc, .int .i64 q.e0, .int .i64 q.e1, .int .i64 q.e2, .int .i64 q.e3], .int .i64 i, .int .i64 ge, .int .i64 k0, .int .i64 n]) Tryz.func73 rfl rfl rfl h1 ?_
  by_cases ho : t.out i
  · rw [if_pos ho]
    have hd : decide (0 ≤ i ∧ i < (t.ch.length : Int)) = false := decide_eq_false (by unfold St.S.out at ho; omega)
    repeat' (first | (first | (apply qab; refine qbg rfl rfl (fun w h => rf19_Is (t.size : Nat) q.ca q.xa q.wa q.sa t.ch.length q.cc t.tx.length q.xc t.wi.length q.wc t.stack.length q.sc q.e0 q.e1 q.e2 q.e3 i w _ h) ?_) | (rw [hd])) | first | (apply qae; first | refine qa8 rfl ?_ | (apply qak; first | refine qaj rfl rfl rfl rfl rfl ?_ | refine qaf rfl rfl rfl rfl rfl ?_ | refine qag rfl rfl rfl rfl rfl ?_) | refine qan rfl rfl ?_ | refine qap rfl rfl rfl ?_ | refine qao rfl rfl rfl ?_ | (apply qax; first | refine qa6 rfl rfl (fun _ => ?_) | refine qa7 rfl rfl rfl (fun _ => ?_) | refine GL.box rfl rfl (fun _ => ?_)) | (apply qai; first | refine qaa rfl rfl rfl rfl rfl (fun _ => ?_) | refine qac rfl rfl rfl rfl rfl (fun _ => ?_)) | (apply qab; refine qam _ rfl rfl rfl rfl (by rfl) (by omega) (by omega) rfl (fun _ => ?_)) | (apply qal; refine GL.alloc rfl (fun _ => ?_))) | apply GL.nil | first | apply G.seq | apply G.region | apply G.block | apply G.skip | apply G.exit | apply G.ret | (apply qah; first | refine qbe rfl ?_ | refine qbf rfl ?_) | refine qbj (by kernel_rfl) (by kernel_rfl) ?_ | (apply qa4; first | apply qa5 | apply qa2 | apply qas | apply qat | apply qa3 | apply qa1 | apply qaq | refine qar rfl ?_ | apply qba) | (apply qad; first | refine qbb rfl ?_ | refine qau rfl rfl ?_ | refine qaw rfl rfl rfl ?_ | refine qav rfl rfl rfl ?_) | apply qbd | apply qbc | (apply qa0; refine qa9 rfl rfl ?_) | ((first | (apply qae; refine GL.guard rfl rfl (fun hc => ?_) (fun hc => ?_)) | (apply qah; refine G.cond rfl (fun hc => ?_) (fun hc => ?_)) | (apply qad; refine GD.guard rfl rfl (fun hc => ?_) (fun hc => ?_))) <;> ((try simp only [decide_eq_true_eq, decide_eq_false_iff_not, Bool.not_true, Bool.not_false, ne_eq, Classical.not_not, Int.not_lt, Int.not_le] at hc); (try (exfalso; first | omega | exact hc trivial | exact hc rfl)))))
    all_goals (first | (exfalso; simp at hc; done) | skip)
    all_goals (refine qbh rfl (by (repeat (first | apply Res.nil | (apply Res.tmp; rfl) | (refine qay rfl rfl rfl ?_) | (refine qaz rfl rfl ?_)))) (fun w h => ?_); exact ⟨rfl, refS.shut hev h.sub⟩)
  rw [if_neg ho]
  obtain ⟨k, rfl, hk⟩ := St.out_ex ho
  have hd : decide (0 ≤ (k : Int) ∧ (k : Int) < (t.ch.length : Int)) = true := decide_eq_true (by omega)
  have hst : ((t.ch[k]).phase ≠ 1 ∨ (t.ch[k]).gen ≠ ge) ↔ St.stale t k ge := by unfold St.stale; rw [t.c_eq k hk]
  by_cases hp : St.stale t k ge
  · rw [if_pos hp]
    have hs : decide ((t.ch[k]).phase ≠ 1 ∨ (t.ch[k]).gen ≠ ge) = true := decide_eq_true (hst.2 hp)
    repeat' (first | (first | (apply qab; refine qbg rfl rfl (fun w h => rf19_Is (t.size : Nat) q.ca q.xa q.wa q.sa t.ch.length q.cc t.tx.length q.xc t.wi.length q.wc t.stack.length q.sc q.e0 q.e1 q.e2 q.e3 (k : Int) w _ h) ?_) | (rw [hd]) | (apply qab; refine qbq (owns 84 encCk 3 (.slice q.ca t.ch.length q.cc) t.ch) rfl rfl (fun w h => rf19_Stale (t.size : Nat) q.ca q.xa q.wa q.sa q.cc t.tx.length q.xc t.wi.length q.wc t.stack.length q.sc q.e0 q.e1 q.e2 q.e3 t.ch k hk ge w _ h) ?_) | (rw [hs])) | first | (apply qae; first | refine qa8 rfl ?_ | (apply qak; first | refine qaj rfl rfl rfl rfl rfl ?_ | refine qaf rfl rfl rfl rfl rfl ?_ | refine qag rfl rfl rfl rfl rfl ?_) | refine qan rfl rfl ?_ | refine qap rfl rfl rfl ?_ | refine qao rfl rfl rfl ?_ | (apply qax; first | refine qa6 rfl rfl (fun _ => ?_) | refine qa7 rfl rfl rfl (fun _ => ?_) | refine GL.box rfl rfl (fun _ => ?_)) | (apply qai; first | refine qaa rfl rfl rfl rfl rfl (fun _ => ?_) | refine qac rfl rfl rfl rfl rfl (fun _ => ?_)) | (apply qab; refine qam _ rfl rfl rfl rfl (by rfl) (by omega) (by omega) rfl (fun _ => ?_)) | (apply qal; refine GL.alloc rfl (fun _ => ?_))) | apply GL.nil | first | apply G.seq | apply G.region | apply G.block | apply G.skip | apply G.exit | apply G.ret | (apply qah; first | refine qbe rfl ?_ | refine qbf rfl ?_) | refine qbj (by kernel_rfl) (by kernel_rfl) ?_ | (apply qa4; first | apply qa5 | apply qa2 | apply qas | apply qat | apply qa3 | apply qa1 | apply qaq | refine qar rfl ?_ | apply qba) | (apply qad; first | refine qbb rfl ?_ | refine qau rfl rfl ?_ | refine qaw rfl rfl rfl ?_ | refine qav rfl rfl rfl ?_) | apply qbd | apply qbc | (apply qa0; refine qa9 rfl rfl ?_) | ((first | (apply qae; refine GL.guard rfl rfl (fun hc => ?_) (fun hc => ?_)) | (apply qah; refine G.cond rfl (fun hc => ?_) (fun hc => ?_)) | (apply qad; refine GD.guard rfl rfl (fun hc => ?_) (fun hc => ?_))) <;> ((try simp only [decide_eq_true_eq, decide_eq_false_iff_not, Bool.not_true, Bool.not_false, ne_eq, Classical.not_not, Int.not_lt, Int.not_le] at hc); (try (exfalso; first | omega | exact hc trivial | exact hc rfl)))))
    all_goals (first | (exfalso; simp at hc; done) | (exfalso; omega) | skip)
    all_goals (refine qbh rfl (by (repeat (first | apply Res.nil | (apply Res.tmp; rfl) | (refine qay rfl rfl rfl ?_) | (refine qaz rfl rfl ?_)))) (fun w h => ?_); exact ⟨rfl, refS.shut hev h.sub⟩)
  rw [if_neg hp]
  have hs : decide ((t.ch[k]).phase ≠ 1 ∨ (t.ch[k]).gen ≠ ge) = false := decide_eq_false (fun h => hp (hst.1 h))
  have hcx := (hI.cell k hk).len
  have hsz := hI.sz
  have hxe : t.x k = t.tx[k]'(by omega) := by unfold St.S.x; rw [Int.toNat_natCast, List.getD_eq_getElem?_getD, List.getElem?_eq_getElem (by omega)]; rfl
  have hL := fun w (F : List HProp) h => rf10_Load (t.x k) k0 n (by omega) w F h
  rw [hxe] at hL ⊢
  by_cases hof : St.off (t.tx[k]'(by omega)) k0 n
  · rw [if_pos hof]
    rw [if_pos hof] at hL
    repeat' (first | (first | (apply qab; refine qbg rfl rfl (fun w h => rf19_Is (t.size : Nat) q.ca q.xa q.wa q.sa t.ch.length q.cc t.tx.length q.xc t.wi.length q.wc t.stack.length q.sc q.e0 q.e1 q.e2 q.e3 (k : Int) w _ h) ?_) | (rw [hd]) | (apply qab; refine qbq (owns 84 encCk 3 (.slice q.ca t.ch.length q.cc) t.ch) rfl rfl (fun w h => rf19_Stale (t.size : Nat) q.ca q.xa q.wa q.sa q.cc t.tx.length q.xc t.wi.length q.wc t.stack.length q.sc q.e0 q.e1 q.e2 q.e3 t.ch k hk ge w _ h) ?_) | (rw [hs]) | (apply qab; refine qbg rfl rfl (fun w h => hL w _ h) ?_)) | first | (apply qae; first | refine qa8 rfl ?_ | (apply qak; first | refine qaj rfl rfl rfl rfl rfl ?_ | refine qaf rfl rfl rfl rfl rfl ?_ | refine qag rfl rfl rfl rfl rfl ?_) | refine qan rfl rfl ?_ | refine qap rfl rfl rfl ?_ | refine qao rfl rfl rfl ?_ | (apply qax; first | refine qa6 rfl rfl (fun _ => ?_) | refine qa7 rfl rfl rfl (fun _ => ?_) | refine GL.box rfl rfl (fun _ => ?_)) | (apply qai; first | refine qaa rfl rfl rfl rfl rfl (fun _ => ?_) | refine qac rfl rfl rfl rfl rfl (fun _ => ?_)) | (apply qab; refine qam _ rfl rfl rfl rfl (by rfl) (by omega) (by omega) rfl (fun _ => ?_)) | (apply qal; refine GL.alloc rfl (fun _ => ?_))) | apply GL.nil | first | apply G.seq | apply G.region | apply G.block | apply G.skip | apply G.exit | apply G.ret | (apply qah; first | refine qbe rfl ?_ | refine qbf rfl ?_) | refine qbj (by kernel_rfl) (by kernel_rfl) ?_ | (apply qa4; first | apply qa5 | apply qa2 | apply qas | apply qat | apply qa3 | apply qa1 | apply qaq | refine qar rfl ?_ | apply qba) | (apply qad; first | refine qbb rfl ?_ | refine qau rfl rfl ?_ | refine qaw rfl rfl rfl ?_ | refine qav rfl rfl rfl ?_) | apply qbd | apply qbc | (apply qa0; refine qa9 rfl rfl ?_) | ((first | (apply qae; refine GL.guard rfl rfl (fun hc => ?_) (fun hc => ?_)) | (apply qah; refine G.cond rfl (fun hc => ?_) (fun hc => ?_)) | (apply qad; refine GD.guard rfl rfl (fun hc => ?_) (fun hc => ?_))) <;> ((try simp only [decide_eq_true_eq, decide_eq_false_iff_not, Bool.not_true, Bool.not_false, ne_eq, Classical.not_not, Int.not_lt, Int.not_le] at hc); (try (exfalso; first | omega | exact hc trivial | exact hc rfl)))))
    all_goals (first | (exfalso; simp at hc; done) | (exfalso; omega) | skip)
    all_goals (refine qbh rfl (by (repeat (first | apply Res.nil | (apply Res.tmp; rfl) | (refine qay rfl rfl rfl ?_) | (refine qaz rfl rfl ?_)))) (fun w h => ?_); exact ⟨rfl, refS.shut hev h.sub⟩)
  · rw [if_neg hof]
    rw [if_neg hof] at hL
    repeat' (first | (first | (apply qab; refine qbg rfl rfl (fun w h => rf19_Is (t.size : Nat) q.ca q.xa q.wa q.sa t.ch.length q.cc t.tx.length q.xc t.wi.length q.wc t.stack.length q.sc q.e0 q.e1 q.e2 q.e3 (k : Int) w _ h) ?_) | (rw [hd]) | (apply qab; refine qbq (owns 84 encCk 3 (.slice q.ca t.ch.length q.cc) t.ch) rfl rfl (fun w h => rf19_Stale (t.size : Nat) q.ca q.xa q.wa q.sa q.cc t.tx.length q.xc t.wi.length q.wc t.stack.length q.sc q.e0 q.e1 q.e2 q.e3 t.ch k hk ge w _ h) ?_) | (rw [hs]) | (apply qab; refine qbg rfl rfl (fun w h => hL w _ h) ?_)) | first | (apply qae; first | refine qa8 rfl ?_ | (apply qak; first | refine qaj rfl rfl rfl rfl rfl ?_ | refine qaf rfl rfl rfl rfl rfl ?_ | refine qag rfl rfl rfl rfl rfl ?_) | refine qan rfl rfl ?_ | refine qap rfl rfl rfl ?_ | refine qao rfl rfl rfl ?_ | (apply qax; first | refine qa6 rfl rfl (fun _ => ?_) | refine qa7 rfl rfl rfl (fun _ => ?_) | refine GL.box rfl rfl (fun _ => ?_)) | (apply qai; first | refine qaa rfl rfl rfl rfl rfl (fun _ => ?_) | refine qac rfl rfl rfl rfl rfl (fun _ => ?_)) | (apply qab; refine qam _ rfl rfl rfl rfl (by rfl) (by omega) (by omega) rfl (fun _ => ?_)) | (apply qal; refine GL.alloc rfl (fun _ => ?_))) | apply GL.nil | first | apply G.seq | apply G.region | apply G.block | apply G.skip | apply G.exit | apply G.ret | (apply qah; first | refine qbe rfl ?_ | refine qbf rfl ?_) | refine qbj (by kernel_rfl) (by kernel_rfl) ?_ | (apply qa4; first | apply qa5 | apply qa2 | apply qas | apply qat | apply qa3 | apply qa1 | apply qaq | refine qar rfl ?_ | apply qba) | (apply qad; first | refine qbb rfl ?_ | refine qau rfl rfl ?_ | refine qaw rfl rfl rfl ?_ | refine qav rfl rfl rfl ?_) | apply qbd | apply qbc | (apply qa0; refine qa9 rfl rfl ?_) | ((first | (apply qae; refine GL.guard rfl rfl (fun hc => ?_) (fun hc => ?_)) | (apply qah; refine G.cond rfl (fun hc => ?_) (fun hc => ?_)) | (apply qad; refine GD.guard rfl rfl (fun hc => ?_) (fun hc => ?_))) <;> ((try simp only [decide_eq_true_eq, decide_eq_false_iff_not, Bool.not_true, Bool.not_false, ne_eq, Classical.not_not, Int.not_lt, Int.not_le] at hc); (try (exfalso; first | omega | exact hc trivial | exact hc rfl)))))
    all_goals (first | (exfalso; simp at hc; done) | (exfalso; omega) | skip)
    all_goals (refine qbh rfl (by (repeat (first | apply Res.nil | (apply Res.tmp; rfl) | (refine qay rfl rfl rfl ?_) | (refine qaz rfl rfl ?_)))) (fun w h => ?_); exact ⟨rfl, refS.shut hev h.sub⟩)
end
end Go.Proofs.YtipkgamiejenaaaGreat

/- Reference 19: Put, Step. -/
namespace Go.Proofs.YtipkgamiejenaaaGreat
open Go Go.RowKit Go.MapKept
set_option linter.unusedVariables false
set_option linter.unusedSectionVars false
set_option linter.unusedSimpArgs false
set_option maxRecDepth 100000
set_option maxHeartbeats 4000000
section
variable (v : Value) (t : St.S) (K : Nat) (hI : St.Inv t K) (hK : K ≤ 1000000)
include hI hK
theorem rf19_Put (i ge k0 : Int) (s : List UInt8) (hs4 : s.length ≤ 1048576) (w : World) (F : List HProp) (hw : holds w (refS v t :: F)) :
    Ct Tryz.prog 75 #[v, .int .i64 i, .int .i64 ge, .int .i64 k0, .string (bs s)] w fun e w' => ∃ v', e = .returned (.tuple #[v', .int .i64 (St.put t i ge k0 s).2]) ∧ holds w' (refS v' (St.put t i ge k0 s).1 :: F) := by
  obtain ⟨q, ⟨rfl, hev⟩, h1⟩ := refS.open hw
  have hnc := hI.ncap
  have hn1 := hI.n1
  unfold St.put
  refine Ct.go (args := [.agg #[.int .i64 (t.size : Nat), .slice q.ca t.ch.length q.cc, .slice q.xa t.tx.length q.xc, .slice q.wa t.wi.length q.wc, .slice q.sa t.stack.length q.sc, .int .i64 q.e0, .int .i64 q.e1, .int .i64 q.e2, .int .i64 q.e3], .int .i64 i, .int .i64 ge, .int .i64 k0, .string (bs s)]) Tryz.func75 rfl rfl rfl h1 ?_
  by_cases ho : t.out i
  · rw [if_pos ho]
    have hd : decide (0 ≤ i ∧ i < (t.ch.length : Int)) = false := decide_eq_false (by unfold St.S.out at ho; omega)
    repeat' (first | (first | (apply qab; refine qbg rfl rfl (fun w h => rf19_Is (t.size : Nat) q.ca q.xa q.wa q.sa t.ch.length q.cc t.tx.length q.xc t.wi.length q.wc t.stack.length q.sc q.e0 q.e1 q.e2 q.e3 i w _ h) ?_) | (rw [hd])) | first | (apply qae; first | refine qa8 rfl ?_ | (apply qak; first | refine qaj rfl rfl rfl rfl rfl ?_ | refine qaf rfl rfl rfl rfl rfl ?_ | refine qag rfl rfl rfl rfl rfl ?_) | refine qan rfl rfl ?_ | refine qap rfl rfl rfl ?_ | refine qao rfl rfl rfl ?_ | (apply qax; first | refine qa6 rfl rfl (fun _ => ?_) | refine qa7 rfl rfl rfl (fun _ => ?_) | refine GL.box rfl rfl (fun _ => ?_)) | (apply qai; first | refine qaa rfl rfl rfl rfl rfl (fun _ => ?_) | refine qac rfl rfl rfl rfl rfl (fun _ => ?_)) | (apply qab; refine qam _ rfl rfl rfl rfl (by rfl) (by omega) (by omega) rfl (fun _ => ?_)) | (apply qal; refine GL.alloc rfl (fun _ => ?_))) | apply GL.nil | first | apply G.seq | apply G.region | apply G.block | apply G.skip | apply G.exit | apply G.ret | (apply qah; first | refine qbe rfl ?_ | refine qbf rfl ?_) | refine qbj (by kernel_rfl) (by kernel_rfl) ?_ | (apply qa4; first | apply qa5 | apply qa2 | apply qas | apply qat | apply qa3 | apply qa1 | apply qaq | refine qar rfl ?_ | apply qba) | (apply qad; first | refine qbb rfl ?_ | refine qau rfl rfl ?_ | refine qaw rfl rfl rfl ?_ | refine qav rfl rfl rfl ?_) | apply qbd | apply qbc | (apply qa0; refine qa9 rfl rfl ?_) | ((first | (apply qae; refine GL.guard rfl rfl (fun hc => ?_) (fun hc => ?_)) | (apply qah; refine G.cond rfl (fun hc => ?_) (fun hc => ?_)) | (apply qad; refine GD.guard rfl rfl (fun hc => ?_) (fun hc => ?_))) <;> ((try simp only [decide_eq_true_eq, decide_eq_false_iff_not, Bool.not_true, Bool.not_false, ne_eq, Classical.not_not, Int.not_lt, Int.not_le] at hc); (try (exfalso; first | omega | exact hc trivial | exact hc rfl)))))
    all_goals (first | (exfalso; simp at hc; done) | skip)
    all_goals (refine qbh rfl (by (repeat (first | apply Res.nil | (apply Res.tmp; rfl) | (refine qay rfl rfl rfl ?_) | (refine qaz rfl rfl ?_)))) (fun w h => ?_); exact ⟨_, rfl, refS.shut hev h.sub⟩)
  rw [if_neg ho]
  obtain ⟨k, rfl, hk⟩ := St.out_ex ho
  have hd : decide (0 ≤ (k : Int) ∧ (k : Int) < (t.ch.length : Int)) = true := decide_eq_true (by omega)
  have hst : ((t.ch[k]).phase ≠ 1 ∨ (t.ch[k]).gen ≠ ge) ↔ St.stale t k ge := by unfold St.stale; rw [t.c_eq k hk]
  by_cases hp : St.stale t k ge
  · rw [if_pos hp]
    have hs : decide ((t.ch[k]).phase ≠ 1 ∨ (t.ch[k]).gen ≠ ge) = true := decide_eq_true (hst.2 hp)
    repeat' (first | (first | (apply qab; refine qbg rfl rfl (fun w h => rf19_Is (t.size : Nat) q.ca q.xa q.wa q.sa t.ch.length q.cc t.tx.length q.xc t.wi.length q.wc t.stack.length q.sc q.e0 q.e1 q.e2 q.e3 (k : Int) w _ h) ?_) | (rw [hd]) | (apply qab; refine qbq (owns 84 encCk 3 (.slice q.ca t.ch.length q.cc) t.ch) rfl rfl (fun w h => rf19_Stale (t.size : Nat) q.ca q.xa q.wa q.sa q.cc t.tx.length q.xc t.wi.length q.wc t.stack.length q.sc q.e0 q.e1 q.e2 q.e3 t.ch k hk ge w _ h) ?_) | (rw [hs])) | first | (apply qae; first | refine qa8 rfl ?_ | (apply qak; first | refine qaj rfl rfl rfl rfl rfl ?_ | refine qaf rfl rfl rfl rfl rfl ?_ | refine qag rfl rfl rfl rfl rfl ?_) | refine qan rfl rfl ?_ | refine qap rfl rfl rfl ?_ | refine qao rfl rfl rfl ?_ | (apply qax; first | refine qa6 rfl rfl (fun _ => ?_) | refine qa7 rfl rfl rfl (fun _ => ?_) | refine GL.box rfl rfl (fun _ => ?_)) | (apply qai; first | refine qaa rfl rfl rfl rfl rfl (fun _ => ?_) | refine qac rfl rfl rfl rfl rfl (fun _ => ?_)) | (apply qab; refine qam _ rfl rfl rfl rfl (by rfl) (by omega) (by omega) rfl (fun _ => ?_)) | (apply qal; refine GL.alloc rfl (fun _ => ?_))) | apply GL.nil | first | apply G.seq | apply G.region | apply G.block | apply G.skip | apply G.exit | apply G.ret | (apply qah; first | refine qbe rfl ?_ | refine qbf rfl ?_) | refine qbj (by kernel_rfl) (by kernel_rfl) ?_ | (apply qa4; first | apply qa5 | apply qa2 | apply qas | apply qat | apply qa3 | apply qa1 | apply qaq | refine qar rfl ?_ | apply qba) | (apply qad; first | refine qbb rfl ?_ | refine qau rfl rfl ?_ | refine qaw rfl rfl rfl ?_ | refine qav rfl rfl rfl ?_) | apply qbd | apply qbc | (apply qa0; refine qa9 rfl rfl ?_) | ((first | (apply qae; refine GL.guard rfl rfl (fun hc => ?_) (fun hc => ?_)) | (apply qah; refine G.cond rfl (fun hc => ?_) (fun hc => ?_)) | (apply qad; refine GD.guard rfl rfl (fun hc => ?_) (fun hc => ?_))) <;> ((try simp only [decide_eq_true_eq, decide_eq_false_iff_not, Bool.not_true, Bool.not_false, ne_eq, Classical.not_not, Int.not_lt, Int.not_le] at hc); (try (exfalso; first | omega | exact hc trivial | exact hc rfl)))))
    all_goals (first | (exfalso; simp at hc; done) | (exfalso; omega) | skip)
    all_goals (refine qbh rfl (by (repeat (first | apply Res.nil | (apply Res.tmp; rfl) | (refine qay rfl rfl rfl ?_) | (refine qaz rfl rfl ?_)))) (fun w h => ?_); exact ⟨_, rfl, refS.shut hev h.sub⟩)
  rw [if_neg hp]
  have hs : decide ((t.ch[k]).phase ≠ 1 ∨ (t.ch[k]).gen ≠ ge) = false := decide_eq_false (fun h => hp (hst.1 h))
  have hcx := (hI.cell k hk).len
  have hsz := hI.sz
  have hxe : t.x k = t.tx[k]'(by omega) := by unfold St.S.x; rw [Int.toNat_natCast, List.getD_eq_getElem?_getD, List.getElem?_eq_getElem (by omega)]; rfl
  have hL := fun w (F : List HProp) h => rf10_Store (t.x k) k0 s (by omega) hs4 w F h
  rw [hxe] at hL ⊢
  by_cases hof : St.off (t.tx[k]'(by omega)) k0 s.length
  · rw [if_pos hof]
    rw [if_pos hof] at hL
    repeat' (first | (first | (apply qab; refine qbg rfl rfl (fun w h => rf19_Is (t.size : Nat) q.ca q.xa q.wa q.sa t.ch.length q.cc t.tx.length q.xc t.wi.length q.wc t.stack.length q.sc q.e0 q.e1 q.e2 q.e3 (k : Int) w _ h) ?_) | (rw [hd]) | (apply qab; refine qbq (owns 84 encCk 3 (.slice q.ca t.ch.length q.cc) t.ch) rfl rfl (fun w h => rf19_Stale (t.size : Nat) q.ca q.xa q.wa q.sa q.cc t.tx.length q.xc t.wi.length q.wc t.stack.length q.sc q.e0 q.e1 q.e2 q.e3 t.ch k hk ge w _ h) ?_) | (rw [hs]) | (apply qab; refine qbg rfl rfl (fun w h => hL w _ h) ?_)) | first | (apply qae; first | refine qa8 rfl ?_ | (apply qak; first | refine qaj rfl rfl rfl rfl rfl ?_ | refine qaf rfl rfl rfl rfl rfl ?_ | refine qag rfl rfl rfl rfl rfl ?_) | refine qan rfl rfl ?_ | refine qap rfl rfl rfl ?_ | refine qao rfl rfl rfl ?_ | (apply qax; first | refine qa6 rfl rfl (fun _ => ?_) | refine qa7 rfl rfl rfl (fun _ => ?_) | refine GL.box rfl rfl (fun _ => ?_)) | (apply qai; first | refine qaa rfl rfl rfl rfl rfl (fun _ => ?_) | refine qac rfl rfl rfl rfl rfl (fun _ => ?_)) | (apply qab; refine qam _ rfl rfl rfl rfl (by rfl) (by omega) (by omega) rfl (fun _ => ?_)) | (apply qal; refine GL.alloc rfl (fun _ => ?_))) | apply GL.nil | first | apply G.seq | apply G.region | apply G.block | apply G.skip | apply G.exit | apply G.ret | (apply qah; first | refine qbe rfl ?_ | refine qbf rfl ?_) | refine qbj (by kernel_rfl) (by kernel_rfl) ?_ | (apply qa4; first | apply qa5 | apply qa2 | apply qas | apply qat | apply qa3 | apply qa1 | apply qaq | refine qar rfl ?_ | apply qba) | (apply qad; first | refine qbb rfl ?_ | refine qau rfl rfl ?_ | refine qaw rfl rfl rfl ?_ | refine qav rfl rfl rfl ?_) | apply qbd | apply qbc | (apply qa0; refine qa9 rfl rfl ?_) | ((first | (apply qae; refine GL.guard rfl rfl (fun hc => ?_) (fun hc => ?_)) | (apply qah; refine G.cond rfl (fun hc => ?_) (fun hc => ?_)) | (apply qad; refine GD.guard rfl rfl (fun hc => ?_) (fun hc => ?_))) <;> ((try simp only [decide_eq_true_eq, decide_eq_false_iff_not, Bool.not_true, Bool.not_false, ne_eq, Classical.not_not, Int.not_lt, Int.not_le] at hc); (try (exfalso; first | omega | exact hc trivial | exact hc rfl)))))
    all_goals (first | (exfalso; simp at hc; done) | (exfalso; omega) | skip)
    all_goals (refine qbh rfl (by (repeat (first | apply Res.nil | (apply Res.tmp; rfl) | (refine qay rfl rfl rfl ?_) | (refine qaz rfl rfl ?_)))) (fun w h => ?_); exact ⟨_, rfl, refS.shut hev h.sub⟩)
  · rw [if_neg hof]
    rw [if_neg hof] at hL
    repeat' (first | (first | (apply qab; refine qbg rfl rfl (fun w h => rf19_Is (t.size : Nat) q.ca q.xa q.wa q.sa t.ch.length q.cc t.tx.length q.xc t.wi.length q.wc t.stack.length q.sc q.e0 q.e1 q.e2 q.e3 (k : Int) w _ h) ?_) | (rw [hd]) | (apply qab; refine qbq (owns 84 encCk 3 (.slice q.ca t.ch.length q.cc) t.ch) rfl rfl (fun w h => rf19_Stale (t.size : Nat) q.ca q.xa q.wa q.sa q.cc t.tx.length q.xc t.wi.length q.wc t.stack.length q.sc q.e0 q.e1 q.e2 q.e3 t.ch k hk ge w _ h) ?_) | (rw [hs]) | (apply qab; refine qbg rfl rfl (fun w h => hL w _ h) ?_) | (apply qae; refine GL.build0 encTx 1 rfl (fun u0 _ => ?_)) | (apply qab; refine GL.appendAny rfl rfl rfl rfl rfl rfl (by simp only [List.length_nil]; omega) (by simp only [List.length_nil]; omega) rfl (fun r _ => ?_); rw [List.nil_append]; refine GL.pure (fun wx hx => ?_); obtain ⟨ra, rc, rfl, _⟩ := (Reads.at_ (v := r) (enc := encTx) (n := 1) (l := t.tx) wx hx).form) | (apply qak; refine GL.setElem (i := k) (By.splice (t.tx[k]'(by omega)) k0.toNat s) rfl rfl (by kernel_rfl) (by omega) rfl ?_)) | first | (apply qae; first | refine qa8 rfl ?_ | (apply qak; first | refine qaj rfl rfl rfl rfl rfl ?_ | refine qaf rfl rfl rfl rfl rfl ?_ | refine qag rfl rfl rfl rfl rfl ?_) | refine qan rfl rfl ?_ | refine qap rfl rfl rfl ?_ | refine qao rfl rfl rfl ?_ | (apply qax; first | refine qa6 rfl rfl (fun _ => ?_) | refine qa7 rfl rfl rfl (fun _ => ?_) | refine GL.box rfl rfl (fun _ => ?_)) | (apply qai; first | refine qaa rfl rfl rfl rfl rfl (fun _ => ?_) | refine qac rfl rfl rfl rfl rfl (fun _ => ?_)) | (apply qab; refine qam _ rfl rfl rfl rfl (by rfl) (by omega) (by omega) rfl (fun _ => ?_)) | (apply qal; refine GL.alloc rfl (fun _ => ?_))) | apply GL.nil | first | apply G.seq | apply G.region | apply G.block | apply G.skip | apply G.exit | apply G.ret | (apply qah; first | refine qbe rfl ?_ | refine qbf rfl ?_) | refine qbj (by kernel_rfl) (by kernel_rfl) ?_ | (apply qa4; first | apply qa5 | apply qa2 | apply qas | apply qat | apply qa3 | apply qa1 | apply qaq | refine qar rfl ?_ | apply qba) | (apply qad; first | refine qbb rfl ?_ | refine qau rfl rfl ?_ | refine qaw rfl rfl rfl ?_ | refine qav rfl rfl rfl ?_) | apply qbd | apply qbc | (apply qa0; refine qa9 rfl rfl ?_) | ((first | (apply qae; refine GL.guard rfl rfl (fun hc => ?_) (fun hc => ?_)) | (apply qah; refine G.cond rfl (fun hc => ?_) (fun hc => ?_)) | (apply qad; refine GD.guard rfl rfl (fun hc => ?_) (fun hc => ?_))) <;> ((try simp only [decide_eq_true_eq, decide_eq_false_iff_not, Bool.not_true, Bool.not_false, ne_eq, Classical.not_not, Int.not_lt, Int.not_le] at hc); (try (exfalso; first | omega | exact hc trivial | exact hc rfl)))))
    all_goals (first | (exfalso; simp at hc; done) | (exfalso; omega) | skip)
    all_goals (refine qbh rfl (by (repeat (first | apply Res.nil | (apply Res.tmp; rfl) | (refine qay rfl rfl rfl ?_) | (refine qaz rfl rfl ?_)))) (fun w h => ?_); exact ⟨_, rfl, refS.shut (t := { t with tx := t.tx.set k (By.splice (t.tx[k]'(by omega)) k0.toNat s) }) hev h.sub⟩)
end
end Go.Proofs.YtipkgamiejenaaaGreat

/- Package memory and its reference: find, Write, Read, Room. -/
namespace Go.Proofs.YtipkgamiejenaaaGreat
open Go Go.RowKit Go.MapKept
set_option linter.unusedVariables false
set_option linter.unusedSectionVars false
set_option linter.unusedSimpArgs false
set_option maxRecDepth 100000
set_option maxHeartbeats 4000000
namespace Me
def zL : LaidM := ⟨0, 0, 0, 0, 0⟩
/-- What may be asked of a piece that was found. -/
def chk (f : LaidM × Int) (o n : Int) : Int := if f.2 ≠ 0 then f.2 else if 4096 < n then 5 else if o < 0 ∨ n < 0 ∨ f.1.len < o ∨ f.1.len - o < n then 15 else 0
def got (f : LaidM × Int) (o n : Int) : LaidM := if chk f o n = 0 then f.1 else zL
def write (t : St.S) (f : LaidM × Int) (o : Int) (s : List UInt8) : St.S × Int := if chk f o s.length = 0 then St.put t f.1.chunk f.1.gen (f.1.pos + o) s else (t, chk f o s.length)
def read (t : St.S) (f : LaidM × Int) (o n : Int) : List UInt8 × Int := if chk f o n = 0 then St.load t f.1.chunk f.1.gen (f.1.pos + o) n else ([], chk f o n)
def room (f : LaidM × Int) (o : Int) : Int := if f.2 ≠ 0 ∨ o < 0 ∨ f.1.len < o then 0 else f.1.len - o
/-- What is found is a piece. -/
def Fits (f : LaidM × Int) : Prop := f.2 = 0 → (0 ≤ f.1.pos ∧ f.1.pos ≤ 1048576) ∧ 0 ≤ f.1.len ∧ f.1.len ≤ 1048576
theorem chk_fit {f : LaidM × Int} {o n : Int} (h : chk f o n = 0) : f.2 = 0 ∧ n ≤ 4096 ∧ 0 ≤ o ∧ 0 ≤ n ∧ o + n ≤ f.1.len := by
  unfold chk at h
  split at h
  · contradiction
  · split at h
    · omega
    · split at h
      · omega
      · omega
end Me
section
variable (sb : Nat) (t : St.S) (K : Nat) (hI : St.Inv t K) (hK : K ≤ 1000000) (p : Nat) (M : LvM) (hM : Lv.Ok M) (x : Int) (hx : x < 9223372036854775808) (hf : Me.Fits (Lv.find M x))
include hI hK hM hx hf
theorem mem_find (o n : Int) (w : World) (F : List HProp) (hw : holds w (storeP sb t :: livP p M :: F)) :
    Ct Tryz.prog 91 #[.pointer (some ⟨sb, 0, none⟩), .pointer (some ⟨p, 0, none⟩), .int .i64 x, .int .i64 o, .int .i64 n] w fun e w' => e = .returned (.tuple #[.agg (encLaid (Me.got (Lv.find M x) o n)).toArray, .int .i64 (Me.chk (Lv.find M x) o n)]) ∧ holds w' (storeP sb t :: livP p M :: F) := by
  have hsz := hI.sz
  have hS := fun w (F : List HProp) h => store_Size sb t K hI hK w F h
  have hF := fun w (F : List HProp) h => live_Find p M hM x hx w F h
  obtain ⟨f, hfe⟩ : ∃ f, f = (Lv.find M x) := ⟨_, rfl⟩
  rw [← hfe] at hF hf ⊢
  obtain ⟨l, e⟩ := f
  unfold Me.got Me.Fits at *
  dsimp only at hF hf ⊢
  refine Ct.go (args := [.pointer (some ⟨sb, 0, none⟩), .pointer (some ⟨p, 0, none⟩), .int .i64 x, .int .i64 o, .int .i64 n]) Tryz.func91 rfl rfl rfl hw ?_
  by_cases h0 : e = 0
  · subst h0
    have hf := hf rfl
    by_cases h1 : 4096 < n
    · have hc0 : Me.chk (l, 0) o n = 5 := by simp [Me.chk, h1]
      rw [hc0, if_neg (by omega)]
      repeat' (first | (first | (apply qab; refine qbq (storeP sb t) (vs := [.pointer (some ⟨sb, 0, none⟩)]) rfl rfl (fun w h => hS w _ h) ?_) | (apply qab; refine qbq (livP p M) (vs := [.pointer (some ⟨p, 0, none⟩), .int .i64 x]) rfl rfl (fun w h => hF w _ h) ?_)) | first | (apply qae; first | refine qa8 rfl ?_ | (apply qak; first | refine qaj rfl rfl rfl rfl rfl ?_ | refine qaf rfl rfl rfl rfl rfl ?_ | refine qag rfl rfl rfl rfl rfl ?_) | refine qan rfl rfl ?_ | refine qap rfl rfl rfl ?_ | refine qao rfl rfl rfl ?_ | (apply qax; first | refine qa6 rfl rfl (fun _ => ?_) | refine qa7 rfl rfl rfl (fun _ => ?_) | refine GL.box rfl rfl (fun _ => ?_)) | (apply qai; first | refine qaa rfl rfl rfl rfl rfl (fun _ => ?_) | refine qac rfl rfl rfl rfl rfl (fun _ => ?_)) | (apply qab; refine qam _ rfl rfl rfl rfl (by rfl) (by omega) (by omega) rfl (fun _ => ?_)) | (apply qal; refine GL.alloc rfl (fun _ => ?_))) | apply GL.nil | first | apply G.seq | apply G.region | apply G.block | apply G.skip | apply G.exit | apply G.ret | (apply qah; first | refine qbe rfl ?_ | refine qbf rfl ?_) | refine qbj (by kernel_rfl) (by kernel_rfl) ?_ | (apply qa4; first | apply qa5 | apply qa2 | apply qas | apply qat | apply qa3 | apply qa1 | apply qaq | refine qar rfl ?_ | apply qba) | (apply qad; first | refine qbb rfl ?_ | refine qau rfl rfl ?_ | refine qaw rfl rfl rfl ?_ | refine qav rfl rfl rfl ?_) | apply qbd | apply qbc | (apply qa0; refine qa9 rfl rfl ?_) | ((first | (apply qae; refine GL.guard rfl rfl (fun hc => ?_) (fun hc => ?_)) | (apply qah; refine G.cond rfl (fun hc => ?_) (fun hc => ?_)) | (apply qad; refine GD.guard rfl rfl (fun hc => ?_) (fun hc => ?_))) <;> ((try simp only [decide_eq_true_eq, decide_eq_false_iff_not, Bool.not_true, Bool.not_false, ne_eq, Classical.not_not, Int.not_lt, Int.not_le] at hc); (try (exfalso; first | omega | exact hc trivial | exact hc rfl)))))
      all_goals (first | (exfalso; omega) | (refine qbh rfl (by (repeat (first | apply Res.nil | (apply Res.tmp; rfl) | (refine qay rfl rfl rfl ?_) | (refine qaz rfl rfl ?_)))) (fun w h => ?_); exact ⟨rfl, h.sub⟩))
    by_cases h2 : o < 0 ∨ n < 0 ∨ l.len < o ∨ l.len - o < n
    · have hc0 : Me.chk (l, 0) o n = 15 := by simp only [Me.chk]; rw [if_neg (by simp), if_neg h1, if_pos h2]
      rw [hc0, if_neg (by omega)]
      repeat' (first | (first | (apply qab; refine qbq (storeP sb t) (vs := [.pointer (some ⟨sb, 0, none⟩)]) rfl rfl (fun w h => hS w _ h) ?_) | (apply qab; refine qbq (livP p M) (vs := [.pointer (some ⟨p, 0, none⟩), .int .i64 x]) rfl rfl (fun w h => hF w _ h) ?_)) | first | (apply qae; first | refine qa8 rfl ?_ | (apply qak; first | refine qaj rfl rfl rfl rfl rfl ?_ | refine qaf rfl rfl rfl rfl rfl ?_ | refine qag rfl rfl rfl rfl rfl ?_) | refine qan rfl rfl ?_ | refine qap rfl rfl rfl ?_ | refine qao rfl rfl rfl ?_ | (apply qax; first | refine qa6 rfl rfl (fun _ => ?_) | refine qa7 rfl rfl rfl (fun _ => ?_) | refine GL.box rfl rfl (fun _ => ?_)) | (apply qai; first | refine qaa rfl rfl rfl rfl rfl (fun _ => ?_) | refine qac rfl rfl rfl rfl rfl (fun _ => ?_)) | (apply qab; refine qam _ rfl rfl rfl rfl (by rfl) (by omega) (by omega) rfl (fun _ => ?_)) | (apply qal; refine GL.alloc rfl (fun _ => ?_))) | apply GL.nil | first | apply G.seq | apply G.region | apply G.block | apply G.skip | apply G.exit | apply G.ret | (apply qah; first | refine qbe rfl ?_ | refine qbf rfl ?_) | refine qbj (by kernel_rfl) (by kernel_rfl) ?_ | (apply qa4; first | apply qa5 | apply qa2 | apply qas | apply qat | apply qa3 | apply qa1 | apply qaq | refine qar rfl ?_ | apply qba) | (apply qad; first | refine qbb rfl ?_ | refine qau rfl rfl ?_ | refine qaw rfl rfl rfl ?_ | refine qav rfl rfl rfl ?_) | apply qbd | apply qbc | (apply qa0; refine qa9 rfl rfl ?_) | ((first | (apply qae; refine GL.guard rfl rfl (fun hc => ?_) (fun hc => ?_)) | (apply qah; refine G.cond rfl (fun hc => ?_) (fun hc => ?_)) | (apply qad; refine GD.guard rfl rfl (fun hc => ?_) (fun hc => ?_))) <;> ((try simp only [decide_eq_true_eq, decide_eq_false_iff_not, Bool.not_true, Bool.not_false, ne_eq, Classical.not_not, Int.not_lt, Int.not_le] at hc); (try (exfalso; first | omega | exact hc trivial | exact hc rfl)))))
      all_goals (first | (exfalso; omega) | (refine qbh rfl (by (repeat (first | apply Res.nil | (apply Res.tmp; rfl) | (refine qay rfl rfl rfl ?_) | (refine qaz rfl rfl ?_)))) (fun w h => ?_); exact ⟨rfl, h.sub⟩))
    · have hc0 : Me.chk (l, 0) o n = 0 := by simp only [Me.chk]; rw [if_neg (by simp), if_neg h1, if_neg h2]
      rw [hc0, if_pos rfl]
      repeat' (first | (first | (apply qab; refine qbq (storeP sb t) (vs := [.pointer (some ⟨sb, 0, none⟩)]) rfl rfl (fun w h => hS w _ h) ?_) | (apply qab; refine qbq (livP p M) (vs := [.pointer (some ⟨p, 0, none⟩), .int .i64 x]) rfl rfl (fun w h => hF w _ h) ?_)) | first | (apply qae; first | refine qa8 rfl ?_ | (apply qak; first | refine qaj rfl rfl rfl rfl rfl ?_ | refine qaf rfl rfl rfl rfl rfl ?_ | refine qag rfl rfl rfl rfl rfl ?_) | refine qan rfl rfl ?_ | refine qap rfl rfl rfl ?_ | refine qao rfl rfl rfl ?_ | (apply qax; first | refine qa6 rfl rfl (fun _ => ?_) | refine qa7 rfl rfl rfl (fun _ => ?_) | refine GL.box rfl rfl (fun _ => ?_)) | (apply qai; first | refine qaa rfl rfl rfl rfl rfl (fun _ => ?_) | refine qac rfl rfl rfl rfl rfl (fun _ => ?_)) | (apply qab; refine qam _ rfl rfl rfl rfl (by rfl) (by omega) (by omega) rfl (fun _ => ?_)) | (apply qal; refine GL.alloc rfl (fun _ => ?_))) | apply GL.nil | first | apply G.seq | apply G.region | apply G.block | apply G.skip | apply G.exit | apply G.ret | (apply qah; first | refine qbe rfl ?_ | refine qbf rfl ?_) | refine qbj (by kernel_rfl) (by kernel_rfl) ?_ | (apply qa4; first | apply qa5 | apply qa2 | apply qas | apply qat | apply qa3 | apply qa1 | apply qaq | refine qar rfl ?_ | apply qba) | (apply qad; first | refine qbb rfl ?_ | refine qau rfl rfl ?_ | refine qaw rfl rfl rfl ?_ | refine qav rfl rfl rfl ?_) | apply qbd | apply qbc | (apply qa0; refine qa9 rfl rfl ?_) | ((first | (apply qae; refine GL.guard rfl rfl (fun hc => ?_) (fun hc => ?_)) | (apply qah; refine G.cond rfl (fun hc => ?_) (fun hc => ?_)) | (apply qad; refine GD.guard rfl rfl (fun hc => ?_) (fun hc => ?_))) <;> ((try simp only [decide_eq_true_eq, decide_eq_false_iff_not, Bool.not_true, Bool.not_false, ne_eq, Classical.not_not, Int.not_lt, Int.not_le] at hc); (try (exfalso; first | omega | exact hc trivial | exact hc rfl)))))
      all_goals (first | (exfalso; omega) | (refine qbh rfl (by (repeat (first | apply Res.nil | (apply Res.tmp; rfl) | (refine qay rfl rfl rfl ?_) | (refine qaz rfl rfl ?_)))) (fun w h => ?_); exact ⟨rfl, h.sub⟩))
  · have hc0 : Me.chk (l, e) o n = e := by simp [Me.chk, h0]
    rw [hc0, if_neg h0]
    repeat' (first | (first | (apply qab; refine qbq (storeP sb t) (vs := [.pointer (some ⟨sb, 0, none⟩)]) rfl rfl (fun w h => hS w _ h) ?_) | (apply qab; refine qbq (livP p M) (vs := [.pointer (some ⟨p, 0, none⟩), .int .i64 x]) rfl rfl (fun w h => hF w _ h) ?_)) | first | (apply qae; first | refine qa8 rfl ?_ | (apply qak; first | refine qaj rfl rfl rfl rfl rfl ?_ | refine qaf rfl rfl rfl rfl rfl ?_ | refine qag rfl rfl rfl rfl rfl ?_) | refine qan rfl rfl ?_ | refine qap rfl rfl rfl ?_ | refine qao rfl rfl rfl ?_ | (apply qax; first | refine qa6 rfl rfl (fun _ => ?_) | refine qa7 rfl rfl rfl (fun _ => ?_) | refine GL.box rfl rfl (fun _ => ?_)) | (apply qai; first | refine qaa rfl rfl rfl rfl rfl (fun _ => ?_) | refine qac rfl rfl rfl rfl rfl (fun _ => ?_)) | (apply qab; refine qam _ rfl rfl rfl rfl (by rfl) (by omega) (by omega) rfl (fun _ => ?_)) | (apply qal; refine GL.alloc rfl (fun _ => ?_))) | apply GL.nil | first | apply G.seq | apply G.region | apply G.block | apply G.skip | apply G.exit | apply G.ret | (apply qah; first | refine qbe rfl ?_ | refine qbf rfl ?_) | refine qbj (by kernel_rfl) (by kernel_rfl) ?_ | (apply qa4; first | apply qa5 | apply qa2 | apply qas | apply qat | apply qa3 | apply qa1 | apply qaq | refine qar rfl ?_ | apply qba) | (apply qad; first | refine qbb rfl ?_ | refine qau rfl rfl ?_ | refine qaw rfl rfl rfl ?_ | refine qav rfl rfl rfl ?_) | apply qbd | apply qbc | (apply qa0; refine qa9 rfl rfl ?_) | ((first | (apply qae; refine GL.guard rfl rfl (fun hc => ?_) (fun hc => ?_)) | (apply qah; refine G.cond rfl (fun hc => ?_) (fun hc => ?_)) | (apply qad; refine GD.guard rfl rfl (fun hc => ?_) (fun hc => ?_))) <;> ((try simp only [decide_eq_true_eq, decide_eq_false_iff_not, Bool.not_true, Bool.not_false, ne_eq, Classical.not_not, Int.not_lt, Int.not_le] at hc); (try (exfalso; first | omega | exact hc trivial | exact hc rfl)))))
    all_goals (first | (exfalso; omega) | (refine qbh rfl (by (repeat (first | apply Res.nil | (apply Res.tmp; rfl) | (refine qay rfl rfl rfl ?_) | (refine qaz rfl rfl ?_)))) (fun w h => ?_); exact ⟨rfl, h.sub⟩))
theorem mem_Room (o : Int) (w : World) (F : List HProp) (hw : holds w (livP p M :: F)) :
    Ct Tryz.prog 29 #[.pointer (some ⟨p, 0, none⟩), .int .i64 x, .int .i64 o] w fun e w' => e = .returned (.int .i64 (Me.room (Lv.find M x) o)) ∧ holds w' (livP p M :: F) := by
  have hF := fun w (F : List HProp) h => live_Find p M hM x hx w F h
  obtain ⟨f, hfe⟩ : ∃ f, f = (Lv.find M x) := ⟨_, rfl⟩
  rw [← hfe] at hF hf ⊢
  obtain ⟨l, e⟩ := f
  unfold Me.Fits at hf
  unfold Me.room
  dsimp only at hF hf ⊢
  refine Ct.go (args := [.pointer (some ⟨p, 0, none⟩), .int .i64 x, .int .i64 o]) Tryz.func29 rfl rfl rfl hw ?_
  by_cases h0 : e ≠ 0 ∨ o < 0 ∨ l.len < o
  · rw [if_pos h0]
    by_cases h3 : e = 0
    · subst h3
      have hf := hf rfl
      have h1 : o < 0 ∨ l.len < o := by rcases h0 with h | h; exact absurd rfl h; exact h
      repeat' (first | ((apply qab; refine qbq (livP p M) (vs := [.pointer (some ⟨p, 0, none⟩), .int .i64 x]) rfl rfl (fun w h => hF w _ h) ?_)) | first | (apply qae; first | refine qa8 rfl ?_ | (apply qak; first | refine qaj rfl rfl rfl rfl rfl ?_ | refine qaf rfl rfl rfl rfl rfl ?_ | refine qag rfl rfl rfl rfl rfl ?_) | refine qan rfl rfl ?_ | refine qap rfl rfl rfl ?_ | refine qao rfl rfl rfl ?_ | (apply qax; first | refine qa6 rfl rfl (fun _ => ?_) | refine qa7 rfl rfl rfl (fun _ => ?_) | refine GL.box rfl rfl (fun _ => ?_)) | (apply qai; first | refine qaa rfl rfl rfl rfl rfl (fun _ => ?_) | refine qac rfl rfl rfl rfl rfl (fun _ => ?_)) | (apply qab; refine qam _ rfl rfl rfl rfl (by rfl) (by omega) (by omega) rfl (fun _ => ?_)) | (apply qal; refine GL.alloc rfl (fun _ => ?_))) | apply GL.nil | first | apply G.seq | apply G.region | apply G.block | apply G.skip | apply G.exit | apply G.ret | (apply qah; first | refine qbe rfl ?_ | refine qbf rfl ?_) | refine qbj (by kernel_rfl) (by kernel_rfl) ?_ | (apply qa4; first | apply qa5 | apply qa2 | apply qas | apply qat | apply qa3 | apply qa1 | apply qaq | refine qar rfl ?_ | apply qba) | (apply qad; first | refine qbb rfl ?_ | refine qau rfl rfl ?_ | refine qaw rfl rfl rfl ?_ | refine qav rfl rfl rfl ?_) | apply qbd | apply qbc | (apply qa0; refine qa9 rfl rfl ?_) | ((first | (apply qae; refine GL.guard rfl rfl (fun hc => ?_) (fun hc => ?_)) | (apply qah; refine G.cond rfl (fun hc => ?_) (fun hc => ?_)) | (apply qad; refine GD.guard rfl rfl (fun hc => ?_) (fun hc => ?_))) <;> ((try simp only [decide_eq_true_eq, decide_eq_false_iff_not, Bool.not_true, Bool.not_false, ne_eq, Classical.not_not, Int.not_lt, Int.not_le] at hc); (try (exfalso; first | omega | exact hc trivial | exact hc rfl)))))
      all_goals (first | (exfalso; omega) | (refine qbi rfl (by (repeat (first | apply Res.nil | (apply Res.tmp; rfl) | (refine qay rfl rfl rfl ?_) | (refine qaz rfl rfl ?_)))) (fun w h => ?_); exact ⟨rfl, h.sub⟩))
    · repeat' (first | ((apply qab; refine qbq (livP p M) (vs := [.pointer (some ⟨p, 0, none⟩), .int .i64 x]) rfl rfl (fun w h => hF w _ h) ?_)) | first | (apply qae; first | refine qa8 rfl ?_ | (apply qak; first | refine qaj rfl rfl rfl rfl rfl ?_ | refine qaf rfl rfl rfl rfl rfl ?_ | refine qag rfl rfl rfl rfl rfl ?_) | refine qan rfl rfl ?_ | refine qap rfl rfl rfl ?_ | refine qao rfl rfl rfl ?_ | (apply qax; first | refine qa6 rfl rfl (fun _ => ?_) | refine qa7 rfl rfl rfl (fun _ => ?_) | refine GL.box rfl rfl (fun _ => ?_)) | (apply qai; first | refine qaa rfl rfl rfl rfl rfl (fun _ => ?_) | refine qac rfl rfl rfl rfl rfl (fun _ => ?_)) | (apply qab; refine qam _ rfl rfl rfl rfl (by rfl) (by omega) (by omega) rfl (fun _ => ?_)) | (apply qal; refine GL.alloc rfl (fun _ => ?_))) | apply GL.nil | first | apply G.seq | apply G.region | apply G.block | apply G.skip | apply G.exit | apply G.ret | (apply qah; first | refine qbe rfl ?_ | refine qbf rfl ?_) | refine qbj (by kernel_rfl) (by kernel_rfl) ?_ | (apply qa4; first | apply qa5 | apply qa2 | apply qas | apply qat | apply qa3 | apply qa1 | apply qaq | refine qar rfl ?_ | apply qba) | (apply qad; first | refine qbb rfl ?_ | refine qau rfl rfl ?_ | refine qaw rfl rfl rfl ?_ | refine qav rfl rfl rfl ?_) | apply qbd | apply qbc | (apply qa0; refine qa9 rfl rfl ?_) | ((first | (apply qae; refine GL.guard rfl rfl (fun hc => ?_) (fun hc => ?_)) | (apply qah; refine G.cond rfl (fun hc => ?_) (fun hc => ?_)) | (apply qad; refine GD.guard rfl rfl (fun hc => ?_) (fun hc => ?_))) <;> ((try simp only [decide_eq_true_eq, decide_eq_false_iff_not, Bool.not_true, Bool.not_false, ne_eq, Classical.not_not, Int.not_lt, Int.not_le] at hc); (try (exfalso; first | omega | exact hc trivial | exact hc rfl)))))
      all_goals (first | (exfalso; omega) | (refine qbi rfl (by (repeat (first | apply Res.nil | (apply Res.tmp; rfl) | (refine qay rfl rfl rfl ?_) | (refine qaz rfl rfl ?_)))) (fun w h => ?_); exact ⟨rfl, h.sub⟩))
  · rw [if_neg h0]
    have h3 : e = 0 := Classical.not_not.1 fun h => h0 (.inl h)
    subst h3
    have hf := hf rfl
    have h1 : ¬ (o < 0 ∨ l.len < o) := fun h => h0 (.inr h)
    repeat' (first | ((apply qab; refine qbq (livP p M) (vs := [.pointer (some ⟨p, 0, none⟩), .int .i64 x]) rfl rfl (fun w h => hF w _ h) ?_)) | first | (apply qae; first | refine qa8 rfl ?_ | (apply qak; first | refine qaj rfl rfl rfl rfl rfl ?_ | refine qaf rfl rfl rfl rfl rfl ?_ | refine qag rfl rfl rfl rfl rfl ?_) | refine qan rfl rfl ?_ | refine qap rfl rfl rfl ?_ | refine qao rfl rfl rfl ?_ | (apply qax; first | refine qa6 rfl rfl (fun _ => ?_) | refine qa7 rfl rfl rfl (fun _ => ?_) | refine GL.box rfl rfl (fun _ => ?_)) | (apply qai; first | refine qaa rfl rfl rfl rfl rfl (fun _ => ?_) | refine qac rfl rfl rfl rfl rfl (fun _ => ?_)) | (apply qab; refine qam _ rfl rfl rfl rfl (by rfl) (by omega) (by omega) rfl (fun _ => ?_)) | (apply qal; refine GL.alloc rfl (fun _ => ?_))) | apply GL.nil | first | apply G.seq | apply G.region | apply G.block | apply G.skip | apply G.exit | apply G.ret | (apply qah; first | refine qbe rfl ?_ | refine qbf rfl ?_) | refine qbj (by kernel_rfl) (by kernel_rfl) ?_ | (apply qa4; first | apply qa5 | apply qa2 | apply qas | apply qat | apply qa3 | apply qa1 | apply qaq | refine qar rfl ?_ | apply qba) | (apply qad; first | refine qbb rfl ?_ | refine qau rfl rfl ?_ | refine qaw rfl rfl rfl ?_ | refine qav rfl rfl rfl ?_) | apply qbd | apply qbc | (apply qa0; refine qa9 rfl rfl ?_) | ((first | (apply qae; refine GL.guard rfl rfl (fun hc => ?_) (fun hc => ?_)) | (apply qah; refine G.cond rfl (fun hc => ?_) (fun hc => ?_)) | (apply qad; refine GD.guard rfl rfl (fun hc => ?_) (fun hc => ?_))) <;> ((try simp only [decide_eq_true_eq, decide_eq_false_iff_not, Bool.not_true, Bool.not_false, ne_eq, Classical.not_not, Int.not_lt, Int.not_le] at hc); (try (exfalso; first | omega | exact hc trivial | exact hc rfl)))))
    all_goals (first | (exfalso; omega) | (refine qbi rfl (by (repeat (first | apply Res.nil | (apply Res.tmp; rfl) | (refine qay rfl rfl rfl ?_) | (refine qaz rfl rfl ?_)))) (fun w h => ?_); exact ⟨rfl, h.sub⟩))
end
end Go.Proofs.YtipkgamiejenaaaGreat

/- Drawn regions: a call that takes a piece and makes another; a store of a whole struct. -/
namespace Go.Proofs.YtipkgamiejenaaaGreat
open Go Go.RowKit Go.MapKept
set_option linter.unusedVariables false
set_option linter.unusedSectionVars false
set_option linter.unusedSimpArgs false
section
variable {P : Program} {n : Nat} {env : Env} {F : List HProp}
theorem DoesW.storeWhole {L : List HProp} {t T : TypeId} {x y : Operand} {b size : Nat} {c : Array Value} {vs : Array Value} (hx : opnd env x = some (.pointer (some ⟨b, 0, none⟩))) (hy : opnd env y = some (.agg vs)) [ht : AggT P t size] (hs : Nat.beq vs.size size = true) (h1 : vs.toList.all (·.oneCell') = true) (ho : Nat.beq c.size size = true) :
    DoesW P n env F [blk b (.cells c T (0, 0))] L (.store t x y) (fun _ => True) (fun _ => blk b (.cells vs T (0, 0))) := ⟨fun a w F' ty pos aft g d hf hw => by
  obtain ⟨i, ds, g1, g2, g3, g4⟩ := ht.ok
  have hs : vs.size = size := Nat.eq_of_beq_eq_true hs
  have ho : c.size = size := Nat.eq_of_beq_eq_true ho
  obtain ⟨w', hr, hh⟩ := run_storeVar_sl (P := P) (t := t) (val := .agg vs) (off := 0) (by simp [g1, g2, hs, Value.cells]) (by have h1' := List.all_eq_true.1 h1; simpa [Value.cells] using h1') (show holds w (blk b (.cells c T (0, 0)) :: (L ++ (F ++ F'))) from by simpa using hw) (by simp [Value.cells, hs, ho])
  have e : (c.toList.take 0 ++ (Value.agg vs).cells.toList ++ c.toList.drop (0 + (Value.agg vs).cells.size)).toArray = vs := by
    simp only [Value.cells]
    rw [List.take_zero, List.nil_append, List.drop_eq_nil_of_le (by rw [Array.length_toList]; omega), List.append_nil, Array.toArray_toList]
  rw [e] at hh
  simp [execOp, hf.eval hx, hf.eval hy, Instr.storeAt, Instr.sureAddr, hr, Result.andThen, looseUpon]
  exact hh⟩
end
section
variable {P : Program} {n : Nat} {env : Env} {F F0 : List HProp}
end
section
variable {P : Program} {n k d : Nat} {env : Env} {F F0 : List HProp} {ops : Array Oper} {rest : List Oper} {ty : TypeId} {pos : String} {aft : Array Edge} {Z : Act → Prop}
/-- A call in a drawn region that keeps a piece. -/
theorem GD.callX {f : FuncId} {xs : List Operand} {ts : Array TypeId} {vs : List Value} {v : Value} (X : HProp) [hX : Has F X F0] [ho : Own P f] (hx : opnds env xs = some vs) (hd : Nat.blt d n = true)
    (hc : ∀ w G, holds w (X :: (F0 ++ G)) → Ct P f vs.toArray w fun e w' => e = .returned v ∧ holds w' (X :: (F0 ++ G))) (h : GD P n ops F Z (k + 1) rest ((d, v) :: env)) :
    GD P n ops F Z k (⟨some d, .call { callee := .value (.func f), args := xs.toArray, argTypes := ts }, ty, pos, aft, none⟩ :: rest) env :=
  GD.call hx hd (fun w F' hw => by
    have hp : (F ++ F').Perm (X :: (F0 ++ F')) := hX.perm.append_right F'
    exact (hc w F' (hw.perm hp)).mono fun e w' ⟨he, hh⟩ => ⟨he, hh.perm hp.symm⟩) h
end
instance (priority := 400) SeesBlk.appendLg {F F2 : List HProp} {b : Nat} {c : Array Value} [h : SeesBlk F b c] : SeesBlk (F ++ F2) b c := ⟨fun w hw => h.at_ w (by obtain ⟨f, hf, hs⟩ := hw; obtain ⟨f1, f2, h1, h2, j⟩ := (sep_append F F2 f).1 hs; exact ⟨f, hf, sep_sub F f1 f j h1⟩)⟩
instance (priority := 300) SeesBlk.appendRg {F F2 : List HProp} {b : Nat} {c : Array Value} [h : SeesBlk F2 b c] : SeesBlk (F ++ F2) b c := ⟨fun w hw => h.at_ w (by obtain ⟨f, hf, hs⟩ := hw; obtain ⟨f1, f2, h1, h2, j⟩ := (sep_append F F2 f).1 hs; exact ⟨f, hf, sep_sub F2 f2 f j.symm h2⟩)⟩
section
variable {P : Program} {n : Nat} {env : Env} {F : List HProp}
theorem Runs.neqIF {xT yT : TypeId} {x y : Operand} {i j : Int} {kk : IntKind} (h : i = j) (hx : opnd env x = some (.int kk i)) (hy : opnd env y = some (.int kk j)) : Runs P n env F (.binOp .neq xT x y yT) (.bool false) := by
  have := Runs.neq (P := P) (n := n) (F := F) (xT := xT) (yT := yT) hx hy
  subst h
  rwa [decide_eq_false (by simp)] at this
end
end Go.Proofs.YtipkgamiejenaaaGreat

/- Calls that take two pieces. -/
namespace Go.Proofs.YtipkgamiejenaaaGreat
open Go Go.RowKit Go.MapKept
set_option linter.unusedVariables false
set_option linter.unusedSectionVars false
set_option linter.unusedSimpArgs false
section
variable {P : Program} {n d : Nat} {Q : Exit → Act → World → Prop} {env : Env} {F : List HProp} {ops : Array Oper} {rest : List Oper} {ty : TypeId} {pos : String} {aft : Array Edge}
theorem GL.callHH1 {f : FuncId} {xs : List Operand} {ts : Array TypeId} {vs : List Value} {v : Value} {F0 F1 F' : List HProp} (X Y : HProp) [hX : Has F X F0] [hY : Has F0 Y F1] [ho : Own P f] (hx : opnds env xs = some vs) (hd : Nat.blt d n = true)
    (hc : ∀ w, holds w (X :: Y :: F1) → Ct P f vs.toArray w fun e w' => e = .returned v ∧ holds w' F') (h : GL P n ops Q rest ((d, v) :: env) F') :
    GL P n ops Q (⟨some d, .call { callee := .value (.func f), args := xs.toArray, argTypes := ts }, ty, pos, aft, none⟩ :: rest) env F :=
  qbg hx hd (fun w hw => hc w (hw.perm (hX.perm.trans (hY.perm.cons X)))) h
end
end Go.Proofs.YtipkgamiejenaaaGreat
