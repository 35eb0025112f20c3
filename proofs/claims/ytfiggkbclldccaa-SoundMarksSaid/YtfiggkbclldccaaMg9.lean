import Derived.Test.YtfiggkbclldccaaMg8
import Derived.Test.YtfiggkbclldccaaMg5
import Derived.Test.YtfiggkbclldccaaMg0

import Derived.Test.YtfiggkbclldccaaBase
/- Numbers, accounts, tickets and spans of any size: the walks. -/
namespace Go.Proofs.Ytfiggkbclldccaa
open Go Go.RowKit Go.MapKept
set_option linter.unusedVariables false
set_option linter.unusedSimpArgs false
set_option maxRecDepth 100000
set_option maxHeartbeats 2000000

def R64 (x : Int) : Prop := -9223372036854775808 ≤ x ∧ x ≤ 9223372036854775807
instance (x : Int) : Decidable (R64 x) := by unfold R64; infer_instance
theorem wrap64 {x : Int} (h : -18446744073709551616 ≤ x ∧ x ≤ 18446744073709551615) : IntKind.i64.wrap x = if R64 x then x else if x < 0 then x + 18446744073709551616 else x - 18446744073709551616 := by
  rw [IntKind.wrap_i64]
  by_cases h1 : R64 x
  · rw [if_pos h1]; unfold R64 at h1; omega
  · rw [if_neg h1]
    unfold R64 at h1
    by_cases h2 : x < 0
    · rw [if_pos h2]; omega
    · rw [if_neg h2]; omega
section
variable {P : Program} {n : Nat} {env : Env} {F : List HProp} {xT yT : TypeId} {x y : Operand} {i j s : Int}
theorem Runs.addE (hx : opnd env x = some (.int .i64 i)) (hy : opnd env y = some (.int .i64 j)) (h : IntKind.i64.wrap (i + j) = s) : Runs P n env F (.binOp .add xT x y yT) (.int .i64 s) := h ▸ Runs.addW hx hy
end
theorem num_AddT (a b : Int) (ha : R64 a) (hb : R64 b) (w : World) (F : List HProp) (hw : holds w F) :
    Ct Try.prog 123 #[.int .i64 a, .int .i64 b] w fun e w' => e = .returned (.tuple #[.int .i64 (if R64 (a + b) then a + b else 0), .bool (decide (R64 (a + b)))]) ∧ holds w' F := by
  refine Ct.go (args := [.int .i64 a, .int .i64 b]) Try.func123 rfl rfl rfl hw ?_
  obtain ⟨s, hs⟩ : ∃ s, IntKind.i64.wrap (a + b) = s := ⟨_, rfl⟩
  unfold R64 at ha hb
  have hs2 := wrap64 (x := a + b) (by omega)
  rw [hs] at hs2
  by_cases hr : R64 (a + b)
  · rw [if_pos hr] at hs2
    rw [if_pos hr, decide_eq_true hr, ← hs2]
    unfold R64 at hr
    repeat' (first | ((apply GL.isAny; refine GL.run (Runs.addE rfl rfl hs) rfl ?_)) | first | (apply GL.isAny; first | refine GL.runA rfl ?_ | (apply GL.isStore; first | refine GL.storeBlk rfl rfl rfl rfl rfl ?_ | refine GL.storeWhole rfl rfl rfl rfl rfl ?_ | refine GL.storeBlkA rfl rfl rfl rfl rfl ?_) | refine GL.guardY rfl rfl ?_ | refine GL.guardN rfl rfl rfl ?_ | refine GL.guardU rfl rfl rfl ?_ | (apply GL.isBox; first | refine GL.boxA rfl rfl (fun _ => ?_) | refine GL.box1 rfl rfl rfl (fun _ => ?_) | refine GL.box rfl rfl (fun _ => ?_)) | (apply GL.isBuildS; first | refine GL.buildSlice1A rfl rfl rfl rfl rfl (fun _ => ?_) | refine GL.buildSlice1 rfl rfl rfl rfl rfl (fun _ => ?_)) | (apply GL.isCall; refine GL.append1 _ rfl rfl rfl rfl (by rfl) (by omega) (by omega) rfl (fun _ => ?_)) | (apply GL.isAlloc; refine GL.alloc rfl (fun _ => ?_))) | apply GL.nil | first | apply G.seq | apply G.region | apply G.block | apply G.skip | apply G.exit | apply G.ret | (apply G.isCond; first | refine G.condT rfl ?_ | refine G.condF rfl ?_) | refine G.draw (by kernel_rfl) (by kernel_rfl) ?_ | (apply GE.isAny; first | apply GE.again | apply GE.thenG | apply GE.blockN | apply GE.blockE | apply GE.thenE | apply GE.thenR | apply GE.blockR | refine GE.blockO rfl ?_ | apply GE.only) | (apply GD.isAny; first | refine GD.runA rfl ?_ | refine GD.guardY rfl rfl ?_ | refine GD.guardN rfl rfl rfl ?_ | refine GD.guardU rfl rfl rfl ?_) | apply GD.nilE | apply GD.nilL | (apply GT.isAny; refine GT.runA rfl rfl ?_) | ((first | (apply GL.isAny; refine GL.guard rfl rfl (fun hc => ?_) (fun hc => ?_)) | (apply G.isCond; refine G.cond rfl (fun hc => ?_) (fun hc => ?_)) | (apply GD.isAny; refine GD.guard rfl rfl (fun hc => ?_) (fun hc => ?_))) <;> ((try simp only [decide_eq_true_eq, decide_eq_false_iff_not, Bool.not_true, Bool.not_false, ne_eq, Classical.not_not, Int.not_lt, Int.not_le] at hc); (try (exfalso; first | omega | exact hc trivial | exact hc rfl)))))
    all_goals (first | (exfalso; omega) | (refine GE.resMany rfl (by (repeat (first | apply Res.nil | (apply Res.tmp; rfl) | (refine Res.cellA rfl rfl rfl ?_) | (refine Res.cell1 rfl rfl ?_)))) (fun w h => ?_); exact ⟨rfl, h.sub⟩))
  · rw [if_neg hr] at hs2
    rw [if_neg hr, decide_eq_false hr]
    unfold R64 at hr
    have hs3 : (a + b < 0 ∧ s = a + b + 18446744073709551616) ∨ (0 ≤ a + b ∧ s = a + b - 18446744073709551616) := by
      split at hs2
      · exact .inl ⟨by assumption, hs2⟩
      · exact .inr ⟨by omega, hs2⟩
    repeat' (first | ((apply GL.isAny; refine GL.run (Runs.addE rfl rfl hs) rfl ?_)) | first | (apply GL.isAny; first | refine GL.runA rfl ?_ | (apply GL.isStore; first | refine GL.storeBlk rfl rfl rfl rfl rfl ?_ | refine GL.storeWhole rfl rfl rfl rfl rfl ?_ | refine GL.storeBlkA rfl rfl rfl rfl rfl ?_) | refine GL.guardY rfl rfl ?_ | refine GL.guardN rfl rfl rfl ?_ | refine GL.guardU rfl rfl rfl ?_ | (apply GL.isBox; first | refine GL.boxA rfl rfl (fun _ => ?_) | refine GL.box1 rfl rfl rfl (fun _ => ?_) | refine GL.box rfl rfl (fun _ => ?_)) | (apply GL.isBuildS; first | refine GL.buildSlice1A rfl rfl rfl rfl rfl (fun _ => ?_) | refine GL.buildSlice1 rfl rfl rfl rfl rfl (fun _ => ?_)) | (apply GL.isCall; refine GL.append1 _ rfl rfl rfl rfl (by rfl) (by omega) (by omega) rfl (fun _ => ?_)) | (apply GL.isAlloc; refine GL.alloc rfl (fun _ => ?_))) | apply GL.nil | first | apply G.seq | apply G.region | apply G.block | apply G.skip | apply G.exit | apply G.ret | (apply G.isCond; first | refine G.condT rfl ?_ | refine G.condF rfl ?_) | refine G.draw (by kernel_rfl) (by kernel_rfl) ?_ | (apply GE.isAny; first | apply GE.again | apply GE.thenG | apply GE.blockN | apply GE.blockE | apply GE.thenE | apply GE.thenR | apply GE.blockR | refine GE.blockO rfl ?_ | apply GE.only) | (apply GD.isAny; first | refine GD.runA rfl ?_ | refine GD.guardY rfl rfl ?_ | refine GD.guardN rfl rfl rfl ?_ | refine GD.guardU rfl rfl rfl ?_) | apply GD.nilE | apply GD.nilL | (apply GT.isAny; refine GT.runA rfl rfl ?_) | ((first | (apply GL.isAny; refine GL.guard rfl rfl (fun hc => ?_) (fun hc => ?_)) | (apply G.isCond; refine G.cond rfl (fun hc => ?_) (fun hc => ?_)) | (apply GD.isAny; refine GD.guard rfl rfl (fun hc => ?_) (fun hc => ?_))) <;> ((try simp only [decide_eq_true_eq, decide_eq_false_iff_not, Bool.not_true, Bool.not_false, ne_eq, Classical.not_not, Int.not_lt, Int.not_le] at hc); (try (exfalso; first | omega | exact hc trivial | exact hc rfl)))))
    all_goals (first | (exfalso; omega) | (refine GE.resMany rfl (by (repeat (first | apply Res.nil | (apply Res.tmp; rfl) | (refine Res.cellA rfl rfl rfl ?_) | (refine Res.cell1 rfl rfl ?_)))) (fun w h => ?_); exact ⟨rfl, h.sub⟩))
/-- An account of numbers of the machine. -/
def AccM.Fits (a : AccM) : Prop := R64 a.claim ∧ R64 a.held ∧ R64 a.credits
theorem account_RightT (a : AccM) (ha : a.Fits) (w : World) (F : List HProp) (hw : holds w F) :
    Ct Try.prog 100 #[.agg (encAcc a).toArray] w fun e w' => e = .returned (.bool (decide (Acc.Right a))) ∧ holds w' F := by
  refine Ct.go (args := [.agg (encAcc a).toArray]) Try.func100 rfl rfl rfl hw ?_
  obtain ⟨h1, h2, h3⟩ := ha
  have C := num_AddT a.held a.credits h2 h3
  unfold R64 at h1 h2 h3
  by_cases hr : R64 (a.held + a.credits)
  · rw [if_pos hr, decide_eq_true hr] at C
    unfold R64 at hr
    by_cases hR : Acc.Right a
    · rw [decide_eq_true hR]
      unfold Acc.Right at hR
      repeat' (first | ((apply GL.isCall; refine GL.call1 rfl rfl (fun w h => C w _ h) ?_)) | first | (apply GL.isAny; first | refine GL.runA rfl ?_ | (apply GL.isStore; first | refine GL.storeBlk rfl rfl rfl rfl rfl ?_ | refine GL.storeWhole rfl rfl rfl rfl rfl ?_ | refine GL.storeBlkA rfl rfl rfl rfl rfl ?_) | refine GL.guardY rfl rfl ?_ | refine GL.guardN rfl rfl rfl ?_ | refine GL.guardU rfl rfl rfl ?_ | (apply GL.isBox; first | refine GL.boxA rfl rfl (fun _ => ?_) | refine GL.box1 rfl rfl rfl (fun _ => ?_) | refine GL.box rfl rfl (fun _ => ?_)) | (apply GL.isBuildS; first | refine GL.buildSlice1A rfl rfl rfl rfl rfl (fun _ => ?_) | refine GL.buildSlice1 rfl rfl rfl rfl rfl (fun _ => ?_)) | (apply GL.isCall; refine GL.append1 _ rfl rfl rfl rfl (by rfl) (by omega) (by omega) rfl (fun _ => ?_)) | (apply GL.isAlloc; refine GL.alloc rfl (fun _ => ?_))) | apply GL.nil | first | apply G.seq | apply G.region | apply G.block | apply G.skip | apply G.exit | apply G.ret | (apply G.isCond; first | refine G.condT rfl ?_ | refine G.condF rfl ?_) | refine G.draw (by kernel_rfl) (by kernel_rfl) ?_ | (apply GE.isAny; first | apply GE.again | apply GE.thenG | apply GE.blockN | apply GE.blockE | apply GE.thenE | apply GE.thenR | apply GE.blockR | refine GE.blockO rfl ?_ | apply GE.only) | (apply GD.isAny; first | refine GD.runA rfl ?_ | refine GD.guardY rfl rfl ?_ | refine GD.guardN rfl rfl rfl ?_ | refine GD.guardU rfl rfl rfl ?_) | apply GD.nilE | apply GD.nilL | (apply GT.isAny; refine GT.runA rfl rfl ?_) | ((first | (apply GL.isAny; refine GL.guard rfl rfl (fun hc => ?_) (fun hc => ?_)) | (apply G.isCond; refine G.cond rfl (fun hc => ?_) (fun hc => ?_)) | (apply GD.isAny; refine GD.guard rfl rfl (fun hc => ?_) (fun hc => ?_))) <;> ((try simp only [decide_eq_true_eq, decide_eq_false_iff_not, Bool.not_true, Bool.not_false, ne_eq, Classical.not_not, Int.not_lt, Int.not_le] at hc); (try (exfalso; first | omega | exact hc trivial | exact hc rfl)))))
      all_goals (first | (exfalso; omega) | (refine GE.resOne rfl (by (repeat (first | apply Res.nil | (apply Res.tmp; rfl) | (refine Res.cellA rfl rfl rfl ?_) | (refine Res.cell1 rfl rfl ?_)))) (fun w h => ?_); refine ⟨?_, h.sub⟩; first | rfl | (congr 2; exact decide_eq_true (by omega)) | (congr 2; exact (decide_eq_true (by omega)).symm)))
    · rw [decide_eq_false hR]
      unfold Acc.Right at hR
      repeat' (first | ((apply GL.isCall; refine GL.call1 rfl rfl (fun w h => C w _ h) ?_)) | first | (apply GL.isAny; first | refine GL.runA rfl ?_ | (apply GL.isStore; first | refine GL.storeBlk rfl rfl rfl rfl rfl ?_ | refine GL.storeWhole rfl rfl rfl rfl rfl ?_ | refine GL.storeBlkA rfl rfl rfl rfl rfl ?_) | refine GL.guardY rfl rfl ?_ | refine GL.guardN rfl rfl rfl ?_ | refine GL.guardU rfl rfl rfl ?_ | (apply GL.isBox; first | refine GL.boxA rfl rfl (fun _ => ?_) | refine GL.box1 rfl rfl rfl (fun _ => ?_) | refine GL.box rfl rfl (fun _ => ?_)) | (apply GL.isBuildS; first | refine GL.buildSlice1A rfl rfl rfl rfl rfl (fun _ => ?_) | refine GL.buildSlice1 rfl rfl rfl rfl rfl (fun _ => ?_)) | (apply GL.isCall; refine GL.append1 _ rfl rfl rfl rfl (by rfl) (by omega) (by omega) rfl (fun _ => ?_)) | (apply GL.isAlloc; refine GL.alloc rfl (fun _ => ?_))) | apply GL.nil | first | apply G.seq | apply G.region | apply G.block | apply G.skip | apply G.exit | apply G.ret | (apply G.isCond; first | refine G.condT rfl ?_ | refine G.condF rfl ?_) | refine G.draw (by kernel_rfl) (by kernel_rfl) ?_ | (apply GE.isAny; first | apply GE.again | apply GE.thenG | apply GE.blockN | apply GE.blockE | apply GE.thenE | apply GE.thenR | apply GE.blockR | refine GE.blockO rfl ?_ | apply GE.only) | (apply GD.isAny; first | refine GD.runA rfl ?_ | refine GD.guardY rfl rfl ?_ | refine GD.guardN rfl rfl rfl ?_ | refine GD.guardU rfl rfl rfl ?_) | apply GD.nilE | apply GD.nilL | (apply GT.isAny; refine GT.runA rfl rfl ?_) | ((first | (apply GL.isAny; refine GL.guard rfl rfl (fun hc => ?_) (fun hc => ?_)) | (apply G.isCond; refine G.cond rfl (fun hc => ?_) (fun hc => ?_)) | (apply GD.isAny; refine GD.guard rfl rfl (fun hc => ?_) (fun hc => ?_))) <;> ((try simp only [decide_eq_true_eq, decide_eq_false_iff_not, Bool.not_true, Bool.not_false, ne_eq, Classical.not_not, Int.not_lt, Int.not_le] at hc); (try (exfalso; first | omega | exact hc trivial | exact hc rfl)))))
      all_goals (first | (exfalso; omega) | (refine GE.resOne rfl (by (repeat (first | apply Res.nil | (apply Res.tmp; rfl) | (refine Res.cellA rfl rfl rfl ?_) | (refine Res.cell1 rfl rfl ?_)))) (fun w h => ?_); refine ⟨?_, h.sub⟩; first | rfl | (congr 2; exact decide_eq_false (by omega))))
  · rw [if_neg hr, decide_eq_false hr] at C
    unfold R64 at hr
    have hR : ¬ Acc.Right a := by unfold Acc.Right; omega
    rw [decide_eq_false hR]
    unfold Acc.Right at hR
    repeat' (first | ((apply GL.isCall; refine GL.call1 rfl rfl (fun w h => C w _ h) ?_)) | first | (apply GL.isAny; first | refine GL.runA rfl ?_ | (apply GL.isStore; first | refine GL.storeBlk rfl rfl rfl rfl rfl ?_ | refine GL.storeWhole rfl rfl rfl rfl rfl ?_ | refine GL.storeBlkA rfl rfl rfl rfl rfl ?_) | refine GL.guardY rfl rfl ?_ | refine GL.guardN rfl rfl rfl ?_ | refine GL.guardU rfl rfl rfl ?_ | (apply GL.isBox; first | refine GL.boxA rfl rfl (fun _ => ?_) | refine GL.box1 rfl rfl rfl (fun _ => ?_) | refine GL.box rfl rfl (fun _ => ?_)) | (apply GL.isBuildS; first | refine GL.buildSlice1A rfl rfl rfl rfl rfl (fun _ => ?_) | refine GL.buildSlice1 rfl rfl rfl rfl rfl (fun _ => ?_)) | (apply GL.isCall; refine GL.append1 _ rfl rfl rfl rfl (by rfl) (by omega) (by omega) rfl (fun _ => ?_)) | (apply GL.isAlloc; refine GL.alloc rfl (fun _ => ?_))) | apply GL.nil | first | apply G.seq | apply G.region | apply G.block | apply G.skip | apply G.exit | apply G.ret | (apply G.isCond; first | refine G.condT rfl ?_ | refine G.condF rfl ?_) | refine G.draw (by kernel_rfl) (by kernel_rfl) ?_ | (apply GE.isAny; first | apply GE.again | apply GE.thenG | apply GE.blockN | apply GE.blockE | apply GE.thenE | apply GE.thenR | apply GE.blockR | refine GE.blockO rfl ?_ | apply GE.only) | (apply GD.isAny; first | refine GD.runA rfl ?_ | refine GD.guardY rfl rfl ?_ | refine GD.guardN rfl rfl rfl ?_ | refine GD.guardU rfl rfl rfl ?_) | apply GD.nilE | apply GD.nilL | (apply GT.isAny; refine GT.runA rfl rfl ?_) | ((first | (apply GL.isAny; refine GL.guard rfl rfl (fun hc => ?_) (fun hc => ?_)) | (apply G.isCond; refine G.cond rfl (fun hc => ?_) (fun hc => ?_)) | (apply GD.isAny; refine GD.guard rfl rfl (fun hc => ?_) (fun hc => ?_))) <;> ((try simp only [decide_eq_true_eq, decide_eq_false_iff_not, Bool.not_true, Bool.not_false, ne_eq, Classical.not_not, Int.not_lt, Int.not_le] at hc); (try (exfalso; first | omega | exact hc trivial | exact hc rfl)))))
    all_goals (first | (exfalso; omega) | (refine GE.resOne rfl (by (repeat (first | apply Res.nil | (apply Res.tmp; rfl) | (refine Res.cellA rfl rfl rfl ?_) | (refine Res.cell1 rfl rfl ?_)))) (fun w h => ?_); refine ⟨?_, h.sub⟩; first | rfl | (congr 2; exact decide_eq_false (by omega))))
/-- A ticket that may be. -/
def TickM.Right (t : TickM) : Prop := 1 ≤ t.id ∧ 0 ≤ t.client ∧ t.client ≤ 63 ∧ 1 ≤ t.count ∧ t.count ≤ 1048576 ∧ 1 ≤ t.state ∧ t.state ≤ 3 ∧ 0 ≤ t.passed
instance (t : TickM) : Decidable t.Right := by unfold TickM.Right; infer_instance
theorem ticket_within (n lo hi : Int) (w : World) (F : List HProp) (hw : holds w F) :
    Ct Try.prog 128 #[.int .i64 n, .int .i64 lo, .int .i64 hi] w fun e w' => e = .returned (.bool (decide (lo ≤ n ∧ n ≤ hi))) ∧ holds w' F := by
  refine Ct.go (args := [.int .i64 n, .int .i64 lo, .int .i64 hi]) Try.func128 rfl rfl rfl hw ?_
  repeat' (first | (apply GL.isAny; first | refine GL.runA rfl ?_ | (apply GL.isStore; first | refine GL.storeBlk rfl rfl rfl rfl rfl ?_ | refine GL.storeWhole rfl rfl rfl rfl rfl ?_ | refine GL.storeBlkA rfl rfl rfl rfl rfl ?_) | refine GL.guardY rfl rfl ?_ | refine GL.guardN rfl rfl rfl ?_ | refine GL.guardU rfl rfl rfl ?_ | (apply GL.isBox; first | refine GL.boxA rfl rfl (fun _ => ?_) | refine GL.box1 rfl rfl rfl (fun _ => ?_) | refine GL.box rfl rfl (fun _ => ?_)) | (apply GL.isBuildS; first | refine GL.buildSlice1A rfl rfl rfl rfl rfl (fun _ => ?_) | refine GL.buildSlice1 rfl rfl rfl rfl rfl (fun _ => ?_)) | (apply GL.isCall; refine GL.append1 _ rfl rfl rfl rfl (by rfl) (by omega) (by omega) rfl (fun _ => ?_)) | (apply GL.isAlloc; refine GL.alloc rfl (fun _ => ?_))) | apply GL.nil | first | apply G.seq | apply G.region | apply G.block | apply G.skip | apply G.exit | apply G.ret | (apply G.isCond; first | refine G.condT rfl ?_ | refine G.condF rfl ?_) | refine G.draw (by kernel_rfl) (by kernel_rfl) ?_ | (apply GE.isAny; first | apply GE.again | apply GE.thenG | apply GE.blockN | apply GE.blockE | apply GE.thenE | apply GE.thenR | apply GE.blockR | refine GE.blockO rfl ?_ | apply GE.only) | (apply GD.isAny; first | refine GD.runA rfl ?_ | refine GD.guardY rfl rfl ?_ | refine GD.guardN rfl rfl rfl ?_ | refine GD.guardU rfl rfl rfl ?_) | apply GD.nilE | apply GD.nilL | (apply GT.isAny; refine GT.runA rfl rfl ?_) | ((first | (apply GL.isAny; refine GL.guard rfl rfl (fun hc => ?_) (fun hc => ?_)) | (apply G.isCond; refine G.cond rfl (fun hc => ?_) (fun hc => ?_)) | (apply GD.isAny; refine GD.guard rfl rfl (fun hc => ?_) (fun hc => ?_))) <;> ((try simp only [decide_eq_true_eq, decide_eq_false_iff_not, Bool.not_true, Bool.not_false, ne_eq, Classical.not_not, Int.not_lt, Int.not_le] at hc); (try (exfalso; first | omega | exact hc trivial | exact hc rfl)))))
  all_goals (refine GE.resOne rfl (by (repeat (first | apply Res.nil | (apply Res.tmp; rfl) | (refine Res.cellA rfl rfl rfl ?_) | (refine Res.cell1 rfl rfl ?_)))) (fun w h => ?_); refine ⟨?_, h.sub⟩; congr 2; first | (rw [decide_eq_decide]; omega) | (symm; exact decide_eq_true (by omega)) | (symm; exact decide_eq_false (by omega)))
theorem ticket_RightT (t : TickM) (w : World) (F : List HProp) (hw : holds w F) :
    Ct Try.prog 106 #[.agg (encTk t).toArray] w fun e w' => e = .returned (.bool (decide t.Right)) ∧ holds w' F := by
  refine Ct.go (args := [.agg (encTk t).toArray]) Try.func106 rfl rfl rfl hw ?_
  by_cases hR : t.Right
  · rw [decide_eq_true hR]
    unfold TickM.Right at hR
    repeat' (first | ((apply GL.isCall; refine GL.call1 rfl rfl (fun w h => ticket_within _ _ _ w _ h) ?_)) | first | (apply GL.isAny; first | refine GL.runA rfl ?_ | (apply GL.isStore; first | refine GL.storeBlk rfl rfl rfl rfl rfl ?_ | refine GL.storeWhole rfl rfl rfl rfl rfl ?_ | refine GL.storeBlkA rfl rfl rfl rfl rfl ?_) | refine GL.guardY rfl rfl ?_ | refine GL.guardN rfl rfl rfl ?_ | refine GL.guardU rfl rfl rfl ?_ | (apply GL.isBox; first | refine GL.boxA rfl rfl (fun _ => ?_) | refine GL.box1 rfl rfl rfl (fun _ => ?_) | refine GL.box rfl rfl (fun _ => ?_)) | (apply GL.isBuildS; first | refine GL.buildSlice1A rfl rfl rfl rfl rfl (fun _ => ?_) | refine GL.buildSlice1 rfl rfl rfl rfl rfl (fun _ => ?_)) | (apply GL.isCall; refine GL.append1 _ rfl rfl rfl rfl (by rfl) (by omega) (by omega) rfl (fun _ => ?_)) | (apply GL.isAlloc; refine GL.alloc rfl (fun _ => ?_))) | apply GL.nil | first | apply G.seq | apply G.region | apply G.block | apply G.skip | apply G.exit | apply G.ret | (apply G.isCond; first | refine G.condT rfl ?_ | refine G.condF rfl ?_) | refine G.draw (by kernel_rfl) (by kernel_rfl) ?_ | (apply GE.isAny; first | apply GE.again | apply GE.thenG | apply GE.blockN | apply GE.blockE | apply GE.thenE | apply GE.thenR | apply GE.blockR | refine GE.blockO rfl ?_ | apply GE.only) | (apply GD.isAny; first | refine GD.runA rfl ?_ | refine GD.guardY rfl rfl ?_ | refine GD.guardN rfl rfl rfl ?_ | refine GD.guardU rfl rfl rfl ?_) | apply GD.nilE | apply GD.nilL | (apply GT.isAny; refine GT.runA rfl rfl ?_) | ((first | (apply GL.isAny; refine GL.guard rfl rfl (fun hc => ?_) (fun hc => ?_)) | (apply G.isCond; refine G.cond rfl (fun hc => ?_) (fun hc => ?_)) | (apply GD.isAny; refine GD.guard rfl rfl (fun hc => ?_) (fun hc => ?_))) <;> ((try simp only [decide_eq_true_eq, decide_eq_false_iff_not, Bool.not_true, Bool.not_false, ne_eq, Classical.not_not, Int.not_lt, Int.not_le] at hc); (try (exfalso; first | omega | exact hc trivial | exact hc rfl)))))
    all_goals (first | (exfalso; omega) | (refine GE.resOne rfl (by (repeat (first | apply Res.nil | (apply Res.tmp; rfl) | (refine Res.cellA rfl rfl rfl ?_) | (refine Res.cell1 rfl rfl ?_)))) (fun w h => ?_); refine ⟨?_, h.sub⟩; first | rfl | (congr 2; exact decide_eq_true (by omega))))
  · rw [decide_eq_false hR]
    unfold TickM.Right at hR
    repeat' (first | ((apply GL.isCall; refine GL.call1 rfl rfl (fun w h => ticket_within _ _ _ w _ h) ?_)) | first | (apply GL.isAny; first | refine GL.runA rfl ?_ | (apply GL.isStore; first | refine GL.storeBlk rfl rfl rfl rfl rfl ?_ | refine GL.storeWhole rfl rfl rfl rfl rfl ?_ | refine GL.storeBlkA rfl rfl rfl rfl rfl ?_) | refine GL.guardY rfl rfl ?_ | refine GL.guardN rfl rfl rfl ?_ | refine GL.guardU rfl rfl rfl ?_ | (apply GL.isBox; first | refine GL.boxA rfl rfl (fun _ => ?_) | refine GL.box1 rfl rfl rfl (fun _ => ?_) | refine GL.box rfl rfl (fun _ => ?_)) | (apply GL.isBuildS; first | refine GL.buildSlice1A rfl rfl rfl rfl rfl (fun _ => ?_) | refine GL.buildSlice1 rfl rfl rfl rfl rfl (fun _ => ?_)) | (apply GL.isCall; refine GL.append1 _ rfl rfl rfl rfl (by rfl) (by omega) (by omega) rfl (fun _ => ?_)) | (apply GL.isAlloc; refine GL.alloc rfl (fun _ => ?_))) | apply GL.nil | first | apply G.seq | apply G.region | apply G.block | apply G.skip | apply G.exit | apply G.ret | (apply G.isCond; first | refine G.condT rfl ?_ | refine G.condF rfl ?_) | refine G.draw (by kernel_rfl) (by kernel_rfl) ?_ | (apply GE.isAny; first | apply GE.again | apply GE.thenG | apply GE.blockN | apply GE.blockE | apply GE.thenE | apply GE.thenR | apply GE.blockR | refine GE.blockO rfl ?_ | apply GE.only) | (apply GD.isAny; first | refine GD.runA rfl ?_ | refine GD.guardY rfl rfl ?_ | refine GD.guardN rfl rfl rfl ?_ | refine GD.guardU rfl rfl rfl ?_) | apply GD.nilE | apply GD.nilL | (apply GT.isAny; refine GT.runA rfl rfl ?_) | ((first | (apply GL.isAny; refine GL.guard rfl rfl (fun hc => ?_) (fun hc => ?_)) | (apply G.isCond; refine G.cond rfl (fun hc => ?_) (fun hc => ?_)) | (apply GD.isAny; refine GD.guard rfl rfl (fun hc => ?_) (fun hc => ?_))) <;> ((try simp only [decide_eq_true_eq, decide_eq_false_iff_not, Bool.not_true, Bool.not_false, ne_eq, Classical.not_not, Int.not_lt, Int.not_le] at hc); (try (exfalso; first | omega | exact hc trivial | exact hc rfl)))))
    all_goals (first | (exfalso; omega) | (refine GE.resOne rfl (by (repeat (first | apply Res.nil | (apply Res.tmp; rfl) | (refine Res.cellA rfl rfl rfl ?_) | (refine Res.cell1 rfl rfl ?_)))) (fun w h => ?_); refine ⟨?_, h.sub⟩; first | rfl | (congr 2; exact decide_eq_false (by omega))))
/-- Two spans that are in order have a number in common. -/
def meets (p l q m : Int) : Bool := decide (p < q + m) && decide (q < p + l)
theorem spans_wholeT (p l : Int) (h1 : 0 ≤ p ∧ 1 ≤ l ∧ p + l ≤ 9223372036854775807) (w : World) (F : List HProp) (hw : holds w F) :
    Ct Try.prog 130 #[.agg #[.int .i64 p, .int .i64 l]] w fun e w' => e = .returned (.bool true) ∧ holds w' F := by
  refine Ct.go (args := [.agg #[.int .i64 p, .int .i64 l]]) Try.func130 rfl rfl rfl hw ?_
  have C := num_AddT p l (by unfold R64; omega) (by unfold R64; omega)
  rw [decide_eq_true (show R64 (p + l) by unfold R64; omega)] at C
  repeat' (first | ((apply GL.isCall; refine GL.call1 rfl rfl (fun w h => C w _ h) ?_)) | first | (apply GL.isAny; first | refine GL.runA rfl ?_ | (apply GL.isStore; first | refine GL.storeBlk rfl rfl rfl rfl rfl ?_ | refine GL.storeWhole rfl rfl rfl rfl rfl ?_ | refine GL.storeBlkA rfl rfl rfl rfl rfl ?_) | refine GL.guardY rfl rfl ?_ | refine GL.guardN rfl rfl rfl ?_ | refine GL.guardU rfl rfl rfl ?_ | (apply GL.isBox; first | refine GL.boxA rfl rfl (fun _ => ?_) | refine GL.box1 rfl rfl rfl (fun _ => ?_) | refine GL.box rfl rfl (fun _ => ?_)) | (apply GL.isBuildS; first | refine GL.buildSlice1A rfl rfl rfl rfl rfl (fun _ => ?_) | refine GL.buildSlice1 rfl rfl rfl rfl rfl (fun _ => ?_)) | (apply GL.isCall; refine GL.append1 _ rfl rfl rfl rfl (by rfl) (by omega) (by omega) rfl (fun _ => ?_)) | (apply GL.isAlloc; refine GL.alloc rfl (fun _ => ?_))) | apply GL.nil | first | apply G.seq | apply G.region | apply G.block | apply G.skip | apply G.exit | apply G.ret | (apply G.isCond; first | refine G.condT rfl ?_ | refine G.condF rfl ?_) | refine G.draw (by kernel_rfl) (by kernel_rfl) ?_ | (apply GE.isAny; first | apply GE.again | apply GE.thenG | apply GE.blockN | apply GE.blockE | apply GE.thenE | apply GE.thenR | apply GE.blockR | refine GE.blockO rfl ?_ | apply GE.only) | (apply GD.isAny; first | refine GD.runA rfl ?_ | refine GD.guardY rfl rfl ?_ | refine GD.guardN rfl rfl rfl ?_ | refine GD.guardU rfl rfl rfl ?_) | apply GD.nilE | apply GD.nilL | (apply GT.isAny; refine GT.runA rfl rfl ?_) | ((first | (apply GL.isAny; refine GL.guard rfl rfl (fun hc => ?_) (fun hc => ?_)) | (apply G.isCond; refine G.cond rfl (fun hc => ?_) (fun hc => ?_)) | (apply GD.isAny; refine GD.guard rfl rfl (fun hc => ?_) (fun hc => ?_))) <;> ((try simp only [decide_eq_true_eq, decide_eq_false_iff_not, Bool.not_true, Bool.not_false, ne_eq, Classical.not_not, Int.not_lt, Int.not_le] at hc); (try (exfalso; first | omega | exact hc trivial | exact hc rfl)))))
  all_goals (first | (exfalso; omega) | (refine GE.resOne rfl (by (repeat (first | apply Res.nil | (apply Res.tmp; rfl) | (refine Res.cellA rfl rfl rfl ?_) | (refine Res.cell1 rfl rfl ?_)))) (fun w h => ?_); exact ⟨rfl, h.sub⟩))
theorem spans_MeetT (p l q m : Int) (h1 : 0 ≤ p ∧ 1 ≤ l ∧ p + l ≤ 9223372036854775807) (h2 : 0 ≤ q ∧ 1 ≤ m ∧ q + m ≤ 9223372036854775807) (w : World) (F : List HProp) (hw : holds w F) :
    Ct Try.prog 111 #[.agg #[.int .i64 p, .int .i64 l], .agg #[.int .i64 q, .int .i64 m]] w fun e w' => e = .returned (.bool (meets p l q m)) ∧ holds w' F := by
  refine Ct.go (args := [.agg #[.int .i64 p, .int .i64 l], .agg #[.int .i64 q, .int .i64 m]]) Try.func111 rfl rfl rfl hw ?_
  unfold meets
  repeat' (first | (first | (apply GL.isCall; refine GL.call1 (vs := [.agg #[.int .i64 p, .int .i64 l]]) rfl rfl (fun w h => spans_wholeT p l h1 w _ h) ?_) | (apply GL.isCall; refine GL.call1 (vs := [.agg #[.int .i64 q, .int .i64 m]]) rfl rfl (fun w h => spans_wholeT q m h2 w _ h) ?_)) | first | (apply GL.isAny; first | refine GL.runA rfl ?_ | (apply GL.isStore; first | refine GL.storeBlk rfl rfl rfl rfl rfl ?_ | refine GL.storeWhole rfl rfl rfl rfl rfl ?_ | refine GL.storeBlkA rfl rfl rfl rfl rfl ?_) | refine GL.guardY rfl rfl ?_ | refine GL.guardN rfl rfl rfl ?_ | refine GL.guardU rfl rfl rfl ?_ | (apply GL.isBox; first | refine GL.boxA rfl rfl (fun _ => ?_) | refine GL.box1 rfl rfl rfl (fun _ => ?_) | refine GL.box rfl rfl (fun _ => ?_)) | (apply GL.isBuildS; first | refine GL.buildSlice1A rfl rfl rfl rfl rfl (fun _ => ?_) | refine GL.buildSlice1 rfl rfl rfl rfl rfl (fun _ => ?_)) | (apply GL.isCall; refine GL.append1 _ rfl rfl rfl rfl (by rfl) (by omega) (by omega) rfl (fun _ => ?_)) | (apply GL.isAlloc; refine GL.alloc rfl (fun _ => ?_))) | apply GL.nil | first | apply G.seq | apply G.region | apply G.block | apply G.skip | apply G.exit | apply G.ret | (apply G.isCond; first | refine G.condT rfl ?_ | refine G.condF rfl ?_) | refine G.draw (by kernel_rfl) (by kernel_rfl) ?_ | (apply GE.isAny; first | apply GE.again | apply GE.thenG | apply GE.blockN | apply GE.blockE | apply GE.thenE | apply GE.thenR | apply GE.blockR | refine GE.blockO rfl ?_ | apply GE.only) | (apply GD.isAny; first | refine GD.runA rfl ?_ | refine GD.guardY rfl rfl ?_ | refine GD.guardN rfl rfl rfl ?_ | refine GD.guardU rfl rfl rfl ?_) | apply GD.nilE | apply GD.nilL | (apply GT.isAny; refine GT.runA rfl rfl ?_) | ((first | (apply GL.isAny; refine GL.guard rfl rfl (fun hc => ?_) (fun hc => ?_)) | (apply G.isCond; refine G.cond rfl (fun hc => ?_) (fun hc => ?_)) | (apply GD.isAny; refine GD.guard rfl rfl (fun hc => ?_) (fun hc => ?_))) <;> ((try simp only [decide_eq_true_eq, decide_eq_false_iff_not, Bool.not_true, Bool.not_false, ne_eq, Classical.not_not, Int.not_lt, Int.not_le] at hc); (try (exfalso; first | omega | exact hc trivial | exact hc rfl)))))
  all_goals (first | (exfalso; omega) | (refine GE.resOne rfl (by (repeat (first | apply Res.nil | (apply Res.tmp; rfl) | (refine Res.cellA rfl rfl rfl ?_) | (refine Res.cell1 rfl rfl ?_)))) (fun w h => ?_); refine ⟨?_, h.sub⟩; simp_all; done) | (refine GE.resOne rfl (by (repeat (first | apply Res.nil | (apply Res.tmp; rfl) | (refine Res.cellA rfl rfl rfl ?_) | (refine Res.cell1 rfl rfl ?_)))) (fun w h => ?_); refine ⟨?_, h.sub⟩; congr 2; rw [Bool.eq_iff_iff]; simp; omega))
end Go.Proofs.Ytfiggkbclldccaa

/- Contracts of the older road in the new one: what only reads is done over all of the world that is there, and nothing of it has turned. -/
namespace Go.Proofs.Ytfiggkbclldccaa
open Go Go.RowKit Go.MapKept
set_option linter.unusedVariables false
set_option linter.unusedSectionVars false

/-- A piece that tells of blocks of its own alone. -/
class OwnP (X : HProp) : Prop where
  mono : ∀ f f' : Frag, (∀ k o, f.get k = some (o, true) → f'.get k = some (o, true)) → X f → X f'
instance {b : Nat} {o : Obj} : OwnP (blk b o) := ⟨fun f f' h hx => h b o hx⟩
instance {e : TypeId} {size n : Nat} {v : Value} {xs : List Value} : OwnP (ownRow e size v n xs) := ⟨fun f f' h hx => by
  obtain ⟨h1, h2⟩ := hx
  refine ⟨h1, ?_⟩
  rcases h2 with h2 | ⟨g, cap, cur, e1, e2, e3⟩
  · exact .inl h2
  · exact .inr ⟨g, cap, cur, e1, h g _ e2, e3⟩⟩
instance {α : Type} {T : TypeId} {enc : α → List Value} {n : Nat} {v : Value} {l : List α} : OwnP (owns T enc n v l) := inferInstanceAs (OwnP (ownRow _ _ _ _ _))
instance {v : Value} {l : List Int} : OwnP (ownInts v l) := inferInstanceAs (OwnP (ownRow _ _ _ _ _))
instance {β : Type} {enc : β → Value} {b : Nat} {m : List (Int × β)} : OwnP (imap enc b m) := ⟨fun f f' h hx => by
  obtain ⟨es, clock, h1, h2⟩ := hx
  exact ⟨es, clock, h1, h b _ h2⟩⟩
theorem holds.back0 {w w' : World} {F : List HProp} (hF : holds w F) (h : holds w' [allOf w]) : holds w' F := hF.below h.below_all
theorem holds.back1 {w w' : World} {F : List HProp} {X : HProp} [hX : OwnP X] (hF : holds w F) (h : holds w' [X, allOf w]) : holds w' (X :: F) := by
  have hb : Below w.heap.size w w' := (h.pick 1).below_all
  obtain ⟨f', hf', f1, f2, hx, ⟨g1, g2, hg1, _, j2⟩, j⟩ := h
  obtain ⟨f, hf, hs⟩ := hF
  let fx : Frag := ⟨f.os, f.tape, f.output, fun k => match f1.get k with | some (o, true) => some (o, true) | _ => none⟩
  have hfx : ∀ k o p, fx.get k = some (o, p) → p = true ∧ f1.get k = some (o, true) := fun k o p h => by
    have h : (match f1.get k with | some (o, true) => some (o, true) | _ => none) = some (o, p) := h
    split at h
    · rename_i o' he; cases h; exact ⟨rfl, he⟩
    · cases h
  have hnew : ∀ k o, f1.get k = some (o, true) → f.get k = none := fun k o hk => by
    cases hfk : f.get k with
    | none => rfl
    | some y =>
      exfalso
      have h1 := hf.2.2.2 k y.1 y.2 hfk
      have h2 := hg1.2.2.2 k y.1 h1
      have h3 : f2.get k ≠ none := by
        rcases j2.at_ k with ⟨a, b⟩ | ⟨a, b⟩ | ⟨o', a, b, c⟩
        · rw [h2] at a; cases a
        · rw [← b, h2]; simp
        · rw [c]; simp
      rcases j.at_ k with ⟨a, b⟩ | ⟨a, b⟩ | ⟨o', a, b, c⟩
      · rw [hk] at a; cases a
      · exact h3 a
      · rw [hk] at a; cases a
  refine ⟨⟨f.os, f.tape, f.output, fun k => (fx.get k).or (f.get k)⟩, ⟨hf.1.trans hb.os.symm, hf.2.1.trans hb.tape.symm, hf.2.2.1.trans hb.output.symm, fun k o p hk => ?_⟩, fx, f, hX.mono f1 fx (fun k o hk => by show (match f1.get k with | some (o, true) => some (o, true) | _ => none) = _; rw [hk]) hx, hs, ⟨rfl, rfl, rfl, rfl, rfl, rfl, fun k => ?_⟩⟩
  · have hk : (fx.get k).or (f.get k) = some (o, p) := hk
    cases hfk : fx.get k with
    | some y =>
      rw [hfk] at hk
      obtain ⟨o1, p1⟩ := y
      cases hk
      obtain ⟨rfl, h1⟩ := hfx k o p hfk
      have h2 : f'.get k = some (o, true) := by
        rcases j.at_ k with ⟨a, b⟩ | ⟨a, b⟩ | ⟨o', a, b, c⟩
        · rw [h1] at a; cases a
        · rw [← b, h1]
        · rw [h1] at a; cases a
      exact hf'.2.2.2 k o true h2
    | none =>
      rw [hfk] at hk
      have hk : f.get k = some (o, p) := by simpa using hk
      have hh := hf.2.2.2 k o p hk
      rw [hb.block k (Array.getElem?_eq_some_iff.1 hh).1]; exact hh
  · cases hfk : fx.get k with
    | none => exact .inl ⟨rfl, by simp [hfk]⟩
    | some y =>
      obtain ⟨o1, p1⟩ := y
      obtain ⟨rfl, h1⟩ := hfx k o1 p1 hfk
      exact .inr (.inl ⟨hnew k o1 h1, by simp [hfk]⟩)
/-- What is read may be had for reading. -/
theorem reads.held {w : World} {size n : Nat} {v : Value} {xs : List Value} (h : reads w size v n xs) {L : List HProp} (hL : holds w (allOf w :: L)) : holds w (roRow size v n xs :: allOf w :: L) := by
  obtain ⟨hl, a, cap, rfl, hcap, h2⟩ := h
  rcases h2 with h0 | ⟨b, off, rfl, hc⟩
  · obtain ⟨f, hf, hs⟩ := hL
    exact ⟨f, hf, ⟨f.os, f.tape, f.output, fun _ => none⟩, f, ⟨hl, a, cap, rfl, hcap, .inl h0⟩, hs, ⟨rfl, rfl, rfl, rfl, rfl, rfl, fun k => .inl ⟨rfl, rfl⟩⟩⟩
  · by_cases h0 : n * size = 0
    · obtain ⟨f, hf, hs⟩ := hL
      exact ⟨f, hf, ⟨f.os, f.tape, f.output, fun _ => none⟩, f, ⟨hl, _, cap, rfl, hcap, .inl h0⟩, hs, ⟨rfl, rfl, rfl, rfl, rfl, rfl, fun k => .inl ⟨rfl, rfl⟩⟩⟩
    · have hpos : 0 < n * size := by omega
      have hcell := hc 0 hpos
      obtain ⟨cur, e, fz, hb⟩ : ∃ cur e fz, w.heap[b]? = some (.cells cur e fz) := by
        have hx : xs[0]? = some (xs[0]'(by omega)) := List.getElem?_eq_getElem (by omega)
        rw [hx] at hcell
        unfold World.cell? at hcell
        cases hh : w.heap[b]? with
        | none => simp [hh] at hcell
        | some o => cases o <;> simp [hh] at hcell; exact ⟨_, _, _, rfl⟩
      have hci : ∀ i, i < n * size → cur[off + i]? = xs[i]? := fun i hi => by
        rw [← hc i hi, cell_of_row w b (off + i) cur e fz hb]
      have hsz : off + n * size ≤ cur.size := by
        have h1 := hci (n * size - 1) (by omega)
        rw [List.getElem?_eq_getElem (by omega)] at h1
        have := (Array.getElem?_eq_some_iff.1 h1).1
        omega
      have h4 := hL.all_ro hb
      obtain ⟨f, hf, f1, f2, h5, h6, j⟩ := h4
      refine ⟨f, hf, f1, f2, ⟨hl, _, cap, rfl, hcap, .inr ⟨b, off, cur, e, fz, rfl, h5, hsz, ?_⟩⟩, h6, j⟩
      apply List.ext_getElem?
      intro i
      by_cases hi : i < n * size
      · rw [List.getElem?_take, if_pos hi, List.getElem?_drop, Array.getElem?_toList, hci i hi]
      · rw [List.getElem?_take, if_neg hi, List.getElem?_eq_none (by omega)]
theorem Reads.held {α : Type} {F : List HProp} {v : Value} {enc : α → List Value} {n : Nat} {l : List α} [h : Reads F v enc n l] {w : World} (hw : holds w F) {L : List HProp} (hL : holds w (allOf w :: L)) : holds w (rows enc n v l :: allOf w :: L) := (h.at_ w hw).held hL
end Go.Proofs.Ytfiggkbclldccaa

/- Contracts of package audit: Many, counts, Held, Sound. -/
namespace Go.Proofs.Ytfiggkbclldccaa
open Go Go.RowKit Go.MapKept
set_option maxRecDepth 100000

def manyCells (l : List ChunkM) : Array Value := #[.int .i64 (Audit.many l 0), .int .i64 (Audit.many l 1), .int .i64 (Audit.many l 2), .int .i64 (Audit.many l 3)]

theorem set4 (z0 z1 z2 z3 a b c d : Value) : (((#[z0, z1, z2, z3].setIfInBounds 0 a).setIfInBounds 1 b).setIfInBounds 2 c).setIfInBounds 3 d = #[a, b, c, d] := rfl
theorem Try.info4 : (Try.prog.info? 73).map (·.size) = some 4 := by kernel_rfl

theorem audit_Many (v : Value) (l : List ChunkM) (w : World) (F : List HProp) (hl : l.length ≤ 1000000) (hw : holds w (roChunks v l :: F)) :
    Calls Try.prog 109 #[v] w fun e w' => e = .returned (.agg (manyCells l)) ∧ holds w' (roChunks v l :: F) := by
  obtain ⟨a, cap, rfl, hcap⟩ := roChunks_form hw
  have h1 := (hw.alloc (.cells #[.int .i64 0, .int .i64 0, .int .i64 0, .int .i64 0] 73 (0, 0))).alloc (.cells #[.int .i64 0, .int .i64 0, .int .i64 0, .int .i64 0] 73 (0, 0))
  simp only [World.size_alloc] at h1
  go_enter Try.func109, Try.ntmps109
  go_wp2_with fail
  go_loopw [8] (fun i wr => ∃ k : Nat, k ≤ l.length ∧ i = .int .i64 k ∧ holds wr (blk (w.heap.size + 1) (.cells (manyCells (l.take k)) 73 (0, 0)) :: blk w.heap.size (.cells #[.int .i64 0, .int .i64 0, .int .i64 0, .int .i64 0] 73 (0, 0)) :: roChunks (.slice a l.length cap) l :: F)) (fun i _ => l.length - (intOf i).toNat)
  case atStart => exact ⟨0, Nat.zero_le _, rfl, h1⟩
  case round =>
    obtain ⟨k, hk, rfl, h2⟩ := hrel
    clear h1
    by_cases hlt : k < l.length
    · obtain ⟨g, off, cap', hv, _, hcs⟩ := (h2.pick 2).chunkAt (by omega)
      cases hv
      obtain ⟨c0, c1, c2⟩ := hcs k hlt
      clear hcs
      have hms := many_snoc l k hlt
      generalize hp : l[k].phase = p at c0 hms
      have HP := Lib.hid hp
      have HM := Lib.hid hms
      clear hp hms
      cases hr : Audit.is p with
      | false =>
        have HR := Lib.hid hr
        clear hr
        go_wp2_with (go_at_call 79; refine (audit_is _ _).mono ?_; rw [HR.out]; rintro e w1 ⟨rfl, rfl⟩)
        go_roundw
        case rel =>
          refine ⟨k + 1, by omega, by go_num, ?_⟩
          have hm : manyCells (l.take (k + 1)) = manyCells (l.take k) := by
            have h0 := HM.out
            have hnp : ¬ (0 ≤ p ∧ p ≤ 3) := by have := HR.out; simpa [Audit.is] using this
            simp [manyCells, h0 0, h0 1, h0 2, h0 3, show ¬ p = 0 by omega, show ¬ p = 1 by omega, show ¬ p = 2 by omega, show ¬ p = 3 by omega]
          rw [hm]
          exact (h2.alloc _).tail
        case measure => simp [intOf]; omega
      | true =>
        have HR := Lib.hid hr
        have hb : 0 ≤ p ∧ p ≤ 3 := by simpa [Audit.is] using hr
        obtain ⟨n, rfl⟩ := Int.eq_ofNat_of_zero_le hb.1
        have hn : n < 4 := by omega
        have hcell : wr.cell? ⟨w.heap.size + 1, n, none⟩ = some (.int .i64 (Audit.many (l.take k) n)) := by
          rw [cellAt h2.get_blk]
          match n, hn with
          | 0, _ => rfl
          | 1, _ => rfl
          | 2, _ => rfl
          | 3, _ => rfl
        have hfz := frozen_of_row wr (w.heap.size + 1) n _ _ h2.get_blk
        have hlt2 := h2.lt
        have hmany : Audit.many (l.take k) n ≤ 1000000 := by
          have := List.length_filter_le (fun c : ChunkM => c.phase == (n : Int)) (l.take k)
          have h3 := List.length_take_le k l
          unfold Audit.many
          omega
        clear hr
        go_wp2_with (go_at_call 79; refine (audit_is _ _).mono ?_; rw [HR.out]; rintro e w1 ⟨rfl, rfl⟩)
        go_roundw
        case rel =>
          refine ⟨k + 1, by omega, by go_num, ?_⟩
          have hm : manyCells (l.take (k + 1)) = (manyCells (l.take k)).setIfInBounds n (.int .i64 (Audit.many (l.take k) n + 1)) := by
            have h0 := HM.out
            match n, hn with
            | 0, _ => simp [manyCells, h0 0, h0 1, h0 2, h0 3]
            | 1, _ => simp [manyCells, h0 0, h0 1, h0 2, h0 3]
            | 2, _ => simp [manyCells, h0 0, h0 1, h0 2, h0 3]
            | 3, _ => simp [manyCells, h0 0, h0 1, h0 2, h0 3]
          rw [hm]
          exact ((h2.setCell n _).alloc _).tail
        case measure => simp [intOf]; omega
    · have hkl : l.take k = l := List.take_of_length_le (by omega)
      rw [hkl] at h2
      have g1 := h2.get_blk
      have g0 := (h2.pick 1).get_blk
      have k10 := cellAt g1 0
      have k11 := cellAt g1 1
      have k12 := cellAt g1 2
      have k13 := cellAt g1 3
      have k00 := cellAt g0 0
      have k01 := cellAt g0 1
      have k02 := cellAt g0 2
      have k03 := cellAt g0 3
      have f00 := frozen_of_row wr w.heap.size 0 _ _ g0
      have f01 := frozen_of_row wr w.heap.size 1 _ _ g0
      have f02 := frozen_of_row wr w.heap.size 2 _ _ g0
      have f03 := frozen_of_row wr w.heap.size 3 _ _ g0
      simp [manyCells] at k10 k11 k12 k13 k00 k01 k02 k03
      clear g0 g1
      go_wp2_with fail
      have h3 := (((((h2.pick 1).setCell 0 (.int .i64 (Audit.many l 0))).setCell 1 (.int .i64 (Audit.many l 1))).setCell 2 (.int .i64 (Audit.many l 2))).setCell 3 (.int .i64 (Audit.many l 3)))
      rw [set4] at h3
      refine bodyPost_ret (v := .agg (manyCells l)) ?_ rfl ⟨rfl, h3.tail.tail⟩
      exact results_cell_row Try.results109 _ _ w.heap.size _ _ _ _ rfl h3.get_blk Try.underlying73 rfl Try.info4

/-! ### counts, Held -/
/-- How many chunks an owner has. -/
def Audit.held (l : List ChunkM) (o : Int) : Nat := if 0 < o then (l.filter fun c => c.owner == o).length else 0
/-- The map, as it grows. -/
def Audit.countsTo : List ChunkM → List (Int × Int) → List (Int × Int)
  | [], m => m
  | c :: l, m => Audit.countsTo l (if 0 < c.owner then alSet m c.owner ((alGet m c.owner).getD 0 + 1) else m)
def Audit.counts (l : List ChunkM) : List (Int × Int) := Audit.countsTo l []

theorem Audit.countsTo_snoc (c : ChunkM) : ∀ (l : List ChunkM) (m : List (Int × Int)), Audit.countsTo (l ++ [c]) m =
    (if 0 < c.owner then alSet (Audit.countsTo l m) c.owner ((alGet (Audit.countsTo l m) c.owner).getD 0 + 1) else Audit.countsTo l m)
  | [], m => rfl
  | d :: l, m => by simp only [List.cons_append, Audit.countsTo]; exact Audit.countsTo_snoc c l _

theorem Audit.counts_take (l : List ChunkM) (k : Nat) (hk : k < l.length) : Audit.counts (l.take (k + 1)) =
    (if 0 < l[k].owner then alSet (Audit.counts (l.take k)) l[k].owner ((alGet (Audit.counts (l.take k)) l[k].owner).getD 0 + 1) else Audit.counts (l.take k)) := by
  unfold Audit.counts
  rw [List.take_succ_eq_append_getElem hk, Audit.countsTo_snoc]

theorem Audit.held_snoc (l : List ChunkM) (k : Nat) (hk : k < l.length) (o : Int) : Audit.held (l.take (k + 1)) o = Audit.held (l.take k) o + (if 0 < o ∧ l[k].owner = o then 1 else 0) := by
  unfold Audit.held
  rw [List.take_succ_eq_append_getElem hk, List.filter_append, List.length_append]
  by_cases h : 0 < o
  · by_cases h2 : l[k].owner = o <;> simp [h, h2]
  · simp [h]

theorem Audit.held_le (l : List ChunkM) (o : Int) : Audit.held l o ≤ l.length := by
  unfold Audit.held
  split
  · exact List.length_filter_le _ _
  · omega

/-- What the map tells is how many each has. -/
theorem Audit.counts_get (l : List ChunkM) : ∀ k, k ≤ l.length → ∀ o, alGet (Audit.counts (l.take k)) o = if Audit.held (l.take k) o = 0 then none else some ((Audit.held (l.take k) o : Nat) : Int)
  | 0, _, o => by simp [Audit.counts, Audit.countsTo, alGet_nil, Audit.held]
  | k + 1, hk, o => by
    have ih := Audit.counts_get l k (by omega)
    have hlt : k < l.length := by omega
    rw [Audit.counts_take l k hlt, Audit.held_snoc l k hlt]
    by_cases hp : 0 < l[k].owner
    · rw [if_pos hp, alGet_set]
      by_cases ho : o = l[k].owner
      · subst ho
        rw [if_pos rfl, ih]
        simp only [hp, and_self, if_true]
        by_cases hz : Audit.held (l.take k) l[k].owner = 0 <;> simp [hz]
      · rw [if_neg ho, ih]
        have : ¬ (0 < o ∧ l[k].owner = o) := fun h => ho h.2.symm
        simp [this]
    · rw [if_neg hp, ih]
      have : ¬ (0 < o ∧ l[k].owner = o) := fun h => hp (h.2 ▸ h.1)
      simp [this]

theorem audit_counts (v : Value) (l : List ChunkM) (w : World) (F : List HProp) (hl : l.length ≤ 1000000) (hw : holds w (roChunks v l :: F)) :
    Calls Try.prog 124 #[v] w fun e w' => ∃ b, e = .returned (.map (some b)) ∧ holds w' (imap (.int .i64) b (Audit.counts l) :: roChunks v l :: F) := by
  obtain ⟨a, cap, rfl, hcap⟩ := roChunks_form hw
  have hmm := @run_makeMap Try.prog
  have h1 := (hw.alloc (.map #[] 0)).mkMap (enc := Value.int .i64) (m := []) rfl (stamped_empty 0)
  go_enter Try.func124, Try.ntmps124
  go_wp2_with fail
  clear hmm
  go_loopw [9] (fun i wr => ∃ k : Nat, k ≤ l.length ∧ i = .int .i64 k ∧ holds wr (imap (.int .i64) w.heap.size (Audit.counts (l.take k)) :: roChunks (.slice a l.length cap) l :: F)) (fun i _ => l.length - (intOf i).toNat)
  case atStart => exact ⟨0, Nat.zero_le _, rfl, h1⟩
  case round =>
    obtain ⟨k, hk, rfl, h2⟩ := hrel
    clear h1
    by_cases hlt : k < l.length
    · obtain ⟨g, off, cap', hv, _, hcs⟩ := (h2.pick 1).chunkAt (by omega)
      cases hv
      obtain ⟨c0, c1, c2⟩ := hcs k hlt
      clear hcs
      have hct := Audit.counts_take l k hlt
      have hg := Audit.counts_get l k (by omega) l[k].owner
      have hle := Audit.held_le (l.take k) l[k].owner
      have hln := List.length_take_le k l
      have hgb : 0 ≤ (alGet (Audit.counts (l.take k)) l[k].owner).getD 0 ∧ (alGet (Audit.counts (l.take k)) l[k].owner).getD 0 ≤ 1000000 := by
        rw [hg]
        by_cases hz : Audit.held (l.take k) l[k].owner = 0
        · simp [hz]
        · simp [hz]; omega
      have hlk := run_lookup_sl (P := Try.prog) (t := 151) (z := (0 : Int)) Try.underlying151 Try.underlying3 (by kernel_rfl) (h2.alloc (.cells #[.int .i64 l[k].phase, .int .i64 l[k].owner, .int .i64 l[k].gen] 69 (0, 0))).tail l[k].owner false
      simp only [Bool.false_eq_true, if_false] at hlk
      generalize (alGet (Audit.counts (l.take k)) l[k].owner).getD 0 = c at hct hgb hlk
      have HC := Lib.hid hct
      clear hct hg hle hln
      by_cases hp : 0 < l[k].owner
      · go_wp2_with (at_mapUpdate; refine wpList_mapUpdate_sl rfl rfl _ _ _ _ rfl Try.underlying151 Try.underlying3 rfl _ (c + 1) rfl rfl (h2.alloc _).tail ?_; clear hlk; intro w3 h3)
        go_roundw
        case rel => exact ⟨k + 1, by omega, by go_num, by rw [HC.out, if_pos hp]; exact h3⟩
        case measure => simp [intOf]; omega
      · go_wp2_with fail
        go_roundw
        case rel => exact ⟨k + 1, by omega, by go_num, by rw [HC.out, if_neg hp]; exact (h2.alloc _).tail⟩
        case measure => simp [intOf]; omega
    · have hkl : l.take k = l := List.take_of_length_le (by omega)
      rw [hkl] at h2
      go_wp2_with fail
      go_ret
      exact ⟨_, rfl, h2⟩

theorem audit_Held (v : Value) (l : List ChunkM) (o : Int) (w : World) (F : List HProp) (hl : l.length ≤ 1000000) (hw : holds w (roChunks v l :: F)) :
    Calls Try.prog 101 #[v, .int .i64 o] w fun e w' => e = .returned (.int .i64 (Audit.held l o)) ∧ holds w' (roChunks v l :: F) := by
  go_enter Try.func101, Try.ntmps101
  go_wp2_with fail
  refine (audit_counts v l _ F hl hw).mono ?_
  rintro e w1 ⟨b, rfl, h1⟩
  have hlk := run_lookup_sl (P := Try.prog) (t := 151) (z := (0 : Int)) Try.underlying151 Try.underlying3 (by kernel_rfl) h1 o false
  have hg := Audit.counts_get l l.length (Nat.le_refl _) o
  rw [List.take_length] at hg
  rw [hg] at hlk
  have hv : ((if Audit.held l o = 0 then none else some ((Audit.held l o : Nat) : Int)).getD 0) = (Audit.held l o : Int) := by
    by_cases hz : Audit.held l o = 0 <;> simp [hz]
  simp only [Bool.false_eq_true, if_false, hv] at hlk
  clear hg hv
  go_wp2_with fail
  go_ret
  exact ⟨rfl, h1.tail⟩

end Go.Proofs.Ytfiggkbclldccaa

/- Contract of audit.Sound. -/
namespace Go.Proofs.Ytfiggkbclldccaa
open Go Go.RowKit Go.MapKept
set_option maxRecDepth 100000

def unitV : Unit → Value := fun _ => .agg #[]
def Audit.seen (w : List Int) : List (Int × Unit) := w.foldl (fun m x => alSet m x ()) []
theorem Audit.seen_snoc (w : List Int) (k : Nat) (hk : k < w.length) : Audit.seen (w.take (k + 1)) = alSet (Audit.seen (w.take k)) w[k] () := by
  unfold Audit.seen
  rw [List.take_succ_eq_append_getElem hk, List.foldl_append]
  rfl
theorem Audit.seen_spec (w : List Int) : ∀ k, k ≤ w.length → (∀ x, x ∈ alKeys (Audit.seen (w.take k)) ↔ x ∈ w.take k) ∧ (Audit.seen (w.take k)).length ≤ k ∧ ((Audit.seen (w.take k)).length = k ↔ (w.take k).Nodup)
  | 0, _ => by simp [Audit.seen, alKeys]
  | k + 1, hk => by
    obtain ⟨h1, h2, h3⟩ := Audit.seen_spec w k (by omega)
    have hlt : k < w.length := by omega
    have hlen : ∀ (m : List (Int × Unit)), (alKeys m).length = m.length := fun m => by simp [alKeys]
    have hks := alKeys_set w[k] () (Audit.seen (w.take k))
    rw [Audit.seen_snoc w k hlt, ← hlen]
    rw [← hlen] at h2 h3
    rw [hks, List.take_succ_eq_append_getElem hlt]
    by_cases hm : w[k] ∈ alKeys (Audit.seen (w.take k))
    · have hm2 := (h1 _).1 hm
      rw [if_pos hm]
      refine ⟨fun x => ?_, by omega, ?_⟩
      · rw [h1 x, List.mem_append]
        constructor
        · exact .inl
        · rintro (h | h)
          · exact h
          · simp at h; rw [h]; exact hm2
      · constructor
        · intro h; omega
        · intro h
          rw [List.nodup_append] at h
          exact absurd rfl (h.2.2 _ hm2 _ (by simp))
    · have hm2 : w[k] ∉ w.take k := fun h => hm ((h1 _).2 h)
      rw [if_neg hm]
      refine ⟨fun x => ?_, by simp; omega, ?_⟩
      · rw [List.mem_append, List.mem_append, h1 x]
      · rw [List.length_append, List.length_singleton, List.nodup_append]
        constructor
        · intro h
          refine ⟨h3.1 (by omega), by simp, fun a ha b hb e => ?_⟩
          simp at hb
          subst hb
          exact hm2 (e ▸ ha)
        · intro h
          have := h3.2 h.1
          omega

theorem audit_Sound (v vw : Value) (l : List ChunkM) (q : List Int) (w : World) (F : List HProp) (hl : l.length ≤ 1000000) (hq : q.length ≤ 1000000) (hw : holds w (roChunks v l :: roInts vw q :: F)) :
    Calls Try.prog 99 #[v, vw] w fun e w' => e = .returned (.bool (Audit.sound l q)) ∧ holds w' (roChunks v l :: roInts vw q :: F) := by
  obtain ⟨r, hr⟩ : ∃ r, Audit.sound l q = r := ⟨_, rfl⟩
  rw [hr]
  obtain ⟨a, cap, rfl, hcap⟩ := roChunks_form hw
  obtain ⟨a', cap', rfl, hcap'⟩ := roInts_form (hw.pick 1)
  have HR := Lib.hid hr
  clear hr
  cases h1 : l.all Audit.right with
  | false =>
    have H1 := Lib.hid h1
    clear h1
    go_enter Try.func99, Try.ntmps99
    go_wp2_with (go_at_call 122; refine (audit_ContainsFunc _ l _ _ hl hw).mono ?_; rw [H1.out]; rintro e w1 ⟨rfl, h2⟩)
    go_ret
    exact ⟨by rw [← HR.out]; simp [Audit.sound, H1.out], h2⟩
  | true =>
    have H1 := Lib.hid h1
    clear h1
    have hmm := @run_makeMap Try.prog
    go_enter Try.func99, Try.ntmps99
    go_wp2_with fail
    refine (audit_ContainsFunc _ l _ _ hl hw).mono ?_
    rw [H1.out]
    rintro e w1 ⟨rfl, h2⟩
    go_wp2_with fail
    refine (audit_Many _ l _ _ hl h2).mono ?_
    rintro e w2 ⟨rfl, h3⟩
    have hix : ∀ w, (Instr.index 73 (.agg (manyCells l)) (.int .i64 2)).run Try.prog w = .ok (.int .i64 (Audit.many l 2)) w := fun w => by
      unfold manyCells
      generalize Audit.many l 0 = m0
      generalize Audit.many l 1 = m1
      generalize Audit.many l 2 = m2
      generalize Audit.many l 3 = m3
      kernel_rfl
    by_cases hlen : (q.length : Int) = Audit.many l 2
    · have hb : ((q.length : Int) != Audit.many l 2) = false := by simpa using hlen
      have HL := Lib.hid hlen
      clear hlen
      go_wp2_with fail
      clear hix hmm hb
      have h4 := (h3.alloc (.map #[] 0)).mkMap (enc := unitV) (m := []) rfl (stamped_empty 0)
      go_loopw [23] (fun i wr => ∃ k : Nat, k ≤ q.length ∧ i = .int .i64 k ∧ (∀ x ∈ q.take k, Audit.deferredAt l x = true) ∧ holds wr (imap unitV w2.heap.size (Audit.seen (q.take k)) :: roChunks (.slice a l.length cap) l :: roInts (.slice a' q.length cap') q :: F)) (fun i _ => q.length - (intOf i).toNat)
      case atStart => exact ⟨0, Nat.zero_le _, rfl, by simp, h4⟩
      case round =>
        obtain ⟨k, hk, rfl, hall, h5⟩ := hrel
        have HA := Lib.hid hall
        clear hall h4
        by_cases hlt : k < q.length
        · obtain ⟨g', off', cap2, hv, _, hcs⟩ := (h5.pick 2).roIntAt (by omega)
          cases hv
          have cq := hcs k hlt
          clear hcs
          have hsn := Audit.seen_snoc q k hlt
          have htk := List.take_succ_eq_append_getElem hlt
          generalize hx : q[k] = x at cq hsn htk
          have HS := Lib.hid hsn
          have HT := Lib.hid htk
          have HX := Lib.hid hx
          clear hsn htk hx
          cases hd : Audit.deferredAt l x with
          | true =>
            have HD := Lib.hid hd
            have hd2 := hd
            simp only [Audit.deferredAt, Bool.and_eq_true, decide_eq_true_eq] at hd2
            obtain ⟨⟨hx0, hx1⟩, hx2⟩ := hd2
            obtain ⟨n, rfl⟩ := Int.eq_ofNat_of_zero_le hx0
            have hn : n < l.length := by omega
            obtain ⟨g, off, cap3, hv, _, hcs⟩ := (h5.pick 1).chunkAt (by omega)
            cases hv
            obtain ⟨c0, c1, c2⟩ := hcs n hn
            rw [Int.toNat_natCast, List.getElem?_eq_getElem hn] at hx2
            have hp : l[n].phase = 2 := by simpa using hx2
            rw [hp] at c0
            clear hcs hd hx2 hp c1 c2
            go_wp2_with (at_mapUpdate; refine wpList_mapUpdate_sl (enc := unitV) rfl rfl _ _ _ _ rfl Try.underlying170 Try.underlying3 rfl _ () rfl rfl h5 ?_; intro w3 h6)
            go_roundw
            case rel =>
              refine ⟨k + 1, by omega, by go_num, ?_, by rw [HS.out]; exact h6⟩
              rw [HT.out]
              intro y hy
              rcases List.mem_append.1 hy with hy | hy
              · exact HA.out y hy
              · simp at hy; rw [hy]; exact HD.out
            case measure => simp [intOf]; omega
          | false =>
            have hfin : Audit.sound l q = false := by
              have : q.all (Audit.deferredAt l) = false := by
                rw [List.all_eq_false]
                exact ⟨x, by rw [← HX.out]; exact List.getElem_mem hlt, by simp [hd]⟩
              simp [Audit.sound, this]
            have HF := Lib.hid hfin
            clear hfin
            by_cases hx0 : x < 0
            · clear hd
              go_wp2_with fail
              go_ret
              exact ⟨by rw [← HR.out, HF.out]; rfl, h5.tail⟩
            · by_cases hx1 : x < l.length
              · obtain ⟨n, rfl⟩ := Int.eq_ofNat_of_zero_le (show 0 ≤ x by omega)
                have hn : n < l.length := by omega
                obtain ⟨g, off, cap3, hv, _, hcs⟩ := (h5.pick 1).chunkAt (by omega)
                cases hv
                obtain ⟨c0, c1, c2⟩ := hcs n hn
                have hp : ¬ l[n].phase = 2 := by
                  intro hp
                  simp [Audit.deferredAt, hn, hp] at hd
                have hpb : (l[n].phase != 2) = true := by simpa using hp
                clear hcs hd hp c1 c2
                generalize l[n].phase = p at c0 hpb
                go_wp2_with fail
                go_ret
                exact ⟨by rw [← HR.out, HF.out]; rfl, h5.tail⟩
              · clear hd
                go_wp2_with fail
                go_ret
                exact ⟨by rw [← HR.out, HF.out]; rfl, h5.tail⟩
        · have hkl : q.take k = q := List.take_of_length_le (by omega)
          have hs := Audit.seen_spec q q.length (Nat.le_refl _)
          rw [List.take_length] at hs
          have hle := hs.2.1
          rw [hkl] at h5
          have hln := run_len_sl (P := Try.prog) (t := 170) (ty := 3) Try.underlying170 h5
          have HS := Lib.hid hs
          clear hs
          generalize (Audit.seen q).length = c at hln HS hle
          go_wp2_with fail
          go_ret
          refine ⟨?_, h5.tail⟩
          rw [← HR.out]
          have hall := HA.out
          rw [hkl] at hall
          have hall2 : q.all (Audit.deferredAt l) = true := List.all_eq_true.2 hall
          have hL : q.length = Audit.many l 2 := by have := HL.out; omega
          have hS := HS.out.2.2
          by_cases hn : q.Nodup
          · have : c = q.length := hS.2 hn
            simp [Audit.sound, H1.out, hall2, hn, hL, this]
          · have : ¬ c = q.length := fun e => hn (hS.1 e)
            simp [Audit.sound, H1.out, hall2, hn]
            omega
    · have hb : ((q.length : Int) != Audit.many l 2) = true := by simpa using hlen
      go_wp2_with fail
      go_ret
      refine ⟨?_, h3⟩
      rw [← HR.out]
      have : ¬ q.length = Audit.many l 2 := by omega
      simp [Audit.sound, this]

end Go.Proofs.Ytfiggkbclldccaa

/- Contracts of the reference of chapter 20: One, times, Sound, Held. -/
namespace Go.Proofs.Ytfiggkbclldccaa
open Go Go.RowKit Go.MapKept
set_option maxRecDepth 100000

end Go.Proofs.Ytfiggkbclldccaa

/- Contracts of the reference of chapter 20: Sound, Many. -/
namespace Go.Proofs.Ytfiggkbclldccaa
open Go Go.RowKit Go.MapKept
set_option maxRecDepth 100000

end Go.Proofs.Ytfiggkbclldccaa
