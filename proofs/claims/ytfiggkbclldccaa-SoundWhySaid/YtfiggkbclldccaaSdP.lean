/- Whether a state is too large for the law: the walk. -/
import Derived.Test.YtfiggkbclldccaaSdO
import Derived.Test.YtfiggkbclldccaaSdM
namespace Go.Proofs.Ytfiggkbclldccaa
open Go Go.RowKit Go.MapKept
set_option linter.unusedVariables false
set_option linter.unusedSimpArgs false
set_option maxRecDepth 100000
set_option maxHeartbeats 2000000
section
variable (tk : Int) (ac aw am ap al : Option Addr) (kc kw km kp kl cc cw cm cp cl : Nat) (C : List ChunkM) (Q : List Int) (M : List MbM) (T : List TickM) (L : List LaidM)
theorem law49_many (w : World) (F : List HProp) [hr1 : Reads F (.slice ac kc cc) chunkCells 3 C] [hr2 : Reads F (.slice aw kw cw) encI1 1 Q] [hr3 : Reads F (.slice am km cm) encMb 4 M] [hr4 : Reads F (.slice ap kp cp) encTk 5 T] [hr5 : Reads F (.slice al kl cl) encLaid 5 L] (hw : holds w F) :
    Ct Try.prog 6 #[.agg (st5 tk ac aw am ap al kc kw km kp kl cc cw cm cp cl)] w fun e w' => e = .returned (.bool (decide ((C.length : Int) > 40 ∨ (Q.length : Int) > 60 ∨ (M.length : Int) > 70 ∨ (T.length : Int) > 60 ∨ (L.length : Int) > 60))) ∧ holds w' F := by
  refine Ct.go (args := [.agg (st5 tk ac aw am ap al kc kw km kp kl cc cw cm cp cl)]) Try.func6 rfl rfl rfl hw ?_
  repeat' (first | ((apply GL.isBox; first | refine GL.boxA rfl rfl (fun bx => ?_))) | first | (apply GL.isAny; first | refine GL.runA rfl ?_ | (apply GL.isStore; first | refine GL.storeBlk rfl rfl rfl rfl rfl ?_ | refine GL.storeWhole rfl rfl rfl rfl rfl ?_ | refine GL.storeBlkA rfl rfl rfl rfl rfl ?_) | refine GL.guardY rfl rfl ?_ | refine GL.guardN rfl rfl rfl ?_ | refine GL.guardU rfl rfl rfl ?_ | (apply GL.isBox; first | refine GL.boxA rfl rfl (fun _ => ?_) | refine GL.box1 rfl rfl rfl (fun _ => ?_) | refine GL.box rfl rfl (fun _ => ?_)) | (apply GL.isBuildS; first | refine GL.buildSlice1A rfl rfl rfl rfl rfl (fun _ => ?_) | refine GL.buildSlice1 rfl rfl rfl rfl rfl (fun _ => ?_)) | (apply GL.isCall; refine GL.append1 _ rfl rfl rfl rfl (by rfl) (by omega) (by omega) rfl (fun _ => ?_)) | (apply GL.isAlloc; refine GL.alloc rfl (fun _ => ?_))) | apply GL.nil | first | apply G.seq | apply G.region | apply G.block | apply G.skip | apply G.exit | apply G.ret | (apply G.isCond; first | refine G.condT rfl ?_ | refine G.condF rfl ?_) | refine G.draw (by kernel_rfl) (by kernel_rfl) ?_ | (apply GE.isAny; first | apply GE.again | apply GE.thenG | apply GE.blockN | apply GE.blockE | apply GE.thenE | apply GE.thenR | apply GE.blockR | refine GE.blockO rfl ?_ | apply GE.only) | (apply GD.isAny; first | refine GD.runA rfl ?_ | refine GD.guardY rfl rfl ?_ | refine GD.guardN rfl rfl rfl ?_ | refine GD.guardU rfl rfl rfl ?_) | apply GD.nilE | apply GD.nilL | (apply GT.isAny; refine GT.runA rfl rfl ?_) | ((first | (apply GL.isAny; refine GL.guard rfl rfl (fun hc => ?_) (fun hc => ?_)) | (apply G.isCond; refine G.cond rfl (fun hc => ?_) (fun hc => ?_)) | (apply GD.isAny; refine GD.guard rfl rfl (fun hc => ?_) (fun hc => ?_))) <;> ((try simp only [decide_eq_true_eq, decide_eq_false_iff_not, Bool.not_true, Bool.not_false, ne_eq, Classical.not_not, Int.not_lt, Int.not_le] at hc); (try (exfalso; first | omega | exact hc trivial | exact hc rfl)))))
  all_goals (first | (exfalso; omega) | (refine GE.resOne rfl (by (repeat (first | apply Res.nil | (apply Res.tmp; rfl) | (refine Res.cellA rfl rfl rfl ?_) | (refine Res.cell1 rfl rfl ?_)))) (fun w h => ?_); exact ⟨by congr 2; (first | rfl | (rw [decide_eq_decide]; omega) | (symm; rw [decide_eq_false_iff_not]; omega) | (symm; rw [decide_eq_true_eq]; omega)), h.sub⟩))
end
end Go.Proofs.Ytfiggkbclldccaa
