/- Chapter 28's reference: whether all may end; without sound. (Parts of SdA and SdE, for seats without these.) Bank by the reference, of any numbers: the walks. Members and New of the reference. New of the reference; whether two accounts, two rows of members are the same. '==' and '!=' of bools. Chapter 30's reference: accounts by the reference as one piece; the client that is found. -/
import Derived.Test.YtfiggkbclldccaaGreatFrOr
import Derived.Test.YtfiggkbclldccaaGreatGoJ
import Derived.Test.YtfiggkbclldccaaGreatBk
import Derived.Test.YtfiggkbclldccaaGreatRef26
import Derived.Test.YtfiggkbclldccaaGreatMemb
import Derived.Test.YtfiggkbclldccaaGreatGoLH
import Derived.Test.YtfiggkbclldccaaGreatLgT1
import Derived.Test.YtfiggkbclldccaaGreatLgT2
import Derived.Test.YtfiggkbclldccaaGreatGoWx
section
namespace Go.Proofs.YtfiggkbclldccaaGreat
open Go Go.RowKit Go.MapKept
set_option linter.unusedVariables false
set_option linter.unusedSimpArgs false
set_option maxRecDepth 100000
set_option maxHeartbeats 2000000
def R64 (x : Int) : Prop := -9223372036854775808 ≤ x ∧ x ≤ 9223372036854775807
instance (x : Int) : Decidable (R64 x) := by unfold R64; infer_instance
def AccM.Fits (a : AccM) : Prop := R64 a.claim ∧ R64 a.held ∧ R64 a.credits
theorem ref26_RightT (a : AccM) (ha : a.Fits) (w : World) (F : List HProp) (hw : holds w F) :
    Ct Tryz.prog 251 #[.agg (encAcc a).toArray] w fun e w' => e = .returned (.bool (decide (Acc.Right a))) ∧ holds w' F := by
  refine Ct.go (args := [.agg (encAcc a).toArray]) Tryz.func251 rfl rfl rfl hw ?_
  obtain ⟨h1, h2, h3⟩ := ha
  unfold R64 at h1 h2 h3
  by_cases hR : Acc.Right a
  · rw [decide_eq_true hR]
    unfold Acc.Right at hR
    repeat' (first | (apply GL.isAny; first | refine GL.runA rfl ?_ | (apply GL.isStore; first | refine GL.storeBlk rfl rfl rfl rfl rfl ?_ | refine GL.storeWhole rfl rfl rfl rfl rfl ?_ | refine GL.storeBlkA rfl rfl rfl rfl rfl ?_) | refine GL.guardY rfl rfl ?_ | refine GL.guardN rfl rfl rfl ?_ | refine GL.guardU rfl rfl rfl ?_ | (apply GL.isBox; first | refine GL.boxA rfl rfl (fun _ => ?_) | refine GL.box1 rfl rfl rfl (fun _ => ?_) | refine GL.box rfl rfl (fun _ => ?_)) | (apply GL.isBuildS; first | refine GL.buildSlice1A rfl rfl rfl rfl rfl (fun _ => ?_) | refine GL.buildSlice1 rfl rfl rfl rfl rfl (fun _ => ?_)) | (apply GL.isCall; refine GL.append1 _ rfl rfl rfl rfl (by rfl) (by omega) (by omega) rfl (fun _ => ?_)) | (apply GL.isAlloc; refine GL.alloc rfl (fun _ => ?_))) | apply GL.nil | first | apply G.seq | apply G.region | apply G.block | apply G.skip | apply G.exit | apply G.ret | (apply G.isCond; first | refine G.condT rfl ?_ | refine G.condF rfl ?_) | refine G.draw (by kernel_rfl) (by kernel_rfl) ?_ | (apply GE.isAny; first | apply GE.again | apply GE.thenG | apply GE.blockN | apply GE.blockE | apply GE.thenE | apply GE.thenR | apply GE.blockR | refine GE.blockO rfl ?_ | apply GE.only) | (apply GD.isAny; first | refine GD.runA rfl ?_ | refine GD.guardY rfl rfl ?_ | refine GD.guardN rfl rfl rfl ?_ | refine GD.guardU rfl rfl rfl ?_) | apply GD.nilE | apply GD.nilL | (apply GT.isAny; refine GT.runA rfl rfl ?_) | ((first | (apply GL.isAny; refine GL.guard rfl rfl (fun hc => ?_) (fun hc => ?_)) | (apply G.isCond; refine G.cond rfl (fun hc => ?_) (fun hc => ?_)) | (apply GD.isAny; refine GD.guard rfl rfl (fun hc => ?_) (fun hc => ?_))) <;> ((try simp only [decide_eq_true_eq, decide_eq_false_iff_not, Bool.not_true, Bool.not_false, ne_eq, Classical.not_not, Int.not_lt, Int.not_le] at hc); (try (exfalso; first | omega | exact hc trivial | exact hc rfl)))))
    all_goals (first | (exfalso; omega) | (refine GE.resOne rfl (by (repeat (first | apply Res.nil | (apply Res.tmp; rfl) | (refine Res.cellA rfl rfl rfl ?_) | (refine Res.cell1 rfl rfl ?_)))) (fun w h => ?_); refine ⟨?_, h.sub⟩; first | rfl | (congr 2; exact decide_eq_true (by omega))))
  · rw [decide_eq_false hR]
    unfold Acc.Right at hR
    repeat' (first | (apply GL.isAny; first | refine GL.runA rfl ?_ | (apply GL.isStore; first | refine GL.storeBlk rfl rfl rfl rfl rfl ?_ | refine GL.storeWhole rfl rfl rfl rfl rfl ?_ | refine GL.storeBlkA rfl rfl rfl rfl rfl ?_) | refine GL.guardY rfl rfl ?_ | refine GL.guardN rfl rfl rfl ?_ | refine GL.guardU rfl rfl rfl ?_ | (apply GL.isBox; first | refine GL.boxA rfl rfl (fun _ => ?_) | refine GL.box1 rfl rfl rfl (fun _ => ?_) | refine GL.box rfl rfl (fun _ => ?_)) | (apply GL.isBuildS; first | refine GL.buildSlice1A rfl rfl rfl rfl rfl (fun _ => ?_) | refine GL.buildSlice1 rfl rfl rfl rfl rfl (fun _ => ?_)) | (apply GL.isCall; refine GL.append1 _ rfl rfl rfl rfl (by rfl) (by omega) (by omega) rfl (fun _ => ?_)) | (apply GL.isAlloc; refine GL.alloc rfl (fun _ => ?_))) | apply GL.nil | first | apply G.seq | apply G.region | apply G.block | apply G.skip | apply G.exit | apply G.ret | (apply G.isCond; first | refine G.condT rfl ?_ | refine G.condF rfl ?_) | refine G.draw (by kernel_rfl) (by kernel_rfl) ?_ | (apply GE.isAny; first | apply GE.again | apply GE.thenG | apply GE.blockN | apply GE.blockE | apply GE.thenE | apply GE.thenR | apply GE.blockR | refine GE.blockO rfl ?_ | apply GE.only) | (apply GD.isAny; first | refine GD.runA rfl ?_ | refine GD.guardY rfl rfl ?_ | refine GD.guardN rfl rfl rfl ?_ | refine GD.guardU rfl rfl rfl ?_) | apply GD.nilE | apply GD.nilL | (apply GT.isAny; refine GT.runA rfl rfl ?_) | ((first | (apply GL.isAny; refine GL.guard rfl rfl (fun hc => ?_) (fun hc => ?_)) | (apply G.isCond; refine G.cond rfl (fun hc => ?_) (fun hc => ?_)) | (apply GD.isAny; refine GD.guard rfl rfl (fun hc => ?_) (fun hc => ?_))) <;> ((try simp only [decide_eq_true_eq, decide_eq_false_iff_not, Bool.not_true, Bool.not_false, ne_eq, Classical.not_not, Int.not_lt, Int.not_le] at hc); (try (exfalso; first | omega | exact hc trivial | exact hc rfl)))))
    all_goals (first | (exfalso; omega) | (refine GE.resOne rfl (by (repeat (first | apply Res.nil | (apply Res.tmp; rfl) | (refine Res.cellA rfl rfl rfl ?_) | (refine Res.cell1 rfl rfl ?_)))) (fun w h => ?_); refine ⟨?_, h.sub⟩; first | rfl | (congr 2; exact decide_eq_false (by omega))))
theorem Acc.Fits_of {a : AccM} (h : Acc.Right a) : a.Fits := by unfold Acc.Right at h; unfold AccM.Fits R64; omega
section
variable (M : List MbM)
theorem r28_in (v : Value) (l : List Int) (x : Int) (hn : l.length ≤ 1000000) (w : World) (F : List HProp) [Reads F v encI1 1 l] (hw : holds w F) :
    Ct Tryz.prog 327 #[v, .int .i64 x] w fun e w' => e = .returned (.bool (decide (x ∈ l))) ∧ holds w' F := by
  refine Ct.go (args := [v, .int .i64 x]) Tryz.func327 rfl rfl rfl hw ?_
  repeat' (first | (apply GL.isAny; first | refine GL.runA rfl ?_ | (apply GL.isStore; first | refine GL.storeBlk rfl rfl rfl rfl rfl ?_ | refine GL.storeWhole rfl rfl rfl rfl rfl ?_ | refine GL.storeBlkA rfl rfl rfl rfl rfl ?_) | refine GL.guardY rfl rfl ?_ | refine GL.guardN rfl rfl rfl ?_ | refine GL.guardU rfl rfl rfl ?_ | (apply GL.isBox; first | refine GL.boxA rfl rfl (fun _ => ?_) | refine GL.box1 rfl rfl rfl (fun _ => ?_) | refine GL.box rfl rfl (fun _ => ?_)) | (apply GL.isBuildS; first | refine GL.buildSlice1A rfl rfl rfl rfl rfl (fun _ => ?_) | refine GL.buildSlice1 rfl rfl rfl rfl rfl (fun _ => ?_)) | (apply GL.isCall; refine GL.append1 _ rfl rfl rfl rfl (by rfl) (by omega) (by omega) rfl (fun _ => ?_)) | (apply GL.isAlloc; refine GL.alloc rfl (fun _ => ?_))) | apply GL.nil | first | apply G.seq | apply G.region | apply G.block | apply G.skip | apply G.exit | apply G.ret | (apply G.isCond; first | refine G.condT rfl ?_ | refine G.condF rfl ?_) | refine G.draw (by kernel_rfl) (by kernel_rfl) ?_ | (apply GE.isAny; first | apply GE.again | apply GE.thenG | apply GE.blockN | apply GE.blockE | apply GE.thenE | apply GE.thenR | apply GE.blockR | refine GE.blockO rfl ?_ | apply GE.only) | (apply GD.isAny; first | refine GD.runA rfl ?_ | refine GD.guardY rfl rfl ?_ | refine GD.guardN rfl rfl rfl ?_ | refine GD.guardU rfl rfl rfl ?_) | apply GD.nilE | apply GD.nilL | (apply GT.isAny; refine GT.runA rfl rfl ?_) | ((first | (apply GL.isAny; refine GL.guard rfl rfl (fun hc => ?_) (fun hc => ?_)) | (apply G.isCond; refine G.cond rfl (fun hc => ?_) (fun hc => ?_)) | (apply GD.isAny; refine GD.guard rfl rfl (fun hc => ?_) (fun hc => ?_))) <;> ((try simp only [decide_eq_true_eq, decide_eq_false_iff_not, Bool.not_true, Bool.not_false, ne_eq, Classical.not_not, Int.not_lt, Int.not_le] at hc); (try (exfalso; first | omega | exact hc trivial | exact hc rfl)))))
  refine G.loopK [0, 1] (Nat) (fun k => [(5, .int .i64 k)]) (fun k => F) (fun k => k ≤ l.length ∧ x ∉ l.take k) (fun k => l.length - k) (0) (⟨Nat.zero_le _, by simp⟩) (by repeat (first | exact trivial | refine And.intro rfl ?_)) (fun w h => by (try dsimp only); first | exact h | exact h.sub | ((try simp only [List.take_zero, List.drop_zero, List.map_nil, List.nil_append, List.zipIdx_nil, List.filter_nil]); exact h.sub)) ?_
  rintro k ⟨hk, hI⟩
  by_cases hlt : k < l.length
  · repeat' (first | (apply GL.isAny; first | refine GL.runA rfl ?_ | (apply GL.isStore; first | refine GL.storeBlk rfl rfl rfl rfl rfl ?_ | refine GL.storeWhole rfl rfl rfl rfl rfl ?_ | refine GL.storeBlkA rfl rfl rfl rfl rfl ?_) | refine GL.guardY rfl rfl ?_ | refine GL.guardN rfl rfl rfl ?_ | refine GL.guardU rfl rfl rfl ?_ | (apply GL.isBox; first | refine GL.boxA rfl rfl (fun _ => ?_) | refine GL.box1 rfl rfl rfl (fun _ => ?_) | refine GL.box rfl rfl (fun _ => ?_)) | (apply GL.isBuildS; first | refine GL.buildSlice1A rfl rfl rfl rfl rfl (fun _ => ?_) | refine GL.buildSlice1 rfl rfl rfl rfl rfl (fun _ => ?_)) | (apply GL.isCall; refine GL.append1 _ rfl rfl rfl rfl (by rfl) (by omega) (by omega) rfl (fun _ => ?_)) | (apply GL.isAlloc; refine GL.alloc rfl (fun _ => ?_))) | apply GL.nil | first | apply G.seq | apply G.region | apply G.block | apply G.skip | apply G.exit | apply G.ret | (apply G.isCond; first | refine G.condT rfl ?_ | refine G.condF rfl ?_) | refine G.draw (by kernel_rfl) (by kernel_rfl) ?_ | (apply GE.isAny; first | apply GE.again | apply GE.thenG | apply GE.blockN | apply GE.blockE | apply GE.thenE | apply GE.thenR | apply GE.blockR | refine GE.blockO rfl ?_ | apply GE.only) | (apply GD.isAny; first | refine GD.runA rfl ?_ | refine GD.guardY rfl rfl ?_ | refine GD.guardN rfl rfl rfl ?_ | refine GD.guardU rfl rfl rfl ?_) | apply GD.nilE | apply GD.nilL | (apply GT.isAny; refine GT.runA rfl rfl ?_) | ((first | (apply GL.isAny; refine GL.guard rfl rfl (fun hc => ?_) (fun hc => ?_)) | (apply G.isCond; refine G.cond rfl (fun hc => ?_) (fun hc => ?_)) | (apply GD.isAny; refine GD.guard rfl rfl (fun hc => ?_) (fun hc => ?_))) <;> ((try simp only [decide_eq_true_eq, decide_eq_false_iff_not, Bool.not_true, Bool.not_false, ne_eq, Classical.not_not, Int.not_lt, Int.not_le] at hc); (try (exfalso; first | omega | exact hc trivial | exact hc rfl)))))
    · rw [decide_eq_true (show x ∈ l by rw [← hc]; exact List.getElem_mem hlt)]
      refine GE.resOne rfl (by (repeat (first | apply Res.nil | (apply Res.tmp; rfl) | (refine Res.cellA rfl rfl rfl ?_) | (refine Res.cell1 rfl rfl ?_)))) (fun w h => ?_); exact ⟨rfl, h.sub⟩
    · refine GE.round (k + 1) (⟨hlt, by rw [List.take_succ_eq_append_getElem hlt, List.mem_append, List.mem_singleton]; exact fun e => e.elim hI fun e => hc e.symm⟩) (by repeat (first | exact trivial | refine And.intro rfl ?_)) (fun w h => by (try dsimp only); exact h.sub) (by (try dsimp only); omega)
  · rw [decide_eq_false (by have := hI; rw [List.take_of_length_le (by omega)] at this; exact this)]
    repeat' (first | (apply GL.isAny; first | refine GL.runA rfl ?_ | (apply GL.isStore; first | refine GL.storeBlk rfl rfl rfl rfl rfl ?_ | refine GL.storeWhole rfl rfl rfl rfl rfl ?_ | refine GL.storeBlkA rfl rfl rfl rfl rfl ?_) | refine GL.guardY rfl rfl ?_ | refine GL.guardN rfl rfl rfl ?_ | refine GL.guardU rfl rfl rfl ?_ | (apply GL.isBox; first | refine GL.boxA rfl rfl (fun _ => ?_) | refine GL.box1 rfl rfl rfl (fun _ => ?_) | refine GL.box rfl rfl (fun _ => ?_)) | (apply GL.isBuildS; first | refine GL.buildSlice1A rfl rfl rfl rfl rfl (fun _ => ?_) | refine GL.buildSlice1 rfl rfl rfl rfl rfl (fun _ => ?_)) | (apply GL.isCall; refine GL.append1 _ rfl rfl rfl rfl (by rfl) (by omega) (by omega) rfl (fun _ => ?_)) | (apply GL.isAlloc; refine GL.alloc rfl (fun _ => ?_))) | apply GL.nil | first | apply G.seq | apply G.region | apply G.block | apply G.skip | apply G.exit | apply G.ret | (apply G.isCond; first | refine G.condT rfl ?_ | refine G.condF rfl ?_) | refine G.draw (by kernel_rfl) (by kernel_rfl) ?_ | (apply GE.isAny; first | apply GE.again | apply GE.thenG | apply GE.blockN | apply GE.blockE | apply GE.thenE | apply GE.thenR | apply GE.blockR | refine GE.blockO rfl ?_ | apply GE.only) | (apply GD.isAny; first | refine GD.runA rfl ?_ | refine GD.guardY rfl rfl ?_ | refine GD.guardN rfl rfl rfl ?_ | refine GD.guardU rfl rfl rfl ?_) | apply GD.nilE | apply GD.nilL | (apply GT.isAny; refine GT.runA rfl rfl ?_) | ((first | (apply GL.isAny; refine GL.guard rfl rfl (fun hc => ?_) (fun hc => ?_)) | (apply G.isCond; refine G.cond rfl (fun hc => ?_) (fun hc => ?_)) | (apply GD.isAny; refine GD.guard rfl rfl (fun hc => ?_) (fun hc => ?_))) <;> ((try simp only [decide_eq_true_eq, decide_eq_false_iff_not, Bool.not_true, Bool.not_false, ne_eq, Classical.not_not, Int.not_lt, Int.not_le] at hc); (try (exfalso; first | omega | exact hc trivial | exact hc rfl)))))
    refine GE.resOne rfl (by (repeat (first | apply Res.nil | (apply Res.tmp; rfl) | (refine Res.cellA rfl rfl rfl ?_) | (refine Res.cell1 rfl rfl ?_)))) (fun w h => ?_); exact ⟨rfl, h.sub⟩
theorem r26_Need (a : AccM) (ha : Acc.Right a) (w : World) (F : List HProp) (hw : holds w F) :
    Ct Tryz.prog 328 #[.agg (encAcc a).toArray] w fun e w' => e = .returned (.int .i64 (Acc.need a)) ∧ holds w' F := by
  refine Ct.go (args := [.agg (encAcc a).toArray]) Tryz.func328 rfl rfl rfl hw ?_
  have C := ref26_RightT a (Acc.Fits_of ha)
  rw [decide_eq_true ha] at C
  rw [Acc.need_y ha]
  obtain ⟨r1, r2, r3, r4, r5⟩ := ha
  repeat' (first | ((apply GL.isCall; refine GL.call1 (vs := [.agg (encAcc a).toArray]) rfl rfl (fun w h => C w _ h) ?_)) | first | (apply GL.isAny; first | refine GL.runA rfl ?_ | (apply GL.isStore; first | refine GL.storeBlk rfl rfl rfl rfl rfl ?_ | refine GL.storeWhole rfl rfl rfl rfl rfl ?_ | refine GL.storeBlkA rfl rfl rfl rfl rfl ?_) | refine GL.guardY rfl rfl ?_ | refine GL.guardN rfl rfl rfl ?_ | refine GL.guardU rfl rfl rfl ?_ | (apply GL.isBox; first | refine GL.boxA rfl rfl (fun _ => ?_) | refine GL.box1 rfl rfl rfl (fun _ => ?_) | refine GL.box rfl rfl (fun _ => ?_)) | (apply GL.isBuildS; first | refine GL.buildSlice1A rfl rfl rfl rfl rfl (fun _ => ?_) | refine GL.buildSlice1 rfl rfl rfl rfl rfl (fun _ => ?_)) | (apply GL.isCall; refine GL.append1 _ rfl rfl rfl rfl (by rfl) (by omega) (by omega) rfl (fun _ => ?_)) | (apply GL.isAlloc; refine GL.alloc rfl (fun _ => ?_))) | apply GL.nil | first | apply G.seq | apply G.region | apply G.block | apply G.skip | apply G.exit | apply G.ret | (apply G.isCond; first | refine G.condT rfl ?_ | refine G.condF rfl ?_) | refine G.draw (by kernel_rfl) (by kernel_rfl) ?_ | (apply GE.isAny; first | apply GE.again | apply GE.thenG | apply GE.blockN | apply GE.blockE | apply GE.thenE | apply GE.thenR | apply GE.blockR | refine GE.blockO rfl ?_ | apply GE.only) | (apply GD.isAny; first | refine GD.runA rfl ?_ | refine GD.guardY rfl rfl ?_ | refine GD.guardN rfl rfl rfl ?_ | refine GD.guardU rfl rfl rfl ?_) | apply GD.nilE | apply GD.nilL | (apply GT.isAny; refine GT.runA rfl rfl ?_) | ((first | (apply GL.isAny; refine GL.guard rfl rfl (fun hc => ?_) (fun hc => ?_)) | (apply G.isCond; refine G.cond rfl (fun hc => ?_) (fun hc => ?_)) | (apply GD.isAny; refine GD.guard rfl rfl (fun hc => ?_) (fun hc => ?_))) <;> ((try simp only [decide_eq_true_eq, decide_eq_false_iff_not, Bool.not_true, Bool.not_false, ne_eq, Classical.not_not, Int.not_lt, Int.not_le] at hc); (try (exfalso; first | omega | exact hc trivial | exact hc rfl)))))
  refine GE.resOne rfl (by (repeat (first | apply Res.nil | (apply Res.tmp; rfl) | (refine Res.cellA rfl rfl rfl ?_) | (refine Res.cell1 rfl rfl ?_)))) (fun w h => ?_); exact ⟨rfl, h.sub⟩
theorem r28_May (vm : Value) (hr : ∀ m ∈ M, Acc.Right m.acc) (hn : M.length ≤ 1000000) (free : Int) (hf : 0 ≤ free ∧ free ≤ 1048576) (w : World) (F : List HProp) [Reads F vm encMb 4 M] (hw : holds w F) :
    Ct Tryz.prog 309 #[.int .i64 free, vm] w fun e w' => e = .returned (.bool true) ∧ holds w' F := by
  refine Ct.go (args := [.int .i64 free, vm]) Tryz.func309 rfl rfl rfl hw ?_
  repeat' (first | (apply GL.isAny; first | refine GL.runA rfl ?_ | (apply GL.isStore; first | refine GL.storeBlk rfl rfl rfl rfl rfl ?_ | refine GL.storeWhole rfl rfl rfl rfl rfl ?_ | refine GL.storeBlkA rfl rfl rfl rfl rfl ?_) | refine GL.guardY rfl rfl ?_ | refine GL.guardN rfl rfl rfl ?_ | refine GL.guardU rfl rfl rfl ?_ | (apply GL.isBox; first | refine GL.boxA rfl rfl (fun _ => ?_) | refine GL.box1 rfl rfl rfl (fun _ => ?_) | refine GL.box rfl rfl (fun _ => ?_)) | (apply GL.isBuildS; first | refine GL.buildSlice1A rfl rfl rfl rfl rfl (fun _ => ?_) | refine GL.buildSlice1 rfl rfl rfl rfl rfl (fun _ => ?_)) | (apply GL.isCall; refine GL.append1 _ rfl rfl rfl rfl (by rfl) (by omega) (by omega) rfl (fun _ => ?_)) | (apply GL.isAlloc; refine GL.alloc rfl (fun _ => ?_))) | apply GL.nil | first | apply G.seq | apply G.region | apply G.block | apply G.skip | apply G.exit | apply G.ret | (apply G.isCond; first | refine G.condT rfl ?_ | refine G.condF rfl ?_) | refine G.draw (by kernel_rfl) (by kernel_rfl) ?_ | (apply GE.isAny; first | apply GE.again | apply GE.thenG | apply GE.blockN | apply GE.blockE | apply GE.thenE | apply GE.thenR | apply GE.blockR | refine GE.blockO rfl ?_ | apply GE.only) | (apply GD.isAny; first | refine GD.runA rfl ?_ | refine GD.guardY rfl rfl ?_ | refine GD.guardN rfl rfl rfl ?_ | refine GD.guardU rfl rfl rfl ?_) | apply GD.nilE | apply GD.nilL | (apply GT.isAny; refine GT.runA rfl rfl ?_) | ((first | (apply GL.isAny; refine GL.guard rfl rfl (fun hc => ?_) (fun hc => ?_)) | (apply G.isCond; refine G.cond rfl (fun hc => ?_) (fun hc => ?_)) | (apply GD.isAny; refine GD.guard rfl rfl (fun hc => ?_) (fun hc => ?_))) <;> ((try simp only [decide_eq_true_eq, decide_eq_false_iff_not, Bool.not_true, Bool.not_false, ne_eq, Classical.not_not, Int.not_lt, Int.not_le] at hc); (try (exfalso; first | omega | exact hc trivial | exact hc rfl)))))
  refine G.loopK [0, 1] (Nat) (fun k => [(5, .int .i64 k)]) (fun k => F) (fun k => k ≤ M.length) (fun k => M.length - k) (0) (Nat.zero_le _) (by repeat (first | exact trivial | refine And.intro rfl ?_)) (fun w h => by (try dsimp only); first | exact h | exact h.sub | ((try simp only [List.take_zero, List.drop_zero, List.map_nil, List.nil_append, List.zipIdx_nil, List.filter_nil]); exact h.sub)) ?_
  rintro k hk
  by_cases hlt : k < M.length
  · have hR := hr _ (List.getElem_mem hlt)
    have C := ref26_RightT (M[k]).acc (Acc.Fits_of hR)
    rw [decide_eq_true hR] at C
    repeat' (first | (first | (apply GL.isAny; refine GL.run (by apply Runs.isLoad; exact Runs.loadRowA rfl (by first | omega | decide) rfl rfl) rfl ?_) | (apply GL.isCall; refine GL.call1 (vs := [.agg (encAcc (M[k]).acc).toArray]) rfl rfl (fun w h => C w _ h) ?_)) | first | (apply GL.isAny; first | refine GL.runA rfl ?_ | (apply GL.isStore; first | refine GL.storeBlk rfl rfl rfl rfl rfl ?_ | refine GL.storeWhole rfl rfl rfl rfl rfl ?_ | refine GL.storeBlkA rfl rfl rfl rfl rfl ?_) | refine GL.guardY rfl rfl ?_ | refine GL.guardN rfl rfl rfl ?_ | refine GL.guardU rfl rfl rfl ?_ | (apply GL.isBox; first | refine GL.boxA rfl rfl (fun _ => ?_) | refine GL.box1 rfl rfl rfl (fun _ => ?_) | refine GL.box rfl rfl (fun _ => ?_)) | (apply GL.isBuildS; first | refine GL.buildSlice1A rfl rfl rfl rfl rfl (fun _ => ?_) | refine GL.buildSlice1 rfl rfl rfl rfl rfl (fun _ => ?_)) | (apply GL.isCall; refine GL.append1 _ rfl rfl rfl rfl (by rfl) (by omega) (by omega) rfl (fun _ => ?_)) | (apply GL.isAlloc; refine GL.alloc rfl (fun _ => ?_))) | apply GL.nil | first | apply G.seq | apply G.region | apply G.block | apply G.skip | apply G.exit | apply G.ret | (apply G.isCond; first | refine G.condT rfl ?_ | refine G.condF rfl ?_) | refine G.draw (by kernel_rfl) (by kernel_rfl) ?_ | (apply GE.isAny; first | apply GE.again | apply GE.thenG | apply GE.blockN | apply GE.blockE | apply GE.thenE | apply GE.thenR | apply GE.blockR | refine GE.blockO rfl ?_ | apply GE.only) | (apply GD.isAny; first | refine GD.runA rfl ?_ | refine GD.guardY rfl rfl ?_ | refine GD.guardN rfl rfl rfl ?_ | refine GD.guardU rfl rfl rfl ?_) | apply GD.nilE | apply GD.nilL | (apply GT.isAny; refine GT.runA rfl rfl ?_) | ((first | (apply GL.isAny; refine GL.guard rfl rfl (fun hc => ?_) (fun hc => ?_)) | (apply G.isCond; refine G.cond rfl (fun hc => ?_) (fun hc => ?_)) | (apply GD.isAny; refine GD.guard rfl rfl (fun hc => ?_) (fun hc => ?_))) <;> ((try simp only [decide_eq_true_eq, decide_eq_false_iff_not, Bool.not_true, Bool.not_false, ne_eq, Classical.not_not, Int.not_lt, Int.not_le] at hc); (try (exfalso; first | omega | exact hc trivial | exact hc rfl)))))
    refine GE.round (k + 1) (hlt) (by repeat (first | exact trivial | refine And.intro rfl ?_)) (fun w h => by (try dsimp only); exact h.sub) (by (try dsimp only); omega)
  · repeat' (first | (apply GL.isAny; first | refine GL.runA rfl ?_ | (apply GL.isStore; first | refine GL.storeBlk rfl rfl rfl rfl rfl ?_ | refine GL.storeWhole rfl rfl rfl rfl rfl ?_ | refine GL.storeBlkA rfl rfl rfl rfl rfl ?_) | refine GL.guardY rfl rfl ?_ | refine GL.guardN rfl rfl rfl ?_ | refine GL.guardU rfl rfl rfl ?_ | (apply GL.isBox; first | refine GL.boxA rfl rfl (fun _ => ?_) | refine GL.box1 rfl rfl rfl (fun _ => ?_) | refine GL.box rfl rfl (fun _ => ?_)) | (apply GL.isBuildS; first | refine GL.buildSlice1A rfl rfl rfl rfl rfl (fun _ => ?_) | refine GL.buildSlice1 rfl rfl rfl rfl rfl (fun _ => ?_)) | (apply GL.isCall; refine GL.append1 _ rfl rfl rfl rfl (by rfl) (by omega) (by omega) rfl (fun _ => ?_)) | (apply GL.isAlloc; refine GL.alloc rfl (fun _ => ?_))) | apply GL.nil | first | apply G.seq | apply G.region | apply G.block | apply G.skip | apply G.exit | apply G.ret | (apply G.isCond; first | refine G.condT rfl ?_ | refine G.condF rfl ?_) | refine G.draw (by kernel_rfl) (by kernel_rfl) ?_ | (apply GE.isAny; first | apply GE.again | apply GE.thenG | apply GE.blockN | apply GE.blockE | apply GE.thenE | apply GE.thenR | apply GE.blockR | refine GE.blockO rfl ?_ | apply GE.only) | (apply GD.isAny; first | refine GD.runA rfl ?_ | refine GD.guardY rfl rfl ?_ | refine GD.guardN rfl rfl rfl ?_ | refine GD.guardU rfl rfl rfl ?_) | apply GD.nilE | apply GD.nilL | (apply GT.isAny; refine GT.runA rfl rfl ?_) | ((first | (apply GL.isAny; refine GL.guard rfl rfl (fun hc => ?_) (fun hc => ?_)) | (apply G.isCond; refine G.cond rfl (fun hc => ?_) (fun hc => ?_)) | (apply GD.isAny; refine GD.guard rfl rfl (fun hc => ?_) (fun hc => ?_))) <;> ((try simp only [decide_eq_true_eq, decide_eq_false_iff_not, Bool.not_true, Bool.not_false, ne_eq, Classical.not_not, Int.not_lt, Int.not_le] at hc); (try (exfalso; first | omega | exact hc trivial | exact hc rfl)))))
    all_goals (first | (exfalso; omega) | skip)
    refine GE.resOne rfl (by (repeat (first | apply Res.nil | (apply Res.tmp; rfl) | (refine Res.cellA rfl rfl rfl ?_) | (refine Res.cell1 rfl rfl ?_)))) (fun w h => ?_)
    refine ⟨?_, h.sub⟩
    congr 2
    exact decide_eq_true (by omega)
/-- How far the taking is. -/
structure TakI (M : List MbM) (L : List (Int × Int)) (out : List Int) (done : List Bool) (free : Int) : Prop where
  inv : Ord.Inv M L out.length done free
  rel : ∀ i (h : i < done.length), done[i] = decide ((i : Int) ∈ out)
theorem TakI.start {M : List MbM} {free : Int} (hf : 0 ≤ free ∧ free ≤ 1048576) : TakI M (Ord.takL M.length (List.replicate M.length false) free M) [] (List.replicate M.length false) free :=
  ⟨Ord.Inv.start M free hf.1 hf.2, fun i h => by simp⟩
theorem TakI.step {M : List MbM} (hr : ∀ m ∈ M, Acc.Right m.acc) {L : List (Int × Int)} {out : List Int} {done : List Bool} {free : Int} (h : TakI M L out done free) {k : Nat} (hk : k < M.length) (hnin : (k : Int) ∉ out) (hneed : Acc.need (M[k]).acc ≤ free) (hlo : ∀ (j : Nat) (h : j < (done.zip M).length), j < k → Ord.pz free (done.zip M)[j] = false) :
    TakI M L (out ++ [(k : Int)]) (done.set k true) (free + (M[k]).acc.held) := by
  have hd := h.inv.len
  have hdk : done[k]'(by omega) = false := by rw [h.rel]; exact decide_eq_false hnin
  have hnx : Ord.nx done free M = k := Ord.nx_at hd hk (by rw [hdk]; rfl) hneed hlo
  obtain ⟨i, hi, h1, h2, h3, h4, h5, h6⟩ := h.inv.step hr (by rw [hnx]; omega)
  obtain rfl : k = i := by have := hnx.symm.trans h1; omega
  refine ⟨by rw [List.length_append]; exact h6, fun j hj => ?_⟩
  rw [List.getElem_set]
  split
  · rename_i e; subst e; simp
  · rename_i e
    rw [h.rel j (by rw [List.length_set] at hj; exact hj), decide_eq_decide]
    simp only [List.mem_append, List.mem_singleton]
    constructor
    · exact .inl
    · rintro (h | h)
      · exact h
      · exfalso; omega
theorem r28_Taken (vm : Value) (hr : ∀ m ∈ M, Acc.Right m.acc) (hn : M.length ≤ 100000) (free : Int) (hf : 0 ≤ free ∧ free ≤ 1048576) (w : World) (F : List HProp) [Reads F vm encMb 4 M] (hw : holds w F) :
    Ct Tryz.prog 310 #[.int .i64 free, vm] w fun e w' => ∃ r : {r : Value × List Int // r.2.length = (Ord.takL M.length (List.replicate M.length false) free M).length}, e = .returned r.1.1 ∧ holds w' (owns 3 encI1 1 r.1.1 r.1.2 :: F) := by
  refine Ct.go (args := [.int .i64 free, vm]) Tryz.func310 rfl rfl rfl hw ?_
  have hstart := TakI.start (M := M) hf
  generalize Ord.takL M.length (List.replicate M.length false) free M = L at hstart
  repeat' (first | (skip; fail) | first | (apply GL.isAny; first | refine GL.runA rfl ?_ | (apply GL.isStore; first | refine GL.storeBlk rfl rfl rfl rfl rfl ?_ | refine GL.storeWhole rfl rfl rfl rfl rfl ?_ | refine GL.storeBlkA rfl rfl rfl rfl rfl ?_) | refine GL.guardY rfl rfl ?_ | refine GL.guardN rfl rfl rfl ?_ | refine GL.guardU rfl rfl rfl ?_ | (apply GL.isBox; first | refine GL.boxA rfl rfl (fun _ => ?_) | refine GL.box1 rfl rfl rfl (fun _ => ?_) | refine GL.box rfl rfl (fun _ => ?_)) | (apply GL.isBuildS; first | refine GL.buildSlice1A rfl rfl rfl rfl rfl (fun _ => ?_) | refine GL.buildSlice1 rfl rfl rfl rfl rfl (fun _ => ?_)) | (apply GL.isCall; refine GL.append1 _ rfl rfl rfl rfl (by rfl) (by omega) (by omega) rfl (fun _ => ?_)) | (apply GL.isAlloc; refine GL.alloc rfl (fun _ => ?_))) | apply GL.nil | first | apply G.seq | apply G.region | apply G.block | apply G.skip | apply G.exit | apply G.ret | (apply G.isCond; first | refine G.condT rfl ?_ | refine G.condF rfl ?_) | refine G.draw (by kernel_rfl) (by kernel_rfl) ?_ | (apply GE.isAny; first | apply GE.again | apply GE.thenG | apply GE.blockN | apply GE.blockE | apply GE.thenE | apply GE.thenR | apply GE.blockR | refine GE.blockO rfl ?_ | apply GE.only) | (apply GD.isAny; first | refine GD.runA rfl ?_ | refine GD.guardY rfl rfl ?_ | refine GD.guardN rfl rfl rfl ?_ | refine GD.guardU rfl rfl rfl ?_) | apply GD.nilE | apply GD.nilL | (apply GT.isAny; refine GT.runA rfl rfl ?_) | ((first | (apply GL.isAny; refine GL.guard rfl rfl (fun hc => ?_) (fun hc => ?_)) | (apply G.isCond; refine G.cond rfl (fun hc => ?_) (fun hc => ?_)) | (apply GD.isAny; refine GD.guard rfl rfl (fun hc => ?_) (fun hc => ?_))) <;> ((try simp only [decide_eq_true_eq, decide_eq_false_iff_not, Bool.not_true, Bool.not_false, ne_eq, Classical.not_not, Int.not_lt, Int.not_le] at hc); (try (exfalso; first | omega | exact hc trivial | exact hc rfl)))))
  refine G.nilOwn 3 encI1 1 ?_
  refine G.loopK [1] (Int × Value × List Int × List Bool × Bool) (fun y => [(0, .int .i64 y.1), (5, y.2.1), (6, .bool y.2.2.2.2)]) (fun y => owns 3 encI1 1 y.2.1 y.2.2.1 :: F) (fun y => TakI M L y.2.2.1 y.2.2.2.1 y.1 ∧ (y.2.2.2.2 = false → Ord.nx y.2.2.2.1 y.1 M < 0)) (fun y => 2 * (M.length - y.2.2.1.length) + (if y.2.2.2.2 then 1 else 0)) ((free, .slice none 0 0, [], List.replicate M.length false, true)) (⟨hstart, fun h => by cases h⟩) (by repeat (first | exact trivial | refine And.intro rfl ?_)) (fun w h => by (try dsimp only); first | exact h | exact h.sub | ((try simp only [List.take_zero, List.drop_zero, List.map_nil, List.nil_append, List.zipIdx_nil, List.filter_nil]); exact h.sub)) ?_
  rintro ⟨fr, sv, out, done, more⟩ ⟨hT, hm⟩
  dsimp only at hT hm ⊢
  cases more with
  | false =>
    have hst := hT.inv.stop (hm rfl)
    repeat' (first | (apply GL.isAny; first | refine GL.runA rfl ?_ | (apply GL.isStore; first | refine GL.storeBlk rfl rfl rfl rfl rfl ?_ | refine GL.storeWhole rfl rfl rfl rfl rfl ?_ | refine GL.storeBlkA rfl rfl rfl rfl rfl ?_) | refine GL.guardY rfl rfl ?_ | refine GL.guardN rfl rfl rfl ?_ | refine GL.guardU rfl rfl rfl ?_ | (apply GL.isBox; first | refine GL.boxA rfl rfl (fun _ => ?_) | refine GL.box1 rfl rfl rfl (fun _ => ?_) | refine GL.box rfl rfl (fun _ => ?_)) | (apply GL.isBuildS; first | refine GL.buildSlice1A rfl rfl rfl rfl rfl (fun _ => ?_) | refine GL.buildSlice1 rfl rfl rfl rfl rfl (fun _ => ?_)) | (apply GL.isCall; refine GL.append1 _ rfl rfl rfl rfl (by rfl) (by omega) (by omega) rfl (fun _ => ?_)) | (apply GL.isAlloc; refine GL.alloc rfl (fun _ => ?_))) | apply GL.nil | first | apply G.seq | apply G.region | apply G.block | apply G.skip | apply G.exit | apply G.ret | (apply G.isCond; first | refine G.condT rfl ?_ | refine G.condF rfl ?_) | refine G.draw (by kernel_rfl) (by kernel_rfl) ?_ | (apply GE.isAny; first | apply GE.again | apply GE.thenG | apply GE.blockN | apply GE.blockE | apply GE.thenE | apply GE.thenR | apply GE.blockR | refine GE.blockO rfl ?_ | apply GE.only) | (apply GD.isAny; first | refine GD.runA rfl ?_ | refine GD.guardY rfl rfl ?_ | refine GD.guardN rfl rfl rfl ?_ | refine GD.guardU rfl rfl rfl ?_) | apply GD.nilE | apply GD.nilL | (apply GT.isAny; refine GT.runA rfl rfl ?_) | ((first | (apply GL.isAny; refine GL.guard rfl rfl (fun hc => ?_) (fun hc => ?_)) | (apply G.isCond; refine G.cond rfl (fun hc => ?_) (fun hc => ?_)) | (apply GD.isAny; refine GD.guard rfl rfl (fun hc => ?_) (fun hc => ?_))) <;> ((try simp only [decide_eq_true_eq, decide_eq_false_iff_not, Bool.not_true, Bool.not_false, ne_eq, Classical.not_not, Int.not_lt, Int.not_le] at hc); (try (exfalso; first | omega | exact hc trivial | exact hc rfl)))))
    refine GE.resOne rfl (by (repeat (first | apply Res.nil | (apply Res.tmp; rfl) | (refine Res.cellA rfl rfl rfl ?_) | (refine Res.cell1 rfl rfl ?_)))) (fun w h => ?_)
    exact ⟨⟨(sv, out), hst⟩, rfl, h.sub⟩
  | true =>
    repeat' (first | (apply GL.isAny; first | refine GL.runA rfl ?_ | (apply GL.isStore; first | refine GL.storeBlk rfl rfl rfl rfl rfl ?_ | refine GL.storeWhole rfl rfl rfl rfl rfl ?_ | refine GL.storeBlkA rfl rfl rfl rfl rfl ?_) | refine GL.guardY rfl rfl ?_ | refine GL.guardN rfl rfl rfl ?_ | refine GL.guardU rfl rfl rfl ?_ | (apply GL.isBox; first | refine GL.boxA rfl rfl (fun _ => ?_) | refine GL.box1 rfl rfl rfl (fun _ => ?_) | refine GL.box rfl rfl (fun _ => ?_)) | (apply GL.isBuildS; first | refine GL.buildSlice1A rfl rfl rfl rfl rfl (fun _ => ?_) | refine GL.buildSlice1 rfl rfl rfl rfl rfl (fun _ => ?_)) | (apply GL.isCall; refine GL.append1 _ rfl rfl rfl rfl (by rfl) (by omega) (by omega) rfl (fun _ => ?_)) | (apply GL.isAlloc; refine GL.alloc rfl (fun _ => ?_))) | apply GL.nil | first | apply G.seq | apply G.region | apply G.block | apply G.skip | apply G.exit | apply G.ret | (apply G.isCond; first | refine G.condT rfl ?_ | refine G.condF rfl ?_) | refine G.draw (by kernel_rfl) (by kernel_rfl) ?_ | (apply GE.isAny; first | apply GE.again | apply GE.thenG | apply GE.blockN | apply GE.blockE | apply GE.thenE | apply GE.thenR | apply GE.blockR | refine GE.blockO rfl ?_ | apply GE.only) | (apply GD.isAny; first | refine GD.runA rfl ?_ | refine GD.guardY rfl rfl ?_ | refine GD.guardN rfl rfl rfl ?_ | refine GD.guardU rfl rfl rfl ?_) | apply GD.nilE | apply GD.nilL | (apply GT.isAny; refine GT.runA rfl rfl ?_) | ((first | (apply GL.isAny; refine GL.guard rfl rfl (fun hc => ?_) (fun hc => ?_)) | (apply G.isCond; refine G.cond rfl (fun hc => ?_) (fun hc => ?_)) | (apply GD.isAny; refine GD.guard rfl rfl (fun hc => ?_) (fun hc => ?_))) <;> ((try simp only [decide_eq_true_eq, decide_eq_false_iff_not, Bool.not_true, Bool.not_false, ne_eq, Classical.not_not, Int.not_lt, Int.not_le] at hc); (try (exfalso; first | omega | exact hc trivial | exact hc rfl)))))
    refine G.loopK [1] (Nat × Bool × Int × Value × List Int × List Bool) (fun y => [(7, .int .i64 y.1), (6, .bool y.2.1), (0, .int .i64 y.2.2.1), (5, y.2.2.2.1)]) (fun y => owns 3 encI1 1 y.2.2.2.1 y.2.2.2.2.1 :: F) (fun y => y.1 ≤ M.length ∧ TakI M L y.2.2.2.2.1 y.2.2.2.2.2 y.2.2.1 ∧ (y.2.1 = false → y.2.2.2.2.1.length = out.length ∧ ∀ (j : Nat) (h : j < (y.2.2.2.2.2.zip M).length), j < y.1 → Ord.pz y.2.2.1 (y.2.2.2.2.2.zip M)[j] = false) ∧ (y.2.1 = true → y.2.2.2.2.1.length = out.length + 1)) (fun y => M.length - y.1) ((0, false, fr, sv, out, done)) (⟨Nat.zero_le _, hT, fun _ => ⟨rfl, fun j _ h => absurd h (Nat.not_lt_zero j)⟩, fun h => by cases h⟩) (by repeat (first | exact trivial | refine And.intro rfl ?_)) (fun w h => by (try dsimp only); first | exact h | exact h.sub | ((try simp only [List.take_zero, List.drop_zero, List.map_nil, List.nil_append, List.zipIdx_nil, List.filter_nil]); exact h.sub)) ?_
    rintro ⟨k, more2, fr2, sv2, out2, done2⟩ ⟨hk, hT2, hF, hY⟩
    dsimp only at hk hT2 hF hY ⊢
    have hcnt := hT2.inv.cnt
    have hlo := hT2.inv.lo
    have hhi := hT2.inv.hi
    cases more2 with
    | true =>
      have hY := hY rfl
      repeat' (first | (apply GL.isAny; first | refine GL.runA rfl ?_ | (apply GL.isStore; first | refine GL.storeBlk rfl rfl rfl rfl rfl ?_ | refine GL.storeWhole rfl rfl rfl rfl rfl ?_ | refine GL.storeBlkA rfl rfl rfl rfl rfl ?_) | refine GL.guardY rfl rfl ?_ | refine GL.guardN rfl rfl rfl ?_ | refine GL.guardU rfl rfl rfl ?_ | (apply GL.isBox; first | refine GL.boxA rfl rfl (fun _ => ?_) | refine GL.box1 rfl rfl rfl (fun _ => ?_) | refine GL.box rfl rfl (fun _ => ?_)) | (apply GL.isBuildS; first | refine GL.buildSlice1A rfl rfl rfl rfl rfl (fun _ => ?_) | refine GL.buildSlice1 rfl rfl rfl rfl rfl (fun _ => ?_)) | (apply GL.isCall; refine GL.append1 _ rfl rfl rfl rfl (by rfl) (by omega) (by omega) rfl (fun _ => ?_)) | (apply GL.isAlloc; refine GL.alloc rfl (fun _ => ?_))) | apply GL.nil | first | apply G.seq | apply G.region | apply G.block | apply G.skip | apply G.exit | apply G.ret | (apply G.isCond; first | refine G.condT rfl ?_ | refine G.condF rfl ?_) | refine G.draw (by kernel_rfl) (by kernel_rfl) ?_ | (apply GE.isAny; first | apply GE.again | apply GE.thenG | apply GE.blockN | apply GE.blockE | apply GE.thenE | apply GE.thenR | apply GE.blockR | refine GE.blockO rfl ?_ | apply GE.only) | (apply GD.isAny; first | refine GD.runA rfl ?_ | refine GD.guardY rfl rfl ?_ | refine GD.guardN rfl rfl rfl ?_ | refine GD.guardU rfl rfl rfl ?_) | apply GD.nilE | apply GD.nilL | (apply GT.isAny; refine GT.runA rfl rfl ?_) | ((first | (apply GL.isAny; refine GL.guard rfl rfl (fun hc => ?_) (fun hc => ?_)) | (apply G.isCond; refine G.cond rfl (fun hc => ?_) (fun hc => ?_)) | (apply GD.isAny; refine GD.guard rfl rfl (fun hc => ?_) (fun hc => ?_))) <;> ((try simp only [decide_eq_true_eq, decide_eq_false_iff_not, Bool.not_true, Bool.not_false, ne_eq, Classical.not_not, Int.not_lt, Int.not_le] at hc); (try (exfalso; first | omega | exact hc trivial | exact hc rfl)))))
      all_goals (refine GE.round ((fr2, sv2, out2, done2, true)) (⟨hT2, fun h => by cases h⟩) (by repeat (first | exact trivial | refine And.intro rfl ?_)) (fun w h => by (try dsimp only); exact h.sub) (by dsimp only; first | omega | (simp; omega)))
    | false =>
      obtain ⟨hF1, hF2⟩ := hF rfl
      by_cases hlt : k < M.length
      · have hR := hr _ (List.getElem_mem hlt)
        have C1 := r28_in sv2 out2 (k : Int) (by omega)
        have C2 := r26_Need (M[k]).acc hR
        have hzl : k < (done2.zip M).length := by rw [List.length_zip, hT2.inv.len]; omega
        have hnext : Ord.pz fr2 (done2.zip M)[k] = false → ∀ (j : Nat) (h : j < (done2.zip M).length), j < k + 1 → Ord.pz fr2 (done2.zip M)[j] = false := fun h1 j h2 h3 => by
          rcases Nat.lt_or_ge j k with h4 | h4
          · exact hF2 j h2 h4
          · obtain rfl : j = k := by omega
            exact h1
        have hdk := hT2.rel k (by rw [hT2.inv.len]; exact hlt)
        obtain ⟨r1, r2, r3, r4, r5⟩ := hR
        by_cases hin : (k : Int) ∈ out2
        · simp only [hin, decide_true] at C1
          have hp : Ord.pz fr2 (done2.zip M)[k] = false := by rw [List.getElem_zip]; unfold Ord.pz; dsimp only; rw [hdk, decide_eq_true hin]; rfl
          repeat' (first | (first | (apply GL.isAny; refine GL.run (by apply Runs.isLoad; exact Runs.loadRowA rfl (by first | omega | decide) rfl rfl) rfl ?_) | (apply GL.isCall; refine GL.call1 rfl rfl (fun w h => C1 w _ h) ?_)) | first | (apply GL.isAny; first | refine GL.runA rfl ?_ | (apply GL.isStore; first | refine GL.storeBlk rfl rfl rfl rfl rfl ?_ | refine GL.storeWhole rfl rfl rfl rfl rfl ?_ | refine GL.storeBlkA rfl rfl rfl rfl rfl ?_) | refine GL.guardY rfl rfl ?_ | refine GL.guardN rfl rfl rfl ?_ | refine GL.guardU rfl rfl rfl ?_ | (apply GL.isBox; first | refine GL.boxA rfl rfl (fun _ => ?_) | refine GL.box1 rfl rfl rfl (fun _ => ?_) | refine GL.box rfl rfl (fun _ => ?_)) | (apply GL.isBuildS; first | refine GL.buildSlice1A rfl rfl rfl rfl rfl (fun _ => ?_) | refine GL.buildSlice1 rfl rfl rfl rfl rfl (fun _ => ?_)) | (apply GL.isCall; refine GL.append1 _ rfl rfl rfl rfl (by rfl) (by omega) (by omega) rfl (fun _ => ?_)) | (apply GL.isAlloc; refine GL.alloc rfl (fun _ => ?_))) | apply GL.nil | first | apply G.seq | apply G.region | apply G.block | apply G.skip | apply G.exit | apply G.ret | (apply G.isCond; first | refine G.condT rfl ?_ | refine G.condF rfl ?_) | refine G.draw (by kernel_rfl) (by kernel_rfl) ?_ | (apply GE.isAny; first | apply GE.again | apply GE.thenG | apply GE.blockN | apply GE.blockE | apply GE.thenE | apply GE.thenR | apply GE.blockR | refine GE.blockO rfl ?_ | apply GE.only) | (apply GD.isAny; first | refine GD.runA rfl ?_ | refine GD.guardY rfl rfl ?_ | refine GD.guardN rfl rfl rfl ?_ | refine GD.guardU rfl rfl rfl ?_) | apply GD.nilE | apply GD.nilL | (apply GT.isAny; refine GT.runA rfl rfl ?_) | ((first | (apply GL.isAny; refine GL.guard rfl rfl (fun hc => ?_) (fun hc => ?_)) | (apply G.isCond; refine G.cond rfl (fun hc => ?_) (fun hc => ?_)) | (apply GD.isAny; refine GD.guard rfl rfl (fun hc => ?_) (fun hc => ?_))) <;> ((try simp only [decide_eq_true_eq, decide_eq_false_iff_not, Bool.not_true, Bool.not_false, ne_eq, Classical.not_not, Int.not_lt, Int.not_le] at hc); (try (exfalso; first | omega | exact hc trivial | exact hc rfl)))))
          all_goals (first | (exact absurd hin (by assumption)) | (exfalso; omega) | skip)
          refine GE.round ((k + 1, false, fr2, sv2, out2, done2)) (⟨hlt, hT2, fun _ => ⟨hF1, hnext hp⟩, fun h => by cases h⟩) (by repeat (first | exact trivial | refine And.intro rfl ?_)) (fun w h => by (try dsimp only); exact h.sub) (by (try dsimp only); omega)
        · simp only [hin, decide_false] at C1
          by_cases hne : Acc.need (M[k]).acc ≤ fr2
          · have hst := hT2.step hr hlt hin hne hF2
            repeat' (first | (first | (apply GL.isAny; refine GL.run (by apply Runs.isLoad; exact Runs.loadRowA rfl (by first | omega | decide) rfl rfl) rfl ?_) | (apply GL.isCall; refine GL.call1 rfl rfl (fun w h => C1 w _ h) ?_) | (apply GL.isCall; refine GL.call1 (vs := [.agg (encAcc (M[k]).acc).toArray]) rfl rfl (fun w h => C2 w _ h) ?_) | first | (apply GL.isAny; refine GL.run (by apply Runs.isLoad; exact Runs.loadRow2 rfl (by first | omega | decide) rfl) rfl ?_) | (apply GD.isAny; refine GD.run (by apply Runs.isLoad; exact Runs.loadRow2 rfl (by first | omega | decide) rfl) rfl ?_) | refine GL.append1 ((k : Int)) rfl rfl rfl rfl (by rfl) (by omega) (by omega) rfl (fun _ => ?_)) | first | (apply GL.isAny; first | refine GL.runA rfl ?_ | (apply GL.isStore; first | refine GL.storeBlk rfl rfl rfl rfl rfl ?_ | refine GL.storeWhole rfl rfl rfl rfl rfl ?_ | refine GL.storeBlkA rfl rfl rfl rfl rfl ?_) | refine GL.guardY rfl rfl ?_ | refine GL.guardN rfl rfl rfl ?_ | refine GL.guardU rfl rfl rfl ?_ | (apply GL.isBox; first | refine GL.boxA rfl rfl (fun _ => ?_) | refine GL.box1 rfl rfl rfl (fun _ => ?_) | refine GL.box rfl rfl (fun _ => ?_)) | (apply GL.isBuildS; first | refine GL.buildSlice1A rfl rfl rfl rfl rfl (fun _ => ?_) | refine GL.buildSlice1 rfl rfl rfl rfl rfl (fun _ => ?_)) | (apply GL.isCall; refine GL.append1 _ rfl rfl rfl rfl (by rfl) (by omega) (by omega) rfl (fun _ => ?_)) | (apply GL.isAlloc; refine GL.alloc rfl (fun _ => ?_))) | apply GL.nil | first | apply G.seq | apply G.region | apply G.block | apply G.skip | apply G.exit | apply G.ret | (apply G.isCond; first | refine G.condT rfl ?_ | refine G.condF rfl ?_) | refine G.draw (by kernel_rfl) (by kernel_rfl) ?_ | (apply GE.isAny; first | apply GE.again | apply GE.thenG | apply GE.blockN | apply GE.blockE | apply GE.thenE | apply GE.thenR | apply GE.blockR | refine GE.blockO rfl ?_ | apply GE.only) | (apply GD.isAny; first | refine GD.runA rfl ?_ | refine GD.guardY rfl rfl ?_ | refine GD.guardN rfl rfl rfl ?_ | refine GD.guardU rfl rfl rfl ?_) | apply GD.nilE | apply GD.nilL | (apply GT.isAny; refine GT.runA rfl rfl ?_) | ((first | (apply GL.isAny; refine GL.guard rfl rfl (fun hc => ?_) (fun hc => ?_)) | (apply G.isCond; refine G.cond rfl (fun hc => ?_) (fun hc => ?_)) | (apply GD.isAny; refine GD.guard rfl rfl (fun hc => ?_) (fun hc => ?_))) <;> ((try simp only [decide_eq_true_eq, decide_eq_false_iff_not, Bool.not_true, Bool.not_false, ne_eq, Classical.not_not, Int.not_lt, Int.not_le] at hc); (try (exfalso; first | omega | exact hc trivial | exact hc rfl)))))
            all_goals (first | (exact absurd (by assumption) hin) | (exfalso; omega) | skip)
            refine GE.round ((k + 1, true, fr2 + (M[k]).acc.held, _, out2 ++ [(k : Int)], done2.set k true)) (⟨hlt, hst, (fun h => by cases h), fun _ => by dsimp only; rw [List.length_append, hF1]; rfl⟩) (by repeat (first | exact trivial | refine And.intro rfl ?_)) (fun w h => by (try dsimp only); exact h.sub) (by (try dsimp only); omega)
          · have hp : Ord.pz fr2 (done2.zip M)[k] = false := by rw [List.getElem_zip]; unfold Ord.pz; dsimp only; rw [decide_eq_false hne]; simp
            repeat' (first | (first | (apply GL.isAny; refine GL.run (by apply Runs.isLoad; exact Runs.loadRowA rfl (by first | omega | decide) rfl rfl) rfl ?_) | (apply GL.isCall; refine GL.call1 rfl rfl (fun w h => C1 w _ h) ?_) | (apply GL.isCall; refine GL.call1 (vs := [.agg (encAcc (M[k]).acc).toArray]) rfl rfl (fun w h => C2 w _ h) ?_)) | first | (apply GL.isAny; first | refine GL.runA rfl ?_ | (apply GL.isStore; first | refine GL.storeBlk rfl rfl rfl rfl rfl ?_ | refine GL.storeWhole rfl rfl rfl rfl rfl ?_ | refine GL.storeBlkA rfl rfl rfl rfl rfl ?_) | refine GL.guardY rfl rfl ?_ | refine GL.guardN rfl rfl rfl ?_ | refine GL.guardU rfl rfl rfl ?_ | (apply GL.isBox; first | refine GL.boxA rfl rfl (fun _ => ?_) | refine GL.box1 rfl rfl rfl (fun _ => ?_) | refine GL.box rfl rfl (fun _ => ?_)) | (apply GL.isBuildS; first | refine GL.buildSlice1A rfl rfl rfl rfl rfl (fun _ => ?_) | refine GL.buildSlice1 rfl rfl rfl rfl rfl (fun _ => ?_)) | (apply GL.isCall; refine GL.append1 _ rfl rfl rfl rfl (by rfl) (by omega) (by omega) rfl (fun _ => ?_)) | (apply GL.isAlloc; refine GL.alloc rfl (fun _ => ?_))) | apply GL.nil | first | apply G.seq | apply G.region | apply G.block | apply G.skip | apply G.exit | apply G.ret | (apply G.isCond; first | refine G.condT rfl ?_ | refine G.condF rfl ?_) | refine G.draw (by kernel_rfl) (by kernel_rfl) ?_ | (apply GE.isAny; first | apply GE.again | apply GE.thenG | apply GE.blockN | apply GE.blockE | apply GE.thenE | apply GE.thenR | apply GE.blockR | refine GE.blockO rfl ?_ | apply GE.only) | (apply GD.isAny; first | refine GD.runA rfl ?_ | refine GD.guardY rfl rfl ?_ | refine GD.guardN rfl rfl rfl ?_ | refine GD.guardU rfl rfl rfl ?_) | apply GD.nilE | apply GD.nilL | (apply GT.isAny; refine GT.runA rfl rfl ?_) | ((first | (apply GL.isAny; refine GL.guard rfl rfl (fun hc => ?_) (fun hc => ?_)) | (apply G.isCond; refine G.cond rfl (fun hc => ?_) (fun hc => ?_)) | (apply GD.isAny; refine GD.guard rfl rfl (fun hc => ?_) (fun hc => ?_))) <;> ((try simp only [decide_eq_true_eq, decide_eq_false_iff_not, Bool.not_true, Bool.not_false, ne_eq, Classical.not_not, Int.not_lt, Int.not_le] at hc); (try (exfalso; first | omega | exact hc trivial | exact hc rfl)))))
            all_goals (first | (exact absurd (by assumption) hin) | (exfalso; omega) | skip)
            refine GE.round ((k + 1, false, fr2, sv2, out2, done2)) (⟨hlt, hT2, fun _ => ⟨hF1, hnext hp⟩, fun h => by cases h⟩) (by repeat (first | exact trivial | refine And.intro rfl ?_)) (fun w h => by (try dsimp only); exact h.sub) (by (try dsimp only); omega)
      · repeat' (first | (apply GL.isAny; first | refine GL.runA rfl ?_ | (apply GL.isStore; first | refine GL.storeBlk rfl rfl rfl rfl rfl ?_ | refine GL.storeWhole rfl rfl rfl rfl rfl ?_ | refine GL.storeBlkA rfl rfl rfl rfl rfl ?_) | refine GL.guardY rfl rfl ?_ | refine GL.guardN rfl rfl rfl ?_ | refine GL.guardU rfl rfl rfl ?_ | (apply GL.isBox; first | refine GL.boxA rfl rfl (fun _ => ?_) | refine GL.box1 rfl rfl rfl (fun _ => ?_) | refine GL.box rfl rfl (fun _ => ?_)) | (apply GL.isBuildS; first | refine GL.buildSlice1A rfl rfl rfl rfl rfl (fun _ => ?_) | refine GL.buildSlice1 rfl rfl rfl rfl rfl (fun _ => ?_)) | (apply GL.isCall; refine GL.append1 _ rfl rfl rfl rfl (by rfl) (by omega) (by omega) rfl (fun _ => ?_)) | (apply GL.isAlloc; refine GL.alloc rfl (fun _ => ?_))) | apply GL.nil | first | apply G.seq | apply G.region | apply G.block | apply G.skip | apply G.exit | apply G.ret | (apply G.isCond; first | refine G.condT rfl ?_ | refine G.condF rfl ?_) | refine G.draw (by kernel_rfl) (by kernel_rfl) ?_ | (apply GE.isAny; first | apply GE.again | apply GE.thenG | apply GE.blockN | apply GE.blockE | apply GE.thenE | apply GE.thenR | apply GE.blockR | refine GE.blockO rfl ?_ | apply GE.only) | (apply GD.isAny; first | refine GD.runA rfl ?_ | refine GD.guardY rfl rfl ?_ | refine GD.guardN rfl rfl rfl ?_ | refine GD.guardU rfl rfl rfl ?_) | apply GD.nilE | apply GD.nilL | (apply GT.isAny; refine GT.runA rfl rfl ?_) | ((first | (apply GL.isAny; refine GL.guard rfl rfl (fun hc => ?_) (fun hc => ?_)) | (apply G.isCond; refine G.cond rfl (fun hc => ?_) (fun hc => ?_)) | (apply GD.isAny; refine GD.guard rfl rfl (fun hc => ?_) (fun hc => ?_))) <;> ((try simp only [decide_eq_true_eq, decide_eq_false_iff_not, Bool.not_true, Bool.not_false, ne_eq, Classical.not_not, Int.not_lt, Int.not_le] at hc); (try (exfalso; first | omega | exact hc trivial | exact hc rfl)))))
        all_goals (first | (exfalso; omega) | skip)
        all_goals (refine GE.round ((fr2, sv2, out2, done2, false)) (⟨hT2, fun _ => by rw [Ord.nx_none (fun j h => hF2 j h (by rw [List.length_zip, hT2.inv.len] at h; omega))]; omega⟩) (by repeat (first | exact trivial | refine And.intro rfl ?_)) (fun w h => by (try dsimp only); exact h.sub) (by dsimp only; first | omega | (simp; omega)))
theorem r28_Order (vm : Value) (hr : ∀ m ∈ M, Acc.Right m.acc) (hn : M.length ≤ 100000) (free : Int) (hf : 0 ≤ free ∧ free ≤ 1048576) (w : World) (F : List HProp) [Reads F vm encMb 4 M] (hw : holds w F) :
    Ct Tryz.prog 291 #[.int .i64 free, vm] w fun e w' => ∃ v : Value, e = .returned (.tuple #[v, .bool (Ord.safe M free)]) ∧ holds w' F := by
  refine Ct.go (args := [.int .i64 free, vm]) Tryz.func291 rfl rfl rfl hw ?_
  have hl := Ord.takL_len M M.length (List.replicate M.length false) free
  have hs : Ord.safe M free = decide ((Ord.takL M.length (List.replicate M.length false) free M).length = M.length) := rfl
  repeat' (first | (first | (apply GL.isCall; refine GL.call1 rfl rfl (fun w h => r28_May M vm hr (by omega) free hf w _ h) ?_) | (apply GL.isCall; refine GL.call rfl rfl (fun w h => r28_Taken M vm hr hn free hf w _ h) (fun r => ?_))) | first | (apply GL.isAny; first | refine GL.runA rfl ?_ | (apply GL.isStore; first | refine GL.storeBlk rfl rfl rfl rfl rfl ?_ | refine GL.storeWhole rfl rfl rfl rfl rfl ?_ | refine GL.storeBlkA rfl rfl rfl rfl rfl ?_) | refine GL.guardY rfl rfl ?_ | refine GL.guardN rfl rfl rfl ?_ | refine GL.guardU rfl rfl rfl ?_ | (apply GL.isBox; first | refine GL.boxA rfl rfl (fun _ => ?_) | refine GL.box1 rfl rfl rfl (fun _ => ?_) | refine GL.box rfl rfl (fun _ => ?_)) | (apply GL.isBuildS; first | refine GL.buildSlice1A rfl rfl rfl rfl rfl (fun _ => ?_) | refine GL.buildSlice1 rfl rfl rfl rfl rfl (fun _ => ?_)) | (apply GL.isCall; refine GL.append1 _ rfl rfl rfl rfl (by rfl) (by omega) (by omega) rfl (fun _ => ?_)) | (apply GL.isAlloc; refine GL.alloc rfl (fun _ => ?_))) | apply GL.nil | first | apply G.seq | apply G.region | apply G.block | apply G.skip | apply G.exit | apply G.ret | (apply G.isCond; first | refine G.condT rfl ?_ | refine G.condF rfl ?_) | refine G.draw (by kernel_rfl) (by kernel_rfl) ?_ | (apply GE.isAny; first | apply GE.again | apply GE.thenG | apply GE.blockN | apply GE.blockE | apply GE.thenE | apply GE.thenR | apply GE.blockR | refine GE.blockO rfl ?_ | apply GE.only) | (apply GD.isAny; first | refine GD.runA rfl ?_ | refine GD.guardY rfl rfl ?_ | refine GD.guardN rfl rfl rfl ?_ | refine GD.guardU rfl rfl rfl ?_) | apply GD.nilE | apply GD.nilL | (apply GT.isAny; refine GT.runA rfl rfl ?_) | ((first | (apply GL.isAny; refine GL.guard rfl rfl (fun hc => ?_) (fun hc => ?_)) | (apply G.isCond; refine G.cond rfl (fun hc => ?_) (fun hc => ?_)) | (apply GD.isAny; refine GD.guard rfl rfl (fun hc => ?_) (fun hc => ?_))) <;> ((try simp only [decide_eq_true_eq, decide_eq_false_iff_not, Bool.not_true, Bool.not_false, ne_eq, Classical.not_not, Int.not_lt, Int.not_le] at hc); (try (exfalso; first | omega | exact hc trivial | exact hc rfl)))))
  rename_i r
  all_goals (have hp := r.property)
  · refine GE.resMany rfl (by (repeat (first | apply Res.nil | (apply Res.tmp; rfl) | (refine Res.cellA rfl rfl rfl ?_) | (refine Res.cell1 rfl rfl ?_)))) (fun w h => ?_)
    exact ⟨_, by rw [hs, decide_eq_false (by omega)], h.sub⟩
  · refine GE.resMany rfl (by (repeat (first | apply Res.nil | (apply Res.tmp; rfl) | (refine Res.cellA rfl rfl rfl ?_) | (refine Res.cell1 rfl rfl ?_)))) (fun w h => ?_)
    exact ⟨_, by rw [hs, decide_eq_true (by omega)], h.sub⟩
end
end Go.Proofs.YtfiggkbclldccaaGreat
end
section
namespace Go.Proofs.YtfiggkbclldccaaGreat
open Go Go.RowKit Go.MapKept
set_option linter.unusedVariables false
set_option linter.unusedSimpArgs false
set_option maxRecDepth 100000
set_option maxHeartbeats 2000000
theorem r26_Do2 (a : AccM) (ha : Acc.Right a) (n : Int) (w : World) (F : List HProp) (hw : holds w F) :
    Ct Tryz.prog 189 #[.int .i64 2, .agg (encAcc a).toArray, .int .i64 n] w fun e w' => e = .returned (.tuple #[acV (Acct.act 2 (oldAc a) n).1, .int .i64 (Acct.act 2 (oldAc a) n).2]) ∧ holds w' F :=
  ⟨ref26_Do 2 (by omega) (by omega) (oldAc a) (acBd2_right (by rw [oldAc_right, decide_eq_true ha])) n w F hw⟩
theorem act2_yes {a : AccM} (ha : Acc.Right a) {n : Int} (h1 : 1 ≤ n) (h2 : n ≤ a.credits) : Acct.act 2 (oldAc a) n = (⟨a.claim, a.held + n, a.credits - n⟩, 0) := by
  rw [Acct.act_2 (by rw [oldAc_right, decide_eq_true ha]) h1, if_neg (by simp only [oldAc]; omega)]
  rfl
theorem r29_SafeY (ms2 : List MbM) (hr2 : ∀ m ∈ ms2, Acc.Right m.acc) (v2 : Value) (free waiting : Int) (hb : Bnk.both free waiting) (hn : ms2.length ≤ 100000) (w : World) (F : List HProp) [hrd : Reads F v2 encMb 4 ms2] (hw : holds w F) :
    Ct Tryz.prog 254 #[.int .i64 free, .int .i64 waiting, v2] w fun e w' => e = .returned (.bool (Ord.safe ms2 (free + waiting))) ∧ holds w' F := by
  obtain ⟨b1, b2, b3, b4⟩ := hb
  refine Ct.go (args := [.int .i64 free, .int .i64 waiting, v2]) Tryz.func254 rfl rfl rfl hw ?_
  repeat' (first | ((apply GL.isCall; refine GL.call rfl rfl (fun w h => r28_Order ms2 v2 hr2 hn (free + waiting) (by omega) w _ h) (fun r => ?_))) | first | (apply GL.isAny; first | refine GL.runA rfl ?_ | (apply GL.isStore; first | refine GL.storeBlk rfl rfl rfl rfl rfl ?_ | refine GL.storeWhole rfl rfl rfl rfl rfl ?_ | refine GL.storeBlkA rfl rfl rfl rfl rfl ?_) | refine GL.guardY rfl rfl ?_ | refine GL.guardN rfl rfl rfl ?_ | refine GL.guardU rfl rfl rfl ?_ | (apply GL.isBox; first | refine GL.boxA rfl rfl (fun _ => ?_) | refine GL.box1 rfl rfl rfl (fun _ => ?_) | refine GL.box rfl rfl (fun _ => ?_)) | (apply GL.isBuildS; first | refine GL.buildSlice1A rfl rfl rfl rfl rfl (fun _ => ?_) | refine GL.buildSlice1 rfl rfl rfl rfl rfl (fun _ => ?_)) | (apply GL.isCall; refine GL.append1 _ rfl rfl rfl rfl (by rfl) (by omega) (by omega) rfl (fun _ => ?_)) | (apply GL.isAlloc; refine GL.alloc rfl (fun _ => ?_))) | apply GL.nil | first | apply G.seq | apply G.region | apply G.block | apply G.skip | apply G.exit | apply G.ret | (apply G.isCond; first | refine G.condT rfl ?_ | refine G.condF rfl ?_) | refine G.draw (by kernel_rfl) (by kernel_rfl) ?_ | (apply GE.isAny; first | apply GE.again | apply GE.thenG | apply GE.blockN | apply GE.blockE | apply GE.thenE | apply GE.thenR | apply GE.blockR | refine GE.blockO rfl ?_ | apply GE.only) | (apply GD.isAny; first | refine GD.runA rfl ?_ | refine GD.guardY rfl rfl ?_ | refine GD.guardN rfl rfl rfl ?_ | refine GD.guardU rfl rfl rfl ?_) | apply GD.nilE | apply GD.nilL | (apply GT.isAny; refine GT.runA rfl rfl ?_) | ((first | (apply GL.isAny; refine GL.guard rfl rfl (fun hc => ?_) (fun hc => ?_)) | (apply G.isCond; refine G.cond rfl (fun hc => ?_) (fun hc => ?_)) | (apply GD.isAny; refine GD.guard rfl rfl (fun hc => ?_) (fun hc => ?_))) <;> ((try simp only [decide_eq_true_eq, decide_eq_false_iff_not, Bool.not_true, Bool.not_false, ne_eq, Classical.not_not, Int.not_lt, Int.not_le] at hc); (try (exfalso; first | omega | exact hc trivial | exact hc rfl)))))
  all_goals (first | (exfalso; omega) | (refine GE.resOne rfl (by (repeat (first | apply Res.nil | (apply Res.tmp; rfl) | (refine Res.cellA rfl rfl rfl ?_) | (refine Res.cell1 rfl rfl ?_)))) (fun w h => ?_); exact ⟨rfl, h.sub⟩))
theorem r29_SafeN (ms2 : List MbM) (v2 : Value) (free waiting : Int) (hb : ¬ Bnk.both free waiting) (w : World) (F : List HProp) (hw : holds w F) :
    Ct Tryz.prog 254 #[.int .i64 free, .int .i64 waiting, v2] w fun e w' => e = .returned (.bool false) ∧ holds w' F := by
  unfold Bnk.both at hb
  refine Ct.go (args := [.int .i64 free, .int .i64 waiting, v2]) Tryz.func254 rfl rfl rfl hw ?_
  repeat' (first | (apply GL.isAny; first | refine GL.runA rfl ?_ | (apply GL.isStore; first | refine GL.storeBlk rfl rfl rfl rfl rfl ?_ | refine GL.storeWhole rfl rfl rfl rfl rfl ?_ | refine GL.storeBlkA rfl rfl rfl rfl rfl ?_) | refine GL.guardY rfl rfl ?_ | refine GL.guardN rfl rfl rfl ?_ | refine GL.guardU rfl rfl rfl ?_ | (apply GL.isBox; first | refine GL.boxA rfl rfl (fun _ => ?_) | refine GL.box1 rfl rfl rfl (fun _ => ?_) | refine GL.box rfl rfl (fun _ => ?_)) | (apply GL.isBuildS; first | refine GL.buildSlice1A rfl rfl rfl rfl rfl (fun _ => ?_) | refine GL.buildSlice1 rfl rfl rfl rfl rfl (fun _ => ?_)) | (apply GL.isCall; refine GL.append1 _ rfl rfl rfl rfl (by rfl) (by omega) (by omega) rfl (fun _ => ?_)) | (apply GL.isAlloc; refine GL.alloc rfl (fun _ => ?_))) | apply GL.nil | first | apply G.seq | apply G.region | apply G.block | apply G.skip | apply G.exit | apply G.ret | (apply G.isCond; first | refine G.condT rfl ?_ | refine G.condF rfl ?_) | refine G.draw (by kernel_rfl) (by kernel_rfl) ?_ | (apply GE.isAny; first | apply GE.again | apply GE.thenG | apply GE.blockN | apply GE.blockE | apply GE.thenE | apply GE.thenR | apply GE.blockR | refine GE.blockO rfl ?_ | apply GE.only) | (apply GD.isAny; first | refine GD.runA rfl ?_ | refine GD.guardY rfl rfl ?_ | refine GD.guardN rfl rfl rfl ?_ | refine GD.guardU rfl rfl rfl ?_) | apply GD.nilE | apply GD.nilL | (apply GT.isAny; refine GT.runA rfl rfl ?_) | ((first | (apply GL.isAny; refine GL.guard rfl rfl (fun hc => ?_) (fun hc => ?_)) | (apply G.isCond; refine G.cond rfl (fun hc => ?_) (fun hc => ?_)) | (apply GD.isAny; refine GD.guard rfl rfl (fun hc => ?_) (fun hc => ?_))) <;> ((try simp only [decide_eq_true_eq, decide_eq_false_iff_not, Bool.not_true, Bool.not_false, ne_eq, Classical.not_not, Int.not_lt, Int.not_le] at hc); (try (exfalso; first | omega | exact hc trivial | exact hc rfl)))))
  all_goals (first | (exfalso; omega) | (refine GE.resOne rfl (by (repeat (first | apply Res.nil | (apply Res.tmp; rfl) | (refine Res.cellA rfl rfl rfl ?_) | (refine Res.cell1 rfl rfl ?_)))) (fun w h => ?_); exact ⟨rfl, h.sub⟩))
section
variable (v : Value) (ms : List MbM) (hr : ∀ m ∈ ms, Acc.Right m.acc)
include hr
theorem r29_AfterN (at_ n : Int) (hn : ms.length ≤ 100000) (hno : at_ < 0 ∨ (ms.length : Int) ≤ at_ ∨ n < 1 ∨ ∀ (h : at_.toNat < ms.length), (ms[at_.toNat]).acc.credits < n) (w : World) (F : List HProp) [hrd : Reads F v encMb 4 ms] (hw : holds w F) :
    Ct Tryz.prog 253 #[v, .int .i64 at_, .int .i64 n] w fun e w' => e = .returned (.tuple #[.slice none 0 0, .bool false]) ∧ holds w' F := by
  obtain ⟨va, vc, rfl, _⟩ := (hrd.at_ w hw).form
  refine Ct.go (args := [.slice va ms.length vc, .int .i64 at_, .int .i64 n]) Tryz.func253 rfl rfl rfl hw ?_
  by_cases hin : 0 ≤ at_ ∧ at_ < ms.length
  · obtain ⟨i, rfl⟩ : ∃ i : Nat, at_ = i := ⟨at_.toNat, by omega⟩
    have hi : i < ms.length := by omega
    have hm := hr _ (List.getElem_mem hi)
    have hno2 : n < 1 ∨ (ms[i]).acc.credits < n := by
      rcases hno with h | h | h | h
      · omega
      · omega
      · exact .inl h
      · exact .inr (h hi)
    obtain ⟨e, he, hne⟩ := act2_no hm hno2
    have CG := r26_Do2 (ms[i]).acc hm n
    rw [he] at CG
    clear hno hno2
    repeat' (first | (first | (apply GL.isAny; refine GL.run (by apply Runs.isLoad; exact Runs.loadRowA rfl (by first | omega | decide) rfl rfl) rfl ?_) | (apply GL.isCall; refine GL.call1 (vs := [.int .i64 2, .agg (encAcc (ms[i]).acc).toArray, .int .i64 n]) rfl rfl (fun w h => CG w _ h) ?_)) | first | (apply GL.isAny; first | refine GL.runA rfl ?_ | (apply GL.isStore; first | refine GL.storeBlk rfl rfl rfl rfl rfl ?_ | refine GL.storeWhole rfl rfl rfl rfl rfl ?_ | refine GL.storeBlkA rfl rfl rfl rfl rfl ?_) | refine GL.guardY rfl rfl ?_ | refine GL.guardN rfl rfl rfl ?_ | refine GL.guardU rfl rfl rfl ?_ | (apply GL.isBox; first | refine GL.boxA rfl rfl (fun _ => ?_) | refine GL.box1 rfl rfl rfl (fun _ => ?_) | refine GL.box rfl rfl (fun _ => ?_)) | (apply GL.isBuildS; first | refine GL.buildSlice1A rfl rfl rfl rfl rfl (fun _ => ?_) | refine GL.buildSlice1 rfl rfl rfl rfl rfl (fun _ => ?_)) | (apply GL.isCall; refine GL.append1 _ rfl rfl rfl rfl (by rfl) (by omega) (by omega) rfl (fun _ => ?_)) | (apply GL.isAlloc; refine GL.alloc rfl (fun _ => ?_))) | apply GL.nil | first | apply G.seq | apply G.region | apply G.block | apply G.skip | apply G.exit | apply G.ret | (apply G.isCond; first | refine G.condT rfl ?_ | refine G.condF rfl ?_) | refine G.draw (by kernel_rfl) (by kernel_rfl) ?_ | (apply GE.isAny; first | apply GE.again | apply GE.thenG | apply GE.blockN | apply GE.blockE | apply GE.thenE | apply GE.thenR | apply GE.blockR | refine GE.blockO rfl ?_ | apply GE.only) | (apply GD.isAny; first | refine GD.runA rfl ?_ | refine GD.guardY rfl rfl ?_ | refine GD.guardN rfl rfl rfl ?_ | refine GD.guardU rfl rfl rfl ?_) | apply GD.nilE | apply GD.nilL | (apply GT.isAny; refine GT.runA rfl rfl ?_) | ((first | (apply GL.isAny; refine GL.guard rfl rfl (fun hc => ?_) (fun hc => ?_)) | (apply G.isCond; refine G.cond rfl (fun hc => ?_) (fun hc => ?_)) | (apply GD.isAny; refine GD.guard rfl rfl (fun hc => ?_) (fun hc => ?_))) <;> ((try simp only [decide_eq_true_eq, decide_eq_false_iff_not, Bool.not_true, Bool.not_false, ne_eq, Classical.not_not, Int.not_lt, Int.not_le] at hc); (try (exfalso; first | omega | exact hc trivial | exact hc rfl)))))
    all_goals (first | (exfalso; omega) | (refine GE.resMany rfl (by (repeat (first | apply Res.nil | (apply Res.tmp; rfl) | (refine Res.cellA rfl rfl rfl ?_) | (refine Res.cell1 rfl rfl ?_)))) (fun w h => ?_); exact ⟨rfl, h.sub⟩) | (exfalso; exact hne (by assumption)))
  · clear hno
    repeat' (first | (apply GL.isAny; first | refine GL.runA rfl ?_ | (apply GL.isStore; first | refine GL.storeBlk rfl rfl rfl rfl rfl ?_ | refine GL.storeWhole rfl rfl rfl rfl rfl ?_ | refine GL.storeBlkA rfl rfl rfl rfl rfl ?_) | refine GL.guardY rfl rfl ?_ | refine GL.guardN rfl rfl rfl ?_ | refine GL.guardU rfl rfl rfl ?_ | (apply GL.isBox; first | refine GL.boxA rfl rfl (fun _ => ?_) | refine GL.box1 rfl rfl rfl (fun _ => ?_) | refine GL.box rfl rfl (fun _ => ?_)) | (apply GL.isBuildS; first | refine GL.buildSlice1A rfl rfl rfl rfl rfl (fun _ => ?_) | refine GL.buildSlice1 rfl rfl rfl rfl rfl (fun _ => ?_)) | (apply GL.isCall; refine GL.append1 _ rfl rfl rfl rfl (by rfl) (by omega) (by omega) rfl (fun _ => ?_)) | (apply GL.isAlloc; refine GL.alloc rfl (fun _ => ?_))) | apply GL.nil | first | apply G.seq | apply G.region | apply G.block | apply G.skip | apply G.exit | apply G.ret | (apply G.isCond; first | refine G.condT rfl ?_ | refine G.condF rfl ?_) | refine G.draw (by kernel_rfl) (by kernel_rfl) ?_ | (apply GE.isAny; first | apply GE.again | apply GE.thenG | apply GE.blockN | apply GE.blockE | apply GE.thenE | apply GE.thenR | apply GE.blockR | refine GE.blockO rfl ?_ | apply GE.only) | (apply GD.isAny; first | refine GD.runA rfl ?_ | refine GD.guardY rfl rfl ?_ | refine GD.guardN rfl rfl rfl ?_ | refine GD.guardU rfl rfl rfl ?_) | apply GD.nilE | apply GD.nilL | (apply GT.isAny; refine GT.runA rfl rfl ?_) | ((first | (apply GL.isAny; refine GL.guard rfl rfl (fun hc => ?_) (fun hc => ?_)) | (apply G.isCond; refine G.cond rfl (fun hc => ?_) (fun hc => ?_)) | (apply GD.isAny; refine GD.guard rfl rfl (fun hc => ?_) (fun hc => ?_))) <;> ((try simp only [decide_eq_true_eq, decide_eq_false_iff_not, Bool.not_true, Bool.not_false, ne_eq, Classical.not_not, Int.not_lt, Int.not_le] at hc); (try (exfalso; first | omega | exact hc trivial | exact hc rfl)))))
    all_goals (first | (exfalso; omega) | (refine GE.resMany rfl (by (repeat (first | apply Res.nil | (apply Res.tmp; rfl) | (refine Res.cellA rfl rfl rfl ?_) | (refine Res.cell1 rfl rfl ?_)))) (fun w h => ?_); exact ⟨rfl, h.sub⟩))
theorem r29_AfterY (i : Nat) (hi : i < ms.length) (n : Int) (h1 : 1 ≤ n) (h2 : n ≤ (ms[i]).acc.credits) (hn : ms.length ≤ 100000) (w : World) (F : List HProp) [hrd : Reads F v encMb 4 ms] (hw : holds w F) :
    Ct Tryz.prog 253 #[v, .int .i64 i, .int .i64 n] w fun e w' => ∃ v' : Value, e = .returned (.tuple #[v', .bool true]) ∧ holds w' (owns 166 encMb 4 v' (ms.set i ⟨(ms[i]).id, Acc.gr (ms[i]).acc n⟩) :: F) := by
  obtain ⟨va, vc, rfl, _⟩ := (hrd.at_ w hw).form
  have hm := hr _ (List.getElem_mem hi)
  have CG := r26_Do2 (ms[i]).acc hm n
  rw [act2_yes hm h1 h2] at CG
  refine Ct.go (args := [.slice va ms.length vc, .int .i64 i, .int .i64 n]) Tryz.func253 rfl rfl rfl hw ?_
  repeat' (first | (first | (apply GL.isAny; refine GL.run (by apply Runs.isLoad; exact Runs.loadRowA rfl (by first | omega | decide) rfl rfl) rfl ?_) | (apply GL.isCall; refine GL.call1 (vs := [.int .i64 2, .agg (encAcc (ms[i]).acc).toArray, .int .i64 n]) rfl rfl (fun w h => CG w _ h) ?_) | (apply GL.isAny; refine GL.build0 encMb 4 rfl (fun u0 _ => ?_)) | (apply GL.isCall; refine GL.appendAny rfl rfl rfl rfl rfl rfl (by first | omega | (simp only [List.length_nil, List.length_append, List.length_cons, List.length_take, List.length_drop]; omega)) (by first | omega | (simp only [List.length_nil, List.length_append, List.length_cons, List.length_take, List.length_drop]; omega)) rfl (fun r0 _ => ?_); rw [List.nil_append]) | (refine G.isRegion 7 ?_; refine G.drawTail 10 (by kernel_rfl) (by simp only [List.take_succ_cons, List.take_zero]; rfl) (by simp only [List.drop_succ_cons, List.drop_zero]; rfl) (by kernel_rfl) ?_)) | first | (apply GL.isAny; first | refine GL.runA rfl ?_ | (apply GL.isStore; first | refine GL.storeBlk rfl rfl rfl rfl rfl ?_ | refine GL.storeWhole rfl rfl rfl rfl rfl ?_ | refine GL.storeBlkA rfl rfl rfl rfl rfl ?_) | refine GL.guardY rfl rfl ?_ | refine GL.guardN rfl rfl rfl ?_ | refine GL.guardU rfl rfl rfl ?_ | (apply GL.isBox; first | refine GL.boxA rfl rfl (fun _ => ?_) | refine GL.box1 rfl rfl rfl (fun _ => ?_) | refine GL.box rfl rfl (fun _ => ?_)) | (apply GL.isBuildS; first | refine GL.buildSlice1A rfl rfl rfl rfl rfl (fun _ => ?_) | refine GL.buildSlice1 rfl rfl rfl rfl rfl (fun _ => ?_)) | (apply GL.isCall; refine GL.append1 _ rfl rfl rfl rfl (by rfl) (by omega) (by omega) rfl (fun _ => ?_)) | (apply GL.isAlloc; refine GL.alloc rfl (fun _ => ?_))) | apply GL.nil | first | apply G.seq | apply G.region | apply G.block | apply G.skip | apply G.exit | apply G.ret | (apply G.isCond; first | refine G.condT rfl ?_ | refine G.condF rfl ?_) | refine G.draw (by kernel_rfl) (by kernel_rfl) ?_ | (apply GE.isAny; first | apply GE.again | apply GE.thenG | apply GE.blockN | apply GE.blockE | apply GE.thenE | apply GE.thenR | apply GE.blockR | refine GE.blockO rfl ?_ | apply GE.only) | (apply GD.isAny; first | refine GD.runA rfl ?_ | refine GD.guardY rfl rfl ?_ | refine GD.guardN rfl rfl rfl ?_ | refine GD.guardU rfl rfl rfl ?_) | apply GD.nilE | apply GD.nilL | (apply GT.isAny; refine GT.runA rfl rfl ?_) | ((first | (apply GL.isAny; refine GL.guard rfl rfl (fun hc => ?_) (fun hc => ?_)) | (apply G.isCond; refine G.cond rfl (fun hc => ?_) (fun hc => ?_)) | (apply GD.isAny; refine GD.guard rfl rfl (fun hc => ?_) (fun hc => ?_))) <;> ((try simp only [decide_eq_true_eq, decide_eq_false_iff_not, Bool.not_true, Bool.not_false, ne_eq, Classical.not_not, Int.not_lt, Int.not_le] at hc); (try (exfalso; first | omega | exact hc trivial | exact hc rfl)))))
  refine GL.storeElemA (i := i) (f := 0) (vs := #[.int .i64 (ms[i]).id, .int .i64 (ms[i]).acc.claim, .int .i64 ((ms[i]).acc.held + n), .int .i64 ((ms[i]).acc.credits - n)]) ⟨(ms[i]).id, Acc.gr (ms[i]).acc n⟩ rfl rfl (by first | omega | decide) rfl rfl rfl rfl ?_
  repeat' (first | (apply GL.isAny; first | refine GL.runA rfl ?_ | (apply GL.isStore; first | refine GL.storeBlk rfl rfl rfl rfl rfl ?_ | refine GL.storeWhole rfl rfl rfl rfl rfl ?_ | refine GL.storeBlkA rfl rfl rfl rfl rfl ?_) | refine GL.guardY rfl rfl ?_ | refine GL.guardN rfl rfl rfl ?_ | refine GL.guardU rfl rfl rfl ?_ | (apply GL.isBox; first | refine GL.boxA rfl rfl (fun _ => ?_) | refine GL.box1 rfl rfl rfl (fun _ => ?_) | refine GL.box rfl rfl (fun _ => ?_)) | (apply GL.isBuildS; first | refine GL.buildSlice1A rfl rfl rfl rfl rfl (fun _ => ?_) | refine GL.buildSlice1 rfl rfl rfl rfl rfl (fun _ => ?_)) | (apply GL.isCall; refine GL.append1 _ rfl rfl rfl rfl (by rfl) (by omega) (by omega) rfl (fun _ => ?_)) | (apply GL.isAlloc; refine GL.alloc rfl (fun _ => ?_))) | apply GL.nil | first | apply G.seq | apply G.region | apply G.block | apply G.skip | apply G.exit | apply G.ret | (apply G.isCond; first | refine G.condT rfl ?_ | refine G.condF rfl ?_) | refine G.draw (by kernel_rfl) (by kernel_rfl) ?_ | (apply GE.isAny; first | apply GE.again | apply GE.thenG | apply GE.blockN | apply GE.blockE | apply GE.thenE | apply GE.thenR | apply GE.blockR | refine GE.blockO rfl ?_ | apply GE.only) | (apply GD.isAny; first | refine GD.runA rfl ?_ | refine GD.guardY rfl rfl ?_ | refine GD.guardN rfl rfl rfl ?_ | refine GD.guardU rfl rfl rfl ?_) | apply GD.nilE | apply GD.nilL | (apply GT.isAny; refine GT.runA rfl rfl ?_) | ((first | (apply GL.isAny; refine GL.guard rfl rfl (fun hc => ?_) (fun hc => ?_)) | (apply G.isCond; refine G.cond rfl (fun hc => ?_) (fun hc => ?_)) | (apply GD.isAny; refine GD.guard rfl rfl (fun hc => ?_) (fun hc => ?_))) <;> ((try simp only [decide_eq_true_eq, decide_eq_false_iff_not, Bool.not_true, Bool.not_false, ne_eq, Classical.not_not, Int.not_lt, Int.not_le] at hc); (try (exfalso; first | omega | exact hc trivial | exact hc rfl)))))
  refine GE.resMany rfl (by (repeat (first | apply Res.nil | (apply Res.tmp; rfl) | (refine Res.cellA rfl rfl rfl ?_) | (refine Res.cell1 rfl rfl ?_)))) (fun w h => ?_)
  exact ⟨r0, rfl, h.sub⟩
theorem r29_May (free waiting at_ n : Int) (hn : ms.length ≤ 100000) (w : World) (F : List HProp) [hrd : Reads F v encMb 4 ms] (hw : holds w F) :
    Ct Tryz.prog 191 #[.int .i64 free, .int .i64 waiting, v, .int .i64 at_, .int .i64 n] w fun e w' => e = .returned (.bool (Bnk.may free waiting ms at_ n)) ∧ holds w' F := by
  have CN := fun (hno : at_ < 0 ∨ (ms.length : Int) ≤ at_ ∨ n < 1 ∨ ∀ (h : at_.toNat < ms.length), (ms[at_.toNat]).acc.credits < n) w F [Reads F v encMb 4 ms] hw => r29_AfterN v ms hr at_ n hn hno w F hw
  by_cases hp : 1 ≤ n ∧ n ≤ free ∧ free ≤ 1048576 ∧ waiting ≤ 1048576 - free
  · by_cases hin : 0 ≤ at_ ∧ at_ < ms.length
    · obtain ⟨i, rfl⟩ : ∃ i : Nat, at_ = i := ⟨at_.toNat, by omega⟩
      have hi : i < ms.length := by omega
      have hm := hr _ (List.getElem_mem hi)
      by_cases hy : n ≤ (ms[i]).acc.credits
      · have hr2 : Acc.Right (Acc.gr (ms[i]).acc n) := by unfold Acc.Right at hm ⊢; simp only [Acc.gr]; omega
        have hset : ∀ m ∈ ms.set i ⟨(ms[i]).id, Acc.gr (ms[i]).acc n⟩, Acc.Right m.acc := fun m hm => by
          rcases List.mem_or_eq_of_mem_set hm with h | rfl
          · exact hr m h
          · exact hr2
        have CY := fun w F [Reads F v encMb 4 ms] hw => r29_AfterY v ms hr i hi n hp.1 hy hn w F hw
        clear CN
        by_cases hwt : 0 ≤ waiting
        · have e1 : Bnk.may free waiting ms i n = Ord.safe (ms.set i ⟨(ms[i]).id, Acc.gr (ms[i]).acc n⟩) (free - n + waiting) := by
            unfold Bnk.may Bnk.mayAt Bnk.both
            rw [decide_eq_true (by omega), Int.toNat_natCast, List.getElem?_eq_getElem hi]
            simp only [decide_eq_true hy, Bool.true_and]
          rw [e1]
          have CS := fun v2 w F [Reads F v2 encMb 4 (ms.set i ⟨(ms[i]).id, Acc.gr (ms[i]).acc n⟩)] hw => r29_SafeY (ms.set i ⟨(ms[i]).id, Acc.gr (ms[i]).acc n⟩) hset v2 (free - n) waiting (by unfold Bnk.both; omega) (by rw [List.length_set]; exact hn) w F hw
          refine Ct.go (args := [.int .i64 free, .int .i64 waiting, v, .int .i64 i, .int .i64 n]) Tryz.func191 rfl rfl rfl hw ?_
          repeat' (first | (first | (apply GL.isCall; refine GL.call rfl rfl (fun w h => CY w _ h) (fun v2 => ?_)) | first | (apply GL.isCall; refine GL.call1 rfl rfl (fun w h => CS v2 w _ h) ?_) | (apply GD.isAny; refine GD.call rfl rfl (fun w F' h => CS v2 w _ h) ?_)) | first | (apply GL.isAny; first | refine GL.runA rfl ?_ | (apply GL.isStore; first | refine GL.storeBlk rfl rfl rfl rfl rfl ?_ | refine GL.storeWhole rfl rfl rfl rfl rfl ?_ | refine GL.storeBlkA rfl rfl rfl rfl rfl ?_) | refine GL.guardY rfl rfl ?_ | refine GL.guardN rfl rfl rfl ?_ | refine GL.guardU rfl rfl rfl ?_ | (apply GL.isBox; first | refine GL.boxA rfl rfl (fun _ => ?_) | refine GL.box1 rfl rfl rfl (fun _ => ?_) | refine GL.box rfl rfl (fun _ => ?_)) | (apply GL.isBuildS; first | refine GL.buildSlice1A rfl rfl rfl rfl rfl (fun _ => ?_) | refine GL.buildSlice1 rfl rfl rfl rfl rfl (fun _ => ?_)) | (apply GL.isCall; refine GL.append1 _ rfl rfl rfl rfl (by rfl) (by omega) (by omega) rfl (fun _ => ?_)) | (apply GL.isAlloc; refine GL.alloc rfl (fun _ => ?_))) | apply GL.nil | first | apply G.seq | apply G.region | apply G.block | apply G.skip | apply G.exit | apply G.ret | (apply G.isCond; first | refine G.condT rfl ?_ | refine G.condF rfl ?_) | refine G.draw (by kernel_rfl) (by kernel_rfl) ?_ | (apply GE.isAny; first | apply GE.again | apply GE.thenG | apply GE.blockN | apply GE.blockE | apply GE.thenE | apply GE.thenR | apply GE.blockR | refine GE.blockO rfl ?_ | apply GE.only) | (apply GD.isAny; first | refine GD.runA rfl ?_ | refine GD.guardY rfl rfl ?_ | refine GD.guardN rfl rfl rfl ?_ | refine GD.guardU rfl rfl rfl ?_) | apply GD.nilE | apply GD.nilL | (apply GT.isAny; refine GT.runA rfl rfl ?_) | ((first | (apply GL.isAny; refine GL.guard rfl rfl (fun hc => ?_) (fun hc => ?_)) | (apply G.isCond; refine G.cond rfl (fun hc => ?_) (fun hc => ?_)) | (apply GD.isAny; refine GD.guard rfl rfl (fun hc => ?_) (fun hc => ?_))) <;> ((try simp only [decide_eq_true_eq, decide_eq_false_iff_not, Bool.not_true, Bool.not_false, ne_eq, Classical.not_not, Int.not_lt, Int.not_le] at hc); (try (exfalso; first | omega | exact hc trivial | exact hc rfl)))))
          all_goals (first | (exfalso; omega) | (refine GE.resOne rfl (by (repeat (first | apply Res.nil | (apply Res.tmp; rfl) | (refine Res.cellA rfl rfl rfl ?_) | (refine Res.cell1 rfl rfl ?_)))) (fun w h => ?_); exact ⟨rfl, h.sub⟩))
        · have e1 : Bnk.may free waiting ms i n = false := by
            unfold Bnk.may Bnk.both
            rw [decide_eq_false (by omega), Bool.false_and]
          rw [e1]
          have CS := fun v2 w F hw => r29_SafeN (ms.set i ⟨(ms[i]).id, Acc.gr (ms[i]).acc n⟩) v2 (free - n) waiting (by unfold Bnk.both; omega) w F hw
          refine Ct.go (args := [.int .i64 free, .int .i64 waiting, v, .int .i64 i, .int .i64 n]) Tryz.func191 rfl rfl rfl hw ?_
          repeat' (first | (first | (apply GL.isCall; refine GL.call rfl rfl (fun w h => CY w _ h) (fun v2 => ?_)) | first | (apply GL.isCall; refine GL.call1 rfl rfl (fun w h => CS v2 w _ h) ?_) | (apply GD.isAny; refine GD.call rfl rfl (fun w F' h => CS v2 w _ h) ?_)) | first | (apply GL.isAny; first | refine GL.runA rfl ?_ | (apply GL.isStore; first | refine GL.storeBlk rfl rfl rfl rfl rfl ?_ | refine GL.storeWhole rfl rfl rfl rfl rfl ?_ | refine GL.storeBlkA rfl rfl rfl rfl rfl ?_) | refine GL.guardY rfl rfl ?_ | refine GL.guardN rfl rfl rfl ?_ | refine GL.guardU rfl rfl rfl ?_ | (apply GL.isBox; first | refine GL.boxA rfl rfl (fun _ => ?_) | refine GL.box1 rfl rfl rfl (fun _ => ?_) | refine GL.box rfl rfl (fun _ => ?_)) | (apply GL.isBuildS; first | refine GL.buildSlice1A rfl rfl rfl rfl rfl (fun _ => ?_) | refine GL.buildSlice1 rfl rfl rfl rfl rfl (fun _ => ?_)) | (apply GL.isCall; refine GL.append1 _ rfl rfl rfl rfl (by rfl) (by omega) (by omega) rfl (fun _ => ?_)) | (apply GL.isAlloc; refine GL.alloc rfl (fun _ => ?_))) | apply GL.nil | first | apply G.seq | apply G.region | apply G.block | apply G.skip | apply G.exit | apply G.ret | (apply G.isCond; first | refine G.condT rfl ?_ | refine G.condF rfl ?_) | refine G.draw (by kernel_rfl) (by kernel_rfl) ?_ | (apply GE.isAny; first | apply GE.again | apply GE.thenG | apply GE.blockN | apply GE.blockE | apply GE.thenE | apply GE.thenR | apply GE.blockR | refine GE.blockO rfl ?_ | apply GE.only) | (apply GD.isAny; first | refine GD.runA rfl ?_ | refine GD.guardY rfl rfl ?_ | refine GD.guardN rfl rfl rfl ?_ | refine GD.guardU rfl rfl rfl ?_) | apply GD.nilE | apply GD.nilL | (apply GT.isAny; refine GT.runA rfl rfl ?_) | ((first | (apply GL.isAny; refine GL.guard rfl rfl (fun hc => ?_) (fun hc => ?_)) | (apply G.isCond; refine G.cond rfl (fun hc => ?_) (fun hc => ?_)) | (apply GD.isAny; refine GD.guard rfl rfl (fun hc => ?_) (fun hc => ?_))) <;> ((try simp only [decide_eq_true_eq, decide_eq_false_iff_not, Bool.not_true, Bool.not_false, ne_eq, Classical.not_not, Int.not_lt, Int.not_le] at hc); (try (exfalso; first | omega | exact hc trivial | exact hc rfl)))))
          all_goals (first | (exfalso; omega) | (refine GE.resOne rfl (by (repeat (first | apply Res.nil | (apply Res.tmp; rfl) | (refine Res.cellA rfl rfl rfl ?_) | (refine Res.cell1 rfl rfl ?_)))) (fun w h => ?_); exact ⟨rfl, h.sub⟩))
      · have e1 : Bnk.may free waiting ms i n = false := by
          unfold Bnk.may Bnk.mayAt
          rw [Int.toNat_natCast, List.getElem?_eq_getElem hi]
          dsimp only
          rw [decide_eq_false hy, Bool.false_and, Bool.and_false]
        rw [e1]
        have C := CN (.inr (.inr (.inr fun h => by simp only [Int.toNat_natCast]; omega)))
        clear CN
        refine Ct.go (args := [.int .i64 free, .int .i64 waiting, v, .int .i64 i, .int .i64 n]) Tryz.func191 rfl rfl rfl hw ?_
        repeat' (first | ((apply GL.isCall; refine GL.call1 rfl rfl (fun w h => C w _ h) ?_)) | first | (apply GL.isAny; first | refine GL.runA rfl ?_ | (apply GL.isStore; first | refine GL.storeBlk rfl rfl rfl rfl rfl ?_ | refine GL.storeWhole rfl rfl rfl rfl rfl ?_ | refine GL.storeBlkA rfl rfl rfl rfl rfl ?_) | refine GL.guardY rfl rfl ?_ | refine GL.guardN rfl rfl rfl ?_ | refine GL.guardU rfl rfl rfl ?_ | (apply GL.isBox; first | refine GL.boxA rfl rfl (fun _ => ?_) | refine GL.box1 rfl rfl rfl (fun _ => ?_) | refine GL.box rfl rfl (fun _ => ?_)) | (apply GL.isBuildS; first | refine GL.buildSlice1A rfl rfl rfl rfl rfl (fun _ => ?_) | refine GL.buildSlice1 rfl rfl rfl rfl rfl (fun _ => ?_)) | (apply GL.isCall; refine GL.append1 _ rfl rfl rfl rfl (by rfl) (by omega) (by omega) rfl (fun _ => ?_)) | (apply GL.isAlloc; refine GL.alloc rfl (fun _ => ?_))) | apply GL.nil | first | apply G.seq | apply G.region | apply G.block | apply G.skip | apply G.exit | apply G.ret | (apply G.isCond; first | refine G.condT rfl ?_ | refine G.condF rfl ?_) | refine G.draw (by kernel_rfl) (by kernel_rfl) ?_ | (apply GE.isAny; first | apply GE.again | apply GE.thenG | apply GE.blockN | apply GE.blockE | apply GE.thenE | apply GE.thenR | apply GE.blockR | refine GE.blockO rfl ?_ | apply GE.only) | (apply GD.isAny; first | refine GD.runA rfl ?_ | refine GD.guardY rfl rfl ?_ | refine GD.guardN rfl rfl rfl ?_ | refine GD.guardU rfl rfl rfl ?_) | apply GD.nilE | apply GD.nilL | (apply GT.isAny; refine GT.runA rfl rfl ?_) | ((first | (apply GL.isAny; refine GL.guard rfl rfl (fun hc => ?_) (fun hc => ?_)) | (apply G.isCond; refine G.cond rfl (fun hc => ?_) (fun hc => ?_)) | (apply GD.isAny; refine GD.guard rfl rfl (fun hc => ?_) (fun hc => ?_))) <;> ((try simp only [decide_eq_true_eq, decide_eq_false_iff_not, Bool.not_true, Bool.not_false, ne_eq, Classical.not_not, Int.not_lt, Int.not_le] at hc); (try (exfalso; first | omega | exact hc trivial | exact hc rfl)))))
        all_goals (first | (exfalso; omega) | (refine GE.resOne rfl (by (repeat (first | apply Res.nil | (apply Res.tmp; rfl) | (refine Res.cellA rfl rfl rfl ?_) | (refine Res.cell1 rfl rfl ?_)))) (fun w h => ?_); exact ⟨rfl, h.sub⟩))
    · have e1 : Bnk.may free waiting ms at_ n = false := by
        unfold Bnk.may
        by_cases h1 : 0 ≤ at_
        · rw [List.getElem?_eq_none (by omega), Bool.and_false]
        · rw [decide_eq_false (by omega), Bool.false_and]
      rw [e1]
      have C := CN (if h1 : at_ < 0 then .inl h1 else .inr (.inl (Int.not_lt.1 fun h2 => hin ⟨Int.not_lt.1 h1, h2⟩)))
      clear CN
      refine Ct.go (args := [.int .i64 free, .int .i64 waiting, v, .int .i64 at_, .int .i64 n]) Tryz.func191 rfl rfl rfl hw ?_
      repeat' (first | ((apply GL.isCall; refine GL.call1 rfl rfl (fun w h => C w _ h) ?_)) | first | (apply GL.isAny; first | refine GL.runA rfl ?_ | (apply GL.isStore; first | refine GL.storeBlk rfl rfl rfl rfl rfl ?_ | refine GL.storeWhole rfl rfl rfl rfl rfl ?_ | refine GL.storeBlkA rfl rfl rfl rfl rfl ?_) | refine GL.guardY rfl rfl ?_ | refine GL.guardN rfl rfl rfl ?_ | refine GL.guardU rfl rfl rfl ?_ | (apply GL.isBox; first | refine GL.boxA rfl rfl (fun _ => ?_) | refine GL.box1 rfl rfl rfl (fun _ => ?_) | refine GL.box rfl rfl (fun _ => ?_)) | (apply GL.isBuildS; first | refine GL.buildSlice1A rfl rfl rfl rfl rfl (fun _ => ?_) | refine GL.buildSlice1 rfl rfl rfl rfl rfl (fun _ => ?_)) | (apply GL.isCall; refine GL.append1 _ rfl rfl rfl rfl (by rfl) (by omega) (by omega) rfl (fun _ => ?_)) | (apply GL.isAlloc; refine GL.alloc rfl (fun _ => ?_))) | apply GL.nil | first | apply G.seq | apply G.region | apply G.block | apply G.skip | apply G.exit | apply G.ret | (apply G.isCond; first | refine G.condT rfl ?_ | refine G.condF rfl ?_) | refine G.draw (by kernel_rfl) (by kernel_rfl) ?_ | (apply GE.isAny; first | apply GE.again | apply GE.thenG | apply GE.blockN | apply GE.blockE | apply GE.thenE | apply GE.thenR | apply GE.blockR | refine GE.blockO rfl ?_ | apply GE.only) | (apply GD.isAny; first | refine GD.runA rfl ?_ | refine GD.guardY rfl rfl ?_ | refine GD.guardN rfl rfl rfl ?_ | refine GD.guardU rfl rfl rfl ?_) | apply GD.nilE | apply GD.nilL | (apply GT.isAny; refine GT.runA rfl rfl ?_) | ((first | (apply GL.isAny; refine GL.guard rfl rfl (fun hc => ?_) (fun hc => ?_)) | (apply G.isCond; refine G.cond rfl (fun hc => ?_) (fun hc => ?_)) | (apply GD.isAny; refine GD.guard rfl rfl (fun hc => ?_) (fun hc => ?_))) <;> ((try simp only [decide_eq_true_eq, decide_eq_false_iff_not, Bool.not_true, Bool.not_false, ne_eq, Classical.not_not, Int.not_lt, Int.not_le] at hc); (try (exfalso; first | omega | exact hc trivial | exact hc rfl)))))
      all_goals (first | (exfalso; omega) | (refine GE.resOne rfl (by (repeat (first | apply Res.nil | (apply Res.tmp; rfl) | (refine Res.cellA rfl rfl rfl ?_) | (refine Res.cell1 rfl rfl ?_)))) (fun w h => ?_); exact ⟨rfl, h.sub⟩))
  · have e1 : Bnk.may free waiting ms at_ n = false := by
      unfold Bnk.may Bnk.both
      rw [decide_eq_false (by omega), Bool.false_and]
    rw [e1]
    clear CN
    refine Ct.go (args := [.int .i64 free, .int .i64 waiting, v, .int .i64 at_, .int .i64 n]) Tryz.func191 rfl rfl rfl hw ?_
    repeat' (first | (apply GL.isAny; first | refine GL.runA rfl ?_ | (apply GL.isStore; first | refine GL.storeBlk rfl rfl rfl rfl rfl ?_ | refine GL.storeWhole rfl rfl rfl rfl rfl ?_ | refine GL.storeBlkA rfl rfl rfl rfl rfl ?_) | refine GL.guardY rfl rfl ?_ | refine GL.guardN rfl rfl rfl ?_ | refine GL.guardU rfl rfl rfl ?_ | (apply GL.isBox; first | refine GL.boxA rfl rfl (fun _ => ?_) | refine GL.box1 rfl rfl rfl (fun _ => ?_) | refine GL.box rfl rfl (fun _ => ?_)) | (apply GL.isBuildS; first | refine GL.buildSlice1A rfl rfl rfl rfl rfl (fun _ => ?_) | refine GL.buildSlice1 rfl rfl rfl rfl rfl (fun _ => ?_)) | (apply GL.isCall; refine GL.append1 _ rfl rfl rfl rfl (by rfl) (by omega) (by omega) rfl (fun _ => ?_)) | (apply GL.isAlloc; refine GL.alloc rfl (fun _ => ?_))) | apply GL.nil | first | apply G.seq | apply G.region | apply G.block | apply G.skip | apply G.exit | apply G.ret | (apply G.isCond; first | refine G.condT rfl ?_ | refine G.condF rfl ?_) | refine G.draw (by kernel_rfl) (by kernel_rfl) ?_ | (apply GE.isAny; first | apply GE.again | apply GE.thenG | apply GE.blockN | apply GE.blockE | apply GE.thenE | apply GE.thenR | apply GE.blockR | refine GE.blockO rfl ?_ | apply GE.only) | (apply GD.isAny; first | refine GD.runA rfl ?_ | refine GD.guardY rfl rfl ?_ | refine GD.guardN rfl rfl rfl ?_ | refine GD.guardU rfl rfl rfl ?_) | apply GD.nilE | apply GD.nilL | (apply GT.isAny; refine GT.runA rfl rfl ?_) | ((first | (apply GL.isAny; refine GL.guard rfl rfl (fun hc => ?_) (fun hc => ?_)) | (apply G.isCond; refine G.cond rfl (fun hc => ?_) (fun hc => ?_)) | (apply GD.isAny; refine GD.guard rfl rfl (fun hc => ?_) (fun hc => ?_))) <;> ((try simp only [decide_eq_true_eq, decide_eq_false_iff_not, Bool.not_true, Bool.not_false, ne_eq, Classical.not_not, Int.not_lt, Int.not_le] at hc); (try (exfalso; first | omega | exact hc trivial | exact hc rfl)))))
    all_goals (first | (exfalso; omega) | (refine GE.resOne rfl (by (repeat (first | apply Res.nil | (apply Res.tmp; rfl) | (refine Res.cellA rfl rfl rfl ?_) | (refine Res.cell1 rfl rfl ?_)))) (fun w h => ?_); exact ⟨rfl, h.sub⟩))
end
end Go.Proofs.YtfiggkbclldccaaGreat
end
section
namespace Go.Proofs.YtfiggkbclldccaaGreat
open Go Go.RowKit Go.MapKept
set_option maxRecDepth 100000
set_option linter.unusedVariables false
set_option maxHeartbeats 2000000
attribute [local go_sem] exactUpon looseUpon

theorem ref27_Members (w : World) (vo vg vc vA : Value) (t : AccsM) (k : Nat) (F : List HProp) (ho : t.Ok k) (hl : t.s.gens.length ≤ 1000) (hw : holds w (roBools vo (openBools t.s) :: roInts vg t.s.gens :: roInts vc t.s.closed :: roAc vA t.A :: F)) :
    Calls Tryz.prog 23 #[tV vo vg vc t.s.fresh vA] w fun e w' => ∃ a c, e = .returned (.slice a t.members.length c) ∧ holds w' (roMb (.slice a t.members.length c) t.members :: roBools vo (openBools t.s) :: roInts vg t.s.gens :: roInts vc t.s.closed :: roAc vA t.A :: F) := by
  obtain ⟨a1, c1, rfl, _⟩ := roBools_form hw
  obtain ⟨a2, c2, rfl, _⟩ := roInts_form (hw.pick 1)
  obtain ⟨a3, c3, rfl, _⟩ := roInts_form (hw.pick 2)
  obtain ⟨a4, c4, rfl, _⟩ := roAc_form (hw.pick 3)
  have h1 : holds _ (roBools (.slice a1 (openBools t.s).length c1) (openBools t.s) :: roInts (.slice a2 t.s.gens.length c2) t.s.gens :: roInts (.slice a3 t.s.closed.length c3) t.s.closed :: roAc (.slice a4 t.A.length c4) t.A :: blk w.heap.size (.cells #[.slice a1 (openBools t.s).length c1, .slice a2 t.s.gens.length c2, .slice a3 t.s.closed.length c3, .int .i64 t.s.fresh, .slice a4 t.A.length c4] 33 (0, 0)) :: F) := (hw.alloc (.cells #[.slice a1 (openBools t.s).length c1, .slice a2 t.s.gens.length c2, .slice a3 t.s.closed.length c3, .int .i64 t.s.fresh, .slice a4 t.A.length c4] 33 (0, 0))).order [1, 2, 3, 4, 0]
  have hPl : t.ids.length ≤ 1000 := by have := ho.opn_le; rw [AccsM.ids_len]; omega
  have hkp := fun p (hp : p ∈ t.ids) => keys_pos ho.good.ok p (AccsM.mem_ids.1 hp)
  have hkl := fun p (hp : p ∈ t.ids) => keys_lt ho.good.ok p (AccsM.mem_ids.1 hp)
  rw [← ho.len] at hkl
  have hAl : t.A.length ≤ 1000 := by rw [ho.len]; exact hl
  have HP := Lib.hid (rs_Places _ _ _ _ t.s k _ ho.good h1)
  have hil := AccsM.ids_len t
  rw [← hil] at HP
  clear ho hl hw hil
  change Calls _ _ _ _ fun e w' => ∃ a c, e = .returned (.slice a (t.ids.map fun p => (p, t.A.getD p.toNat ac0)).length c) ∧ holds w' (roMb (.slice a (t.ids.map fun p => (p, t.A.getD p.toNat ac0)).length c) (t.ids.map fun p => (p, t.A.getD p.toNat ac0)) :: roBools (.slice a1 (openBools t.s).length c1) (openBools t.s) :: roInts (.slice a2 t.s.gens.length c2) t.s.gens :: roInts (.slice a3 t.s.closed.length c3) t.s.closed :: roAc (.slice a4 t.A.length c4) t.A :: F)
  change Hid (Calls _ _ _ _ fun e w' => ∃ a c, e = .returned (.slice a t.ids.length c) ∧ holds w' (roInts (.slice a t.ids.length c) t.ids :: roBools (.slice a1 (openBools t.s).length c1) (openBools t.s) :: roInts (.slice a2 t.s.gens.length c2) t.s.gens :: roInts (.slice a3 t.s.closed.length c3) t.s.closed :: roAc (.slice a4 t.A.length c4) t.A :: blk w.heap.size (.cells #[.slice a1 (openBools t.s).length c1, .slice a2 t.s.gens.length c2, .slice a3 t.s.closed.length c3, .int .i64 t.s.fresh, .slice a4 t.A.length c4] 33 (0, 0)) :: F)) at HP
  obtain ⟨t0, t1, t2, t3, t4, -⟩ := cells5 (h1.pick 4)
  generalize t.ids = P at HP hkp hkl hPl ⊢
  rw [List.length_map]
  have HKP := Lib.hid hkp
  have HKL := Lib.hid hkl
  clear hkp hkl
  unfold tV
  go_enter Tryz.func23, Tryz.ntmps23
  go_wp2_with fail
  refine HP.out.mono ?_
  rintro e1 w1 ⟨a, c, rfl, h2⟩
  have h3 : holds w1 (roInts (.slice a P.length c) P :: roAc (.slice a4 t.A.length c4) t.A :: blk w.heap.size (.cells #[.slice a1 (openBools t.s).length c1, .slice a2 t.s.gens.length c2, .slice a3 t.s.closed.length c3, .int .i64 t.s.fresh, .slice a4 t.A.length c4] 33 (0, 0)) :: roBools (.slice a1 (openBools t.s).length c1) (openBools t.s) :: roInts (.slice a2 t.s.gens.length c2) t.s.gens :: roInts (.slice a3 t.s.closed.length c3) t.s.closed :: F) := h2.order [0, 4, 5, 1, 2, 3]
  clear h1 h2 HP t0 t1 t2 t3 t4
  go_wp2_with fail
  go_loopw [3, 5] (fun out i wr => ∃ (j : Nat) (ao : Option Addr) (co : Nat), j ≤ P.length ∧ i = .int .i64 j ∧ out = .slice ao j co ∧ holds wr (ownMb (.slice ao j co) ((P.take j).map fun p => (p, t.A.getD p.toNat ac0)) :: roInts (.slice a P.length c) P :: roAc (.slice a4 t.A.length c4) t.A :: blk w.heap.size (.cells #[.slice a1 (openBools t.s).length c1, .slice a2 t.s.gens.length c2, .slice a3 t.s.closed.length c3, .int .i64 t.s.fresh, .slice a4 t.A.length c4] 33 (0, 0)) :: roBools (.slice a1 (openBools t.s).length c1) (openBools t.s) :: roInts (.slice a2 t.s.gens.length c2) t.s.gens :: roInts (.slice a3 t.s.closed.length c3) t.s.closed :: F)) (fun _ i _ => P.length - (intOf i).toNat)
  case atStart => exact ⟨0, none, 0, Nat.zero_le _, rfl, rfl, holds_ownRow_nil h3 _ _⟩
  case round =>
    obtain ⟨j, ao, co, hj, rfl, rfl, h4⟩ := hrel
    clear h3
    by_cases hlt : j < P.length
    · obtain ⟨g1, o1, cp, hv, _, hc⟩ := (h4.pick 1).roIntAt (by omega)
      cases hv
      have hp0 := HKP.out P[j] (List.getElem_mem hlt)
      have hp1 := HKL.out P[j] (List.getElem_mem hlt)
      obtain ⟨q, hq⟩ := Int.eq_ofNat_of_zero_le hp0
      have hqA : q < t.A.length := by omega
      obtain ⟨g4, o4, cp4, hv, _, hc4⟩ := (h4.pick 2).roAcAt (by omega)
      cases hv
      have hs : (P.take (j + 1)).map (fun p => (p, t.A.getD p.toNat ac0)) = (P.take j).map (fun p => (p, t.A.getD p.toNat ac0)) ++ [((q : Int), t.A[q])] := by
        rw [List.take_succ_eq_append_getElem hlt, List.map_append, hq]
        simp [hqA]
      have HSE := Lib.hid (show ∀ z, holds z (roInts (.slice (some ⟨g1, o1, none⟩) P.length c) P :: roAc (.slice (some ⟨g4, o4, none⟩) t.A.length c4) t.A :: blk w.heap.size (.cells #[.slice a1 (openBools t.s).length c1, .slice a2 t.s.gens.length c2, .slice a3 t.s.closed.length c3, .int .i64 t.s.fresh, .slice (some ⟨g4, o4, none⟩) t.A.length c4] 33 (0, 0)) :: roBools (.slice a1 (openBools t.s).length c1) (openBools t.s) :: roInts (.slice a2 t.s.gens.length c2) t.s.gens :: roInts (.slice a3 t.s.closed.length c3) t.s.closed :: F) → z.cell? ⟨g1, o1 + j, none⟩ = some (.int .i64 q) ∧ z.cell? ⟨w.heap.size, 4, none⟩ = some (.slice (some ⟨g4, o4, none⟩) t.A.length c4) ∧ z.cell? ⟨g4, o4 + q * 3, none⟩ = some (.int .i64 t.A[q].claim) ∧ z.cell? ⟨g4, o4 + q * 3 + 1, none⟩ = some (.int .i64 t.A[q].held) ∧ z.cell? ⟨g4, o4 + q * 3 + 2, none⟩ = some (.int .i64 t.A[q].credits) from fun z h => by
        obtain ⟨_, _, _, hv, _, hc⟩ := h.roIntAt (by omega)
        cases hv
        obtain ⟨_, _, _, hv, _, hc4⟩ := (h.pick 1).roAcAt (by omega)
        cases hv
        refine ⟨?_, cellAt (h.pick 2).get_blk 4, hc4 q hqA⟩
        rw [hc j hlt, hq])
      have hql : ((P.take j).map (fun p => (p, t.A.getD p.toNat ac0))).length = j := by simp; omega
      generalize (P.take j).map (fun p => (p, t.A.getD p.toNat ac0)) = qs at h4 hs hql
      generalize t.A[q] = x at hs HSE
      have HS := Lib.hid hs
      have hjl : qs.length + 1 ≤ 100000000 := by omega
      clear hs hc hc4 hq hp0 hp1
      subst hql
      go_wp2_with fail
      refine wp_region_tok [⟨none, some 15, [], fun _ => ownMb (.slice ao qs.length co) qs⟩, ⟨some 15, none, [30], fun vs => ownMb (vs.getD 0 undef) (qs ++ [((q : Int), x)])⟩, ⟨some 14, none, [29], fun vs => blk (sliceBlk (vs.getD 0 undef)) (.cells (mbCells ((q : Int), x)) 166 (0, 0))⟩] (fun k => match k with | 14 => ⟨some (fun u => ∃ n : Nat, u = .slice (some ⟨n, 0, none⟩) 1 1), [], [], [2]⟩ | 15 => ⟨some (fun u => ∃ (a : Option Addr) (cap : Nat), u = .slice a (qs.length + 1) cap), [0], [2], [1]⟩ | _ => ⟨none, [], [], []⟩) (roInts (.slice (some ⟨g1, o1, none⟩) P.length c) P :: roAc (.slice (some ⟨g4, o4, none⟩) t.A.length c4) t.A :: blk w.heap.size (.cells #[.slice a1 (openBools t.s).length c1, .slice a2 t.s.gens.length c2, .slice a3 t.s.closed.length c3, .int .i64 t.s.fresh, .slice (some ⟨g4, o4, none⟩) t.A.length c4] 33 (0, 0)) :: roBools (.slice a1 (openBools t.s).length c1) (openBools t.s) :: roInts (.slice a2 t.s.gens.length c2) t.s.gens :: roInts (.slice a3 t.s.closed.length c3) t.s.closed :: F) [0] [1, 2] (by kernel_rfl) (by kernel_rfl) h4 ?_
      iterate 14
        refine tok_exact rfl (fun K hK => ?_)
        go_simp
        first
          | (intro w hw
             obtain ⟨c0, c1, c2, c3, c4⟩ := HSE.out _ hw
             go_simp
             refine hK _ ?_
             clear hK K c0 c1 c2 c3 c4 hw w)
          | (intro w hw
             refine hK _ ?_
             clear hK K hw w)
          | (refine hK _ ?_; clear hK K)
      refine tok_op (k := 14) ([]) ([]) (fun v => [blk (sliceBlk v) (.cells (mbCells ((q : Int), x)) 166 (0, 0))]) (by rfl) (by rfl) rfl (by go_simp) (fun u hu => ?_) (fun w F hw => ?_) (fun u hu => ?_)
      · obtain ⟨nb, rfl⟩ := hu
        rfl
      · go_simp
        exact (show holds w (_) from hw).alloc _
      obtain ⟨nb, rfl⟩ := hu
      refine tok_op (k := 15) ([ownMb (.slice ao qs.length co) qs]) ([blk nb (.cells (mbCells ((q : Int), x)) 166 (0, 0))]) (fun v => [ownMb v (qs ++ [((q : Int), x)])]) (by rfl) (by rfl) rfl (by go_simp) (fun u hu => ?_) (fun w F hw => ?_) (fun u hu => ?_)
      · obtain ⟨av, cv, rfl⟩ := hu
        rfl
      · exact tok_appMb (t := ((q : Int), x)) (.tmp 15) (.tmp 29) rfl rfl rfl (by omega) hw hjl
      obtain ⟨av, cv, rfl⟩ := hu
      iterate 1
        refine tok_exact rfl (fun K hK => ?_)
        go_simp
        first
          | (intro w hw
             obtain ⟨c0, c1, c2, c3, c4⟩ := HSE.out _ hw
             go_simp
             refine hK _ ?_
             clear hK K c0 c1 c2 c3 c4 hw w)
          | (intro w hw
             refine hK _ ?_
             clear hK K hw w)
          | (refine hK _ ?_; clear hK K)
      refine tok_nil ?_
      clear h4
      intro wq h4
      have h5 : holds wq (ownMb (.slice av (qs.length + 1) cv) (qs ++ [((q : Int), x)]) :: blk nb _ :: roInts (.slice (some ⟨g1, o1, none⟩) P.length c) P :: roAc (.slice (some ⟨g4, o4, none⟩) t.A.length c4) t.A :: blk w.heap.size (.cells #[.slice a1 (openBools t.s).length c1, .slice a2 t.s.gens.length c2, .slice a3 t.s.closed.length c3, .int .i64 t.s.fresh, .slice (some ⟨g4, o4, none⟩) t.A.length c4] 33 (0, 0)) :: roBools (.slice a1 (openBools t.s).length c1) (openBools t.s) :: roInts (.slice a2 t.s.gens.length c2) t.s.gens :: roInts (.slice a3 t.s.closed.length c3) t.s.closed :: F) := h4
      have h6 := h5.sel 2 [0]
      clear h5 h4
      go_wp2_with fail
      go_roundw
      case rel => exact ⟨qs.length + 1, av, cv, by omega, by go_num, rfl, by rw [HS.out]; exact h6⟩
      case measure => simp [intOf]; omega
    · have hjl : j = P.length := by omega
      subst hjl
      rw [List.take_length] at h4
      go_wp2_with fail
      go_ret
      exact ⟨_, _, rfl, (holds.shareMb h4).sel 7 [0, 4, 5, 6, 2]⟩
end Go.Proofs.YtfiggkbclldccaaGreat
end
section
namespace Go.Proofs.YtfiggkbclldccaaGreat
open Go Go.RowKit Go.MapKept
set_option maxRecDepth 100000
set_option linter.unusedVariables false
set_option maxHeartbeats 2000000
attribute [local go_sem] exactUpon looseUpon

def cellOf (v : Value) (i : Nat) : Value := match v with
  | .agg cs => cs.getD i undef
  | _ => undef
def cellsOf : Value → Array Value
  | .agg cs => cs
  | _ => #[]
theorem zeros64 : (madeCells (acV ac0).cells (64 * 3)).toList.take (64 * 3) = (List.replicate 64 ac0).flatMap acL := by kernel_rfl
theorem ref27_New (w : World) (F : List HProp) (hw : holds w F) :
    Calls Tryz.prog 84 #[] w fun e w' => ∃ vo vg vA, e = .returned (tV vo vg (.slice none 0 0) 0 vA) ∧ holds w' (roBools vo (List.replicate 64 false) :: roInts vg (List.replicate 64 0) :: roAc vA (List.replicate 64 ac0) :: F) := by
  have h1 : holds _ (blk w.heap.size (.cells #[.slice none 0 0, .slice none 0 0, .slice none 0 0, .int .i64 0, .slice none 0 0] 33 (0, 0)) :: F) := hw.alloc _
  go_enter Tryz.func84, Tryz.ntmps84
  go_wp2_with fail
  refine wp_region_tok [⟨none, some 3, [], fun _ => blk w.heap.size (.cells #[.slice none 0 0, .slice none 0 0, .slice none 0 0, .int .i64 0, .slice none 0 0] 33 (0, 0))⟩, ⟨some 3, none, [3], fun vs => blk w.heap.size (.cells (cellsOf (vs.getD 0 undef)) 33 (0, 0))⟩, ⟨some 0, none, [1], fun vs => roBools (cellOf (vs.getD 0 undef) 0) (List.replicate 64 false)⟩, ⟨some 0, none, [1], fun vs => roInts (cellOf (vs.getD 0 undef) 1) (List.replicate 64 0)⟩, ⟨some 1, none, [2], fun vs => ownAc (vs.getD 0 undef) (List.replicate 64 ac0)⟩] (fun k => match k with | 0 => ⟨some (fun u => ∃ (a1 : Option Addr) (c1 : Nat) (a2 : Option Addr) (c2 : Nat), u = .agg #[.slice a1 64 c1, .slice a2 64 c2, .slice none 0 0, .int .i64 0]), [], [], [2, 3]⟩ | 1 => ⟨some (fun u => ∃ n : Nat, u = .slice (some ⟨n, 0, none⟩) 64 64), [], [], [4]⟩ | 3 => ⟨some (fun u => u = undef), [0], [], [1]⟩ | _ => ⟨none, [], [], []⟩) F [0] [1, 2, 3, 4] (by kernel_rfl) (by kernel_rfl) h1 ?_
  refine tok_op (k := 0) ([]) ([]) (fun u => [roBools (cellOf u 0) (List.replicate 64 false), roInts (cellOf u 1) (List.replicate 64 0)]) (by rfl) (by rfl) rfl (by go_simp) (fun u hu => ?_) (fun w F hw => ?_) (fun u hu => ?_)
  · obtain ⟨a1, c1, a2, c2, rfl⟩ := hu
    rfl
  · go_simp
    go_at_call 177
    refine (ref06_New _ 64 _ (by omega) hw).mono ?_
    rintro e w2 ⟨vo, vg, rfl, h2⟩
    obtain ⟨a1, c1, rfl, _⟩ := roBools_form h2
    obtain ⟨a2, c2, rfl, _⟩ := roInts_form (h2.pick 1)
    exact ⟨_, rfl, ⟨a1, c1, a2, c2, rfl⟩, h2⟩
  obtain ⟨a1, c1, a2, c2, rfl⟩ := hu
  refine tok_op (k := 1) ([]) ([]) (fun u => [ownAc u (List.replicate 64 ac0)]) (by rfl) (by rfl) rfl (by go_simp) (fun u hu => ?_) (fun w F hw => ?_) (fun u hu => ?_)
  · obtain ⟨n3, rfl⟩ := hu
    rfl
  · obtain ⟨i0, hi, hz0, hz1, hz2⟩ := info_parts Tryz.infoAc
    obtain ⟨hmk, h3⟩ := run_make_sl (P := Tryz.prog) (t := 31) Tryz.underlying31 hi hz0 hz1 hw .i64 .i64 (x := 64) (c := 64) (by omega) (by omega) (by rw [hz2]; omega) (by omega)
    have e64 : (64 : Int).toNat = 64 := rfl
    rw [e64, zeros64] at h3
    rw [e64] at hmk
    go_simp
    exact h3
  obtain ⟨n3, rfl⟩ := hu
  iterate 1
    refine tok_exact rfl (fun K hK => ?_)
    go_simp
    first
      | (intro w hw
         refine hK _ ?_
         clear hK K hw w)
      | (refine hK _ ?_; clear hK K)
  refine tok_op (k := 3) ([blk w.heap.size (.cells #[.slice none 0 0, .slice none 0 0, .slice none 0 0, .int .i64 0, .slice none 0 0] 33 (0, 0))]) ([]) (fun _ => [blk w.heap.size (.cells #[.slice a1 64 c1, .slice a2 64 c2, .slice none 0 0, .int .i64 0, .slice (some ⟨n3, 0, none⟩) 64 64] 33 (0, 0))]) (by rfl) (by rfl) rfl (by go_simp) (fun u hu => ?_) (fun w F hw => ?_) (fun u hu => ?_)
  · obtain rfl := hu
    rfl
  · have hw : holds w (blk _ _ :: _) := hw
    obtain ⟨r0, r1, r2, r3, r4, f0, f1, f2, f3, f4⟩ := cells5 hw
    go_simp
    exact storeT5 hw _ _ _ _ _
  obtain rfl := hu
  refine tok_nil ?_
  clear h1
  intro wq h1
  have h2 : holds wq (blk w.heap.size (.cells #[.slice a1 64 c1, .slice a2 64 c2, .slice none 0 0, .int .i64 0, .slice (some ⟨n3, 0, none⟩) 64 64] 33 (0, 0)) :: roBools (.slice a1 64 c1) (List.replicate 64 false) :: roInts (.slice a2 64 c2) (List.replicate 64 0) :: ownAc (.slice (some ⟨n3, 0, none⟩) 64 64) (List.replicate 64 ac0) :: F) := h1
  go_wp2_with fail
  refine bodyPost_ret (v := tV (.slice a1 64 c1) (.slice a2 64 c2) (.slice none 0 0) 0 (.slice (some ⟨n3, 0, none⟩) 64 64)) ?_ rfl ⟨_, _, _, rfl, ?_⟩
  · exact results_row Tryz.results84 _ _ w.heap.size _ _ _ _ rfl h2.get_blk Tryz.underlying33 rfl Tryz.sizeT27
  · have h3 : holds wq (ownAc (.slice (some ⟨n3, 0, none⟩) 64 64) (List.replicate 64 ac0) :: roBools (.slice a1 64 c1) (List.replicate 64 false) :: roInts (.slice a2 64 c2) (List.replicate 64 0) :: F) := h2.sel 4 [3, 1, 2]
    exact (holds.shareAc h3).order [1, 2, 0]

end Go.Proofs.YtfiggkbclldccaaGreat
end
section
namespace Go.Proofs.YtfiggkbclldccaaGreat
open Go Go.RowKit Go.MapKept
set_option linter.unusedVariables false
section
variable {P : Program} {n : Nat} {env : Env} {F : List HProp} {x y : Operand} {xT yT : TypeId}
class BoT (P : Program) (t : TypeId) : Prop where
  ok : P.underlying t = some .bool
theorem run_eq_bo {t : TypeId} (hm : P.underlying t = some .bool) (a b : Bool) (w : World) (d : Nat) : (Op.equalIn (d + 1) t (.bool a) (.bool b)).run P w = .ok (a == b) w := by
  simp [Op.equalIn, run_underlying hm, Result.andThen]
theorem Runs.eqBl [ht : BoT P xT] {a b : Bool} (hx : opnd env x = some (.bool a)) (hy : opnd env y = some (.bool b)) : Runs P n env F (.binOp .eql xT x y yT) (.bool (decide (a = b))) := .mk fun ac w ty pos aft g d hf hw => by
  have e2 : (Op.equal xT (.bool a) (.bool b)).run P w = .ok (a == b) w := run_eq_bo ht.ok a b w 9999
  simp [execOp, hf.eval hx, hf.eval hy, eqGuard, binOp, e2, Result.andThen]
  cases a <;> cases b <;> rfl
theorem Runs.neBl [ht : BoT P xT] {a b : Bool} (hx : opnd env x = some (.bool a)) (hy : opnd env y = some (.bool b)) : Runs P n env F (.binOp .neq xT x y yT) (.bool (decide (a ≠ b))) := .mk fun ac w ty pos aft g d hf hw => by
  have e2 : (Op.equal xT (.bool a) (.bool b)).run P w = .ok (a == b) w := run_eq_bo ht.ok a b w 9999
  simp [execOp, hf.eval hx, hf.eval hy, eqGuard, binOp, e2, Result.andThen]
  cases a <;> cases b <;> rfl
end
instance : BoT Tryz.prog 4 := ⟨by kernel_rfl⟩
end Go.Proofs.YtfiggkbclldccaaGreat
end
section
namespace Go.Proofs.YtfiggkbclldccaaGreat
open Go Go.RowKit Go.MapKept
set_option linter.unusedVariables false
set_option linter.unusedSimpArgs false
set_option maxRecDepth 100000
set_option maxHeartbeats 2000000
structure RefV where
  o : SlV
  g : SlV
  c : SlV
  A : SlV
def refP (r : RefV) (t : AccsM) : HProp := sep [roBools r.o.v (openBools t.s), roInts r.g.v t.s.gens, roInts r.c.v t.s.closed, roAc r.A.v t.A]
theorem open_refP {r : RefV} {t : AccsM} {w : World} {F : List HProp} (h : holds w (refP r t :: F)) : holds w (roBools r.o.v (openBools t.s) :: roInts r.g.v t.s.gens :: roInts r.c.v t.s.closed :: roAc r.A.v t.A :: F) := holds_sep.1 h
theorem shut_refP {r : RefV} {t : AccsM} {w : World} {F : List HProp} (h : holds w (roBools r.o.v (openBools t.s) :: roInts r.g.v t.s.gens :: roInts r.c.v t.s.closed :: roAc r.A.v t.A :: F)) : holds w (refP r t :: F) := holds_sep (l := [_, _, _, _]).2 h
theorem dup_refP {r : RefV} {t : AccsM} {w : World} {F : List HProp} (h : holds w (refP r t :: F)) : holds w (refP r t :: refP r t :: F) := by
  have h1 := dupRS (open_refP h)
  have h2 : holds w (roAc r.A.v t.A :: roBools r.o.v (openBools t.s) :: roInts r.g.v t.s.gens :: roInts r.c.v t.s.closed :: roBools r.o.v (openBools t.s) :: roInts r.g.v t.s.gens :: roInts r.c.v t.s.closed :: F) := h1.order [6, 0, 1, 2, 3, 4, 5]
  have h3 : holds w (roAc r.A.v t.A :: roAc r.A.v t.A :: roBools r.o.v (openBools t.s) :: roInts r.g.v t.s.gens :: roInts r.c.v t.s.closed :: roBools r.o.v (openBools t.s) :: roInts r.g.v t.s.gens :: roInts r.c.v t.s.closed :: F) := holds.dupRow h2
  have h4 : holds w (roBools r.o.v (openBools t.s) :: roInts r.g.v t.s.gens :: roInts r.c.v t.s.closed :: roAc r.A.v t.A :: roBools r.o.v (openBools t.s) :: roInts r.g.v t.s.gens :: roInts r.c.v t.s.closed :: roAc r.A.v t.A :: F) := h3.order [2, 3, 4, 0, 5, 6, 7, 1]
  have h5 := shut_refP h4
  have h6 : holds w (roBools r.o.v (openBools t.s) :: roInts r.g.v t.s.gens :: roInts r.c.v t.s.closed :: roAc r.A.v t.A :: refP r t :: F) := h5.order [1, 2, 3, 4, 0]
  exact shut_refP h6
/-- New slices, as slices. -/
theorem mk_refP {vo vg vc vA : Value} {t : AccsM} {w : World} {F : List HProp} (h : holds w (roBools vo (openBools t.s) :: roInts vg t.s.gens :: roInts vc t.s.closed :: roAc vA t.A :: F)) : ∃ r : RefV, vo = r.o.v ∧ vg = r.g.v ∧ vc = r.c.v ∧ vA = r.A.v ∧ holds w (refP r t :: F) := by
  obtain ⟨a1, c1, rfl, _⟩ := roBools_form h
  obtain ⟨a2, c2, rfl, _⟩ := roInts_form (h.pick 1)
  obtain ⟨a3, c3, rfl, _⟩ := roInts_form (h.pick 2)
  obtain ⟨a4, c4, rfl, _⟩ := roAc_form (h.pick 3)
  exact ⟨⟨⟨a1, _, c1⟩, ⟨a2, _, c2⟩, ⟨a3, _, c3⟩, ⟨a4, _, c4⟩⟩, rfl, rfl, rfl, rfl, shut_refP h⟩
section
variable (r : RefV) (t : AccsM) (k : Nat)
theorem r27_Get (ho : t.Ok k) (hl : t.s.gens.length ≤ 1000) (p g : Int) (w : World) (F : List HProp) (hw : holds w (refP r t :: F)) :
    Ct Tryz.prog 187 #[tV r.o.v r.g.v r.c.v t.s.fresh r.A.v, .int .i64 p, .int .i64 g] w fun e w' => e = .returned (acR (Accs.get t.s t.A p g)) ∧ holds w' (refP r t :: F) :=
  ⟨(ref27_Get w _ _ _ _ t.s t.A p g F ho.good.ok ho.len (by rw [ho.len]; omega) (open_refP hw)).mono fun e w' ⟨he, h⟩ => ⟨he, shut_refP h⟩⟩
theorem r27_Members (ho : t.Ok k) (hl : t.s.gens.length ≤ 1000) (w : World) (F : List HProp) (hw : holds w (refP r t :: F)) :
    Ct Tryz.prog 23 #[tV r.o.v r.g.v r.c.v t.s.fresh r.A.v] w fun e w' => ∃ u : Value, e = .returned u ∧ holds w' (rows encMb 4 u (Led.mbs t) :: refP r t :: F) :=
  ⟨(ref27_Members w _ _ _ _ t k F ho hl (open_refP hw)).mono fun e w' ⟨a, c, he, h⟩ => ⟨_, he, by
    have e1 : rows encMb 4 (.slice a t.members.length c) (Led.mbs t) = roMb (.slice a t.members.length c) t.members := by
      unfold rows roMb Led.mbs
      rw [List.length_map, List.flatMap_map]; rfl
    rw [e1]
    have h2 : holds w' (roBools r.o.v (openBools t.s) :: roInts r.g.v t.s.gens :: roInts r.c.v t.s.closed :: roAc r.A.v t.A :: roMb (.slice a t.members.length c) t.members :: F) := h.order [1, 2, 3, 4, 0]
    exact (show holds w' (refP r t :: roMb (.slice a t.members.length c) t.members :: F) from shut_refP h2).order [1, 0]⟩⟩
theorem r27_Open (ho : t.Ok k) (hk : k ≤ 1000) (hl : t.s.gens.length ≤ 1000) (claim : Int) (w : World) (F : List HProp) (hw : holds w (refP r t :: F)) :
    Ct Tryz.prog 85 #[tV r.o.v r.g.v r.c.v t.s.fresh r.A.v, .int .i64 claim] w fun e w' => ∃ q : RefV, e = .returned (.tuple #[tV q.o.v q.g.v q.c.v (Accs.open t claim).1.s.fresh q.A.v, .int .i64 (Accs.open t claim).2.1, .int .i64 (Accs.open t claim).2.2.1, .int .i64 (Accs.open t claim).2.2.2]) ∧ holds w' (refP q (Accs.open t claim).1 :: refP r t :: F) :=
  ⟨(ref27_Open w _ _ _ _ t.s k t.A claim (refP r t :: F) ho.good hk ho.len (by rw [ho.len]; omega) (open_refP (dup_refP hw))).mono fun e w' ⟨vo, vg, vc, vA, he, h⟩ => by
    obtain ⟨q, rfl, rfl, rfl, rfl, h2⟩ := mk_refP (t := (Accs.open t claim).1) h
    exact ⟨q, he, h2⟩⟩
theorem r27_Close (ho : t.Ok k) (hk : k ≤ 1000) (hl : t.s.gens.length ≤ 1000) (p g : Int) (w : World) (F : List HProp) (hw : holds w (refP r t :: F)) :
    Ct Tryz.prog 92 #[tV r.o.v r.g.v r.c.v t.s.fresh r.A.v, .int .i64 p, .int .i64 g] w fun e w' => ∃ q : RefV, e = .returned (.tuple #[tV q.o.v q.g.v q.c.v (Accs.close t p g).1.s.fresh q.A.v, .int .i64 (Accs.close t p g).2]) ∧ holds w' (refP q (Accs.close t p g).1 :: refP r t :: F) :=
  ⟨(ref27_Close w _ _ _ _ t.s k t.A p g (refP r t :: F) ho.good hk ho.len (by rw [ho.len]; omega) (open_refP (dup_refP hw))).mono fun e w' ⟨vo, vg, vc, vA, he, h⟩ => by
    obtain ⟨q, rfl, rfl, rfl, rfl, h2⟩ := mk_refP (t := (Accs.close t p g).1) h
    exact ⟨q, he, h2⟩⟩
theorem r27_Do (ho : t.Ok k) (hl : t.s.gens.length ≤ 1000) (c p g n : Int) (w : World) (F : List HProp) (hw : holds w (refP r t :: F)) :
    Ct Tryz.prog 93 #[tV r.o.v r.g.v r.c.v t.s.fresh r.A.v, .int .i64 c, .int .i64 p, .int .i64 g, .int .i64 n] w fun e w' => ∃ q : RefV, e = .returned (.tuple #[tV q.o.v q.g.v q.c.v (Accs.act t c p g n).1.s.fresh q.A.v, .int .i64 (Accs.act t c p g n).2]) ∧ holds w' (refP q (Accs.act t c p g n).1 :: refP r t :: F) :=
  ⟨(ref27_Do w _ _ _ _ t.s t.A c p g n (refP r t :: F) ho.good.ok ho.len (by rw [ho.len]; omega) ho.bd (open_refP (dup_refP hw))).mono fun e w' ⟨vA, he, h⟩ => by
    have hs := (ho.act c p g n).2
    have h1 : holds w' (roBools r.o.v (openBools (Accs.act t c p g n).1.s) :: roInts r.g.v (Accs.act t c p g n).1.s.gens :: roInts r.c.v (Accs.act t c p g n).1.s.closed :: roAc vA (Accs.act t c p g n).1.A :: refP r t :: F) := by rw [hs]; exact h
    obtain ⟨q, e1, e2, e3, rfl, h2⟩ := mk_refP (t := (Accs.act t c p g n).1) h1
    refine ⟨q, ?_, h2⟩
    rw [hs, ← e1, ← e2, ← e3]
    exact he⟩
end
theorem r27_New (w : World) (F : List HProp) (hw : holds w F) :
    Ct Tryz.prog 84 #[] w fun e w' => ∃ q : RefV, e = .returned (tV q.o.v q.g.v q.c.v 0 q.A.v) ∧ holds w' (refP q ⟨SlotsM.new 64, List.replicate 64 ac0⟩ :: F) :=
  ⟨(ref27_New w F hw).mono fun e w' ⟨vo, vg, vA, he, h⟩ => by
    have h1 : holds w' (roInts (.slice none 0 0) [] :: roBools vo (List.replicate 64 false) :: roInts vg (List.replicate 64 0) :: roAc vA (List.replicate 64 ac0) :: F) := holds_roRow_nil h 1
    have h2 : holds w' (roBools vo (openBools (SlotsM.new 64)) :: roInts vg (SlotsM.new 64).gens :: roInts (.slice none 0 0) (SlotsM.new 64).closed :: roAc vA (List.replicate 64 ac0) :: F) := h1.order [1, 2, 0, 3]
    obtain ⟨q, e1, e2, e3, e4, h3⟩ := mk_refP (t := ⟨SlotsM.new 64, List.replicate 64 ac0⟩) h2
    exact ⟨q, by rw [← e1, ← e2, ← e3, ← e4]; exact he, h3⟩⟩
end Go.Proofs.YtfiggkbclldccaaGreat
end
