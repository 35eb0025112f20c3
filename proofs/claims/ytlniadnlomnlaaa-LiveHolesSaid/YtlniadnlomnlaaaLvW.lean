/- The example of chapter 41. -/
import Derived.Test.YtlniadnlomnlaaaLvS
namespace Go.Proofs.Ytlniadnlomnlaaa
open Go Go.RowKit Go.MapKept
set_option linter.unusedVariables false
set_option linter.unusedSimpArgs false
set_option maxRecDepth 100000
set_option maxHeartbeats 4000000

namespace Lv
def x0 : LaidM := ⟨2, 0, 5, 0, 8⟩
def x1 : LaidM := ⟨2, 0, 0, 8, 8⟩
def x2 : LaidM := ⟨2, 0, 0, 4, 8⟩
theorem g0 : ¬ Live.Bad x0 := bad_of_not_good ⟨by decide, by decide, by decide, by decide, by decide⟩
theorem g1 : ¬ Live.Bad x1 := bad_of_not_good ⟨by decide, by decide, by decide, by decide, by decide⟩
theorem g2 : ¬ Live.Bad x2 := bad_of_not_good ⟨by decide, by decide, by decide, by decide, by decide⟩
theorem ref0 : RefAdd [] x0 ([x0], 3458766712843796480, 0) := by
  have h := RefAdd.yes (l := []) (x := x0) g0 (fun j h => by simp at h) (fun j h => by simp at h) 0 (Live.IsPlace.zero _ _)
  have e : (Hdl.put 3 x0.chunk x0.gen x0.pos).1 = 3458766712843796480 := by decide
  rw [e] at h
  exact h
theorem ref1 : RefAdd [x0] x1 ([x0, x1], 3458766712843796488, 0) := by
  have h := RefAdd.yes (l := [x0]) (x := x1) g1 (fun j h => by
    obtain rfl : j = 0 := by simpa using h
    show ¬ (x0.chunk = x1.chunk ∧ ¬ x0.gen = x1.gen)
    decide) (fun j h => by
    obtain rfl : j = 0 := by simpa using h
    show ¬ (x0.chunk = x1.chunk ∧ x0.pos < x1.pos + x1.len ∧ x1.pos < x0.pos + x0.len)
    decide) 1 ((Live.IsPlace.zero _ _).yes (by simp) (by show x0.chunk < x1.chunk ∨ x0.chunk = x1.chunk ∧ x0.pos < x1.pos; decide))
  have e : (Hdl.put 3 x1.chunk x1.gen x1.pos).1 = 3458766712843796488 := by decide
  rw [e] at h
  exact h
theorem ref2 : RefAdd [x0, x1] x2 ([x0, x1], 0, 19) := by
  refine RefAdd.twice g2 (fun j h => ?_) 0 (by simp) ?_
  · have : j = 0 ∨ j = 1 := by simp at h; omega
    rcases this with rfl | rfl
    · show ¬ (x0.chunk = x2.chunk ∧ ¬ x0.gen = x2.gen)
      decide
    · show ¬ (x1.chunk = x2.chunk ∧ ¬ x1.gen = x2.gen)
      decide
  · show x0.chunk = x2.chunk ∧ x0.pos < x2.pos + x2.len ∧ x2.pos < x0.pos + x0.len
    decide
end Lv
theorem law41_works (w : World) (F : List HProp) (hw : holds w F) :
    Ct Try.prog 9 #[] w fun e w' => e = .returned (.bool true) ∧ holds w' F := by
  have hfind : Live.find [Lv.x0, Lv.x1] 3458766712843796480 = (Lv.x0, 0) := by decide
  refine Ct.go (args := []) Try.func9 rfl rfl rfl hw ?_
  repeat' (first | ((apply GL.isCall; refine GL.call rfl rfl (fun w h => live_New w _ h) (fun p => ?_))) | first | (apply GL.isAny; first | refine GL.runA rfl ?_ | (apply GL.isStore; first | refine GL.storeBlk rfl rfl rfl rfl rfl ?_ | refine GL.storeWhole rfl rfl rfl rfl rfl ?_ | refine GL.storeBlkA rfl rfl rfl rfl rfl ?_) | refine GL.guardY rfl rfl ?_ | refine GL.guardN rfl rfl rfl ?_ | refine GL.guardU rfl rfl rfl ?_ | (refine GL.guard rfl rfl (fun hc => ?_) (fun hc => ?_) <;> ((try simp only [decide_eq_true_eq, decide_eq_false_iff_not, Bool.not_true, Bool.not_false, ne_eq, Classical.not_not, Int.not_lt, Int.not_le] at hc); (try (exfalso; first | omega | exact hc trivial | exact hc rfl)))) | (apply GL.isBox; first | refine GL.boxA rfl rfl (fun _ => ?_) | refine GL.box1 rfl rfl rfl (fun _ => ?_) | refine GL.box rfl rfl (fun _ => ?_)) | (apply GL.isBuildS; first | refine GL.buildSlice1A rfl rfl rfl rfl rfl (fun _ => ?_) | refine GL.buildSlice1 rfl rfl rfl rfl rfl (fun _ => ?_)) | (apply GL.isCall; refine GL.append1 _ rfl rfl rfl rfl (by rfl) (by omega) (by omega) rfl (fun _ => ?_)) | (apply GL.isAlloc; refine GL.alloc rfl (fun _ => ?_))) | apply GL.nil | first | apply G.seq | apply G.region | apply G.block | apply G.skip | apply G.exit | apply G.ret | (apply G.isCond; first | refine G.condT rfl ?_ | refine G.condF rfl ?_ | (refine G.cond rfl (fun hc => ?_) (fun hc => ?_) <;> ((try simp only [decide_eq_true_eq, decide_eq_false_iff_not, Bool.not_true, Bool.not_false, ne_eq, Classical.not_not, Int.not_lt, Int.not_le] at hc); (try (exfalso; first | omega | exact hc trivial | exact hc rfl))))) | refine G.draw (by kernel_rfl) (by kernel_rfl) ?_ | (apply GE.isAny; first | apply GE.again | apply GE.thenG | apply GE.blockN | apply GE.blockE | apply GE.thenE | apply GE.thenR | apply GE.blockR | refine GE.blockO rfl ?_ | apply GE.only) | (apply GD.isAny; first | refine GD.runA rfl ?_ | refine GD.guardY rfl rfl ?_ | refine GD.guardN rfl rfl rfl ?_ | refine GD.guardU rfl rfl rfl ?_ | (refine GD.guard rfl rfl (fun hc => ?_) (fun hc => ?_) <;> ((try simp only [decide_eq_true_eq, decide_eq_false_iff_not, Bool.not_true, Bool.not_false, ne_eq, Classical.not_not, Int.not_lt, Int.not_le] at hc); (try (exfalso; first | omega | exact hc trivial | exact hc rfl))))) | apply GD.nilE | apply GD.nilL | (apply GT.isAny; refine GT.runA rfl rfl ?_))
  apply GL.isAny
  (apply GL.isCall; refine GL.callH (livP p []) (vs := [.pointer (some ⟨p, 0, none⟩), .agg (encLaid Lv.x0).toArray]) rfl rfl (fun w h => live_Add p [] Lv.Inv.nil.ok Lv.x0 w _ h) (fun r => ?_))
  obtain ⟨⟨M1, a1, e1⟩, hr⟩ := r
  obtain ⟨hI1, he⟩ := Lv.Inv.nil.step hr Lv.ref0
  simp only [Prod.mk.injEq] at hI1 he
  obtain ⟨rfl, rfl⟩ := he
  dsimp only
  repeat' (first | (apply GL.isAny; first | refine GL.runA rfl ?_ | (apply GL.isStore; first | refine GL.storeBlk rfl rfl rfl rfl rfl ?_ | refine GL.storeWhole rfl rfl rfl rfl rfl ?_ | refine GL.storeBlkA rfl rfl rfl rfl rfl ?_) | refine GL.guardY rfl rfl ?_ | refine GL.guardN rfl rfl rfl ?_ | refine GL.guardU rfl rfl rfl ?_ | (refine GL.guard rfl rfl (fun hc => ?_) (fun hc => ?_) <;> ((try simp only [decide_eq_true_eq, decide_eq_false_iff_not, Bool.not_true, Bool.not_false, ne_eq, Classical.not_not, Int.not_lt, Int.not_le] at hc); (try (exfalso; first | omega | exact hc trivial | exact hc rfl)))) | (apply GL.isBox; first | refine GL.boxA rfl rfl (fun _ => ?_) | refine GL.box1 rfl rfl rfl (fun _ => ?_) | refine GL.box rfl rfl (fun _ => ?_)) | (apply GL.isBuildS; first | refine GL.buildSlice1A rfl rfl rfl rfl rfl (fun _ => ?_) | refine GL.buildSlice1 rfl rfl rfl rfl rfl (fun _ => ?_)) | (apply GL.isCall; refine GL.append1 _ rfl rfl rfl rfl (by rfl) (by omega) (by omega) rfl (fun _ => ?_)) | (apply GL.isAlloc; refine GL.alloc rfl (fun _ => ?_))) | apply GL.nil | first | apply G.seq | apply G.region | apply G.block | apply G.skip | apply G.exit | apply G.ret | (apply G.isCond; first | refine G.condT rfl ?_ | refine G.condF rfl ?_ | (refine G.cond rfl (fun hc => ?_) (fun hc => ?_) <;> ((try simp only [decide_eq_true_eq, decide_eq_false_iff_not, Bool.not_true, Bool.not_false, ne_eq, Classical.not_not, Int.not_lt, Int.not_le] at hc); (try (exfalso; first | omega | exact hc trivial | exact hc rfl))))) | refine G.draw (by kernel_rfl) (by kernel_rfl) ?_ | (apply GE.isAny; first | apply GE.again | apply GE.thenG | apply GE.blockN | apply GE.blockE | apply GE.thenE | apply GE.thenR | apply GE.blockR | refine GE.blockO rfl ?_ | apply GE.only) | (apply GD.isAny; first | refine GD.runA rfl ?_ | refine GD.guardY rfl rfl ?_ | refine GD.guardN rfl rfl rfl ?_ | refine GD.guardU rfl rfl rfl ?_ | (refine GD.guard rfl rfl (fun hc => ?_) (fun hc => ?_) <;> ((try simp only [decide_eq_true_eq, decide_eq_false_iff_not, Bool.not_true, Bool.not_false, ne_eq, Classical.not_not, Int.not_lt, Int.not_le] at hc); (try (exfalso; first | omega | exact hc trivial | exact hc rfl))))) | apply GD.nilE | apply GD.nilL | (apply GT.isAny; refine GT.runA rfl rfl ?_))
  apply GL.isAny
  (apply GL.isCall; refine GL.callH (livP p M1) (vs := [.pointer (some ⟨p, 0, none⟩), .agg (encLaid Lv.x1).toArray]) rfl rfl (fun w h => live_Add p M1 hI1.ok Lv.x1 w _ h) (fun r => ?_))
  obtain ⟨⟨M2, a2, e2⟩, hr⟩ := r
  obtain ⟨hI2, he⟩ := hI1.step hr Lv.ref1
  simp only [Prod.mk.injEq] at hI2 he
  obtain ⟨rfl, rfl⟩ := he
  dsimp only
  repeat' (first | (apply GL.isAny; first | refine GL.runA rfl ?_ | (apply GL.isStore; first | refine GL.storeBlk rfl rfl rfl rfl rfl ?_ | refine GL.storeWhole rfl rfl rfl rfl rfl ?_ | refine GL.storeBlkA rfl rfl rfl rfl rfl ?_) | refine GL.guardY rfl rfl ?_ | refine GL.guardN rfl rfl rfl ?_ | refine GL.guardU rfl rfl rfl ?_ | (refine GL.guard rfl rfl (fun hc => ?_) (fun hc => ?_) <;> ((try simp only [decide_eq_true_eq, decide_eq_false_iff_not, Bool.not_true, Bool.not_false, ne_eq, Classical.not_not, Int.not_lt, Int.not_le] at hc); (try (exfalso; first | omega | exact hc trivial | exact hc rfl)))) | (apply GL.isBox; first | refine GL.boxA rfl rfl (fun _ => ?_) | refine GL.box1 rfl rfl rfl (fun _ => ?_) | refine GL.box rfl rfl (fun _ => ?_)) | (apply GL.isBuildS; first | refine GL.buildSlice1A rfl rfl rfl rfl rfl (fun _ => ?_) | refine GL.buildSlice1 rfl rfl rfl rfl rfl (fun _ => ?_)) | (apply GL.isCall; refine GL.append1 _ rfl rfl rfl rfl (by rfl) (by omega) (by omega) rfl (fun _ => ?_)) | (apply GL.isAlloc; refine GL.alloc rfl (fun _ => ?_))) | apply GL.nil | first | apply G.seq | apply G.region | apply G.block | apply G.skip | apply G.exit | apply G.ret | (apply G.isCond; first | refine G.condT rfl ?_ | refine G.condF rfl ?_ | (refine G.cond rfl (fun hc => ?_) (fun hc => ?_) <;> ((try simp only [decide_eq_true_eq, decide_eq_false_iff_not, Bool.not_true, Bool.not_false, ne_eq, Classical.not_not, Int.not_lt, Int.not_le] at hc); (try (exfalso; first | omega | exact hc trivial | exact hc rfl))))) | refine G.draw (by kernel_rfl) (by kernel_rfl) ?_ | (apply GE.isAny; first | apply GE.again | apply GE.thenG | apply GE.blockN | apply GE.blockE | apply GE.thenE | apply GE.thenR | apply GE.blockR | refine GE.blockO rfl ?_ | apply GE.only) | (apply GD.isAny; first | refine GD.runA rfl ?_ | refine GD.guardY rfl rfl ?_ | refine GD.guardN rfl rfl rfl ?_ | refine GD.guardU rfl rfl rfl ?_ | (refine GD.guard rfl rfl (fun hc => ?_) (fun hc => ?_) <;> ((try simp only [decide_eq_true_eq, decide_eq_false_iff_not, Bool.not_true, Bool.not_false, ne_eq, Classical.not_not, Int.not_lt, Int.not_le] at hc); (try (exfalso; first | omega | exact hc trivial | exact hc rfl))))) | apply GD.nilE | apply GD.nilL | (apply GT.isAny; refine GT.runA rfl rfl ?_))
  apply GL.isAny
  (apply GL.isCall; refine GL.callH (livP p M2) (vs := [.pointer (some ⟨p, 0, none⟩), .agg (encLaid Lv.x2).toArray]) rfl rfl (fun w h => live_Add p M2 hI2.ok Lv.x2 w _ h) (fun r => ?_))
  obtain ⟨⟨M3, a3, e3⟩, hr⟩ := r
  obtain ⟨hI3, he⟩ := hI2.step hr Lv.ref2
  simp only [Prod.mk.injEq] at hI3 he
  obtain ⟨rfl, rfl⟩ := he
  dsimp only
  have hf := liv_Find p hI3 3458766712843796480 (by omega)
  rw [hfind] at hf
  have hby := liv_Bytes p hI3 (by simp)
  have hdr := liv_Drop p hI3 2
  have hI4 := hI3.drop 2
  have hln := liv_Len p hI4 (by decide)
  repeat' (first | (first | (apply GL.isCall; refine GL.callH1 (livP p M3) rfl rfl (fun w h => hf w _ h) ?_) | (apply GL.isCall; refine GL.callH1 (livP p M3) rfl rfl (fun w h => hby w _ h) ?_) | (apply GL.isCall; refine GL.callH1 (livP p M3) rfl rfl (fun w h => hdr w _ h) ?_) | (apply GL.isCall; refine GL.callH1 (livP p (alDel M3 2)) rfl rfl (fun w h => hln w _ h) ?_)) | first | (apply GL.isAny; first | refine GL.runA rfl ?_ | (apply GL.isStore; first | refine GL.storeBlk rfl rfl rfl rfl rfl ?_ | refine GL.storeWhole rfl rfl rfl rfl rfl ?_ | refine GL.storeBlkA rfl rfl rfl rfl rfl ?_) | refine GL.guardY rfl rfl ?_ | refine GL.guardN rfl rfl rfl ?_ | refine GL.guardU rfl rfl rfl ?_ | (refine GL.guard rfl rfl (fun hc => ?_) (fun hc => ?_) <;> ((try simp only [decide_eq_true_eq, decide_eq_false_iff_not, Bool.not_true, Bool.not_false, ne_eq, Classical.not_not, Int.not_lt, Int.not_le] at hc); (try (exfalso; first | omega | exact hc trivial | exact hc rfl)))) | (apply GL.isBox; first | refine GL.boxA rfl rfl (fun _ => ?_) | refine GL.box1 rfl rfl rfl (fun _ => ?_) | refine GL.box rfl rfl (fun _ => ?_)) | (apply GL.isBuildS; first | refine GL.buildSlice1A rfl rfl rfl rfl rfl (fun _ => ?_) | refine GL.buildSlice1 rfl rfl rfl rfl rfl (fun _ => ?_)) | (apply GL.isCall; refine GL.append1 _ rfl rfl rfl rfl (by rfl) (by omega) (by omega) rfl (fun _ => ?_)) | (apply GL.isAlloc; refine GL.alloc rfl (fun _ => ?_))) | apply GL.nil | first | apply G.seq | apply G.region | apply G.block | apply G.skip | apply G.exit | apply G.ret | (apply G.isCond; first | refine G.condT rfl ?_ | refine G.condF rfl ?_ | (refine G.cond rfl (fun hc => ?_) (fun hc => ?_) <;> ((try simp only [decide_eq_true_eq, decide_eq_false_iff_not, Bool.not_true, Bool.not_false, ne_eq, Classical.not_not, Int.not_lt, Int.not_le] at hc); (try (exfalso; first | omega | exact hc trivial | exact hc rfl))))) | refine G.draw (by kernel_rfl) (by kernel_rfl) ?_ | (apply GE.isAny; first | apply GE.again | apply GE.thenG | apply GE.blockN | apply GE.blockE | apply GE.thenE | apply GE.thenR | apply GE.blockR | refine GE.blockO rfl ?_ | apply GE.only) | (apply GD.isAny; first | refine GD.runA rfl ?_ | refine GD.guardY rfl rfl ?_ | refine GD.guardN rfl rfl rfl ?_ | refine GD.guardU rfl rfl rfl ?_ | (refine GD.guard rfl rfl (fun hc => ?_) (fun hc => ?_) <;> ((try simp only [decide_eq_true_eq, decide_eq_false_iff_not, Bool.not_true, Bool.not_false, ne_eq, Classical.not_not, Int.not_lt, Int.not_le] at hc); (try (exfalso; first | omega | exact hc trivial | exact hc rfl))))) | apply GD.nilE | apply GD.nilL | (apply GT.isAny; refine GT.runA rfl rfl ?_))
  all_goals first
    | (exfalso; revert hc; decide)
    | skip
  refine GE.resOne rfl (by (repeat (first | apply Res.nil | (apply Res.tmp; rfl) | (refine Res.cellA rfl rfl rfl ?_) | (refine Res.cell1 rfl rfl ?_)))) (fun w h => ?_)
  exact ⟨by rfl, h.sub⟩
end Go.Proofs.Ytlniadnlomnlaaa
