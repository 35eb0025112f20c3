/- Operations' lines, read: what there is to know. -/
import Derived.Test.YtpkohkkkbnfigaaDoorOcT
import Derived.Test.YtpkohkkkbnfigaaDoorGoEq
import Derived.Test.YtpkohkkkbnfigaaDoorGoJ
namespace Go.Proofs.YtpkohkkkbnfigaaDoor
open Go Go.RowKit Go.MapKept
set_option linter.unusedVariables false
set_option linter.unusedSimpArgs false
set_option maxRecDepth 100000
set_option maxHeartbeats 4000000
namespace Oc
open Dg Lib
def no : LineM := ⟨0, 0, 0, 0, [], 0, 0, 0⟩
theorem cutO_len (s : List UInt8) : (cutO s).1.length ≤ s.length ∧ ∀ r, (cutO s).2 = some r → r.length ≤ s.length := by
  obtain ⟨h1, h2⟩ := cutO_eq (s := s) (w := (cutO s).1) (o := (cutO s).2) rfl
  rcases h2 with ⟨h2, h3⟩ | ⟨r, h2, h3⟩
  · exact ⟨by rw [← h3]; omega, fun r hr => by rw [h2] at hr; cases hr⟩
  · have hl := congrArg List.length h3
    rw [List.length_append, List.length_cons] at hl
    exact ⟨by omega, fun r' hr => by rw [h2] at hr; cases hr; omega⟩
theorem splitN2 (s : List UInt8) : splitN s [32] 2 = (cutO s).1 :: (cutO s).2.toList := by
  rw [splitN_cut 32 s 2 (by decide), splitK_cut]
  unfold cutO
  cases cutAt 32 s with
  | none => rfl
  | some p => rfl
theorem within_eq (s : List UInt8) (lo hi : Int) : Dg.within s lo hi = within s lo hi := rfl
theorem one_ref {s : List UInt8} (h : s.head? = some 35) : one s = (within (s.drop 1) 1 4096).map fun r => (0, r) := by unfold one; rw [if_pos h]
theorem one_num {s : List UInt8} (h : ¬ s.head? = some 35) : one s = (read s).map fun n => (n, 0) := by unfold one; rw [if_neg h]
/-- How far the reading is. -/
structure At (s : List UInt8) (i : Nat) (o : Option (List UInt8)) (fs : List (Int × Int)) : Prop where
  len : fs.length = i
  le : i ≤ many (find (cutO s).1)
  take : takeN (many (find (cutO s).1)) (cutO s).2 = (takeN (many (find (cutO s).1) - i) o).map fun q => (fs ++ q.1, q.2)
  small : ∀ r, o = some r → r.length ≤ s.length
theorem At.start (s : List UInt8) : At s 0 (cutO s).2 [] := ⟨rfl, Nat.zero_le _, by cases takeN (many (find (cutO s).1)) (cutO s).2 <;> rfl, (cutO_len s).2⟩
theorem At.none {s : List UInt8} {i : Nat} {fs : List (Int × Int)} (h : At s i none fs) (hi : i < many (find (cutO s).1)) : rd s = none ∧ parse s = none := by
  have h1 := h.take
  obtain ⟨k, hk⟩ : ∃ k, many (find (cutO s).1) - i = k + 1 := ⟨many (find (cutO s).1) - i - 1, by omega⟩
  rw [hk, takeN] at h1
  constructor
  · unfold rd; rw [h1]; split <;> rfl
  · unfold parse; rw [h1]; rfl
theorem At.bad {s r : List UInt8} {i : Nat} {fs : List (Int × Int)} (h : At s i (some r) fs) (hi : i < many (find (cutO s).1)) (h1 : one (cutO r).1 = Option.none) : rd s = Option.none ∧ parse s = Option.none := by
  have h2 := h.take
  obtain ⟨k, hk⟩ : ∃ k, many (find (cutO s).1) - i = k + 1 := ⟨many (find (cutO s).1) - i - 1, by omega⟩
  rw [hk, takeN, h1] at h2
  constructor
  · unfold rd; rw [h2]; split <;> rfl
  · unfold parse; rw [h2]; rfl
theorem At.step {s r : List UInt8} {i : Nat} {fs : List (Int × Int)} {p : Int × Int} (h : At s i (some r) fs) (hi : i < many (find (cutO s).1)) (h1 : one (cutO r).1 = some p) : At s (i + 1) (cutO r).2 (fs ++ [p]) := by
  have h2 := h.take
  obtain ⟨k, hk⟩ : ∃ k, many (find (cutO s).1) - i = k + 1 := ⟨many (find (cutO s).1) - i - 1, by omega⟩
  rw [hk, takeN, h1] at h2
  refine ⟨by rw [List.length_append, h.len]; rfl, hi, ?_, fun r' hr => Nat.le_trans ((cutO_len r).2 r' hr) (h.small r rfl)⟩
  rw [h2, show many (find (cutO s).1) - (i + 1) = k by omega]
  cases takeN k (cutO r).2 with
  | none => rfl
  | some q => simp
theorem At.fin {s : List UInt8} {i : Nat} {o : Option (List UInt8)} {fs : List (Int × Int)} (h : At s i o fs) (hi : ¬ i < many (find (cutO s).1)) :
    (find (cutO s).1 ≠ 0 → rd s = endO (find (cutO s).1) fs o) ∧ parse s = if (find (cutO s).1 : Int) = 10 then (wholeOf (o.getD [])).map (Oc.mk (find (cutO s).1) fs) else some (Oc.mk (find (cutO s).1) fs []) := by
  have h2 := h.take
  rw [show many (find (cutO s).1) - i = 0 by have := h.le; omega, takeN, Option.map_some, List.append_nil] at h2
  constructor
  · intro hf
    unfold rd; rw [h2, if_neg hf]; rfl
  · unfold parse; rw [h2]; rfl
end Oc
section
variable {W : World}
theorem lite_HasPrefix (s : List UInt8) (w : World) (F : List HProp) (hw : holds w F) :
    Ct Tryd.prog 119 #[.string (bs s), .string (bs [35])] w fun e w' => e = .returned (.bool (decide (s.head? = some 35))) ∧ holds w' F := by
  refine Ct.go (args := [.string (bs s), .string (bs [35])]) Tryd.func119 rfl rfl rfl hw ?_
  cases s with
  | nil =>
    repeat' (first | (first | (apply GL.isAny; refine GL.run (by first | exact Runs.strEq rfl rfl | exact Runs.strNe rfl rfl | exact Runs.strLen rfl | exact Runs.eqBo rfl rfl | exact Runs.strAt rfl rfl rfl (by omega)) rfl ?_) | (apply GD.isAny; refine GD.run (by first | exact Runs.strNe rfl rfl | exact Runs.strEq rfl rfl) rfl ?_)) | first | (apply GL.isAny; first | refine GL.runA rfl ?_ | (apply GL.isStore; first | refine GL.storeBlk rfl rfl rfl rfl rfl ?_ | refine GL.storeWhole rfl rfl rfl rfl rfl ?_ | refine GL.storeBlkA rfl rfl rfl rfl rfl ?_) | refine GL.guardY rfl rfl ?_ | refine GL.guardN rfl rfl rfl ?_ | refine GL.guardU rfl rfl rfl ?_ | (apply GL.isBox; first | refine GL.boxA rfl rfl (fun _ => ?_) | refine GL.box1 rfl rfl rfl (fun _ => ?_) | refine GL.box rfl rfl (fun _ => ?_)) | (apply GL.isBuildS; first | refine GL.buildSlice1A rfl rfl rfl rfl rfl (fun _ => ?_) | refine GL.buildSlice1 rfl rfl rfl rfl rfl (fun _ => ?_)) | (apply GL.isCall; refine GL.append1 _ rfl rfl rfl rfl (by rfl) (by omega) (by omega) rfl (fun _ => ?_)) | (apply GL.isAlloc; refine GL.alloc rfl (fun _ => ?_))) | apply GL.nil | first | apply G.seq | apply G.region | apply G.block | apply G.skip | apply G.exit | apply G.ret | (apply G.isCond; first | refine G.condT rfl ?_ | refine G.condF rfl ?_) | refine G.draw (by kernel_rfl) (by kernel_rfl) ?_ | (apply GE.isAny; first | apply GE.again | apply GE.thenG | apply GE.blockN | apply GE.blockE | apply GE.thenE | apply GE.thenR | apply GE.blockR | refine GE.blockO rfl ?_ | apply GE.only) | (apply GD.isAny; first | refine GD.runA rfl ?_ | refine GD.guardY rfl rfl ?_ | refine GD.guardN rfl rfl rfl ?_ | refine GD.guardU rfl rfl rfl ?_) | apply GD.nilE | apply GD.nilL | (apply GT.isAny; refine GT.runA rfl rfl ?_) | ((first | (apply GL.isAny; refine GL.guard rfl rfl (fun hc => ?_) (fun hc => ?_)) | (apply G.isCond; refine G.cond rfl (fun hc => ?_) (fun hc => ?_)) | (apply GD.isAny; refine GD.guard rfl rfl (fun hc => ?_) (fun hc => ?_))) <;> ((try simp only [decide_eq_true_eq, decide_eq_false_iff_not, Bool.not_true, Bool.not_false, ne_eq, Classical.not_not, Int.not_lt, Int.not_le] at hc); (try (exfalso; first | omega | exact hc trivial | exact hc rfl)))))
    all_goals (first | (exfalso; simp at *; done) | (refine GE.resOne rfl (by (repeat (first | apply Res.nil | (apply Res.tmp; rfl) | (refine Res.cellA rfl rfl rfl ?_) | (refine Res.cell1 rfl rfl ?_)))) (fun w h => ?_); exact ⟨rfl, h.sub⟩))
  | cons c r =>
    repeat' (first | (first | first | (apply GL.isAny; refine GL.run (by first | exact Runs.strEq rfl rfl | exact Runs.strNe rfl rfl | exact Runs.strLen rfl | exact Runs.eqBo rfl rfl | exact Runs.strAt rfl rfl rfl (by omega)) rfl ?_) | (apply GD.isAny; refine GD.run (by first | exact Runs.strNe rfl rfl | exact Runs.strEq rfl rfl) rfl ?_) | (apply GL.isAny; refine GL.run (Runs.strUpto (b := 1) rfl rfl rfl (by simp)) rfl ?_)) | first | (apply GL.isAny; first | refine GL.runA rfl ?_ | (apply GL.isStore; first | refine GL.storeBlk rfl rfl rfl rfl rfl ?_ | refine GL.storeWhole rfl rfl rfl rfl rfl ?_ | refine GL.storeBlkA rfl rfl rfl rfl rfl ?_) | refine GL.guardY rfl rfl ?_ | refine GL.guardN rfl rfl rfl ?_ | refine GL.guardU rfl rfl rfl ?_ | (apply GL.isBox; first | refine GL.boxA rfl rfl (fun _ => ?_) | refine GL.box1 rfl rfl rfl (fun _ => ?_) | refine GL.box rfl rfl (fun _ => ?_)) | (apply GL.isBuildS; first | refine GL.buildSlice1A rfl rfl rfl rfl rfl (fun _ => ?_) | refine GL.buildSlice1 rfl rfl rfl rfl rfl (fun _ => ?_)) | (apply GL.isCall; refine GL.append1 _ rfl rfl rfl rfl (by rfl) (by omega) (by omega) rfl (fun _ => ?_)) | (apply GL.isAlloc; refine GL.alloc rfl (fun _ => ?_))) | apply GL.nil | first | apply G.seq | apply G.region | apply G.block | apply G.skip | apply G.exit | apply G.ret | (apply G.isCond; first | refine G.condT rfl ?_ | refine G.condF rfl ?_) | refine G.draw (by kernel_rfl) (by kernel_rfl) ?_ | (apply GE.isAny; first | apply GE.again | apply GE.thenG | apply GE.blockN | apply GE.blockE | apply GE.thenE | apply GE.thenR | apply GE.blockR | refine GE.blockO rfl ?_ | apply GE.only) | (apply GD.isAny; first | refine GD.runA rfl ?_ | refine GD.guardY rfl rfl ?_ | refine GD.guardN rfl rfl rfl ?_ | refine GD.guardU rfl rfl rfl ?_) | apply GD.nilE | apply GD.nilL | (apply GT.isAny; refine GT.runA rfl rfl ?_) | ((first | (apply GL.isAny; refine GL.guard rfl rfl (fun hc => ?_) (fun hc => ?_)) | (apply G.isCond; refine G.cond rfl (fun hc => ?_) (fun hc => ?_)) | (apply GD.isAny; refine GD.guard rfl rfl (fun hc => ?_) (fun hc => ?_))) <;> ((try simp only [decide_eq_true_eq, decide_eq_false_iff_not, Bool.not_true, Bool.not_false, ne_eq, Classical.not_not, Int.not_lt, Int.not_le] at hc); (try (exfalso; first | omega | exact hc trivial | exact hc rfl)))))
    all_goals (first | (exfalso; simp at *; omega) | skip)
    refine GE.resOne rfl (by (repeat (first | apply Res.nil | (apply Res.tmp; rfl) | (refine Res.cellA rfl rfl rfl ?_) | (refine Res.cell1 rfl rfl ?_)))) (fun w h => ?_)
    refine ⟨?_, h.sub⟩
    simp
theorem strings_HasPrefix (s : List UInt8) (w : World) (F : List HProp) (hw : holds w F) :
    Ct Tryd.prog 95 #[.string (bs s), .string (bs [35])] w fun e w' => e = .returned (.bool (decide (s.head? = some 35))) ∧ holds w' F := by
  refine Ct.go (args := [.string (bs s), .string (bs [35])]) Tryd.func95 rfl rfl rfl hw ?_
  repeat' (first | ((apply GL.isCall; refine GL.call1 rfl rfl (fun w h => lite_HasPrefix s w _ h) ?_)) | first | (apply GL.isAny; first | refine GL.runA rfl ?_ | (apply GL.isStore; first | refine GL.storeBlk rfl rfl rfl rfl rfl ?_ | refine GL.storeWhole rfl rfl rfl rfl rfl ?_ | refine GL.storeBlkA rfl rfl rfl rfl rfl ?_) | refine GL.guardY rfl rfl ?_ | refine GL.guardN rfl rfl rfl ?_ | refine GL.guardU rfl rfl rfl ?_ | (apply GL.isBox; first | refine GL.boxA rfl rfl (fun _ => ?_) | refine GL.box1 rfl rfl rfl (fun _ => ?_) | refine GL.box rfl rfl (fun _ => ?_)) | (apply GL.isBuildS; first | refine GL.buildSlice1A rfl rfl rfl rfl rfl (fun _ => ?_) | refine GL.buildSlice1 rfl rfl rfl rfl rfl (fun _ => ?_)) | (apply GL.isCall; refine GL.append1 _ rfl rfl rfl rfl (by rfl) (by omega) (by omega) rfl (fun _ => ?_)) | (apply GL.isAlloc; refine GL.alloc rfl (fun _ => ?_))) | apply GL.nil | first | apply G.seq | apply G.region | apply G.block | apply G.skip | apply G.exit | apply G.ret | (apply G.isCond; first | refine G.condT rfl ?_ | refine G.condF rfl ?_) | refine G.draw (by kernel_rfl) (by kernel_rfl) ?_ | (apply GE.isAny; first | apply GE.again | apply GE.thenG | apply GE.blockN | apply GE.blockE | apply GE.thenE | apply GE.thenR | apply GE.blockR | refine GE.blockO rfl ?_ | apply GE.only) | (apply GD.isAny; first | refine GD.runA rfl ?_ | refine GD.guardY rfl rfl ?_ | refine GD.guardN rfl rfl rfl ?_ | refine GD.guardU rfl rfl rfl ?_) | apply GD.nilE | apply GD.nilL | (apply GT.isAny; refine GT.runA rfl rfl ?_) | ((first | (apply GL.isAny; refine GL.guard rfl rfl (fun hc => ?_) (fun hc => ?_)) | (apply G.isCond; refine G.cond rfl (fun hc => ?_) (fun hc => ?_)) | (apply GD.isAny; refine GD.guard rfl rfl (fun hc => ?_) (fun hc => ?_))) <;> ((try simp only [decide_eq_true_eq, decide_eq_false_iff_not, Bool.not_true, Bool.not_false, ne_eq, Classical.not_not, Int.not_lt, Int.not_le] at hc); (try (exfalso; first | omega | exact hc trivial | exact hc rfl)))))
  refine GE.resOne rfl (by (repeat (first | apply Res.nil | (apply Res.tmp; rfl) | (refine Res.cellA rfl rfl rfl ?_) | (refine Res.cell1 rfl rfl ?_)))) (fun w h => ?_); exact ⟨rfl, h.sub⟩
theorem opcode_one (hL : LibW W) (s : List UInt8) (hs : s.length ≤ 1048576) (w : World) (F : List HProp) {F' : List HProp} [hp : Has F (allOf W) F'] (hw : holds w F) :
    Ct Tryd.prog 80 #[.string (bs s)] w fun e w' => e = .returned (.tuple #[.int .i64 ((Oc.one s).getD (0, 0)).1, .int .i64 ((Oc.one s).getD (0, 0)).2, .bool (Oc.one s).isSome]) ∧ holds w' F := by
  refine Ct.go (args := [.string (bs s)]) Tryd.func80 rfl rfl rfl hw ?_
  by_cases h35 : s.head? = some 35
  · rw [Oc.one_ref h35]
    have C := digits_Within hL (s.drop 1) 1 4096 (by rw [List.length_drop]; omega)
    have h1 : 1 ≤ s.length := by cases s with | nil => simp at h35 | cons c r => simp
    rw [Oc.within_eq] at C
    generalize Oc.within (s.drop 1) 1 4096 = o at C
    repeat' (first | (first | first | (apply GL.isAny; refine GL.run (by first | exact Runs.strEq rfl rfl | exact Runs.strNe rfl rfl | exact Runs.strLen rfl | exact Runs.eqBo rfl rfl | exact Runs.strAt rfl rfl rfl (by omega)) rfl ?_) | (apply GD.isAny; refine GD.run (by first | exact Runs.strNe rfl rfl | exact Runs.strEq rfl rfl) rfl ?_) | (apply GL.isCall; refine GL.call1 rfl rfl (fun w h => strings_HasPrefix s w _ h) ?_) | (apply GL.isCall; refine GL.call1 rfl rfl (fun w h => C w _ h) ?_) | (apply GL.isAny; refine GL.run (Runs.strFrom (a := 1) rfl rfl rfl h1) rfl ?_)) | first | (apply GL.isAny; first | refine GL.runA rfl ?_ | (apply GL.isStore; first | refine GL.storeBlk rfl rfl rfl rfl rfl ?_ | refine GL.storeWhole rfl rfl rfl rfl rfl ?_ | refine GL.storeBlkA rfl rfl rfl rfl rfl ?_) | refine GL.guardY rfl rfl ?_ | refine GL.guardN rfl rfl rfl ?_ | refine GL.guardU rfl rfl rfl ?_ | (apply GL.isBox; first | refine GL.boxA rfl rfl (fun _ => ?_) | refine GL.box1 rfl rfl rfl (fun _ => ?_) | refine GL.box rfl rfl (fun _ => ?_)) | (apply GL.isBuildS; first | refine GL.buildSlice1A rfl rfl rfl rfl rfl (fun _ => ?_) | refine GL.buildSlice1 rfl rfl rfl rfl rfl (fun _ => ?_)) | (apply GL.isCall; refine GL.append1 _ rfl rfl rfl rfl (by rfl) (by omega) (by omega) rfl (fun _ => ?_)) | (apply GL.isAlloc; refine GL.alloc rfl (fun _ => ?_))) | apply GL.nil | first | apply G.seq | apply G.region | apply G.block | apply G.skip | apply G.exit | apply G.ret | (apply G.isCond; first | refine G.condT rfl ?_ | refine G.condF rfl ?_) | refine G.draw (by kernel_rfl) (by kernel_rfl) ?_ | (apply GE.isAny; first | apply GE.again | apply GE.thenG | apply GE.blockN | apply GE.blockE | apply GE.thenE | apply GE.thenR | apply GE.blockR | refine GE.blockO rfl ?_ | apply GE.only) | (apply GD.isAny; first | refine GD.runA rfl ?_ | refine GD.guardY rfl rfl ?_ | refine GD.guardN rfl rfl rfl ?_ | refine GD.guardU rfl rfl rfl ?_) | apply GD.nilE | apply GD.nilL | (apply GT.isAny; refine GT.runA rfl rfl ?_) | ((first | (apply GL.isAny; refine GL.guard rfl rfl (fun hc => ?_) (fun hc => ?_)) | (apply G.isCond; refine G.cond rfl (fun hc => ?_) (fun hc => ?_)) | (apply GD.isAny; refine GD.guard rfl rfl (fun hc => ?_) (fun hc => ?_))) <;> ((try simp only [decide_eq_true_eq, decide_eq_false_iff_not, Bool.not_true, Bool.not_false, ne_eq, Classical.not_not, Int.not_lt, Int.not_le] at hc); (try (exfalso; first | omega | exact hc trivial | exact hc rfl)))))
    all_goals (first | (exact absurd h35 (by assumption)) | skip)
    refine GE.resMany rfl (by (repeat (first | apply Res.nil | (apply Res.tmp; rfl) | (refine Res.cellA rfl rfl rfl ?_) | (refine Res.cell1 rfl rfl ?_)))) (fun w h => ?_)
    refine ⟨?_, h.sub⟩
    cases o <;> rfl
  · rw [Oc.one_num h35]
    have C := digits_Read hL s (by omega)
    generalize Dg.read s = o at C
    repeat' (first | (first | first | (apply GL.isAny; refine GL.run (by first | exact Runs.strEq rfl rfl | exact Runs.strNe rfl rfl | exact Runs.strLen rfl | exact Runs.eqBo rfl rfl | exact Runs.strAt rfl rfl rfl (by omega)) rfl ?_) | (apply GD.isAny; refine GD.run (by first | exact Runs.strNe rfl rfl | exact Runs.strEq rfl rfl) rfl ?_) | (apply GL.isCall; refine GL.call1 rfl rfl (fun w h => strings_HasPrefix s w _ h) ?_) | (apply GL.isCall; refine GL.call1 rfl rfl (fun w h => C w _ h) ?_)) | first | (apply GL.isAny; first | refine GL.runA rfl ?_ | (apply GL.isStore; first | refine GL.storeBlk rfl rfl rfl rfl rfl ?_ | refine GL.storeWhole rfl rfl rfl rfl rfl ?_ | refine GL.storeBlkA rfl rfl rfl rfl rfl ?_) | refine GL.guardY rfl rfl ?_ | refine GL.guardN rfl rfl rfl ?_ | refine GL.guardU rfl rfl rfl ?_ | (apply GL.isBox; first | refine GL.boxA rfl rfl (fun _ => ?_) | refine GL.box1 rfl rfl rfl (fun _ => ?_) | refine GL.box rfl rfl (fun _ => ?_)) | (apply GL.isBuildS; first | refine GL.buildSlice1A rfl rfl rfl rfl rfl (fun _ => ?_) | refine GL.buildSlice1 rfl rfl rfl rfl rfl (fun _ => ?_)) | (apply GL.isCall; refine GL.append1 _ rfl rfl rfl rfl (by rfl) (by omega) (by omega) rfl (fun _ => ?_)) | (apply GL.isAlloc; refine GL.alloc rfl (fun _ => ?_))) | apply GL.nil | first | apply G.seq | apply G.region | apply G.block | apply G.skip | apply G.exit | apply G.ret | (apply G.isCond; first | refine G.condT rfl ?_ | refine G.condF rfl ?_) | refine G.draw (by kernel_rfl) (by kernel_rfl) ?_ | (apply GE.isAny; first | apply GE.again | apply GE.thenG | apply GE.blockN | apply GE.blockE | apply GE.thenE | apply GE.thenR | apply GE.blockR | refine GE.blockO rfl ?_ | apply GE.only) | (apply GD.isAny; first | refine GD.runA rfl ?_ | refine GD.guardY rfl rfl ?_ | refine GD.guardN rfl rfl rfl ?_ | refine GD.guardU rfl rfl rfl ?_) | apply GD.nilE | apply GD.nilL | (apply GT.isAny; refine GT.runA rfl rfl ?_) | ((first | (apply GL.isAny; refine GL.guard rfl rfl (fun hc => ?_) (fun hc => ?_)) | (apply G.isCond; refine G.cond rfl (fun hc => ?_) (fun hc => ?_)) | (apply GD.isAny; refine GD.guard rfl rfl (fun hc => ?_) (fun hc => ?_))) <;> ((try simp only [decide_eq_true_eq, decide_eq_false_iff_not, Bool.not_true, Bool.not_false, ne_eq, Classical.not_not, Int.not_lt, Int.not_le] at hc); (try (exfalso; first | omega | exact hc trivial | exact hc rfl)))))
    all_goals (first | (exact absurd (by assumption) h35) | skip)
    refine GE.resMany rfl (by (repeat (first | apply Res.nil | (apply Res.tmp; rfl) | (refine Res.cellA rfl rfl rfl ?_) | (refine Res.cell1 rfl rfl ?_)))) (fun w h => ?_)
    refine ⟨?_, h.sub⟩
    cases o <;> rfl
theorem split2_ct (hL : LibW W) (s : List UInt8) (hs : s.length ≤ 1048576) (w : World) (F : List HProp) {F' : List HProp} [hp : Has F (allOf W) F'] (hw : holds w F) :
    Ct Tryd.prog 67 #[.string (bs s), .string (bs [32]), .int .i64 2] w fun e w' => ∃ v : Value, e = .returned v ∧ holds w' (owns 9 encS 1 v ((Oc.cutO s).1 :: (Oc.cutO s).2.toList) :: F) := by
  rw [← Oc.splitN2]
  obtain ⟨m, hm⟩ := (hL.at hw).mx
  have h1 := Lib.splitB_data (bs [32]) 0 (min 2 ((bs s).size + 1) - 1) (bs s)
  have h2 := Lib.splitB_length_le (bs [32]) 0 (min 2 ((bs s).size + 1) - 1) (bs s)
  have C := Any.strings_SplitN { Tryd.lays147 with } Tryd.lays147.i9 (bs s) (bs [32]) 2 m w (by rw [bs_size]; omega) hm (by decide) (by decide) (by decide)
  rw [bs_data, bs_data, bs_size] at h1
  rw [bs_size] at h2 C
  have h3 : (Lib.splitB (bs [32]) 0 (min 2 (s.length + 1) - 1) (bs s)).map (·.data.toList) = Lib.splitN s [32] 2 := h1
  generalize Lib.splitB (bs [32]) 0 (min 2 (s.length + 1) - 1) (bs s) = L at h2 h3 C
  have h4 : L.map Value.string = (Lib.splitN s [32] 2).flatMap encS := by
    rw [← h3]
    clear h2 h3 C
    induction L with
    | nil => rfl
    | cons x L ih => rw [List.map_cons, List.map_cons, List.flatMap_cons, ← ih]; unfold encS; rw [bs_back]; rfl
  have h5 : L.length = (Lib.splitN s [32] 2).length := by rw [← h3, List.length_map]
  exact ⟨C.mono fun e w' ⟨he, hk⟩ => ⟨_, he, by
    subst hk
    have hN : L.length ≤ min 2 (s.length + 1) := by omega
    have h6 := (hw.alloc (.cells (Lib.cellsOf L (min 2 (s.length + 1))) 9)).mkRow (size := 1) (n := L.length) (cap := min 2 (s.length + 1)) hN (by unfold maxLen; omega) (by rw [Lib.cellsOf_size hN]; omega)
    have h7 : (Lib.cellsOf L (min 2 (s.length + 1))).toList.take (L.length * 1) = (Lib.splitN s [32] 2).flatMap encS := by
      unfold Lib.cellsOf
      rw [← h4]
      simp
    rw [h7, h5] at h6
    rw [h5]
    exact h6⟩⟩
end
end Go.Proofs.YtpkohkkkbnfigaaDoor
