import Derived.Test.YtipkgamiejenaaaGreatRows
import Derived.WalkKit
import Derived.ProofKit
import Derived.OpenShut
import Derived.ShutString
import Derived.ChangeOld
import Derived.Below
import Derived.Test.YtipkgamiejenaaaGreatMg5
import Derived.Test.YtipkgamiejenaaaGreatRcPn
/- ReclaimPlans: whatever the input, the law's Go text returns true, and every argument reads behind the call as it read before. -/
namespace Go.Proofs.YtipkgamiejenaaaGreat.reclaimPlans
open Go.ChangeShapes Go.WideShapes Go.ChangeAt Go.RowKit
open Go.ChangeMaps (open_string shut_string)
set_option linter.unusedVariables false

theorem own : ownKnob Tryz.prog.godebug = none := by kernel_rfl
theorem laidOut : laidOutB Tryz.prog = true := by kernel_rfl

set_option maxRecDepth 100000 in
set_option maxHeartbeats 4000000 in
theorem lifted (os : Os) (started : os.Started) (H : Type) (enc : TypeId × Value → H) :
    ReturnsInHanded {} Tryz.checked os 9 .any (Rows.reclaimPlansSpec.pre6 enc Tryz.prog Tryz.f9 Rows.reclaimPlansRow.domain false) (Rows.reclaimPlansSpec.post enc Tryz.prog Tryz.f9 false true false false) := by
  refine returnsInHanded_of_change (C := Tryz.checked) own started (by kernel_rfl) Tryz.func9
    (ChangeSpec.witness6 (enc := enc) (C := Tryz.checked) false ⟨#[], #[.int .u8 0, .slice none 0 0], []⟩ 8 (by kernel_rfl) (by kernel_rfl) (by kernel_rfl) (by kernel_rfl)) ?_
  intro W base args ds gs before hval0 hW hcnd _
  have hval : ∀ (j : Nat) t v, Tryz.f9.params[j]? = some t → args[j]? = some v → Value.okWide Tryz.prog W .any base t v := hval0
  have hW' := hW
  obtain ⟨p, q, hA0, hV, rfl, hfz, hnd⟩ := hW
  have hA : DataW.TrodAll enc Tryz.prog W 0 (fun _ => true) true Tryz.f9.params.toList args.toList ds p := hA0
  rw [Tryz.params9] at hA hval
  obtain ⟨v0, vs0, d0, ds0, p0, q0, hargs, rfl, rfl, h0, r0⟩ := trodAll_cons hA
  obtain ⟨v1, vs1, d1, ds1, p1, q1, rfl, rfl, rfl, h1, r1⟩ := trodAll_cons r0
  obtain ⟨rfl, rfl, rfl⟩ := trodAll_nil r1
  obtain rfl : args = #[v0, v1] := by cases args; simp_all
  obtain ⟨rfl, rfl⟩ := trodVars_none hV
  have k0 := h0
  have lt0 : ∀ x ∈ p0, x.block < W.heap.size := by obtain ⟨m, hm⟩ := k0; exact DataW.trod_lt m _ _ _ hm
  have hv0 := hval 0 5 v0 rfl rfl
  obtain ⟨a0, rfl, w0⟩ : ∃ n, v0 = .int .u8 n ∧ (Lit.int .u8 n).wf = true := by obtain ⟨n, e, _, _, x⟩ := open_int Tryz.underlying5 hv0 h0; exact ⟨n, e, x⟩
  have k1 := h1
  have lt1 : ∀ x ∈ p1, x.block < W.heap.size := by obtain ⟨m, hm⟩ := k1; exact DataW.trod_lt m _ _ _ hm
  have hv1 := hval 1 50 v1 rfl rfl
  obtain ⟨n1, x1, tr1⟩ := arg_slice1 Tryz.underlying50 hv1 h1
  obtain ⟨l1, g1, m1, i1⟩ := arg_row (enc := Rw.encU8) (fun a => 0 ≤ a ∧ a ≤ 255) Tryz.underlying50 (by kernel_rfl) tr1 Rw.el_u8
  clear hA0 hval0
  have hs0 := holds.start W
  refine (law25_Plans a0 (Rw.wf_u8 w0) v1 l1 g1 W [allOf W] hs0).out.mono fun e W' ⟨he, hh⟩ => ?_
  subst he
  have bel : Below W.heap.size W W' := hh.below_all
  exact ⟨_, rfl, _, _, _, [], _, [], hW', trodAll_mk1 (shut_bool Tryz.underlying4 _), (trodAll_cons_mk (Below.trod laidOut (by kernel_rfl) (of_decide_eq_true (by kernel_rfl)) k0 bel lt0) (trodAll_cons_mk (Below.trod laidOut (by kernel_rfl) (of_decide_eq_true (by kernel_rfl)) k1 bel lt1) trodAll_mk0)), rfl, bel.frame _, fun h => by cases h⟩

theorem told : Tryz.pinned.checked.prog.funcNamed Rows.reclaimPlansRow.func = some 9 := by kernel_rfl

theorem facts : joinedFacts Tryz.pinned.checked.prog 9 Tryz.f9 Rows.reclaimPlansSpec Rows.reclaimPlansRow = true := by kernel_rfl

theorem over : Rows.reclaimPlansRow.holds Tryz.pinned (OpenSpec.ofChange Rows.reclaimPlansSpec) :=
  OpenClaim.holds_of_wide 9 Tryz.f9 rfl rfl rfl rfl rfl rfl rfl ⟨rfl, rfl, rfl, rfl, rfl⟩ rfl rfl rfl rfl rfl told Tryz.func9 facts
    (of_decide_eq_true (by kernel_rfl)) (by unfold Func.isWrapper; first | (rw [if_pos (by decide +kernel)]; kernel_rfl) | (rw [if_neg (by decide +kernel)]; exact ⟨rfl, rfl⟩))
    (fun os started H enc _ => lifted os started H enc)

theorem proved : Rows.ReclaimPlansSaid := over
#print axioms proved
end Go.Proofs.YtipkgamiejenaaaGreat.reclaimPlans
