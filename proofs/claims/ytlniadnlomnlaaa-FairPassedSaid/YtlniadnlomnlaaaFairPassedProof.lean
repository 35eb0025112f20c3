/- FairPassed: whatever the input, the law's Go text returns true, and every argument reads behind the call as it read before. -/
import Derived.Test.YtlniadnlomnlaaaRows
import Derived.WalkKit
import Derived.ProofKit
import Derived.OpenShut
import Derived.ShutString
import Derived.ChangeOld
import Derived.Below
import Derived.Test.YtlniadnlomnlaaaArgsG
import Derived.Test.YtlniadnlomnlaaaArgs48
namespace Go.Proofs.Ytlniadnlomnlaaa.fairPassed
open Go.ChangeShapes Go.WideShapes Go.ChangeAt Go.RowKit
open Go.ChangeMaps (open_string shut_string)
set_option linter.unusedVariables false

theorem own : ownKnob Try.prog.godebug = none := by kernel_rfl
theorem laidOut : laidOutB Try.prog = true := by kernel_rfl

set_option maxRecDepth 100000 in
theorem lifted (os : Os) (started : os.Started) (H : Type) (enc : TypeId × Value → H) :
    ReturnsInHanded {} Try.checked os 6 .any (Rows.fairPassedSpec.pre6 enc Try.prog Try.f6 Rows.fairPassedRow.domain false) (Rows.fairPassedSpec.post enc Try.prog Try.f6 false true false false) := by
  refine returnsInHanded_of_change (C := Try.checked) own started (by kernel_rfl) Try.func6
    (ChangeSpec.witness6 (enc := enc) (C := Try.checked) false ⟨#[], #[.agg #[.slice none 0 0, .int .i64 0, .int .i64 0, .slice none 0 0, .slice none 0 0]], []⟩ 8 (by kernel_rfl) (by kernel_rfl) (by kernel_rfl) (by kernel_rfl)) ?_
  intro W base args ds gs before hval0 hW hcnd _
  have hval : ∀ (j : Nat) t v, Try.f6.params[j]? = some t → args[j]? = some v → Value.okWide Try.prog W .any base t v := hval0
  have hW' := hW
  obtain ⟨p, q, hA0, hV, rfl, hfz, hnd⟩ := hW
  have hA : DataW.TrodAll enc Try.prog W 0 (fun _ => true) true Try.f6.params.toList args.toList ds p := hA0
  rw [Try.params6] at hA hval
  obtain ⟨v0, vs0, d0, ds0, p0, q0, hargs, rfl, rfl, h0, r0⟩ := trodAll_cons hA
  obtain ⟨rfl, rfl, rfl⟩ := trodAll_nil r0
  obtain rfl : args = #[v0] := by cases args; simp_all
  obtain ⟨rfl, rfl⟩ := trodVars_none hV
  have k0 := h0
  have lt0 : ∀ x ∈ p0, x.block < W.heap.size := by obtain ⟨m, hm⟩ := k0; exact DataW.trod_lt m _ _ _ hm
  have hv0 := hval 0 68 v0 rfl rfl
  obtain ⟨cs0, rfl, ok0⟩ := arg_struct Try.underlying68 (k := 7) (ks := [.slice 64, .int .i64, .int .i64, .slice 65, .slice 66]) (by kernel_rfl) hv0 h0
  obtain ⟨c0_0, r0_0, rfl, ⟨np, xp, trp⟩, c0_1, r0_1, rfl, ⟨a, rfl, za⟩, c0_2, r0_2, rfl, ⟨b, rfl, zb⟩, c0_3, r0_3, rfl, ⟨nm, xm, trm⟩, c0_4, r0_4, rfl, ⟨ng, xg, trg⟩, rfl⟩ := ok0
  obtain ⟨l0, _, _, i0⟩ := arg_row (enc := encTk) OkTk Try.underlying64 (by kernel_rfl) trp el_tick
  obtain ⟨l1, _, _, i1⟩ := arg_row (enc := encMb) (fun _ => True) Try.underlying65 (by kernel_rfl) trm el_memb
  obtain ⟨l2, _, _, i2⟩ := arg_row (enc := encI1) (fun _ => True) Try.underlying66 (by kernel_rfl) trg el_int
  clear hA0 hval0
  have hs0 := holds.start W
  refine (law48_FairPassed law48_works c0_0 c0_3 c0_4 a b l0 l1 l2 W [allOf W] hs0).out.mono fun e W' ⟨he, hh⟩ => ?_
  subst he
  have bel : Below W.heap.size W W' := hh.below_all
  exact ⟨_, rfl, _, _, _, [], _, [], hW', trodAll_mk1 (shut_bool Try.underlying4 _), (trodAll_cons_mk (Below.trod laidOut (by kernel_rfl) (of_decide_eq_true (by kernel_rfl)) k0 bel lt0) trodAll_mk0), rfl, bel.frame _, fun h => by cases h⟩

theorem over : Rows.fairPassedRow.holds Try.pinned (OpenSpec.ofChange Rows.fairPassedSpec) :=
  OpenClaim.holds_of_wide 6 Try.f6 rfl rfl rfl rfl rfl rfl rfl ⟨rfl, rfl, rfl, rfl, rfl⟩ rfl rfl rfl rfl rfl (by kernel_rfl) Try.func6 (by kernel_rfl)
    (of_decide_eq_true (by kernel_rfl)) (by unfold Func.isWrapper; first | (rw [if_pos (by decide +kernel)]; kernel_rfl) | (rw [if_neg (by decide +kernel)]; exact ⟨rfl, rfl⟩))
    (fun os started H enc _ => lifted os started H enc)

theorem proved : Rows.FairPassedSaid := over
#print axioms proved
end Go.Proofs.Ytlniadnlomnlaaa.fairPassed
