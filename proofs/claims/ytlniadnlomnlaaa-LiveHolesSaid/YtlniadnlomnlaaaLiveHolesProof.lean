/- LiveHoles: whatever the input, the law's Go text returns true, and every argument reads behind the call as it read before. -/
import Derived.Test.YtlniadnlomnlaaaRows
import Derived.WalkKit
import Derived.ProofKit
import Derived.OpenShut
import Derived.ShutString
import Derived.ChangeOld
import Derived.Below
import Derived.Test.YtlniadnlomnlaaaArgsG
import Derived.Test.YtlniadnlomnlaaaArgsLv
import Derived.Test.YtlniadnlomnlaaaLvHoles
namespace Go.Proofs.Ytlniadnlomnlaaa.liveHoles
open Go.ChangeShapes Go.WideShapes Go.ChangeAt Go.RowKit
open Go.ChangeMaps (open_string shut_string)
set_option linter.unusedVariables false

theorem own : ownKnob Try.prog.godebug = none := by kernel_rfl
theorem laidOut : laidOutB Try.prog = true := by kernel_rfl

set_option maxRecDepth 100000 in
theorem lifted (os : Os) (started : os.Started) (H : Type) (enc : TypeId × Value → H) :
    ReturnsInHanded {} Try.checked os 5 .any (Rows.liveHolesSpec.pre6 enc Try.prog Try.f5 Rows.liveHolesRow.domain false) (Rows.liveHolesSpec.post enc Try.prog Try.f5 false true false false) := by
  refine returnsInHanded_of_change (C := Try.checked) own started (by kernel_rfl) Try.func5
    (ChangeSpec.witness6 (enc := enc) (C := Try.checked) false ⟨#[], #[.slice none 0 0, .agg #[.int .i64 0, .int .i64 0, .int .i64 0, .int .i64 0]], []⟩ 8 (by kernel_rfl) (by kernel_rfl) (by kernel_rfl) (by kernel_rfl)) ?_
  intro W base args ds gs before hval0 hW hcnd _
  have hval : ∀ (j : Nat) t v, Try.f5.params[j]? = some t → args[j]? = some v → Value.okWide Try.prog W .any base t v := hval0
  have hW' := hW
  obtain ⟨p, q, hA0, hV, rfl, hfz, hnd⟩ := hW
  have hA : DataW.TrodAll enc Try.prog W 0 (fun _ => true) true Try.f5.params.toList args.toList ds p := hA0
  rw [Try.params5] at hA hval
  obtain ⟨v0, vs0, d0, ds0, p0, q0, hargs, rfl, rfl, h0, r0⟩ := trodAll_cons hA
  obtain ⟨v1, vs1, d1, ds1, p1, q1, rfl, rfl, rfl, h1, r1⟩ := trodAll_cons r0
  obtain ⟨rfl, rfl, rfl⟩ := trodAll_nil r1
  obtain rfl : args = #[v0, v1] := by cases args; simp_all
  obtain ⟨rfl, rfl⟩ := trodVars_none hV
  have k0 := h0
  have lt0 : ∀ x ∈ p0, x.block < W.heap.size := by obtain ⟨m, hm⟩ := k0; exact DataW.trod_lt m _ _ _ hm
  have hv0 := hval 0 26 v0 rfl rfl
  obtain ⟨n0, x0, tr0⟩ := arg_slice1 Try.underlying26 hv0 h0
  obtain ⟨l0, g0, m0, i0⟩ := arg_row (enc := encLaid) (fun _ => True) Try.underlying26 (by kernel_rfl) tr0 el_laid
  have k1 := h1
  have lt1 : ∀ x ∈ p1, x.block < W.heap.size := by obtain ⟨m, hm⟩ := k1; exact DataW.trod_lt m _ _ _ hm
  have hv1 := hval 1 55 v1 rfl rfl
  obtain ⟨cs1, rfl, ok1⟩ := arg_array Try.underlying55 (k := 5) (ks := [.int .i64, .int .i64, .int .i64, .int .i64]) (by kernel_rfl) hv1 h1
  obtain ⟨c1_0, r1_0, rfl, ⟨a, rfl, za⟩, c1_1, r1_1, rfl, ⟨b, rfl, zb⟩, c1_2, r1_2, rfl, ⟨c, rfl, zc⟩, c1_3, r1_3, rfl, ⟨d, rfl, zd⟩, rfl⟩ := ok1
  clear hA0 hval0
  have hs0 := holds.start W
  refine (law_LiveHoles v0 l0 m0 a b c d (wf_i64 zb).2 (wf_i64 zd) W [allOf W] hs0).out.mono fun e W' ⟨he, hh⟩ => ?_
  subst he
  have bel : Below W.heap.size W W' := hh.below_all
  exact ⟨_, rfl, _, _, _, [], _, [], hW', trodAll_mk1 (shut_bool Try.underlying4 _), (trodAll_cons_mk (Below.trod laidOut (by kernel_rfl) (of_decide_eq_true (by kernel_rfl)) k0 bel lt0) (trodAll_cons_mk (Below.trod laidOut (by kernel_rfl) (of_decide_eq_true (by kernel_rfl)) k1 bel lt1) trodAll_mk0)), rfl, bel.frame _, fun h => by cases h⟩

theorem over : Rows.liveHolesRow.holds Try.pinned (OpenSpec.ofChange Rows.liveHolesSpec) :=
  OpenClaim.holds_of_wide 5 Try.f5 rfl rfl rfl rfl rfl rfl rfl ⟨rfl, rfl, rfl, rfl, rfl⟩ rfl rfl rfl rfl rfl (by kernel_rfl) Try.func5 (by kernel_rfl)
    (of_decide_eq_true (by kernel_rfl)) (by unfold Func.isWrapper; first | (rw [if_pos (by decide +kernel)]; kernel_rfl) | (rw [if_neg (by decide +kernel)]; exact ⟨rfl, rfl⟩))
    (fun os started H enc _ => lifted os started H enc)

theorem proved : Rows.LiveHolesSaid := over
#print axioms proved
end Go.Proofs.Ytlniadnlomnlaaa.liveHoles
