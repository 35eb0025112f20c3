/- SoundWhy: whatever the input, the law's Go text returns true, and every argument reads behind the call as it read before. -/
import Derived.Test.YtfiggkbclldccaaRows
import Derived.WalkKit
import Derived.ProofKit
import Derived.OpenShut
import Derived.ShutString
import Derived.ChangeOld
import Derived.Below
import Derived.Test.YtfiggkbclldccaaArgsG
import Derived.Test.YtfiggkbclldccaaArgsSd
import Derived.Test.YtfiggkbclldccaaSdS
import Derived.Test.YtfiggkbclldccaaSdR
namespace Go.Proofs.Ytfiggkbclldccaa.soundWhy
open Go.ChangeShapes Go.WideShapes Go.ChangeAt Go.RowKit
open Go.ChangeMaps (open_string shut_string)
set_option linter.unusedVariables false

theorem own : ownKnob Try.prog.godebug = none := by kernel_rfl
theorem laidOut : laidOutB Try.prog = true := by kernel_rfl

set_option maxRecDepth 100000 in
theorem lifted (os : Os) (started : os.Started) (H : Type) (enc : TypeId × Value → H) :
    ReturnsInHanded {} Try.checked os 3 .any (Rows.soundWhySpec.pre6 enc Try.prog Try.f3 Rows.soundWhyRow.domain false) (Rows.soundWhySpec.post enc Try.prog Try.f3 false true false false) := by
  refine returnsInHanded_of_change (C := Try.checked) own started (by kernel_rfl) Try.func3
    (ChangeSpec.witness6 (enc := enc) (C := Try.checked) false ⟨#[], #[.agg #[.int .i64 0, .int .i64 0, .int .i64 0, .int .i64 0], .agg #[.int .i64 0, .slice none 0 0, .slice none 0 0, .slice none 0 0, .slice none 0 0, .slice none 0 0], .agg #[.int .i64 0, .slice none 0 0, .slice none 0 0, .slice none 0 0, .slice none 0 0, .slice none 0 0]], []⟩ 8 (by kernel_rfl) (by kernel_rfl) (by kernel_rfl) (by kernel_rfl)) ?_
  intro W base args ds gs before hval0 hW hcnd _
  have hval : ∀ (j : Nat) t v, Try.f3.params[j]? = some t → args[j]? = some v → Value.okWide Try.prog W .any base t v := hval0
  have hW' := hW
  obtain ⟨p, q, hA0, hV, rfl, hfz, hnd⟩ := hW
  have hA : DataW.TrodAll enc Try.prog W 0 (fun _ => true) true Try.f3.params.toList args.toList ds p := hA0
  rw [Try.params3] at hA hval
  obtain ⟨v0, vs0, d0, ds0, p0, q0, hargs, rfl, rfl, h0, r0⟩ := trodAll_cons hA
  obtain ⟨v1, vs1, d1, ds1, p1, q1, rfl, rfl, rfl, h1, r1⟩ := trodAll_cons r0
  obtain ⟨v2, vs2, d2, ds2, p2, q2, rfl, rfl, rfl, h2, r2⟩ := trodAll_cons r1
  obtain ⟨rfl, rfl, rfl⟩ := trodAll_nil r2
  obtain rfl : args = #[v0, v1, v2] := by cases args; simp_all
  obtain ⟨rfl, rfl⟩ := trodVars_none hV
  have k0 := h0
  have lt0 : ∀ x ∈ p0, x.block < W.heap.size := by obtain ⟨m, hm⟩ := k0; exact DataW.trod_lt m _ _ _ hm
  have hv0 := hval 0 23 v0 rfl rfl
  obtain ⟨cs0, rfl, ok0⟩ := arg_struct Try.underlying23 (k := 7) (ks := [.int .i64, .int .i64, .int .i64, .int .i64]) (by kernel_rfl) hv0 h0
  obtain ⟨c0_0, r0_0, rfl, ⟨n, rfl, zn⟩, c0_1, r0_1, rfl, ⟨z, rfl, zz⟩, c0_2, r0_2, rfl, ⟨u, rfl, zu⟩, c0_3, r0_3, rfl, ⟨q, rfl, zq⟩, rfl⟩ := ok0
  have k1 := h1
  have lt1 : ∀ x ∈ p1, x.block < W.heap.size := by obtain ⟨m, hm⟩ := k1; exact DataW.trod_lt m _ _ _ hm
  have hv1 := hval 1 30 v1 rfl rfl
  obtain ⟨tk, ac, aw, am, ap, al, kc, kw, km, kp, kl, cc, cw, cm, cp, cl, C, Q, M, T, L, rfl, gC, gM, iC, iQ, iM, iT, iL⟩ := arg_state hv1 h1
  have k2 := h2
  have lt2 : ∀ x ∈ p2, x.block < W.heap.size := by obtain ⟨m, hm⟩ := k2; exact DataW.trod_lt m _ _ _ hm
  have hv2 := hval 2 30 v2 rfl rfl
  obtain ⟨tk2, ac2, aw2, am2, ap2, al2, kc2, kw2, km2, kp2, kl2, cc2, cw2, cm2, cp2, cl2, C2, Q2, M2, T2, L2, rfl, gC2, gM2, iC2, iQ2, iM2, iT2, iL2⟩ := arg_state hv2 h2
  clear hA0 hval0
  have hs0 := holds.start W
  refine (law49_SoundWhy tk tk2 ac aw am ap al ac2 aw2 am2 ap2 al2 kc kw km kp kl cc cw cm cp cl kc2 kw2 km2 kp2 kl2 cc2 cw2 cm2 cp2 cl2 C Q M T L C2 Q2 M2 T2 L2 law49_works n z u q (wf_R64 zz) gC gM W [allOf W] hs0).out.mono fun e W' ⟨he, hh⟩ => ?_
  subst he
  have bel : Below W.heap.size W W' := hh.below_all
  exact ⟨_, rfl, _, _, _, [], _, [], hW', trodAll_mk1 (shut_bool Try.underlying4 _), (trodAll_cons_mk (Below.trod laidOut (by kernel_rfl) (of_decide_eq_true (by kernel_rfl)) k0 bel lt0) (trodAll_cons_mk (Below.trod laidOut (by kernel_rfl) (of_decide_eq_true (by kernel_rfl)) k1 bel lt1) (trodAll_cons_mk (Below.trod laidOut (by kernel_rfl) (of_decide_eq_true (by kernel_rfl)) k2 bel lt2) trodAll_mk0))), rfl, bel.frame _, fun h => by cases h⟩

theorem over : Rows.soundWhyRow.holds Try.pinned (OpenSpec.ofChange Rows.soundWhySpec) :=
  OpenClaim.holds_of_wide 3 Try.f3 rfl rfl rfl rfl rfl rfl rfl ⟨rfl, rfl, rfl, rfl, rfl⟩ rfl rfl rfl rfl rfl (by kernel_rfl) Try.func3 (by kernel_rfl)
    (of_decide_eq_true (by kernel_rfl)) (by unfold Func.isWrapper; first | (rw [if_pos (by decide +kernel)]; kernel_rfl) | (rw [if_neg (by decide +kernel)]; exact ⟨rfl, rfl⟩))
    (fun os started H enc _ => lifted os started H enc)

theorem proved : Rows.SoundWhySaid := over
#print axioms proved
end Go.Proofs.Ytfiggkbclldccaa.soundWhy
