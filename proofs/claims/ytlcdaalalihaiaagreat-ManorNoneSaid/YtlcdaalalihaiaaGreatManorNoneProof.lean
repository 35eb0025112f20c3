import Derived.Test.YtlcdaalalihaiaaGreatRows
import Derived.WalkKit
import Derived.ProofKit
import Derived.OpenShut
import Derived.ShutString
import Derived.ChangeOld
import Derived.Below
import Derived.Test.YtlcdaalalihaiaaGreatMg0
import Derived.Test.YtlcdaalalihaiaaGreatMg17
/- ManorNone: whatever the input, the law's Go text returns true, and every argument reads behind the call as it read before. -/
namespace Go.Proofs.YtlcdaalalihaiaaGreat.manorNone
open Go.ChangeShapes Go.WideShapes Go.ChangeAt Go.RowKit
open Go.ChangeMaps (open_string shut_string)
set_option linter.unusedVariables false

theorem own : ownKnob Tryz.prog.godebug = none := by kernel_rfl
theorem laidOut : laidOutB Tryz.prog = true := by kernel_rfl

set_option maxRecDepth 100000 in
set_option maxHeartbeats 4000000 in
theorem lifted (os : Os) (started : os.Started) (H : Type) (enc : TypeId × Value → H) :
    ReturnsInHanded {} Tryz.checked os 3 .any (Rows.manorNoneSpec.pre6 enc Tryz.prog Tryz.f3 Rows.manorNoneRow.domain false) (Rows.manorNoneSpec.post enc Tryz.prog Tryz.f3 false true false false) := by
  refine returnsInHanded_of_change (C := Tryz.checked) own started (by kernel_rfl) Tryz.func3
    (ChangeSpec.witness6 (enc := enc) (C := Tryz.checked) false ⟨#[], #[.agg #[.int .i64 0, .int .i64 0, .int .i64 0, .int .i64 0, .string ⟨#[]⟩]], []⟩ 8 (by kernel_rfl) (by kernel_rfl) (by kernel_rfl) (by kernel_rfl)) ?_
  intro W base args ds gs before hval0 hW hcnd _
  have hval : ∀ (j : Nat) t v, Tryz.f3.params[j]? = some t → args[j]? = some v → Value.okWide Tryz.prog W .any base t v := hval0
  have hW' := hW
  obtain ⟨p, q, hA0, hV, rfl, hfz, hnd⟩ := hW
  have hA : DataW.TrodAll enc Tryz.prog W 0 (fun _ => true) true Tryz.f3.params.toList args.toList ds p := hA0
  rw [Tryz.params3] at hA hval
  obtain ⟨v0, vs0, d0, ds0, p0, q0, hargs, rfl, rfl, h0, r0⟩ := trodAll_cons hA
  obtain ⟨rfl, rfl, rfl⟩ := trodAll_nil r0
  obtain rfl : args = #[v0] := by cases args; simp_all
  obtain ⟨rfl, rfl⟩ := trodVars_none hV
  have k0 := h0
  have lt0 : ∀ x ∈ p0, x.block < W.heap.size := by obtain ⟨m, hm⟩ := k0; exact DataW.trod_lt m _ _ _ hm
  have hv0 := hval 0 23 v0 rfl rfl
  obtain ⟨cs0, rfl, ok0⟩ := arg_struct Tryz.underlying23 (k := 7) (ks := [.int .i64, .int .i64, .int .i64, .int .i64, .str]) (by kernel_rfl) hv0 h0
  obtain ⟨c0_0, r0_0, rfl, ⟨ka, rfl, zka⟩, c0_1, r0_1, rfl, ⟨kb, rfl, zkb⟩, c0_2, r0_2, rfl, ⟨kc, rfl, zkc⟩, c0_3, r0_3, rfl, ⟨kd, rfl, zkd⟩, c0_4, r0_4, rfl, ⟨ks, rfl, zks⟩, rfl⟩ := ok0
  clear hA0 hval0
  refine (Ex.law43_None ka kb kc kd ks W).mono fun e W' ⟨he, bel⟩ => ?_
  subst he
  exact ⟨_, rfl, _, _, _, [], _, [], hW', trodAll_mk1 (shut_bool Tryz.underlying4 _), (trodAll_cons_mk (Below.trod laidOut (by kernel_rfl) (of_decide_eq_true (by kernel_rfl)) k0 bel lt0) trodAll_mk0), rfl, bel.frame _, fun h => by cases h⟩

theorem told : Tryz.pinned.checked.prog.funcNamed Rows.manorNoneRow.func = some 3 := by kernel_rfl

theorem and2 {a b : Bool} (ha : a = true) (hb : b = true) : (a && b) = true := by rw [ha, hb]; rfl

theorem g1 : (Rows.manorNoneRow.wf (OpenSpec.ofChange Rows.manorNoneSpec) && laidOutB Tryz.pinned.checked.prog && mapsRowed Tryz.pinned.checked.prog) = true := by kernel_rfl

theorem g10 : (Rows.manorNoneRow.inPlace == Tryz.pinned.checked.prog.inPlace 3) = true := by kernel_rfl

theorem g11 : (Rows.manorNoneRow.unfollowed == Tryz.pinned.checked.prog.unfollowed 3) = true := by kernel_rfl

theorem g12 : (Rows.manorNoneRow.recurses == Tryz.pinned.checked.prog.recurses 3) = true := by kernel_rfl

theorem g13 : (Rows.manorNoneRow.named == Tryz.pinned.checked.prog.varsNamed 3) = true := by kernel_rfl

theorem g23 : (Rows.manorNoneRow.plainKeys == Tryz.pinned.checked.prog.plainKeys) = true := by kernel_rfl

theorem g25 : Tryz.pinned.checked.prog.stopsHeard = true := by kernel_rfl

theorem g26 : Tryz.pinned.checked.prog.mayEnter = true := by kernel_rfl

theorem facts : joinedFacts Tryz.pinned.checked.prog 3 Tryz.f3 Rows.manorNoneSpec Rows.manorNoneRow = true := by
  unfold joinedFacts
  exact (and2 (and2 (and2 (and2 (and2 (and2 (and2 (and2 (and2 (and2 (and2 (and2 (and2 (and2 (and2 (and2 (and2 (and2 (and2 (and2 (and2 (and2 (and2 (and2 (and2 (and2 (and2 (and2 (and2 g1 (by kernel_rfl)) (by kernel_rfl)) (by kernel_rfl)) (by kernel_rfl)) (by kernel_rfl)) (by kernel_rfl)) g10) g11) g12) g13) (by kernel_rfl)) (by kernel_rfl)) (by kernel_rfl)) (by kernel_rfl)) (by kernel_rfl)) (by kernel_rfl)) (by kernel_rfl)) (by kernel_rfl)) (by kernel_rfl)) g23) (by kernel_rfl)) g25) g26) (by kernel_rfl)) (by kernel_rfl)) (by kernel_rfl)) (by kernel_rfl)) (by kernel_rfl)) (by kernel_rfl))

theorem over : Rows.manorNoneRow.holds Tryz.pinned (OpenSpec.ofChange Rows.manorNoneSpec) :=
  OpenClaim.holds_of_wide 3 Tryz.f3 rfl rfl rfl rfl rfl rfl rfl ⟨rfl, rfl, rfl, rfl, rfl⟩ rfl rfl rfl rfl rfl told Tryz.func3 facts
    (of_decide_eq_true (by kernel_rfl)) (by unfold Func.isWrapper; first | (rw [if_pos (by decide +kernel)]; kernel_rfl) | (rw [if_neg (by decide +kernel)]; exact ⟨rfl, rfl⟩))
    (fun os started H enc _ => lifted os started H enc)

theorem proved : Rows.ManorNoneSaid := over
#print axioms proved
end Go.Proofs.YtlcdaalalihaiaaGreat.manorNone
