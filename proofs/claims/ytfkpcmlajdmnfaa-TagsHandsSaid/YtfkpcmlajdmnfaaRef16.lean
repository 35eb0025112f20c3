/- Contracts of the reference of chapter 16. -/
import Derived.Test.YtfkpcmlajdmnfaaAppend
import Derived.Test.YtfkpcmlajdmnfaaTagsB
namespace Go.Proofs.Ytfkpcmlajdmnfaa
open Go Go.RowKit Go.MapKept
set_option maxRecDepth 100000
set_option linter.unusedVariables false

theorem ref16_Put (w : World) (v : Value) (l : List Int) (i x : Int) (F : List HProp) (hl : l.length ≤ 1000000000) (h0 : 0 ≤ i) (h1 : i < l.length) (hw : holds w (roInts v l :: F)) :
    Calls Try.prog 87 #[v, .int .i64 i, .int .i64 x] w fun e w' => ∃ v', e = .returned v' ∧ holds w' (roInts v' (l.set i.toNat x) :: roInts v l :: F) := by
  obtain ⟨k, rfl⟩ := Int.eq_ofNat_of_zero_le h0
  have hk : k < l.length := by omega
  rw [Int.toNat_natCast]
  obtain ⟨a, cap, rfl, hcap⟩ := roInts_form hw
  have h2 := hw.emptyInts
  have hr := holds.roReads (h2.pick 1)
  go_enter Try.func87, Try.ntmps87
  go_wp2_with (first
    | (at_builtin; refine wpList_appendInts (l := []) (m := l) rfl _ _ rfl rfl h2 rfl hr (by simp; omega) ?_; clear hr; intro v3 w3 h3; obtain ⟨g3, cap3, rfl, hc3, hc4, k3, f3⟩ := h3.intAt k hk; unfold maxLen at hc4)
    | (refine wpList_setInt rfl rfl _ _ rfl rfl rfl h3 hk ?_; clear k3 f3; intro w4 h4))
  go_ret
  exact ⟨_, rfl, holds.shareInts h4⟩

end Go.Proofs.Ytfkpcmlajdmnfaa
