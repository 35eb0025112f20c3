/- slices.Sorted(maps.Keys(m)) at the nil map. -/
import Derived.Test.YtfkpcmlajdmnfaaSorted
namespace Go.Proofs.Ytfkpcmlajdmnfaa
open Go Go.RowKit Go.MapKept Go.Maps Go.Sort Go.Shelf Go.WideElems
set_option maxRecDepth 100000

theorem Try.keysII_nil (w : World) (F : List HProp) (hw : holds w F) : Calls Try.prog 98 #[.map none] w fun e w' => e = .returned (.func (.func 106) #[] #[.pointer (some ⟨w.heap.size, 0, none⟩)]) ∧ holds w' (blk w.heap.size (.cells #[.map none] 69 (0, 0)) :: F) :=
  (callsIn_wide (n := 5)).1 ((AnyZI.keys_in Try.keys98 Fence.wide 5 trivial rfl none w).mono fun e w' ⟨he, hw'⟩ => ⟨he, by subst hw'; exact hw.alloc _⟩)
theorem Try.sortedII_nil (w : World) (nb : Nat) (F : List HProp) (hw : holds w (blk nb (.cells #[.map none] 69 (0, 0)) :: F)) :
    Calls Try.prog 97 #[.func (.func 106) #[] #[.pointer (some ⟨nb, 0, none⟩)]] w fun e w' => e = .returned (.slice none 0 0) ∧ holds w' F := by
  have hseq : SeqGives Fence.wide 2 Try.prog 106 #[.pointer (some ⟨nb, 0, none⟩)] encZ (fun ss : List Int => ss = []) 0 w :=
    AnyZI.keys_gives_nil (ρ := Try.keys98_ren) { Try.keys98 with } Fence.wide _ trivial rfl nb w hw.lt (by rw [cellAt hw.get_blk]; rfl)
  have cS := AnyZI.sorted_in Try.sortedInt Fence.wide 5 trivial trivial trivial trivial rfl (by omega) (Try.sortsInt _) (enters_of Try.func105 (by kernel_rfl) rfl) 106 #[.pointer (some ⟨nb, 0, none⟩)] trivial (enters_of Try.func106 (by kernel_rfl) rfl) _ _ (by unfold maxLen; omega) (by omega) _ hseq
  change CallsIn _ _ Try.prog 97 _ _ _ at cS
  refine ((callsIn_wide (n := 5)).1 cS).mono ?_
  rintro e w' ⟨v, ss, rfl, hS, hrow, hnil, hb⟩
  rw [hnil.2 hS]
  exact ⟨rfl, hw.tail.below hb⟩
theorem Try.keysIB_nil (w : World) (F : List HProp) (hw : holds w F) : Calls Try.prog 101 #[.map none] w fun e w' => e = .returned (.func (.func 107) #[] #[.pointer (some ⟨w.heap.size, 0, none⟩)]) ∧ holds w' (blk w.heap.size (.cells #[.map none] 109 (0, 0)) :: F) :=
  (callsIn_wide (n := 5)).1 ((AnyZI.keys_in Try.keys101 Fence.wide 5 trivial rfl none w).mono fun e w' ⟨he, hw'⟩ => ⟨he, by subst hw'; exact hw.alloc _⟩)
theorem Try.sortedIB_nil (w : World) (nb : Nat) (F : List HProp) (hw : holds w (blk nb (.cells #[.map none] 109 (0, 0)) :: F)) :
    Calls Try.prog 97 #[.func (.func 107) #[] #[.pointer (some ⟨nb, 0, none⟩)]] w fun e w' => e = .returned (.slice none 0 0) ∧ holds w' F := by
  have hseq : SeqGives Fence.wide 2 Try.prog 107 #[.pointer (some ⟨nb, 0, none⟩)] encZ (fun ss : List Int => ss = []) 0 w :=
    AnyZI.keys_gives_nil (ρ := Try.keys101_ren) { Try.keys101 with } Fence.wide _ trivial rfl nb w hw.lt (by rw [cellAt hw.get_blk]; rfl)
  have cS := AnyZI.sorted_in Try.sortedInt Fence.wide 5 trivial trivial trivial trivial rfl (by omega) (Try.sortsInt _) (enters_of Try.func105 (by kernel_rfl) rfl) 107 #[.pointer (some ⟨nb, 0, none⟩)] trivial (enters_of Try.func107 (by kernel_rfl) rfl) _ _ (by unfold maxLen; omega) (by omega) _ hseq
  change CallsIn _ _ Try.prog 97 _ _ _ at cS
  refine ((callsIn_wide (n := 5)).1 cS).mono ?_
  rintro e w' ⟨v, ss, rfl, hS, hrow, hnil, hb⟩
  rw [hnil.2 hS]
  exact ⟨rfl, hw.tail.below hb⟩
end Go.Proofs.Ytfkpcmlajdmnfaa
