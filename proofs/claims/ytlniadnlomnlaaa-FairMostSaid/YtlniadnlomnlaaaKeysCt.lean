/- slices.Sorted(maps.Keys(m)) at each map keyed by ints. Printed by genkeys.py. -/
import Derived.Test.YtlniadnlomnlaaaSorted
import Derived.Test.YtlniadnlomnlaaaGoLib
namespace Go.Proofs.Ytlniadnlomnlaaa
open Go Go.RowKit Go.MapKept Go.Maps Go.Sort Go.Shelf Go.WideElems
set_option maxRecDepth 100000

/-- maps.Keys[map[int]*copyhold/live.chunk,int,*copyhold/live.chunk] -/
theorem ctKeys55 (b : Nat) (w : World) (F : List HProp) (hw : holds w F) : Ct Try.prog 55 #[.map (some b)] w fun e w' => ∃ nb : Nat, e = .returned (.func (.func 92) #[] #[.pointer (some ⟨nb, 0, none⟩)]) ∧ holds w' (blk nb (.cells #[.map (some b)] 51 (0, 0)) :: F) :=
  ⟨(callsIn_wide (n := 5)).1 ((AnyZI.keys_in Try.keys55 Fence.wide 5 trivial rfl (some b) w).mono fun e w' ⟨he, hw'⟩ => ⟨w.heap.size, he, by subst hw'; exact hw.alloc _⟩)⟩
theorem ctSorted55 {β : Type} (enc : β → Value) (b nb : Nat) (m : List (Int × β)) (hwf : ∀ x ∈ alKeys m, (Lit.int .i64 x).wf = true) (hsz : m.length ≤ 1000000000) (w : World) (F : List HProp) (hw : holds w (blk nb (.cells #[.map (some b)] 51 (0, 0)) :: imap enc b m :: F)) :
    Ct Try.prog 54 #[.func (.func 92) #[] #[.pointer (some ⟨nb, 0, none⟩)]] w fun e w' => ∃ v, e = .returned v ∧ holds w' (owns 3 encI1 1 v (sortInts (alKeys m)) :: imap enc b m :: F) := by
  obtain ⟨D, hown, hperm, hsize⟩ := imap_ownsMap Try.underlying3 (hw.pick 1) hwf (by unfold maxLen; omega)
  have hseq : SeqGives Fence.wide 2 Try.prog 92 #[.pointer (some ⟨nb, 0, none⟩)] encZ (fun ss => ss.Perm (intKeys D)) (Maps.size D) w :=
    AnyZI.keys_gives (ρ := Try.keys55_ren) { Try.keys55 with } Fence.wide _ trivial rfl (by omega) nb b m.length D w hw.lt (by rw [cellAt hw.get_blk]; rfl) hown
  have cS := AnyZI.sorted_in Try.sortedInt Fence.wide 5 trivial trivial trivial trivial rfl (by omega) (Try.sortsInt _) (enters_of Try.func91 (by kernel_rfl) rfl) 92 #[.pointer (some ⟨nb, 0, none⟩)] trivial (enters_of Try.func92 (by kernel_rfl) rfl) _ _ (by unfold maxLen; omega) (by omega) _ hseq
  change CallsIn _ _ Try.prog 54 _ _ _ at cS
  refine ⟨((callsIn_wide (n := 5)).1 cS).mono ?_⟩
  rintro e w' ⟨v, ss, rfl, hS, hrow, hnil, hb⟩
  refine ⟨v, rfl, ?_⟩
  have hk : sortInts ss = sortInts (alKeys m) := sortInts_perm (hS.trans hperm)
  have hlen : (sortInts (alKeys m)).length = ss.length := by rw [← hk]; exact (List.mergeSort_perm ss _).length_eq
  have hrow2 : w'.ownsRow w.heap.size 3 1 v (sortInts (alKeys m)).length (ints (sortInts (alKeys m))) := by rw [hlen, ← hk]; exact hrow
  rw [owns_ints]
  unfold ints at hrow2
  exact own_of_row hw.tail hb hrow2

/-- maps.Keys[map[int]int,int,int] -/
theorem ctKeys67 (b : Nat) (w : World) (F : List HProp) (hw : holds w F) : Ct Try.prog 67 #[.map (some b)] w fun e w' => ∃ nb : Nat, e = .returned (.func (.func 100) #[] #[.pointer (some ⟨nb, 0, none⟩)]) ∧ holds w' (blk nb (.cells #[.map (some b)] 95 (0, 0)) :: F) :=
  ⟨(callsIn_wide (n := 5)).1 ((AnyZI.keys_in Try.keys67 Fence.wide 5 trivial rfl (some b) w).mono fun e w' ⟨he, hw'⟩ => ⟨w.heap.size, he, by subst hw'; exact hw.alloc _⟩)⟩
theorem ctSorted67 {β : Type} (enc : β → Value) (b nb : Nat) (m : List (Int × β)) (hwf : ∀ x ∈ alKeys m, (Lit.int .i64 x).wf = true) (hsz : m.length ≤ 1000000000) (w : World) (F : List HProp) (hw : holds w (blk nb (.cells #[.map (some b)] 95 (0, 0)) :: imap enc b m :: F)) :
    Ct Try.prog 54 #[.func (.func 100) #[] #[.pointer (some ⟨nb, 0, none⟩)]] w fun e w' => ∃ v, e = .returned v ∧ holds w' (owns 3 encI1 1 v (sortInts (alKeys m)) :: imap enc b m :: F) := by
  obtain ⟨D, hown, hperm, hsize⟩ := imap_ownsMap Try.underlying3 (hw.pick 1) hwf (by unfold maxLen; omega)
  have hseq : SeqGives Fence.wide 2 Try.prog 100 #[.pointer (some ⟨nb, 0, none⟩)] encZ (fun ss => ss.Perm (intKeys D)) (Maps.size D) w :=
    AnyZI.keys_gives (ρ := Try.keys67_ren) { Try.keys67 with } Fence.wide _ trivial rfl (by omega) nb b m.length D w hw.lt (by rw [cellAt hw.get_blk]; rfl) hown
  have cS := AnyZI.sorted_in Try.sortedInt Fence.wide 5 trivial trivial trivial trivial rfl (by omega) (Try.sortsInt _) (enters_of Try.func91 (by kernel_rfl) rfl) 100 #[.pointer (some ⟨nb, 0, none⟩)] trivial (enters_of Try.func100 (by kernel_rfl) rfl) _ _ (by unfold maxLen; omega) (by omega) _ hseq
  change CallsIn _ _ Try.prog 54 _ _ _ at cS
  refine ⟨((callsIn_wide (n := 5)).1 cS).mono ?_⟩
  rintro e w' ⟨v, ss, rfl, hS, hrow, hnil, hb⟩
  refine ⟨v, rfl, ?_⟩
  have hk : sortInts ss = sortInts (alKeys m) := sortInts_perm (hS.trans hperm)
  have hlen : (sortInts (alKeys m)).length = ss.length := by rw [← hk]; exact (List.mergeSort_perm ss _).length_eq
  have hrow2 : w'.ownsRow w.heap.size 3 1 v (sortInts (alKeys m)).length (ints (sortInts (alKeys m))) := by rw [hlen, ← hk]; exact hrow
  rw [owns_ints]
  unfold ints at hrow2
  exact own_of_row hw.tail hb hrow2

end Go.Proofs.Ytlniadnlomnlaaa