/- maps.Keys and slices.Sorted at a map from ints to struct{}. -/
import Derived.Test.YtdcekeclemgkcaaSorted
namespace Go.Proofs.Ytdcekeclemgkcaa
open Go Go.RowKit Go.MapKept Go.Maps Go.Sort Go.Shelf Go.WideElems
set_option maxRecDepth 100000

/-- maps.Keys[map[int]struct{},int,struct{}] -/
theorem Try.keysIU_call (w : World) (b : Nat) (F : List HProp) (hw : holds w F) : Calls Try.prog 96 #[.map (some b)] w fun e w' => e = .returned (.func (.func 145) #[] #[.pointer (some ⟨w.heap.size, 0, none⟩)]) ∧ holds w' (blk w.heap.size (.cells #[.map (some b)] 60 (0, 0)) :: F) :=
  (callsIn_wide (n := 5)).1 ((AnyZI.keys_in Try.keys96 Fence.wide 5 trivial rfl (some b) w).mono fun e w' ⟨he, hw'⟩ => ⟨he, by subst hw'; exact hw.alloc _⟩)
theorem Try.sortedIU_call {β : Type} (enc : β → Value) (w : World) (b nb : Nat) (m : List (Int × β)) (F : List HProp) (hw : holds w (blk nb (.cells #[.map (some b)] 60 (0, 0)) :: imap enc b m :: F)) (hwf : ∀ x ∈ alKeys m, (Lit.int .i64 x).wf = true) (hsz : m.length ≤ 1000000000) :
    Calls Try.prog 95 #[.func (.func 145) #[] #[.pointer (some ⟨nb, 0, none⟩)]] w fun e w' => ∃ v, e = .returned v ∧ holds w' (ownInts v (sortInts (alKeys m)) :: imap enc b m :: F) := by
  obtain ⟨D, hown, hperm, hsize⟩ := imap_ownsMap Try.underlying3 (hw.pick 1) hwf (by unfold maxLen; omega)
  have hseq : SeqGives Fence.wide 2 Try.prog 145 #[.pointer (some ⟨nb, 0, none⟩)] encZ (fun ss => ss.Perm (intKeys D)) (Maps.size D) w :=
    AnyZI.keys_gives (ρ := Try.keys96_ren) { Try.keys96 with } Fence.wide _ trivial rfl (by omega) nb b m.length D w hw.lt (by rw [cellAt hw.get_blk]; rfl) hown
  have cS := AnyZI.sorted_in Try.sortedInt Fence.wide 5 trivial trivial trivial trivial rfl (by omega) (Try.sortsInt _) (enters_of Try.func144 (by kernel_rfl) rfl) 145 #[.pointer (some ⟨nb, 0, none⟩)] trivial (enters_of Try.func145 (by kernel_rfl) rfl) _ _ (by unfold maxLen; omega) (by omega) _ hseq
  change CallsIn _ _ Try.prog 95 _ _ _ at cS
  refine ((callsIn_wide (n := 5)).1 cS).mono ?_
  rintro e w' ⟨v, ss, rfl, hS, hrow, hnil, hb⟩
  refine ⟨v, rfl, ?_⟩
  have hk : sortInts ss = sortInts (alKeys m) := sortInts_perm (hS.trans hperm)
  have hlen : (sortInts (alKeys m)).length = ss.length := by rw [← hk]; exact (List.mergeSort_perm ss _).length_eq
  have hrow2 : w'.ownsRow w.heap.size 3 1 v (sortInts (alKeys m)).length (ints (sortInts (alKeys m))) := by rw [hlen, ← hk]; exact hrow
  exact own_of_row hw.tail hb hrow2
end Go.Proofs.Ytdcekeclemgkcaa
