/- slices.Sorted(maps.Keys(m)) at maps keyed by ints: the keys, ascending. -/
import Derived.Test.YtfiggkbclldccaaGreatSepD
import Derived.Test.YtfiggkbclldccaaGreatLay
namespace Go.Proofs.YtfiggkbclldccaaGreat
open Go Go.RowKit Go.MapKept Go.Maps Go.Sort Go.Shelf Go.WideElems
set_option maxRecDepth 100000

/-- The keys of a map, ascending. -/
def sortInts (l : List Int) : List Int := l.mergeSort (fun x y => decide (x ≤ y))
theorem sortInts_perm {l m : List Int} (h : l.Perm m) : sortInts l = sortInts m := by
  have tr : ∀ a b c : Int, decide (a ≤ b) = true → decide (b ≤ c) = true → decide (a ≤ c) = true := by simp; omega
  have to : ∀ a b : Int, (decide (a ≤ b) || decide (b ≤ a)) = true := by simp; omega
  refine List.Perm.eq_of_pairwise (le := fun a b => decide (a ≤ b) = true) ?_ (List.pairwise_mergeSort tr to l) (List.pairwise_mergeSort tr to m) ((List.mergeSort_perm l _).trans (h.trans (List.mergeSort_perm m _).symm))
  intro a b _ _ h1 h2
  simp at h1 h2
  omega

def anyElem {H : Type} (_ : Value) : Option (DataW H × List MemPlace) := some (.nil, [])

theorem imap_ownsMap {P : Program} {w : World} {F : List HProp} {β : Type} {enc : β → Value} {b : Nat} {m : List (Int × β)} {k : TypeId} (hk : P.underlying k = some (.int .i64)) (h : holds w (imap enc b m :: F)) (hwf : ∀ x ∈ alKeys m, (Lit.int .i64 x).wf = true) (hsz : m.length ≤ maxLen) :
    ∃ D : DataW Unit, w.ownsMap P k anyElem b m.length D ∧ (intKeys D).Perm (alKeys m) ∧ Maps.size D = m.length := by
  obtain ⟨es, clock, h1, h2, h3⟩ := h.open_map
  have hs := size_of_kv h1
  have hkey : ∀ x ∈ es.toList, ∃ q, x.key = .int .i64 q ∧ q ∈ alKeys m := fun x hx => by
    have : (x.key, x.val) ∈ m.map (kv enc) := by rw [← h1]; exact List.mem_map.2 ⟨x, hx, rfl⟩
    obtain ⟨p, hp, hpe⟩ := List.mem_map.1 this
    simp only [kv, Prod.mk.injEq] at hpe
    exact ⟨p.1, hpe.1.symm, List.mem_map.2 ⟨p, hp, rfl⟩⟩
  have hrg : ∀ x ∈ es.toList, ∃ q, x.key = .int .i64 q ∧ rd P k anyElem x = some (.int .i64 q, (.nil : DataW Unit)) := fun x hx => by
    obtain ⟨q, hq, hm⟩ := hkey x hx
    refine ⟨q, hq, ?_⟩
    obtain ⟨kx, vx, bx⟩ := x
    simp only at hq
    subst hq
    exact rd_mk (yv := (.nil, [])) (keyOf_int_mk hk (hwf q hm)) rfl
  have Ft : Fit P k (anyElem (H := Unit)) es clock := ⟨by omega, h2, fun x hx => by obtain ⟨q, _, hr⟩ := hrg x hx; exact ⟨_, hr⟩⟩
  refine ⟨.map ((es.toList.map (rg P k anyElem)).foldr DataW.insert []), ⟨es, clock, h3.get_blk, Ft, by omega, rfl⟩, ?_, ?_⟩
  · have hp : ∀ l : List (Lit × DataW Unit), (l.foldr DataW.insert []).Perm l := by
      intro l
      induction l with
      | nil => exact List.Perm.refl _
      | cons x l ih =>
        have hi : ∀ (x : Lit × DataW Unit) (l : List (Lit × DataW Unit)), (DataW.insert x l).Perm (x :: l) := by
          intro x l
          induction l with
          | nil => exact List.Perm.refl _
          | cons y r ih2 =>
            unfold DataW.insert
            split
            · exact List.Perm.refl _
            · exact (List.Perm.cons y ih2).trans (List.Perm.swap _ _ _)
        exact (hi x _).trans (List.Perm.cons x ih)
    have h4 : (intKeys (DataW.map ((es.toList.map (rg P k anyElem)).foldr DataW.insert [] : List (Lit × DataW Unit)))).Perm ((es.toList.map (rg P k (anyElem (H := Unit)))).map fun p => Go.intOf p.1) := (hp _).map _
    refine h4.trans ?_
    rw [List.map_map]
    have h5 : es.toList.map ((fun p => Go.intOf p.1) ∘ rg P k (anyElem (H := Unit))) = alKeys m := by
      have e1 : es.toList.map ((fun p => Go.intOf p.1) ∘ rg P k (anyElem (H := Unit))) = es.toList.map (fun x => RowKit.intOf x.key) := by
        apply List.map_congr_left
        intro x hx
        obtain ⟨q, hq, hr⟩ := hrg x hx
        simp only [Function.comp_apply, rg_of hr, hq]
        rfl
      rw [e1]
      have e2 := congrArg (List.map (fun p : Value × Value => RowKit.intOf p.1)) h1
      rw [List.map_map, List.map_map] at e2
      have e3 : es.toList.map (fun x => RowKit.intOf x.key) = es.toList.map ((fun p : Value × Value => RowKit.intOf p.1) ∘ fun e => (e.key, e.val)) := rfl
      rw [e3, e2]
      unfold alKeys
      apply List.map_congr_left
      intro x _
      rfl
    rw [h5]
  · show ((es.toList.map (rg P k anyElem)).foldr DataW.insert []).length = m.length
    rw [length_read]
    exact hs

/-- slices.Sort's two contracts, at the fence that asks nothing. -/
theorem Tryz.sortsInt (m : Nat) : AnyZI.SortsIn Tryz.prog Tryz.sortedInt_ren Fence.wide m :=
  ⟨fun blk off cap ss W hH hblk hsz => callsIn_wide.2 (AnyM.slices_Sort_int Tryz.sortInt blk off cap ss W hH hblk hsz),
   fun p cap W => callsIn_wide.2 (AnyM.slices_Sort_int_none Tryz.sortInt p cap W)⟩

/-- A row that a library's contract hands back, new since w. -/
theorem own_of_row {w w' : World} {F : List HProp} {e size n : Nat} {v : Value} {xs : List Value} (hw : holds w F) (hb : Below w.heap.size w w') (h : w'.ownsRow w.heap.size e size v n xs) : holds w' (ownRow e size v n xs :: F) := by
  obtain ⟨hl, ⟨rfl, rfl⟩ | ⟨g, cap, cur, rfl, hg, hh, h1, h2, h3, h4⟩⟩ := h
  · obtain rfl : xs = [] := List.eq_nil_of_length_eq_zero (by simpa using hl)
    exact holds_ownRow_nil (hw.below hb) e size
  · have h5 := (hw.new hb hg hh).mkRow (size := size) h1 h2 h3
    rw [h4] at h5
    exact h5




/-- maps.Keys[map[int]bool,int,bool] -/
theorem Tryz.keysIB_call (w : World) (b : Nat) (F : List HProp) (hw : holds w F) : Calls Tryz.prog 256 #[.map (some b)] w fun e w' => e = .returned (.func (.func 294) #[] #[.pointer (some ⟨w.heap.size, 0, none⟩)]) ∧ holds w' (blk w.heap.size (.cells #[.map (some b)] 265 (0, 0)) :: F) :=
  (callsIn_wide (n := 5)).1 ((AnyZI.keys_in Tryz.keys256 Fence.wide 5 trivial rfl (some b) w).mono fun e w' ⟨he, hw'⟩ => ⟨he, by subst hw'; exact hw.alloc _⟩)
theorem Tryz.sortedIB_call {β : Type} (enc : β → Value) (w : World) (b nb : Nat) (m : List (Int × β)) (F : List HProp) (hw : holds w (blk nb (.cells #[.map (some b)] 265 (0, 0)) :: imap enc b m :: F)) (hwf : ∀ x ∈ alKeys m, (Lit.int .i64 x).wf = true) (hsz : m.length ≤ 1000000000) :
    Calls Tryz.prog 255 #[.func (.func 294) #[] #[.pointer (some ⟨nb, 0, none⟩)]] w fun e w' => ∃ v, e = .returned v ∧ holds w' (ownInts v (sortInts (alKeys m)) :: imap enc b m :: F) := by
  obtain ⟨D, hown, hperm, hsize⟩ := imap_ownsMap Tryz.underlying3 (hw.pick 1) hwf (by unfold maxLen; omega)
  have hseq : SeqGives Fence.wide 2 Tryz.prog 294 #[.pointer (some ⟨nb, 0, none⟩)] encZ (fun ss => ss.Perm (intKeys D)) (Maps.size D) w :=
    AnyZI.keys_gives (ρ := Tryz.keys256_ren) { Tryz.keys256 with } Fence.wide _ trivial rfl (by omega) nb b m.length D w hw.lt (by rw [cellAt hw.get_blk]; rfl) hown
  have cS := AnyZI.sorted_in Tryz.sortedInt Fence.wide 5 trivial trivial trivial trivial rfl (by omega) (Tryz.sortsInt _) (enters_of Tryz.func293 (by kernel_rfl) rfl) 294 #[.pointer (some ⟨nb, 0, none⟩)] trivial (enters_of Tryz.func294 (by kernel_rfl) rfl) _ _ (by unfold maxLen; omega) (by omega) _ hseq
  change CallsIn _ _ Tryz.prog 255 _ _ _ at cS
  refine ((callsIn_wide (n := 5)).1 cS).mono ?_
  rintro e w' ⟨v, ss, rfl, hS, hrow, hnil, hb⟩
  refine ⟨v, rfl, ?_⟩
  have hk : sortInts ss = sortInts (alKeys m) := sortInts_perm (hS.trans hperm)
  have hlen : (sortInts (alKeys m)).length = ss.length := by rw [← hk]; exact (List.mergeSort_perm ss _).length_eq
  have hrow2 : w'.ownsRow w.heap.size 3 1 v (sortInts (alKeys m)).length (ints (sortInts (alKeys m))) := by rw [hlen, ← hk]; exact hrow
  exact own_of_row hw.tail hb hrow2

end Go.Proofs.YtfiggkbclldccaaGreat
