/- Plain: all owners of tags; what one has is handed to another. -/
import Derived.Test.YtfkpcmlajdmnfaaTagsC
import Derived.Test.YtfkpcmlajdmnfaaAscend
namespace Go.Proofs.Ytfkpcmlajdmnfaa
open Go Go.RowKit Go.MapKept
set_option linter.unusedVariables false

/-! ### All owners -/
theorem owners_ex : ∀ L : List Int, ∃ O : List Int, O.Pairwise (· < ·) ∧ ∀ x, x ∈ O ↔ x ∈ L ∧ 0 < x
  | [] => ⟨[], by simp, by simp⟩
  | y :: L => by
    obtain ⟨O, h1, h2⟩ := owners_ex L
    by_cases hy : 0 < y ∧ y ∉ O
    · have hn : (y :: O).Nodup := List.nodup_cons.2 ⟨hy.2, h1.imp fun h => by omega⟩
      refine ⟨sortInts (y :: O), sortInts_rises hn, fun x => ?_⟩
      rw [mem_sortInts, List.mem_cons, List.mem_cons, h2]
      constructor
      · rintro (rfl | h)
        · exact ⟨.inl rfl, hy.1⟩
        · exact ⟨.inr h.1, h.2⟩
      · rintro ⟨rfl | h, h0⟩
        · exact .inl rfl
        · exact .inr ⟨h, h0⟩
    · refine ⟨O, h1, fun x => ?_⟩
      rw [h2, List.mem_cons]
      constructor
      · rintro ⟨h, h0⟩; exact ⟨.inr h, h0⟩
      · rintro ⟨rfl | h, h0⟩
        · by_cases hm : x ∈ O
          · exact (h2 x).1 hm
          · exact absurd ⟨h0, hm⟩ hy
        · exact ⟨h, h0⟩
theorem cnt_pos {l : List (Int × Int)} {x : Int} : cnt l x ≠ 0 ↔ x ∈ l.map (·.1) ∧ 0 < x := by
  unfold cnt
  by_cases hx : 0 < x
  · rw [if_pos hx]
    constructor
    · intro h
      obtain ⟨t, ht⟩ := List.exists_mem_of_length_pos (Nat.pos_of_ne_zero h)
      have := List.mem_filter.1 ht
      refine ⟨List.mem_map.2 ⟨t, this.1, by simpa using this.2⟩, hx⟩
    · rintro ⟨h, _⟩
      obtain ⟨t, ht, rfl⟩ := List.mem_map.1 h
      have : t ∈ l.filter fun u => u.1 == t.1 := List.mem_filter.2 ⟨ht, by simp⟩
      exact Nat.pos_iff_ne_zero.1 (List.length_pos_of_mem this)
  · rw [if_neg hx]; simp [hx]
theorem ManyOk.mem {l m : List (Int × Int)} (h : ManyOk l m) (x : Int) : x ∈ alKeys m ↔ x ∈ l.map (·.1) ∧ 0 < x := by
  rw [← cnt_pos]
  have hg := h.get x
  constructor
  · intro hm hz
    rw [if_pos hz] at hg
    exact (alGet_none x m).1 hg hm
  · intro hz
    rw [if_neg hz] at hg
    exact Classical.byContradiction fun hn => by rw [(alGet_none x m).2 hn] at hg; cases hg
theorem ManyOk.sorted {l m : List (Int × Int)} (h : ManyOk l m) {O : List Int} (h1 : O.Pairwise (· < ·)) (h2 : ∀ x, x ∈ O ↔ x ∈ l.map (·.1) ∧ 0 < x) : sortInts (alKeys m) = O :=
  rising_eq _ _ (sortInts_rises h.nodup) h1 fun x => by rw [mem_sortInts, h.mem, h2]

/-! ### Handing -/
def handOn (to : Int) (l : List (Int × Int)) (is : List Int) : List (Int × Int) := is.foldl (fun l i => l.set i.toNat (to, (l.getD i.toNat (0, 0)).2)) l
theorem handOn_len (to : Int) (is : List Int) : ∀ l, (handOn to l is).length = l.length := by
  induction is with
  | nil => intro l; rfl
  | cons i is ih => intro l; unfold handOn; rw [List.foldl_cons]; exact (ih _).trans (by simp)
theorem handOn_snoc (to : Int) (l : List (Int × Int)) (is : List Int) (k : Nat) (hk : k < is.length) : handOn to l (is.take (k + 1)) = (handOn to l (is.take k)).set is[k].toNat (to, ((handOn to l (is.take k)).getD is[k].toNat (0, 0)).2) := by
  rw [List.take_succ_eq_append_getElem hk]
  unfold handOn
  rw [List.foldl_append]
  rfl
theorem handOn_fst (to : Int) (is : List Int) : ∀ l, (handOn to l is).map (·.1) = is.foldl (fun L i => L.set i.toNat to) (l.map (·.1)) := by
  induction is with
  | nil => intro l; rfl
  | cons i is ih => intro l; unfold handOn; rw [List.foldl_cons, List.foldl_cons, ← List.map_set (f := fun x : Int × Int => x.1) (a := (to, (l.getD i.toNat (0, 0)).2))]; exact ih _
theorem handOn_snd (to : Int) (is : List Int) : ∀ l, (handOn to l is).map (·.2) = l.map (·.2) := by
  induction is with
  | nil => intro l; rfl
  | cons i is ih =>
    intro l; unfold handOn; rw [List.foldl_cons]
    refine (ih _).trans ?_
    apply List.ext_getElem
    · simp
    · intro j h1 h2
      simp only [List.getElem_map, List.getElem_set]
      split
      · rename_i e
        subst e
        simp only [List.length_map, List.length_set] at h1
        rw [List.getD_eq_getElem?_getD, List.getElem?_eq_getElem h1]; rfl
      · rfl
theorem handOn_own (to : Int) (h0 : 0 ≤ to) (is : List Int) : ∀ l : List (Int × Int), (∀ t ∈ l, 0 ≤ t.1) → ∀ t ∈ handOn to l is, 0 ≤ t.1 := by
  induction is with
  | nil => intro l h; exact h
  | cons i is ih => intro l h; unfold handOn; rw [List.foldl_cons]; exact ih _ (set_own h _ _ h0)
theorem ofs_at {L : List Int} {o i : Int} (h : i ∈ ofs L o) : 0 ≤ i ∧ i.toNat < L.length ∧ L.getD i.toNat 0 = o := by
  unfold ofs at h
  split at h
  · unfold ofTo at h
    obtain ⟨j, hj, rfl⟩ := List.mem_map.1 h
    have := List.mem_filter.1 hj
    simp only [List.mem_range, beq_iff_eq] at this
    refine ⟨by simp, ?_⟩
    simpa using this
  · cases h
theorem ofs_nodup (L : List Int) (o : Int) : (ofs L o).Nodup := by
  unfold ofs
  split
  · unfold ofTo
    rw [List.Nodup, List.pairwise_map]
    refine (List.Pairwise.filter _ List.nodup_range).imp fun h e => h (by injection e)
  · simp
theorem hand_cnt (fr to : Int) (x : Int) (hx : 0 < x) : ∀ (is : List Int) (l : List (Int × Int)), is.Nodup → (∀ i ∈ is, 0 ≤ i ∧ i.toNat < l.length ∧ (l.getD i.toNat (0, 0)).1 = fr) →
    cnt (handOn to l is) x + (if fr = x then is.length else 0) = cnt l x + (if to = x then is.length else 0)
  | [], l, _, _ => by simp [handOn]
  | i :: is, l, hn, h => by
    obtain ⟨h0, h1, h2⟩ := h i List.mem_cons_self
    have hn2 := List.nodup_cons.1 hn
    have ih := hand_cnt fr to x hx is (l.set i.toNat (to, (l.getD i.toNat (0, 0)).2)) hn2.2 fun j hj => by
      obtain ⟨g0, g1, g2⟩ := h j (List.mem_cons_of_mem _ hj)
      refine ⟨g0, by simpa using g1, ?_⟩
      have hne : i.toNat ≠ j.toNat := fun e => hn2.1 (by rw [show i = j by omega]; exact hj)
      rw [List.getD_eq_getElem?_getD, List.getElem?_set_ne hne, ← List.getD_eq_getElem?_getD]
      exact g2
    have hc := cnt_set l i.toNat h1 (to, (l.getD i.toNat (0, 0)).2) x hx
    rw [List.getD_eq_getElem?_getD, List.getElem?_eq_getElem h1, Option.getD_some] at h2
    rw [h2] at hc
    have e : handOn to l (i :: is) = handOn to (l.set i.toNat (to, (l.getD i.toNat (0, 0)).2)) is := rfl
    rw [e, List.length_cons]
    dsimp only at hc
    split <;> split <;> simp_all <;> omega
def handed (l : List (Int × Int)) (fr to : Int) : List (Int × Int) := handOn to l (ofs (l.map (·.1)) fr)
theorem ofs_at2 (l : List (Int × Int)) (o i : Int) (h : i ∈ ofs (l.map (·.1)) o) : 0 ≤ i ∧ i.toNat < l.length ∧ (l.getD i.toNat (0, 0)).1 = o := by
  obtain ⟨h0, h1, h2⟩ := ofs_at h
  rw [List.length_map] at h1
  refine ⟨h0, h1, ?_⟩
  rw [List.getD_eq_getElem?_getD, List.getElem?_map, List.getElem?_eq_getElem h1] at h2
  rw [List.getD_eq_getElem?_getD, List.getElem?_eq_getElem h1]
  exact h2
theorem ManyOk.hand {l m : List (Int × Int)} (h : ManyOk l m) {fr to : Int} (hf : 0 < fr) (ht : 0 < to) (hne : fr ≠ to) (hp : 0 < cnt l fr) :
    ManyOk (handed l fr to) (alSet (alDel m fr) to (((cnt l to : Nat) : Int) + ((ofs (l.map (·.1)) fr).length : Nat))) := by
  have hlen := ofs_cnt l fr
  have hc := fun x hx => hand_cnt fr to x hx (ofs (l.map (·.1)) fr) l (ofs_nodup _ _) (ofs_at2 l fr)
  refine ⟨fun x => ?_, alKeys_set_nodup _ _ _ (alKeys_del_nodup _ _ h.nodup), handOn_own to (by omega) _ l h.own⟩
  rw [alGet_set]
  unfold handed
  by_cases hx : 0 < x
  · have hcx := hc x hx
    by_cases e : x = to
    · subst e
      simp only [if_true, if_neg hne, Nat.add_zero] at hcx
      rw [if_pos rfl, if_neg (by omega)]
      congr 1; omega
    · have e' : ¬ to = x := fun h => e h.symm
      simp only [if_neg e', Nat.add_zero] at hcx
      rw [if_neg e, alGet_del _ _ _ h.nodup]
      by_cases e2 : x = fr
      · subst e2
        simp only [if_true] at hcx
        rw [if_pos rfl, if_pos (by omega)]
      · have e2' : ¬ fr = x := fun h => e2 h.symm
        simp only [if_neg e2', Nat.add_zero] at hcx
        rw [if_neg e2, h.get, hcx]
  · have e1 : ∀ l : List (Int × Int), cnt l x = 0 := fun l => by simp [cnt, hx]
    rw [if_neg (show ¬ x = to by omega), alGet_del _ _ _ h.nodup, if_neg (show ¬ x = fr by omega), h.get, e1, e1]
theorem ManyOk.hand_get {l m : List (Int × Int)} (h : ManyOk l m) {fr to : Int} (hne : fr ≠ to) : (alGet (alDel m fr) to).getD 0 = ((cnt l to : Nat) : Int) := by
  rw [alGet_del _ _ _ h.nodup, if_neg (fun h => hne h.symm), h.getD]
theorem handed_none {l : List (Int × Int)} {fr to : Int} (h : cnt l fr = 0) : handed l fr to = l := by
  unfold handed
  rw [List.eq_nil_of_length_eq_zero (show (ofs (l.map (·.1)) fr).length = 0 by rw [ofs_cnt, h])]
  rfl
/-- What a handing leaves and tells. -/
def handM (l : List (Int × Int)) (fr to : Int) : List (Int × Int) := if fr < 1 ∨ to < 1 ∨ fr = to then l else handed l fr to
def handN (l : List (Int × Int)) (fr to : Int) : Nat := if fr < 1 ∨ to < 1 ∨ fr = to then 0 else cnt l fr
theorem handM_len (l : List (Int × Int)) (fr to : Int) : (handM l fr to).length = l.length := by
  unfold handM; split
  · rfl
  · exact handOn_len _ _ _
theorem handM_own {l : List (Int × Int)} (h : ∀ t ∈ l, 0 ≤ t.1) (fr to : Int) : ∀ t ∈ handM l fr to, 0 ≤ t.1 := by
  unfold handM; split
  · exact h
  · exact handOn_own _ (by omega) _ _ h
end Go.Proofs.Ytfkpcmlajdmnfaa
