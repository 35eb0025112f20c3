/- Plain: the numbers of a list above 0, each once, rising: one after the other by the least one above the last. -/
import Derived.Test.YtfiggkbclldccaaGreatSorted
namespace Go.Proofs.YtfiggkbclldccaaGreat

/-- The least one above 'last', in as many as have been looked at; 0: none yet. -/
def leastStep (last next x : Int) : Int := if last < x ∧ (next = 0 ∨ x < next) then x else next
def leastAbove (last : Int) (l : List Int) : Int := l.foldl (leastStep last) 0

theorem leastAbove_snoc (last : Int) (l : List Int) (k : Nat) (hk : k < l.length) : leastAbove last (l.take (k + 1)) = leastStep last (leastAbove last (l.take k)) l[k] := by
  unfold leastAbove
  rw [List.take_succ_eq_append_getElem hk, List.foldl_append]
  rfl

theorem leastAbove_spec (last : Int) (h0 : 0 ≤ last) (l : List Int) : ∀ k, k ≤ l.length →
    (leastAbove last (l.take k) = 0 ∧ ∀ x ∈ l.take k, x ≤ last) ∨ (last < leastAbove last (l.take k) ∧ leastAbove last (l.take k) ∈ l.take k ∧ ∀ x ∈ l.take k, last < x → leastAbove last (l.take k) ≤ x)
  | 0, _ => .inl ⟨rfl, by simp⟩
  | k + 1, hk => by
    have hlt : k < l.length := by omega
    have ih := leastAbove_spec last h0 l k (by omega)
    rw [leastAbove_snoc last l k hlt]
    have hm : ∀ x, x ∈ l.take (k + 1) ↔ x ∈ l.take k ∨ x = l[k] := fun x => by rw [List.take_succ_eq_append_getElem hlt, List.mem_append]; simp
    generalize leastAbove last (l.take k) = n at ih
    generalize l[k] = y at hm
    unfold leastStep
    rcases ih with ⟨rfl, h1⟩ | ⟨h1, h2, h3⟩
    · by_cases hy : last < y
      · rw [if_pos ⟨hy, .inl rfl⟩]
        refine .inr ⟨hy, (hm y).2 (.inr rfl), fun x hx hlx => ?_⟩
        rcases (hm x).1 hx with h | h
        · have := h1 x h; omega
        · omega
      · rw [if_neg (fun h => hy h.1)]
        refine .inl ⟨rfl, fun x hx => ?_⟩
        rcases (hm x).1 hx with h | h
        · exact h1 x h
        · omega
    · by_cases hy : last < y ∧ y < n
      · rw [if_pos ⟨hy.1, .inr hy.2⟩]
        refine .inr ⟨hy.1, (hm y).2 (.inr rfl), fun x hx hlx => ?_⟩
        rcases (hm x).1 hx with h | h
        · have := h3 x h hlx; omega
        · omega
      · rw [if_neg (fun h => hy ⟨h.1, by rcases h.2 with h | h <;> omega⟩)]
        refine .inr ⟨h1, (hm n).2 (.inl h2), fun x hx hlx => ?_⟩
        rcases (hm x).1 hx with h | h
        · exact h3 x h hlx
        · omega

/-- What has been told up to 'last'. -/
structure Told (l : List Int) (last : Int) (o : List Int) : Prop where
  pos : 0 ≤ last
  up : o.Pairwise (· < ·)
  mem : ∀ x, x ∈ o ↔ x ∈ l ∧ 0 < x ∧ x ≤ last

theorem Told.start (l : List Int) : Told l 0 [] := ⟨by omega, by simp, fun x => by simp⟩
theorem Told.next {l : List Int} {last : Int} {o : List Int} (h : Told l last o) (hn : 0 < leastAbove last l) : Told l (leastAbove last l) (o ++ [leastAbove last l]) ∧ last < leastAbove last l ∧ leastAbove last l ∈ l := by
  have hs := leastAbove_spec last h.pos l l.length (Nat.le_refl _)
  rw [List.take_length] at hs
  generalize leastAbove last l = n at hn hs
  rcases hs with ⟨h1, _⟩ | ⟨h1, h2, h3⟩
  · omega
  · refine ⟨⟨by omega, ?_, fun x => ?_⟩, h1, h2⟩
    · rw [List.pairwise_append]
      refine ⟨h.up, by simp, fun a ha b hb => ?_⟩
      have := ((h.mem a).1 ha).2.2
      simp at hb
      omega
    · rw [List.mem_append, h.mem]
      constructor
      · rintro (⟨a, b, c⟩ | hx)
        · exact ⟨a, b, by omega⟩
        · simp at hx; subst hx; exact ⟨h2, by omega, by omega⟩
      · rintro ⟨a, b, c⟩
        by_cases hx : x ≤ last
        · exact .inl ⟨a, b, hx⟩
        · have := h3 x a (by omega)
          exact .inr (by simp; omega)
theorem Told.last {l : List Int} {last : Int} {o : List Int} (h : Told l last o) (hn : ¬ 0 < leastAbove last l) : o.Pairwise (· < ·) ∧ ∀ x, x ∈ o ↔ x ∈ l ∧ 0 < x := by
  have hs := leastAbove_spec last h.pos l l.length (Nat.le_refl _)
  rw [List.take_length] at hs
  have hp := h.pos
  refine ⟨h.up, fun x => ?_⟩
  rw [h.mem]
  constructor
  · rintro ⟨a, b, _⟩; exact ⟨a, b⟩
  · rintro ⟨a, b⟩
    rcases hs with ⟨_, h1⟩ | ⟨h1, _, _⟩
    · exact ⟨a, b, h1 x a⟩
    · omega

/-- How many are above a. -/
def leftN (l : List Int) (a : Int) : Nat := (l.filter fun x => decide (a < x)).length
/-- A list that rises is told by its members. -/
theorem rising_eq : ∀ (a b : List Int), a.Pairwise (· < ·) → b.Pairwise (· < ·) → (∀ x, x ∈ a ↔ x ∈ b) → a = b
  | [], [], _, _, _ => rfl
  | [], y :: b, _, _, h => absurd ((h y).2 (by simp)) (by simp)
  | x :: a, [], _, _, h => absurd ((h x).1 (by simp)) (by simp)
  | x :: a, y :: b, ha, hb, h => by
    rw [List.pairwise_cons] at ha hb
    have e : x = y := by
      have h1 := (h x).1 (by simp)
      have h2 := (h y).2 (by simp)
      rcases List.mem_cons.1 h1 with h1 | h1
      · exact h1
      · rcases List.mem_cons.1 h2 with h2 | h2
        · exact h2.symm
        · have := hb.1 x h1
          have := ha.1 y h2
          omega
    subst e
    congr 1
    refine rising_eq a b ha.2 hb.2 fun z => ?_
    have hz := h z
    simp only [List.mem_cons] at hz
    constructor
    · intro hza
      rcases hz.1 (.inr hza) with h1 | h1
      · have := ha.1 z hza; omega
      · exact h1
    · intro hzb
      rcases hz.2 (.inr hzb) with h1 | h1
      · have := hb.1 z hzb; omega
      · exact h1

theorem sortInts_rises {l : List Int} (h : l.Nodup) : (sortInts l).Pairwise (· < ·) := by
  have tr : ∀ a b c : Int, decide (a ≤ b) = true → decide (b ≤ c) = true → decide (a ≤ c) = true := by simp; omega
  have to : ∀ a b : Int, (decide (a ≤ b) || decide (b ≤ a)) = true := by simp; omega
  have h1 := List.pairwise_mergeSort tr to l
  have h2 : (sortInts l).Nodup := (List.mergeSort_perm l _).nodup_iff.2 h
  have h3 := h1.and h2
  exact h3.imp fun {a b} ⟨x, y⟩ => by simp at x; omega
theorem mem_sortInts (l : List Int) (x : Int) : x ∈ sortInts l ↔ x ∈ l := (List.mergeSort_perm l _).mem_iff

end Go.Proofs.YtfiggkbclldccaaGreat
