/- Chapter 20 in plain terms: when chunks are sound, two ways of saying it. -/
import Derived.KernelRfl
namespace Go.Proofs.Ytfiggkbclldccaa

structure ChunkM where
  phase : Int
  owner : Int
  gen : Int

namespace Audit
def is (p : Int) : Bool := decide (0 ≤ p) && decide (p ≤ 3)
def right (c : ChunkM) : Bool := is c.phase && decide (0 ≤ c.owner) && (decide (0 < c.owner) == (c.phase == 1)) && decide (0 ≤ c.gen) && decide (c.gen ≤ 1048575)
def many (l : List ChunkM) (p : Int) : Nat := (l.filter fun c => c.phase == p).length
def deferredAt (l : List ChunkM) (i : Int) : Bool := decide (0 ≤ i) && decide (i < l.length) && (match l[i.toNat]? with | some c => c.phase == 2 | none => false)
def sound (l : List ChunkM) (w : List Int) : Bool := l.all right && (w.length == many l 2) && w.all (deferredAt l) && decide w.Nodup

def one (c : ChunkM) : Bool :=
  if c.phase = 1 then decide (0 < c.owner) && decide (0 ≤ c.gen) && decide (c.gen < 1048576)
  else (c.phase == 0 || c.phase == 2 || c.phase == 3) && (c.owner == 0) && decide (0 ≤ c.gen) && decide (c.gen < 1048576)
def refAt (w : List Int) (i : Nat) (c : ChunkM) : Bool := one c && !(c.phase == 2 && w.count (i : Int) != 1) && !(c.phase != 2 && w.count (i : Int) != 0)
def refRow (l : List ChunkM) (w : List Int) (i : Nat) : Bool := match l[i]? with | some c => refAt w i c | none => true
def refSound (l : List ChunkM) (w : List Int) : Bool := (List.range l.length).all (refRow l w) && w.all fun x => decide (0 ≤ x) && decide (x < l.length)

theorem one_right (c : ChunkM) : one c = right c := by
  rw [Bool.eq_iff_iff]
  simp only [one, right, is, Bool.and_eq_true, decide_eq_true_eq, beq_iff_eq]
  by_cases h : c.phase = 1
  · simp only [h, if_true, Bool.and_eq_true, decide_eq_true_eq]
    simp
    omega
  · simp only [h, if_false, Bool.and_eq_true, Bool.or_eq_true, beq_iff_eq, decide_eq_true_eq]
    have h1 : (c.phase == 1) = false := by simpa using h
    simp only [h1, decide_eq_false_iff_not]
    omega

/-- The places that are deferred. -/
def places : List ChunkM → Nat → List Int
  | [], _ => []
  | c :: l, k => if c.phase = 2 then (k : Int) :: places l (k + 1) else places l (k + 1)

theorem places_length : ∀ (l : List ChunkM) (k : Nat), (places l k).length = many l 2
  | [], _ => rfl
  | c :: l, k => by
    have ih := places_length l (k + 1)
    unfold many at ih ⊢
    by_cases h : c.phase = 2 <;> simp [places, h, ih]

theorem mem_places : ∀ (l : List ChunkM) (k : Nat) (x : Int), x ∈ places l k ↔ ∃ i : Nat, x = k + i ∧ ∃ c, l[i]? = some c ∧ c.phase = 2
  | [], k, x => by simp [places]
  | c :: l, k, x => by
    have ih := mem_places l (k + 1) x
    have key : (∃ i : Nat, x = k + i ∧ ∃ c', (c :: l)[i]? = some c' ∧ c'.phase = 2) ↔ (x = k ∧ c.phase = 2) ∨ ∃ i : Nat, x = ((k + 1 : Nat) : Int) + i ∧ ∃ c', l[i]? = some c' ∧ c'.phase = 2 := by
      constructor
      · rintro ⟨i, hx, c', hc, hp⟩
        cases i with
        | zero => simp at hc; subst hc; exact .inl ⟨by simpa using hx, hp⟩
        | succ i => exact .inr ⟨i, by omega, c', by simpa using hc, hp⟩
      · rintro (⟨hx, hp⟩ | ⟨i, hx, c', hc, hp⟩)
        · exact ⟨0, by simpa using hx, c, rfl, hp⟩
        · exact ⟨i + 1, by omega, c', by simpa using hc, hp⟩
    rw [key]
    by_cases h : c.phase = 2 <;> simp [places, h, ih]

theorem places_ge (l : List ChunkM) (k : Nat) (x : Int) (h : x ∈ places l k) : (k : Int) ≤ x := by
  obtain ⟨i, hx, _⟩ := (mem_places l k x).1 h
  omega

theorem places_nodup : ∀ (l : List ChunkM) (k : Nat), (places l k).Nodup
  | [], _ => by simp [places]
  | c :: l, k => by
    have ih := places_nodup l (k + 1)
    by_cases h : c.phase = 2
    · simp only [places, h, if_true, List.nodup_cons]
      refine ⟨fun hm => ?_, ih⟩
      have := places_ge l (k + 1) _ hm
      omega
    · simpa [places, h] using ih

theorem deferredAt_iff (l : List ChunkM) (x : Int) : deferredAt l x = true ↔ x ∈ places l 0 := by
  rw [mem_places]
  simp only [deferredAt, Bool.and_eq_true, decide_eq_true_eq]
  constructor
  · rintro ⟨⟨h0, h1⟩, h2⟩
    refine ⟨x.toNat, by omega, ?_⟩
    cases hc : l[x.toNat]? with
    | none => rw [hc] at h2; cases h2
    | some c => rw [hc] at h2; exact ⟨c, rfl, by simpa using h2⟩
  · rintro ⟨i, hx, c, hc, hp⟩
    have hi : x.toNat = i := by omega
    rw [hi, hc]
    have hlt := (List.getElem?_eq_some_iff.1 hc).1
    exact ⟨⟨by omega, by omega⟩, by simpa using hp⟩

/-- Of two lists without doubles, one within the other and as long: they have the same members. -/
theorem sub_of_length : ∀ (w D : List Int), w.Nodup → D.Nodup → (∀ x ∈ w, x ∈ D) → D.length ≤ w.length → ∀ x ∈ D, x ∈ w
  | [], D, _, _, _, hl, x, hx => by
    have : D = [] := List.eq_nil_of_length_eq_zero (by simpa using hl)
    subst this; cases hx
  | a :: w, D, hw, hD, hs, hl, x, hx => by
    have ha : a ∈ D := hs a (by simp)
    by_cases hxa : x = a
    · simp [hxa]
    · refine List.mem_cons_of_mem _ (sub_of_length w (D.erase a) (List.nodup_cons.1 hw).2 (hD.erase a) (fun y hy => ?_) ?_ x ?_)
      · have hya : y ≠ a := fun e => (List.nodup_cons.1 hw).1 (e ▸ hy)
        exact (List.mem_erase_of_ne hya).2 (hs y (List.mem_cons_of_mem _ hy))
      · rw [List.length_erase_of_mem ha]; simp at hl; omega
      · exact (List.mem_erase_of_ne hxa).2 hx

theorem length_le_of_sub : ∀ (w D : List Int), w.Nodup → (∀ x ∈ w, x ∈ D) → w.length ≤ D.length
  | [], D, _, _ => by simp
  | a :: w, D, hw, hs => by
    have ha : a ∈ D := hs a (by simp)
    have := length_le_of_sub w (D.erase a) (List.nodup_cons.1 hw).2 (fun y hy => (List.mem_erase_of_ne (fun e : y = a => (List.nodup_cons.1 hw).1 (e ▸ hy))).2 (hs y (List.mem_cons_of_mem _ hy)))
    rw [List.length_erase_of_mem ha] at this
    have hp := List.length_pos_of_mem ha
    simp; omega

theorem nodup_of_count : ∀ (w : List Int), (∀ x ∈ w, w.count x ≤ 1) → w.Nodup
  | [], _ => by simp
  | a :: w, h => by
    rw [List.nodup_cons]
    refine ⟨fun ha => ?_, nodup_of_count w fun x hx => ?_⟩
    · have h1 := h a (by simp)
      have h2 := List.count_pos_iff.2 ha
      rw [List.count_cons_self] at h1
      omega
    · have h1 := h x (List.mem_cons_of_mem _ hx)
      rw [List.count_cons] at h1
      omega

theorem count_le_one : ∀ (w : List Int), w.Nodup → ∀ x, w.count x ≤ 1
  | [], _, x => by simp
  | a :: w, h, x => by
    have ih := count_le_one w (List.nodup_cons.1 h).2 x
    rw [List.count_cons]
    split
    · rename_i e
      have e : a = x := by simpa using e
      subst e
      have := List.count_eq_zero.2 (List.nodup_cons.1 h).1
      omega
    · omega

theorem sound_eq (l : List ChunkM) (w : List Int) : sound l w = refSound l w := by
  rw [Bool.eq_iff_iff]
  simp only [sound, refSound, Bool.and_eq_true, List.all_eq_true, beq_iff_eq, decide_eq_true_eq, List.mem_range]
  constructor
  · rintro ⟨⟨⟨hr, hlen⟩, hd⟩, hn⟩
    have hsub : ∀ x ∈ w, x ∈ places l 0 := fun x hx => (deferredAt_iff l x).1 (hd x hx)
    have hback := sub_of_length w (places l 0) hn (places_nodup l 0) hsub (by rw [places_length]; omega)
    refine ⟨fun i hi => ?_, fun x hx => ?_⟩
    · unfold refRow
      rw [List.getElem?_eq_getElem hi]
      have hri : right l[i] = true := hr _ (List.getElem_mem hi)
      simp only [refAt, one_right, hri, Bool.true_and]
      have hc1 := count_le_one w hn i
      by_cases hp : l[i].phase = 2
      · have hm : (i : Int) ∈ w := hback _ ((mem_places l 0 i).2 ⟨i, by omega, l[i], List.getElem?_eq_getElem hi, hp⟩)
        have := List.count_pos_iff.2 hm
        have : w.count (i : Int) = 1 := by omega
        simp [hp, this]
      · have hm : (i : Int) ∉ w := fun hm => by
          obtain ⟨j, hj, c, hc, hpc⟩ := (mem_places l 0 i).1 (hsub _ hm)
          have : j = i := by omega
          subst this
          rw [List.getElem?_eq_getElem hi] at hc
          cases hc
          exact hp hpc
        have := List.count_eq_zero.2 hm
        simp [hp, this]
    · have h2 := hd x hx
      simp only [deferredAt, Bool.and_eq_true, decide_eq_true_eq] at h2
      exact h2.1
  · rintro ⟨h1, h2⟩
    have hat : ∀ i (hi : i < l.length), refAt w i l[i] = true := fun i hi => by
      have := h1 i hi
      unfold refRow at this
      rwa [List.getElem?_eq_getElem hi] at this
    have hright : ∀ c ∈ l, right c = true := fun c hc => by
      obtain ⟨i, hi, rfl⟩ := List.mem_iff_getElem.1 hc
      have := hat i hi
      simp only [refAt, Bool.and_eq_true] at this
      rw [← one_right]; exact this.1.1
    have hcnt : ∀ i (hi : i < l.length), w.count (i : Int) = if l[i].phase = 2 then 1 else 0 := fun i hi => by
      have := hat i hi
      simp only [refAt, Bool.and_eq_true, Bool.not_eq_true', Bool.and_eq_false_iff, bne_eq_false_iff_eq, beq_eq_false_iff_ne] at this
      obtain ⟨⟨_, h3⟩, h4⟩ := this
      split
      · rename_i hp
        rcases h3 with h3 | h3
        · exact absurd hp h3
        · exact h3
      · rename_i hp
        rcases h4 with h4 | h4
        · exact absurd h4 hp
        · exact h4
    have hin : ∀ x ∈ w, ∃ (i : Nat) (hi : i < l.length), x = i ∧ l[i].phase = 2 := fun x hx => by
      obtain ⟨h3, h4⟩ := h2 x hx
      refine ⟨x.toNat, by omega, by omega, ?_⟩
      have hc := hcnt x.toNat (by omega)
      have hx2 : ((x.toNat : Nat) : Int) = x := by omega
      rw [hx2] at hc
      have := List.count_pos_iff.2 hx
      split at hc
      · assumption
      · omega
    have hn : w.Nodup := nodup_of_count w fun x hx => by
      obtain ⟨i, hi, rfl, hp⟩ := hin x hx
      rw [hcnt i hi, if_pos hp]
      exact Nat.le_refl _
    have hsub : ∀ x ∈ w, x ∈ places l 0 := fun x hx => by
      obtain ⟨i, hi, rfl, hp⟩ := hin x hx
      exact (mem_places l 0 i).2 ⟨i, by omega, l[i], List.getElem?_eq_getElem hi, hp⟩
    have hback : ∀ x ∈ places l 0, x ∈ w := fun x hx => by
      obtain ⟨i, hi, c, hc, hp⟩ := (mem_places l 0 x).1 hx
      have hlt := (List.getElem?_eq_some_iff.1 hc).1
      have h5 := hcnt i hlt
      rw [List.getElem?_eq_getElem hlt] at hc
      cases hc
      rw [if_pos hp] at h5
      have : x = (i : Int) := by omega
      subst this
      exact List.count_pos_iff.1 (by omega)
    refine ⟨⟨⟨hright, ?_⟩, fun x hx => (deferredAt_iff l x).2 (hsub x hx)⟩, hn⟩
    have l1 := length_le_of_sub w (places l 0) hn hsub
    have l2 := length_le_of_sub (places l 0) w (places_nodup l 0) hback
    rw [places_length] at l1 l2
    omega
end Audit
end Go.Proofs.Ytfiggkbclldccaa
