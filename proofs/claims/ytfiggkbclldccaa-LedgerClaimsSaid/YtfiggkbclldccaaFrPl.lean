/- The plain law of chapter 48: who is passed, and who most often. -/
import Derived.Test.YtfiggkbclldccaaGoLH
import Derived.Test.YtfiggkbclldccaaAscend
namespace Go.Proofs.Ytfiggkbclldccaa
open Go Go.RowKit Go.MapKept
set_option linter.unusedVariables false
set_option maxRecDepth 100000

structure TickM where
  id : Int
  client : Int
  count : Int
  state : Int
  passed : Int
deriving DecidableEq
/-- The first place, zs a number. -/
def idxOf {α : Type} (p : α → Bool) : List α → Int
  | [] => -1
  | x :: l => if p x = true then 0 else if idxOf p l < 0 then -1 else idxOf p l + 1
theorem idxOf_ge {α : Type} (p : α → Bool) : ∀ l : List α, -1 ≤ idxOf p l
  | [] => by simp [idxOf]
  | x :: l => by
    have := idxOf_ge p l
    unfold idxOf
    split
    · omega
    · split <;> omega
theorem idxOf_is {α : Type} (p : α → Bool) : ∀ l : List α, IsIdx p l (idxOf p l)
  | [] => .inl ⟨rfl, by simp⟩
  | x :: l => by
    have ih := idxOf_is p l
    unfold idxOf
    split
    · rename_i h
      exact .inr ⟨0, by simp, rfl, by simpa using h, fun j hj hj0 => absurd hj0 (Nat.not_lt_zero j)⟩
    · rename_i h
      split
      · rename_i h2
        rcases ih with ⟨h3, h4⟩ | ⟨i, hi, h3, _⟩
        · refine .inl ⟨rfl, fun y hy => ?_⟩
          rcases List.mem_cons.1 hy with rfl | hy
          · simpa using h
          · exact h4 y hy
        · omega
      · rename_i h2
        rcases ih with ⟨h3, h4⟩ | ⟨i, hi, h3, h4, h5⟩
        · omega
        · refine .inr ⟨i + 1, by simp; omega, by omega, by simpa using h4, fun j hj hj0 => ?_⟩
          cases j with
          | zero => simpa using h
          | succ j => simpa using h5 j (by simpa using hj) (by omega)
theorem IsIdx.eq {α : Type} {p : α → Bool} {l : List α} {r s : Int} (h : IsIdx p l r) (g : IsIdx p l s) : r = s := by
  rcases h with ⟨rfl, h1⟩ | ⟨i, hi, rfl, h1, h2⟩
  · rcases g with ⟨rfl, g1⟩ | ⟨j, hj, rfl, g1, g2⟩
    · rfl
    · rw [h1 _ (List.getElem_mem hj)] at g1; cases g1
  · rcases g with ⟨rfl, g1⟩ | ⟨j, hj, rfl, g1, g2⟩
    · rw [g1 _ (List.getElem_mem hi)] at h1; cases h1
    · rcases Nat.lt_trichotomy i j with e | e | e
      · rw [g2 i hi e] at h1; cases h1
      · rw [e]
      · rw [h2 j hj e] at g1; cases g1
theorem IsIdx.idx {α : Type} {p : α → Bool} {l : List α} {r : Int} (h : IsIdx p l r) : r = idxOf p l := h.eq (idxOf_is p l)
theorem idxOf_lt {α : Type} (p : α → Bool) (l : List α) : idxOf p l < l.length ∨ (idxOf p l = -1 ∧ l = []) := by
  rcases idxOf_is p l with ⟨h, _⟩ | ⟨i, hi, h, _⟩
  · cases l with
    | nil => exact .inr ⟨h, rfl⟩
    | cons x l => left; rw [h]; simp; omega
  · left; omega
namespace Fr
def place (l : List TickM) (id : Int) : Int := idxOf (fun t => decide (t.id = id)) l
/-- Is place i passed, when these places are granted one behind the other? -/
def was (i : Int) : List Int → Bool
  | [] => false
  | a :: zs => decide (i < a) || (!decide (a = i) && was i zs)
theorem was_app (i : Int) (a : Int) : ∀ zs : List Int, was i (zs ++ [a]) = (was i zs || (decide (i < a) && !decide (i ∈ zs)))
  | [] => by simp [was]
  | b :: zs => by
    rw [List.cons_append, was, was, was_app i a zs]
    by_cases h1 : i < b
    · simp [h1]
    · by_cases h2 : b = i
      · subst h2; simp
      · have : ¬ i = b := fun e => h2 e.symm
        simp [h1, h2, this]
/-- The tickets that are passed. -/
def passed (l : List TickM) (ats : List Int) : List Int := (l.zipIdx.filter fun p => was p.2 ats).map (·.1.id)
def ats (l : List TickM) (g : List Int) : List Int := g.map (place l)
theorem passed_succ (l : List TickM) (zs : List Int) (k : Nat) (h : k < l.length) : ((l.take (k + 1)).zipIdx.filter fun p => was p.2 zs).map (·.1.id) = ((l.take k).zipIdx.filter fun p => was p.2 zs).map (·.1.id) ++ (if was k zs = true then [l[k].id] else []) := by
  rw [List.take_succ_eq_append_getElem h, List.zipIdx_append, List.filter_append, List.map_append]
  congr 1
  simp only [List.length_take, Nat.min_eq_left (Nat.le_of_lt h), List.zipIdx_cons, List.zipIdx_nil, Nat.zero_add]
  split <;> simp_all
theorem passed_len (l : List TickM) (zs : List Int) (k : Nat) : (((l.take k).zipIdx.filter fun p => was p.2 zs).map (·.1.id)).length ≤ k := by
  rw [List.length_map]
  refine Nat.le_trans (List.length_filter_le _ _) ?_
  simp
  omega
/-- Who is passed waits, ahead of one that is granted. -/
theorem was_ex {i : Int} : ∀ {zs : List Int}, was i zs = true → ∃ a ∈ zs, i < a
  | [], h => by simp [was] at h
  | a :: zs, h => by
    unfold was at h
    simp only [Bool.or_eq_true, decide_eq_true_eq, Bool.and_eq_true] at h
    rcases h with h | ⟨_, h⟩
    · exact ⟨a, by simp, h⟩
    · obtain ⟨b, hb, hi⟩ := was_ex h
      exact ⟨b, by simp [hb], hi⟩
theorem mem_passed {l : List TickM} {zs : List Int} {x : Int} (h : x ∈ passed l zs) : ∃ (i : Nat) (hi : i < l.length), l[i].id = x ∧ was i zs = true := by
  unfold passed at h
  simp only [List.mem_map, List.mem_filter, Prod.exists, List.mk_mem_zipIdx_iff_getElem?] at h
  obtain ⟨t, i, ⟨h1, h2⟩, rfl⟩ := h
  obtain ⟨hi, rfl⟩ := List.getElem?_eq_some_iff.1 h1
  exact ⟨i, hi, rfl, h2⟩
theorem place_is {l : List TickM} {id : Int} {a : Nat} (h : place l id = a) : ∃ h : a < l.length, l[a].id = id ∧ ∀ (j : Nat) (h : j < l.length), j < a → l[j].id ≠ id := by
  rcases idxOf_is (fun t => decide (t.id = id)) l with ⟨h1, _⟩ | ⟨i, hi, h1, h2, h3⟩
  · unfold place at h; omega
  · unfold place at h
    obtain rfl : i = a := by omega
    exact ⟨hi, by simpa using h2, fun j hj hji => by simpa using h3 j hj hji⟩
/-- FairPassed. -/
theorem older {l : List TickM} {g : List Int} {x : Int} (h : x ∈ passed l (ats l g)) : ∃ (a : Nat), place l x = a ∧ ∃ (b : Nat) (hb : b < l.length), a < b ∧ l[b].id ∈ g := by
  obtain ⟨i, hi, hx, hw⟩ := mem_passed h
  obtain ⟨c, hc, hic⟩ := was_ex hw
  obtain ⟨y, hy, rfl⟩ := List.mem_map.1 hc
  have h0 : 0 ≤ place l y := by omega
  obtain ⟨b, hb⟩ := Int.eq_ofNat_of_zero_le h0
  obtain ⟨hbl, hbid, _⟩ := place_is hb
  rcases idxOf_is (fun t => decide (t.id = x)) l with ⟨_, h2⟩ | ⟨a, ha, h1, h2, h3⟩
  · have := h2 _ (List.getElem_mem hi); simp [hx] at this
  · refine ⟨a, h1, b, hbl, ?_, by rw [hbid]; exact hy⟩
    have : a ≤ i := by
      rcases Nat.lt_or_ge i a with h4 | h4
      · have := h3 i hi h4; simp [hx] at this
      · exact h4
    omega
end Fr
namespace Fr
/-- The one that c tells most of, the least of these. -/
def Best (c : Int → Int) (S : List Int) (r : Int × Int) : Prop := (S = [] ∧ r = (0, 0)) ∨ (r.1 ∈ S ∧ r.2 = c r.1 ∧ ∀ p ∈ S, c p < r.2 ∨ (c p = r.2 ∧ r.1 ≤ p))
theorem Best.add {c : Int → Int} {S : List Int} {r : Int × Int} (h : Best c S r) {p : Int} (hp : 1 ≤ c p) : Best c (S ++ [p]) (if r.2 < c p ∨ (c p = r.2 ∧ p < r.1) then (p, c p) else r) := by
  right
  rcases h with ⟨rfl, rfl⟩ | ⟨h1, h2, h3⟩
  · rw [if_pos (by left; simp only; omega)]
    exact ⟨by simp, rfl, fun q hq => by simp at hq; subst hq; right; exact ⟨rfl, Int.le_refl _⟩⟩
  · split
    · rename_i hc
      refine ⟨by simp, rfl, fun q hq => ?_⟩
      rcases List.mem_append.1 hq with hq | hq
      · have := h3 q hq; simp only; omega
      · simp at hq; subst hq; right; exact ⟨rfl, Int.le_refl _⟩
    · rename_i hc
      refine ⟨by simp [h1], h2, fun q hq => ?_⟩
      rcases List.mem_append.1 hq with hq | hq
      · exact h3 q hq
      · simp at hq; subst hq; omega
theorem Best.addUp {c : Int → Int} {S : List Int} {r : Int × Int} (h : Best c S r) {p : Int} (hp : 1 ≤ c p) (hup : ∀ q ∈ S, q < p) : Best c (S ++ [p]) (if r.2 < c p then (p, c p) else r) := by
  have h1 := h.add hp
  by_cases h2 : r.2 < c p
  · rw [if_pos (.inl h2)] at h1
    rw [if_pos h2]; exact h1
  · rw [if_neg h2]
    by_cases h3 : c p = r.2 ∧ p < r.1
    · exfalso
      rcases h with ⟨rfl, rfl⟩ | ⟨g1, g2, g3⟩
      · simp only at h3; omega
      · have := hup _ g1; omega
    · rw [if_neg (by omega)] at h1; exact h1
theorem Best.uniq {c : Int → Int} {S T : List Int} {r s : Int × Int} (h : Best c S r) (g : Best c T s) (hm : ∀ x, x ∈ S ↔ x ∈ T) : r = s := by
  rcases h with ⟨rfl, rfl⟩ | ⟨h1, h2, h3⟩
  · rcases g with ⟨rfl, rfl⟩ | ⟨g1, g2, g3⟩
    · rfl
    · have := (hm _).2 g1; simp at this
  · rcases g with ⟨rfl, rfl⟩ | ⟨g1, g2, g3⟩
    · have := (hm _).1 h1; simp at this
    · have a := h3 _ ((hm _).2 g1)
      have b := g3 _ ((hm _).1 h1)
      obtain ⟨r1, r2⟩ := r
      obtain ⟨s1, s2⟩ := s
      simp only at *
      have : r1 = s1 := by omega
      subst this
      rw [h2, g2]
/-- In how many lists a number stands. -/
def cnt (Ls : List (List Int)) (x : Int) : Int := ((Ls.filter fun l => decide (x ∈ l)).length : Nat)
theorem cnt_app (Ls : List (List Int)) (P : List Int) (x : Int) : cnt (Ls ++ [P]) x = cnt Ls x + (if x ∈ P then 1 else 0) := by
  unfold cnt
  rw [List.filter_append, List.length_append]
  by_cases h : x ∈ P <;> simp [h]
theorem cnt_pos {Ls : List (List Int)} {x : Int} : 1 ≤ cnt Ls x ↔ ∃ l ∈ Ls, x ∈ l := by
  unfold cnt
  constructor
  · intro h
    have h1 : 0 < (Ls.filter fun l => decide (x ∈ l)).length := by omega
    obtain ⟨l, hl⟩ := List.exists_mem_of_length_pos h1
    have := List.mem_filter.1 hl
    exact ⟨l, this.1, by simpa using this.2⟩
  · rintro ⟨l, hl, hx⟩
    have : l ∈ Ls.filter fun l => decide (x ∈ l) := List.mem_filter.2 ⟨hl, by simpa using hx⟩
    have := List.length_pos_of_mem this
    omega
theorem cnt_le (Ls : List (List Int)) (x : Int) : 0 ≤ cnt Ls x ∧ cnt Ls x ≤ Ls.length := by
  unfold cnt
  have := List.length_filter_le (fun l => decide (x ∈ l)) Ls
  omega
theorem cnt_take (Ls : List (List Int)) (x : Int) (k : Nat) (h : k < Ls.length) : cnt (Ls.take (k + 1)) x = cnt (Ls.take k) x + (if x ∈ Ls[k] then 1 else 0) := by
  rw [List.take_succ_eq_append_getElem h, cnt_app]
end Fr
end Go.Proofs.Ytfiggkbclldccaa
