/- The plain law of chapter 48: who is passed, and who most often. -/
import Derived.Test.YtfiggkbclldccaaGreatGoLH
import Derived.Test.YtfiggkbclldccaaGreatAscend
namespace Go.Proofs.YtfiggkbclldccaaGreat
open Go Go.RowKit Go.MapKept
set_option linter.unusedVariables false
set_option maxRecDepth 100000

structure TickM where
  id : Int
  client : Int
  count : Int
  state : Int
  passed : Int
deriving DecidableEq
/-- The first place, zs a number. -/
def idxOf {α : Type} (p : α → Bool) : List α → Int
  | [] => -1
  | x :: l => if p x = true then 0 else if idxOf p l < 0 then -1 else idxOf p l + 1
theorem idxOf_is {α : Type} (p : α → Bool) : ∀ l : List α, IsIdx p l (idxOf p l)
  | [] => .inl ⟨rfl, by simp⟩
  | x :: l => by
    have ih := idxOf_is p l
    unfold idxOf
    split
    · rename_i h
      exact .inr ⟨0, by simp, rfl, by simpa using h, fun j hj hj0 => absurd hj0 (Nat.not_lt_zero j)⟩
    · rename_i h
      split
      · rename_i h2
        rcases ih with ⟨h3, h4⟩ | ⟨i, hi, h3, _⟩
        · refine .inl ⟨rfl, fun y hy => ?_⟩
          rcases List.mem_cons.1 hy with rfl | hy
          · simpa using h
          · exact h4 y hy
        · omega
      · rename_i h2
        rcases ih with ⟨h3, h4⟩ | ⟨i, hi, h3, h4, h5⟩
        · omega
        · refine .inr ⟨i + 1, by simp; omega, by omega, by simpa using h4, fun j hj hj0 => ?_⟩
          cases j with
          | zero => simpa using h
          | succ j => simpa using h5 j (by simpa using hj) (by omega)
theorem IsIdx.eq {α : Type} {p : α → Bool} {l : List α} {r s : Int} (h : IsIdx p l r) (g : IsIdx p l s) : r = s := by
  rcases h with ⟨rfl, h1⟩ | ⟨i, hi, rfl, h1, h2⟩
  · rcases g with ⟨rfl, g1⟩ | ⟨j, hj, rfl, g1, g2⟩
    · rfl
    · rw [h1 _ (List.getElem_mem hj)] at g1; cases g1
  · rcases g with ⟨rfl, g1⟩ | ⟨j, hj, rfl, g1, g2⟩
    · rw [g1 _ (List.getElem_mem hi)] at h1; cases h1
    · rcases Nat.lt_trichotomy i j with e | e | e
      · rw [g2 i hi e] at h1; cases h1
      · rw [e]
      · rw [h2 j hj e] at g1; cases g1
theorem IsIdx.idx {α : Type} {p : α → Bool} {l : List α} {r : Int} (h : IsIdx p l r) : r = idxOf p l := h.eq (idxOf_is p l)
namespace Fr
def place (l : List TickM) (id : Int) : Int := idxOf (fun t => decide (t.id = id)) l
/-- Is place i passed, when these places are granted one behind the other? -/
def was (i : Int) : List Int → Bool
  | [] => false
  | a :: zs => decide (i < a) || (!decide (a = i) && was i zs)
/-- The tickets that are passed. -/
def passed (l : List TickM) (ats : List Int) : List Int := (l.zipIdx.filter fun p => was p.2 ats).map (·.1.id)
def ats (l : List TickM) (g : List Int) : List Int := g.map (place l)
/-- Who is passed waits, ahead of one that is granted. -/
theorem was_ex {i : Int} : ∀ {zs : List Int}, was i zs = true → ∃ a ∈ zs, i < a
  | [], h => by simp [was] at h
  | a :: zs, h => by
    unfold was at h
    simp only [Bool.or_eq_true, decide_eq_true_eq, Bool.and_eq_true] at h
    rcases h with h | ⟨_, h⟩
    · exact ⟨a, by simp, h⟩
    · obtain ⟨b, hb, hi⟩ := was_ex h
      exact ⟨b, by simp [hb], hi⟩
theorem mem_passed {l : List TickM} {zs : List Int} {x : Int} (h : x ∈ passed l zs) : ∃ (i : Nat) (hi : i < l.length), l[i].id = x ∧ was i zs = true := by
  unfold passed at h
  simp only [List.mem_map, List.mem_filter, Prod.exists, List.mk_mem_zipIdx_iff_getElem?] at h
  obtain ⟨t, i, ⟨h1, h2⟩, rfl⟩ := h
  obtain ⟨hi, rfl⟩ := List.getElem?_eq_some_iff.1 h1
  exact ⟨i, hi, rfl, h2⟩
theorem place_is {l : List TickM} {id : Int} {a : Nat} (h : place l id = a) : ∃ h : a < l.length, l[a].id = id ∧ ∀ (j : Nat) (h : j < l.length), j < a → l[j].id ≠ id := by
  rcases idxOf_is (fun t => decide (t.id = id)) l with ⟨h1, _⟩ | ⟨i, hi, h1, h2, h3⟩
  · unfold place at h; omega
  · unfold place at h
    obtain rfl : i = a := by omega
    exact ⟨hi, by simpa using h2, fun j hj hji => by simpa using h3 j hj hji⟩
/-- FairPassed. -/
theorem older {l : List TickM} {g : List Int} {x : Int} (h : x ∈ passed l (ats l g)) : ∃ (a : Nat), place l x = a ∧ ∃ (b : Nat) (hb : b < l.length), a < b ∧ l[b].id ∈ g := by
  obtain ⟨i, hi, hx, hw⟩ := mem_passed h
  obtain ⟨c, hc, hic⟩ := was_ex hw
  obtain ⟨y, hy, rfl⟩ := List.mem_map.1 hc
  have h0 : 0 ≤ place l y := by omega
  obtain ⟨b, hb⟩ := Int.eq_ofNat_of_zero_le h0
  obtain ⟨hbl, hbid, _⟩ := place_is hb
  rcases idxOf_is (fun t => decide (t.id = x)) l with ⟨_, h2⟩ | ⟨a, ha, h1, h2, h3⟩
  · have := h2 _ (List.getElem_mem hi); simp [hx] at this
  · refine ⟨a, h1, b, hbl, ?_, by rw [hbid]; exact hy⟩
    have : a ≤ i := by
      rcases Nat.lt_or_ge i a with h4 | h4
      · have := h3 i hi h4; simp [hx] at this
      · exact h4
    omega
end Fr
namespace Fr
/-- The one that c tells most of, the least of these. -/
def Best (c : Int → Int) (S : List Int) (r : Int × Int) : Prop := (S = [] ∧ r = (0, 0)) ∨ (r.1 ∈ S ∧ r.2 = c r.1 ∧ ∀ p ∈ S, c p < r.2 ∨ (c p = r.2 ∧ r.1 ≤ p))
theorem Best.add {c : Int → Int} {S : List Int} {r : Int × Int} (h : Best c S r) {p : Int} (hp : 1 ≤ c p) : Best c (S ++ [p]) (if r.2 < c p ∨ (c p = r.2 ∧ p < r.1) then (p, c p) else r) := by
  right
  rcases h with ⟨rfl, rfl⟩ | ⟨h1, h2, h3⟩
  · rw [if_pos (by left; simp only; omega)]
    exact ⟨by simp, rfl, fun q hq => by simp at hq; subst hq; right; exact ⟨rfl, Int.le_refl _⟩⟩
  · split
    · rename_i hc
      refine ⟨by simp, rfl, fun q hq => ?_⟩
      rcases List.mem_append.1 hq with hq | hq
      · have := h3 q hq; simp only; omega
      · simp at hq; subst hq; right; exact ⟨rfl, Int.le_refl _⟩
    · rename_i hc
      refine ⟨by simp [h1], h2, fun q hq => ?_⟩
      rcases List.mem_append.1 hq with hq | hq
      · exact h3 q hq
      · simp at hq; subst hq; omega
/-- In how many lists a number stands. -/
def cnt (Ls : List (List Int)) (x : Int) : Int := ((Ls.filter fun l => decide (x ∈ l)).length : Nat)
end Fr
end Go.Proofs.YtfiggkbclldccaaGreat
