/- Bytes in rows: what is plain. -/
import Derived.Test.YtoafajooffhimaaDoorSepD
namespace Go.Proofs.YtoafajooffhimaaDoor
open Go Go.RowKit Go.MapKept
set_option linter.unusedVariables false
set_option linter.unusedSimpArgs false
namespace By
def zrow : List UInt8 := List.replicate 64 0
def row (t : List UInt8) (k : Nat) : List UInt8 := (t.drop (64 * k)).take 64
def splice {α : Type} (l : List α) (p : Nat) (s : List α) : List α := l.take p ++ s ++ l.drop (p + s.length)
theorem splice_len {α : Type} (l : List α) (p : Nat) (s : List α) (h : p + s.length ≤ l.length) : (splice l p s).length = l.length := by
  simp only [splice, List.length_append, List.length_take, List.length_drop]; omega
theorem splice_at {α : Type} (l : List α) (p : Nat) (s : List α) (h : p + s.length ≤ l.length) (i : Nat) : (splice l p s)[i]? = if i < p then l[i]? else if i < p + s.length then s[i - p]? else l[i]? := by
  unfold splice
  by_cases h1 : i < p
  · rw [if_pos h1, List.append_assoc, List.getElem?_append_left (by rw [List.length_take]; omega), List.getElem?_take_of_lt h1]
  · rw [if_neg h1]
    by_cases h2 : i < p + s.length
    · rw [if_pos h2, List.append_assoc, List.getElem?_append_right (by rw [List.length_take]; omega), List.length_take, Nat.min_eq_left (by omega), List.getElem?_append_left (by omega)]
    · rw [if_neg h2, List.getElem?_append_right (by rw [List.length_append, List.length_take]; omega), List.getElem?_drop, List.length_append, List.length_take]
      congr 1; omega
theorem row_len (t : List UInt8) (k : Nat) (h : 64 * k + 64 ≤ t.length) : (row t k).length = 64 := by
  unfold row; rw [List.length_take, List.length_drop]; omega
theorem row_at (t : List UInt8) (k j : Nat) (hj : j < 64) : (row t k)[j]? = t[64 * k + j]? := by
  unfold row; rw [List.getElem?_take_of_lt hj, List.getElem?_drop]
theorem row_splice (t s : List UInt8) (a k : Nat) (h1 : k + s.length ≤ 64) (h2 : 64 * a + 64 ≤ t.length) : row (splice t (64 * a + k) s) a = splice (row t a) k s := by
  have hl := row_len t a h2
  have hs : (splice t (64 * a + k) s).length = t.length := splice_len _ _ _ (by omega)
  apply List.ext_getElem?
  intro j
  by_cases hj : j < 64
  · rw [row_at _ _ _ hj, splice_at _ _ _ (by omega), splice_at _ _ _ (by omega), row_at _ _ _ hj]
    by_cases c1 : j < k
    · rw [if_pos c1, if_pos (by omega)]
    · rw [if_neg c1, if_neg (by omega)]
      by_cases c2 : j < k + s.length
      · rw [if_pos c2, if_pos (by omega)]; congr 1; omega
      · rw [if_neg c2, if_neg (by omega)]
  · rw [List.getElem?_eq_none (by rw [row_len _ _ (by omega)]; omega), List.getElem?_eq_none (by rw [splice_len _ _ _ (by omega)]; omega)]
theorem row_other (t s : List UInt8) (a k b : Nat) (h1 : k + s.length ≤ 64) (h2 : 64 * a + 64 ≤ t.length) (hb : b ≠ a) : row (splice t (64 * a + k) s) b = row t b := by
  have hs : (splice t (64 * a + k) s).length = t.length := splice_len _ _ _ (by omega)
  apply List.ext_getElem?
  intro j
  by_cases hj : j < 64
  · rw [row_at _ _ _ hj, row_at _ _ _ hj, splice_at _ _ _ (by omega)]
    by_cases c1 : 64 * b + j < 64 * a + k
    · rw [if_pos c1]
    · rw [if_neg c1, if_neg (by omega)]
  · rw [List.getElem?_eq_none, List.getElem?_eq_none] <;> (unfold row; rw [List.length_take]; omega)
theorem splice_more {α : Type} (t d : List α) (at_ i m : Nat) (h : at_ + d.length ≤ t.length) (hi : i + m ≤ d.length) : splice (splice t at_ (d.take i)) (at_ + i) ((d.drop i).take m) = splice t at_ (d.take (i + m)) := by
  have l1 : (d.take i).length = i := by rw [List.length_take]; omega
  have l2 : ((d.drop i).take m).length = m := by rw [List.length_take, List.length_drop]; omega
  have l3 : (d.take (i + m)).length = i + m := by rw [List.length_take]; omega
  have l4 : (splice t at_ (d.take i)).length = t.length := splice_len _ _ _ (by omega)
  apply List.ext_getElem?
  intro j
  rw [splice_at _ _ _ (by omega), splice_at _ _ _ (by omega), splice_at _ _ _ (by omega), l1, l2, l3]
  by_cases c1 : j < at_
  · rw [if_pos (by omega), if_pos c1, if_pos c1]
  · by_cases c2 : j < at_ + i
    · rw [if_pos c2, if_neg c1, if_pos c2, if_neg c1, if_pos (by omega), List.getElem?_take_of_lt (by omega), List.getElem?_take_of_lt (by omega)]
    · rw [if_neg c2]
      by_cases c3 : j < at_ + i + m
      · rw [if_pos c3, if_neg c1, if_pos (by omega), List.getElem?_take_of_lt (by omega), List.getElem?_take_of_lt (by omega), List.getElem?_drop]
        congr 1; omega
      · rw [if_neg c3, if_neg c1, if_neg c2, if_neg c1, if_neg (by omega)]
theorem splice_nil {α : Type} (t : List α) (p : Nat) : splice t p [] = t := by simp [splice]
/-- The rows that are there, of a text. -/
structure Rows (am : List (Int × List UInt8)) (t : List UInt8) : Prop where
  nodup : (alKeys am).Nodup
  at_ : ∀ k : Nat, 64 * k < t.length → alGet am k = if row t k = zrow then none else some (row t k)
  out : ∀ x : Int, x < 0 ∨ (t.length : Int) ≤ 64 * x → alGet am x = none
theorem alKeys_nodup_set {β : Type} {m : List (Int × β)} (h : (alKeys m).Nodup) (k : Int) (v : β) : (alKeys (alSet m k v)).Nodup := by
  rw [alKeys_set]; split
  · exact h
  · rename_i hk
    rw [List.nodup_append]
    exact ⟨h, by simp, fun a ha b hb => by simp at hb; subst hb; exact fun e => hk (e ▸ ha)⟩
def putRow (am : List (Int × List UInt8)) (a : Int) (r : List UInt8) : List (Int × List UInt8) := if r = zrow then alDel am a else alSet am a r
theorem Rows.put {am : List (Int × List UInt8)} {t s : List UInt8} (h : Rows am t) (h64 : t.length % 64 = 0) (a k : Nat) (h1 : k + s.length ≤ 64) (h2 : 64 * a < t.length) : Rows (putRow am a (splice (row t a) k s)) (splice t (64 * a + k) s) := by
  have hl : (splice t (64 * a + k) s).length = t.length := splice_len _ _ _ (by omega)
  have hg : ∀ x : Int, alGet (putRow am a (splice (row t a) k s)) x = if x = a then (if splice (row t a) k s = zrow then none else some (splice (row t a) k s)) else alGet am x := by
    intro x
    unfold putRow
    split
    · rw [alGet_del _ _ _ h.nodup]
    · rw [alGet_set]
  refine ⟨?_, fun b hb => ?_, fun x hx => ?_⟩
  · unfold putRow; split
    · rw [alKeys_del]; exact h.nodup.erase _
    · exact alKeys_nodup_set h.nodup _ _
  · rw [hl] at hb
    rw [hg]
    by_cases e : b = a
    · subst e; rw [if_pos rfl, row_splice _ _ _ _ h1 (by omega)]
    · rw [if_neg (by omega), row_other _ _ _ _ _ h1 (by omega) e, h.at_ _ hb]
  · rw [hl] at hx
    rw [hg, if_neg (by omega), h.out _ hx]
theorem Rows.get {am : List (Int × List UInt8)} {t : List UInt8} (h : Rows am t) (k : Nat) (hk : 64 * k < t.length) : (alGet am k).getD zrow = row t k := by
  rw [h.at_ k hk]; split
  · rename_i e; rw [e]; rfl
  · rfl
theorem Rows.new (n : Nat) (h64 : n % 64 = 0) : Rows [] (List.replicate n 0) := by
  refine ⟨by simp [alKeys], fun k hk => ?_, fun x _ => rfl⟩
  rw [List.length_replicate] at hk
  rw [if_pos, alGet_nil]
  unfold row zrow
  rw [List.drop_replicate, List.take_replicate]
  congr 1; omega
theorem alGet_all {β : Type} : ∀ (m : List (Int × β)), (∀ x, alGet m x = none) → m = []
  | [], _ => rfl
  | (k, v) :: m, h => by have := h k; rw [alGet_cons, if_pos rfl] at this; cases this
theorem Rows.clean {am : List (Int × List UInt8)} {t : List UInt8} (h : Rows am t) (h64 : t.length % 64 = 0) : am = [] ↔ ∀ b ∈ t, b = 0 := by
  constructor
  · rintro rfl b hb
    obtain ⟨i, hi, rfl⟩ := List.getElem_of_mem hb
    have hk := h.at_ (i / 64) (by omega)
    rw [alGet_nil] at hk
    have hr : row t (i / 64) = zrow := by
      apply Classical.byContradiction; intro c; rw [if_neg c] at hk; cases hk
    have := row_at t (i / 64) (i % 64) (by omega)
    rw [hr, show 64 * (i / 64) + i % 64 = i by omega, List.getElem?_eq_getElem hi] at this
    unfold zrow at this
    rw [List.getElem?_replicate, if_pos (by omega)] at this
    exact (Option.some.inj this).symm
  · intro ha
    refine alGet_all _ fun x => ?_
    by_cases hx : x < 0 ∨ (t.length : Int) ≤ 64 * x
    · exact h.out x hx
    · obtain ⟨k, rfl⟩ : ∃ k : Nat, x = k := ⟨x.toNat, by omega⟩
      rw [h.at_ k (by omega), if_pos]
      apply List.ext_getElem
      · rw [row_len _ _ (by omega)]; simp [zrow]
      · intro i h1 h2
        have h3 : (row t k)[i] ∈ t := List.mem_of_mem_drop (List.mem_of_mem_take (List.getElem_mem h1))
        rw [ha _ h3]; simp only [zrow, List.getElem_replicate]
end By
end Go.Proofs.YtoafajooffhimaaDoor
