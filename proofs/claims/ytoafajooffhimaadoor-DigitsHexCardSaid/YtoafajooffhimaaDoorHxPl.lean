/- Digits to the base 16, in plain Lean. -/
import Derived.Test.YtoafajooffhimaaDoorDgPl
import Derived.Lib.Bytealg
namespace Go.Proofs.YtoafajooffhimaaDoor
open Go
set_option linter.unusedVariables false
set_option linter.unusedSimpArgs false
namespace Hx
open Dg Go.Lib
def hexL : List UInt8 := [48, 49, 50, 51, 52, 53, 54, 55, 56, 57, 97, 98, 99, 100, 101, 102]
def hexd (n : Nat) : UInt8 := hexL.getD n 0
def idx (a : UInt8) : Int := Lib.indexByte hexL a
theorem u8_all {p : UInt8 → Prop} (h : ∀ n : Fin 256, p (UInt8.ofNat n)) (a : UInt8) : p a := by
  have := h ⟨a.toNat, a.toNat_lt⟩
  simpa using this
theorem idx_hexd : ∀ n : Fin 16, idx (hexd n) = ((n : Nat) : Int) := by decide +kernel
theorem idx_at (m : Nat) (h : m < 16) : idx (hexd m) = (m : Int) := idx_hexd ⟨m, h⟩
theorem idx_is (a : UInt8) : idx a = if 48 ≤ a.toNat ∧ a.toNat ≤ 57 then (a.toNat : Int) - 48 else if 97 ≤ a.toNat ∧ a.toNat ≤ 102 then (a.toNat : Int) - 87 else -1 := by
  refine u8_all (p := fun a => idx a = if 48 ≤ a.toNat ∧ a.toNat ≤ 57 then (a.toNat : Int) - 48 else if 97 ≤ a.toNat ∧ a.toNat ≤ 102 then (a.toNat : Int) - 87 else -1) ?_ a
  decide +kernel
/-- The digits to the base 16. -/
def hexD (u : Nat) : List UInt8 := if h : u < 16 then [hexd u] else hexD (u / 16) ++ [hexd (u % 16)]
termination_by u
decreasing_by omega
theorem hexD_small {u : Nat} (h : u < 16) : hexD u = [hexd u] := by rw [hexD, dif_pos h]
theorem hexD_big {u : Nat} (h : ¬ u < 16) : hexD u = hexD (u / 16) ++ [hexd (u % 16)] := by rw [hexD, dif_neg h]
theorem hexD_len (k u : Nat) (h : u < 16 ^ (k + 1)) : (hexD u).length ≤ k + 1 ∧ 1 ≤ (hexD u).length := by
  induction k generalizing u with
  | zero => rw [hexD_small (by simpa using h)]; simp
  | succ k ih =>
    by_cases hu : u < 16
    · rw [hexD_small hu]; simp
    · rw [hexD_big hu, List.length_append, List.length_singleton]
      have := ih (u / 16) (by rw [Nat.pow_succ] at h; omega)
      omega
/-- With at least k digits. -/
def hx (u : Nat) : Nat → List UInt8
  | 0 => if u = 0 then [] else hexD u
  | k + 1 => hx (u / 16) k ++ [hexd (u % 16)]
theorem hx_zero_step {u : Nat} (h : u ≠ 0) : hx u 0 = hx (u / 16) 0 ++ [hexd (u % 16)] := by
  unfold hx
  rw [if_neg h]
  by_cases hu : u < 16
  · rw [if_pos (by omega), hexD_small hu, Nat.mod_eq_of_lt hu]; rfl
  · rw [if_neg (by omega), hexD_big hu]
/-- The reference's step. -/
theorem hx_step {u k : Nat} (h : 0 < u ∨ 0 < k) : hx u k = hx (u / 16) (k - 1) ++ [hexd (u % 16)] := by
  cases k with
  | zero => exact hx_zero_step (by omega)
  | succ k => rfl
theorem hexd0 : hexd 0 = 48 := by decide
theorem hx_zero : ∀ k, hx 0 k = List.replicate k 48
  | 0 => rfl
  | k + 1 => by rw [hx, Nat.zero_div, hx_zero k, Nat.zero_mod, hexd0, List.replicate_succ']
theorem hx_pad : ∀ (k u : Nat), 1 ≤ k → hx u k = List.replicate (k - (hexD u).length) 48 ++ hexD u
  | 0, u, h => by omega
  | 1, u, _ => by
    rw [hx, hx]
    by_cases hu : u < 16
    · rw [if_pos (by omega), hexD_small hu, Nat.mod_eq_of_lt hu]; simp
    · rw [if_neg (by omega), ← hexD_big hu]
      have : 1 - (hexD u).length = 0 := by
        rw [hexD_big hu, List.length_append, List.length_singleton]; omega
      rw [this]; simp
  | k + 2, u, _ => by
    rw [hx, hx_pad (k + 1) (u / 16) (by omega)]
    by_cases hu : u < 16
    · have h0 : u / 16 = 0 := by omega
      rw [h0, hexD_small (u := 0) (by omega), hexD_small hu, Nat.mod_eq_of_lt hu, hexd0]
      simp only [List.length_singleton]
      rw [show k + 1 - 1 = k by omega, show k + 2 - 1 = k + 1 by omega, List.replicate_succ']
    · rw [hexD_big hu, List.length_append, List.length_singleton]
      rw [show k + 2 - ((hexD (u / 16)).length + 1) = k + 1 - (hexD (u / 16)).length by omega]
      simp
def hex (n wide : Int) : List UInt8 := if n < 0 ∨ wide < 1 ∨ 16 < wide then [] else hx n.toNat wide.toNat
/-- What the digits come to. -/
def hexF (n : Int) : List UInt8 → Option Int
  | [] => some n
  | c :: l => if idx c < 0 ∨ 576460752303423487 < n then none else hexF (16 * n + idx c) l
def readHex (s : List UInt8) : Option Int := if s.length < 1 ∨ 16 < s.length then none else hexF 0 s
theorem hexF_app : ∀ (l : List UInt8) (n v : Int) (c : UInt8), hexF n l = some v → hexF n (l ++ [c]) = hexF v [c]
  | [], n, v, c, h => by rw [hexF] at h; cases h; rfl
  | b :: l, n, v, c, h => by
    rw [List.cons_append]
    rw [hexF] at h ⊢
    split
    · rename_i hb; rw [if_pos hb] at h; cases h
    · rename_i hb; rw [if_neg hb] at h; exact hexF_app l _ v c h
theorem hexF_hx : ∀ (k u : Nat), u < 9223372036854775808 → hexF 0 (hx u k) = some (u : Int)
  | 0, u, hu => by
    induction u using Nat.strongRecOn with
    | _ u ih =>
      by_cases h0 : u = 0
      · subst h0; rfl
      · rw [hx_zero_step h0, hexF_app _ _ _ _ (ih (u / 16) (by omega) (by omega))]
        rw [hexF, idx_at _ (by omega), if_neg (by omega), hexF]
        congr 1; omega
  | k + 1, u, hu => by
    rw [hx, hexF_app _ _ _ _ (hexF_hx k (u / 16) (by omega))]
    rw [hexF, idx_at _ (by omega), if_neg (by omega), hexF]
    congr 1; omega
theorem hx_len {k u : Nat} (h1 : 1 ≤ k) (h2 : k ≤ 16) (hu : u < 9223372036854775808) : 1 ≤ (hx u k).length ∧ (hx u k).length ≤ 16 := by
  have h := hexD_len 15 u (by rw [show 16 ^ (15 + 1) = 18446744073709551616 by decide]; omega)
  rw [hx_pad k u h1, List.length_append, List.length_replicate]
  omega
theorem read_hex {n wide : Int} (hn : n ≤ 9223372036854775807) (h : hex n wide ≠ []) : readHex (hex n wide) = some n := by
  unfold hex at h ⊢
  split
  · rename_i hc; rw [if_pos hc] at h; exact absurd rfl h
  · rename_i hc
    have hl := hx_len (k := wide.toNat) (u := n.toNat) (by omega) (by omega) (by omega)
    unfold readHex
    rw [if_neg (by omega), hexF_hx _ _ (by omega)]
    congr 1; omega
theorem hexF_lt : ∀ (l : List UInt8) (n v : Int), 0 ≤ n → hexF n l = some v → 0 ≤ v
  | [], n, v, h0, h => by rw [hexF] at h; cases h; exact h0
  | c :: l, n, v, h0, h => by
    rw [hexF] at h
    split at h
    · cases h
    · rename_i hc; exact hexF_lt l _ v (by omega) h
/-- What is read of the first k bytes, and what is left. -/
theorem hexF_take (s : List UInt8) (k : Nat) (hk : k < s.length) (n : Int) (h : hexF 0 (s.take k) = some n) : hexF 0 (s.take (k + 1)) = if idx s[k] < 0 ∨ 576460752303423487 < n then none else some (16 * n + idx s[k]) := by
  rw [List.take_succ_eq_append_getElem hk, hexF_app _ _ _ _ h, hexF]
  split
  · rfl
  · rw [hexF]
theorem hexF_none : ∀ (l m : List UInt8) (n : Int), hexF n l = none → hexF n (l ++ m) = none
  | [], m, n, h => by rw [hexF] at h; cases h
  | c :: l, m, n, h => by
    rw [List.cons_append]
    rw [hexF] at h ⊢
    split
    · rfl
    · rename_i hc; rw [if_neg hc] at h; exact hexF_none l m _ h
theorem read_none {s : List UInt8} {k : Nat} (h : hexF 0 (s.take k) = none) : readHex s = none := by
  unfold readHex
  split
  · rfl
  · have := hexF_none (s.take k) (s.drop k) 0 h
    rwa [List.take_append_drop] at this
end Hx
end Go.Proofs.YtoafajooffhimaaDoor
