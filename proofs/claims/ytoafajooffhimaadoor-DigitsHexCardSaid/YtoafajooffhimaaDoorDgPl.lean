/- Numbers' texts and their reading, a text's parts: plain laws. -/
import Derived.Lib.AtoiAll
import Derived.Lib.IndexBytes
import Derived.Lib.ItoaLen
import Derived.Lib.ItoaNum
import Derived.Lib.Join
import Derived.Lib.Split
import Derived.Lib.SplitLaws
namespace Go.Proofs.YtoafajooffhimaaDoor
set_option linter.unusedVariables false
set_option linter.unusedSimpArgs false
set_option maxRecDepth 100000
namespace Dg
open Go.Lib
def I64 (n : Int) : Prop := -9223372036854775808 ≤ n ∧ n ≤ 9223372036854775807
theorem decDigits_small {u : Nat} (h : u < 10) : decDigits u = [UInt8.ofNat (48 + u)] := by rw [decDigits, dif_pos h]
theorem decDigits_big {u : Nat} (h : ¬ u < 10) : decDigits u = decDigits (u / 10) ++ [UInt8.ofNat (48 + u % 10)] := by rw [decDigits, dif_neg h]
theorem dig_nat {k : Nat} (h : k < 10) : (UInt8.ofNat (48 + k)).toNat = 48 + k := by
  simp; omega
theorem dig_mem (u : Nat) : ∀ c ∈ decDigits u, 48 ≤ c.toNat ∧ c.toNat ≤ 57 := by
  induction u using Nat.strongRecOn with
  | _ u ih =>
    intro c hc
    by_cases h : u < 10
    · rw [decDigits_small h] at hc
      simp only [List.mem_singleton] at hc
      subst hc; rw [dig_nat h]; omega
    · rw [decDigits_big h] at hc
      rcases List.mem_append.1 hc with hc | hc
      · exact ih (u / 10) (by omega) c hc
      · simp only [List.mem_singleton] at hc
        subst hc; rw [dig_nat (by omega)]; omega
theorem decDigits_ne (u : Nat) : decDigits u ≠ [] := by
  by_cases h : u < 10
  · rw [decDigits_small h]; simp
  · rw [decDigits_big h]; simp
theorem parse_app : ∀ (l : List UInt8) (acc v : Nat) (c : UInt8), parseUint10 acc l = .ok v → parseUint10 acc (l ++ [c]) = parseUint10 v [c]
  | [], acc, v, c, h => by simp only [parseUint10] at h; injection h with h; subst h; rfl
  | b :: l, acc, v, c, h => by
    rw [List.cons_append]
    unfold parseUint10 at h ⊢
    split
    · rename_i hb
      rw [if_pos hb] at h
      split
      · rename_i h2; rw [if_pos h2] at h; cases h
      · rename_i h2
        rw [if_neg h2] at h
        split
        · rename_i h3; rw [if_pos h3] at h; cases h
        · rename_i h3; rw [if_neg h3] at h
          exact parse_app l _ v c h
    · rename_i hb; rw [if_neg hb] at h; cases h
theorem parse_dec (u : Nat) (hu : u < 18446744073709551616) : parseUint10 0 (decDigits u) = .ok u := by
  induction u using Nat.strongRecOn with
  | _ u ih =>
    by_cases h : u < 10
    · rw [decDigits_small h]
      simp only [parseUint10, dig_nat h]
      rw [if_pos (by omega), if_neg (by omega), if_neg (by omega)]
      congr 1; omega
    · rw [decDigits_big h, parse_app _ _ _ _ (ih (u / 10) (by omega) (by omega))]
      simp only [parseUint10, dig_nat (show u % 10 < 10 by omega)]
      rw [if_pos (by omega), if_neg (by omega), if_neg (by omega)]
      congr 1; omega
theorem itoa_neg {n : Int} (h : n < 0) : itoa n = 45 :: decDigits n.natAbs := by unfold itoa; rw [if_pos h]
theorem itoa_pos {n : Int} (h : ¬ n < 0) : itoa n = decDigits n.toNat := by unfold itoa; rw [if_neg h]
theorem atoi_itoa {n : Int} (h : I64 n) : atoiAll (itoa n) = .ok n := by
  obtain ⟨h1, h2⟩ := h
  by_cases hn : n < 0
  · rw [itoa_neg hn]
    have hp := parse_dec n.natAbs (by omega)
    have : parseMag (decDigits n.natAbs) = .ok n.natAbs := by unfold parseMag; rw [if_neg (decDigits_ne _)]; exact hp
    simp only [atoiAll]
    rw [if_pos (by right; rfl), this]
    simp only [show (45 : UInt8).toNat = 45 from rfl, not_true, false_and, if_false, true_and]
    rw [if_neg (by omega)]
    simp only [if_true]
    congr 1; omega
  · rw [itoa_pos hn]
    have hp := parse_dec n.toNat (by omega)
    cases hd : decDigits n.toNat with
    | nil => exact absurd hd (decDigits_ne _)
    | cons c r =>
      have hc := dig_mem n.toNat c (by rw [hd]; simp)
      have : parseMag (c :: r) = .ok n.toNat := by unfold parseMag; rw [if_neg (by simp), ← hd]; exact hp
      simp only [atoiAll]
      rw [if_neg (by omega), this]
      have h45 : ¬ c.toNat = 45 := by omega
      simp only [h45, not_false_eq_true, true_and, false_and, if_false]
      rw [if_neg (by omega)]
      congr 1; omega
theorem itoa_inj {n m : Int} (hn : I64 n) (hm : I64 m) (h : itoa n = itoa m) : n = m := by
  have h1 := atoi_itoa hn
  rw [h, atoi_itoa hm] at h1
  injection h1 with h1; exact h1.symm
theorem itoa_len {n : Int} (h : I64 n) : (itoa n).length ≤ 20 ∧ 1 ≤ (itoa n).length := by
  obtain ⟨h1, h2⟩ := h
  have hd : ∀ u : Nat, u ≤ 9223372036854775808 → (decDigits u).length ≤ 19 ∧ 1 ≤ (decDigits u).length := by
    intro u hu
    rw [decDigits_eq, List.length_map, List.length_range]
    refine ⟨?_, nDigits_pos u⟩
    rcases Nat.lt_or_ge 19 (nDigits u) with h | h
    · exfalso
      have hkey : ∀ (k : Nat) (u : Nat), k < nDigits u → 10 ^ k ≤ u ∨ k = 0 := by
        intro k
        induction k with
        | zero => intro u _; exact .inr rfl
        | succ k ih =>
          intro u hk
          left
          by_cases hu : u < 10
          · rw [nDigits_small hu] at hk; omega
          · rw [nDigits_big hu] at hk
            have hp : 1 ≤ 10 ^ k := Nat.one_le_pow _ _ (by decide)
            rcases ih (u / 10) (by omega) with h | h
            · rw [Nat.pow_succ]; omega
            · subst h; simp; omega
      rcases hkey 19 u h with h | h
      · have : (10 : Nat) ^ 19 = 10000000000000000000 := by decide
        omega
      · omega
    · exact h
  by_cases hn : n < 0
  · rw [itoa_neg hn, List.length_cons]
    have := hd n.natAbs (by omega); omega
  · rw [itoa_pos hn]
    have := hd n.toNat (by omega); omega
/-- The number whose text this is. -/
def read (s : List UInt8) : Option Int := match atoiAll s with
  | .ok v => if itoa v = s then some v else none
  | _ => none
theorem read_itoa {n : Int} (h : I64 n) : read (itoa n) = some n := by
  unfold read; rw [atoi_itoa h]; simp
theorem read_some {s : List UInt8} {n : Int} (h : read s = some n) : itoa n = s := by
  unfold read at h
  split at h
  · split at h
    · rename_i h2; cases h; exact h2
    · cases h
  · cases h
theorem atoi_i64 {s : List UInt8} {v : Int} (h : atoiAll s = .ok v) : I64 v := by
  cases s with
  | nil => simp [atoiAll] at h
  | cons c r =>
    simp only [atoiAll] at h
    split at h
    · cases h
    · cases h
    · split at h
      · cases h
      · split at h
        · cases h
        · injection h with h
          subst h
          unfold I64
          split <;> omega
theorem read_i64 {s : List UInt8} {n : Int} (h : read s = some n) : I64 n := by
  unfold read at h
  split at h
  · rename_i h1
    split at h
    · cases h; exact atoi_i64 h1
    · cases h
  · cases h
theorem read_iff {s : List UInt8} {n : Int} : read s = some n ↔ I64 n ∧ itoa n = s :=
  ⟨fun h => ⟨read_i64 h, read_some h⟩, fun ⟨h1, h2⟩ => by rw [← h2]; exact read_itoa h1⟩
/-! The reference's way. -/
def wrap (n : Int) : Int := (n + 9223372036854775808) % 18446744073709551616 - 9223372036854775808
theorem wrap_id {n : Int} (h : I64 n) : wrap n = n := by unfold wrap; unfold I64 at h; omega
/-- What the digits come to. -/
def acc (neg : Bool) (n : Int) : List UInt8 → Option Int
  | [] => some n
  | c :: l => if c.toNat < 48 ∨ 57 < c.toNat then none else acc neg (wrap (wrap (10 * n) + (if neg then -((c.toNat : Int) - 48) else (c.toNat : Int) - 48))) l
theorem acc_app (neg : Bool) : ∀ (l : List UInt8) (n v : Int) (c : UInt8), acc neg n l = some v → acc neg n (l ++ [c]) = acc neg v [c]
  | [], n, v, c, h => by simp only [acc] at h; cases h; rfl
  | b :: l, n, v, c, h => by
    rw [List.cons_append]
    unfold acc at h ⊢
    split
    · rename_i hb; rw [if_pos hb] at h; cases h
    · rename_i hb; rw [if_neg hb] at h; exact acc_app neg l _ v c h
theorem acc_dec (neg : Bool) (u : Nat) (hu : u ≤ 9223372036854775808) (hp : neg = false → u ≤ 9223372036854775807) : acc neg 0 (decDigits u) = some (if neg then -(u : Int) else u) := by
  induction u using Nat.strongRecOn with
  | _ u ih =>
    by_cases h : u < 10
    · rw [decDigits_small h]
      simp only [acc, dig_nat h]
      rw [if_neg (by omega)]
      congr 1
      have e1 : wrap (10 * 0) = 0 := by decide
      rw [e1]
      cases neg
      · simp only [Bool.false_eq_true, if_false]; rw [wrap_id (by unfold I64; omega)]; omega
      · simp only [if_true]; rw [wrap_id (by unfold I64; omega)]; omega
    · rw [decDigits_big h, acc_app neg _ _ _ _ (ih (u / 10) (by omega) (by omega) (fun e => by have := hp e; omega))]
      simp only [acc, dig_nat (show u % 10 < 10 by omega)]
      rw [if_neg (by omega)]
      congr 1
      cases neg
      · have := hp rfl
        simp only [Bool.false_eq_true, if_false]
        rw [wrap_id (n := 10 * ((u / 10 : Nat) : Int)) (by unfold I64; omega), wrap_id (by unfold I64; omega)]; omega
      · simp only [if_true]
        rw [wrap_id (n := 10 * -((u / 10 : Nat) : Int)) (by unfold I64; omega), wrap_id (by unfold I64; omega)]; omega
/-- The reference's reading. -/
def refRead (s : List UInt8) : Option Int :=
  if s.length < 1 ∨ 20 < s.length then none else
  match (match s with | [] => none | c :: r => if c.toNat = 45 then acc true 0 r else acc false 0 s) with
  | some n => if itoa n = s then some n else none
  | none => none
theorem acc_i64 (neg : Bool) : ∀ (l : List UInt8) (n v : Int), I64 n → acc neg n l = some v → I64 v
  | [], n, v, hn, h => by simp only [acc] at h; cases h; exact hn
  | c :: l, n, v, hn, h => by
    unfold acc at h
    split at h
    · cases h
    · exact acc_i64 neg l _ v (by unfold I64 wrap; omega) h
theorem refRead_eq (s : List UInt8) : refRead s = read s := by
  have h0 : I64 0 := by unfold I64; omega
  cases hr : read s with
  | some n =>
    obtain ⟨h1, h2⟩ := read_iff.1 hr
    have hl := itoa_len h1
    rw [h2] at hl
    unfold refRead
    rw [if_neg (by omega)]
    subst h2
    by_cases hn : n < 0
    · rw [itoa_neg hn]
      have hi : I64 n := h1
      unfold I64 at h1
      simp only [show (45 : UInt8).toNat = 45 from rfl, if_true]
      rw [acc_dec true n.natAbs (by omega) (fun e => by cases e)]
      simp only [if_true]
      rw [show -(n.natAbs : Int) = n by omega, ← itoa_neg hn, if_pos rfl]
    · rw [itoa_pos hn]
      unfold I64 at h1
      cases hd : decDigits n.toNat with
      | nil => exact absurd hd (decDigits_ne _)
      | cons c r =>
        have hc := dig_mem n.toNat c (by rw [hd]; simp)
        dsimp only
        rw [if_neg (by omega), ← hd]
        rw [acc_dec false n.toNat (by omega) (fun _ => by omega)]
        simp only [Bool.false_eq_true, if_false]
        rw [show ((n.toNat : Nat) : Int) = n by omega, itoa_pos hn, if_pos rfl]
  | none =>
    unfold refRead
    split
    · rfl
    · cases s with
      | nil => rfl
      | cons c r =>
        dsimp only
        have hno : ∀ n, I64 n → itoa n ≠ c :: r := fun n h1 h2 => by
          have := read_iff.2 ⟨h1, h2⟩
          rw [hr] at this; cases this
        split
        · rename_i n hn
          split at hn
          · rw [if_neg (hno n (acc_i64 _ _ _ _ h0 hn))]
          · rw [if_neg (hno n (acc_i64 _ _ _ _ h0 hn))]
        · rfl
/-- The parts between the bytes d. -/
def parts (d : UInt8) : List UInt8 → List (List UInt8)
  | [] => [[]]
  | c :: l => if c = d then [] :: parts d l else match parts d l with
    | p :: ps => (c :: p) :: ps
    | [] => [[c]]
theorem parts_ne (d : UInt8) : ∀ l, ∃ p ps, parts d l = p :: ps
  | [] => ⟨_, _, rfl⟩
  | c :: l => by
    obtain ⟨p, ps, h⟩ := parts_ne d l
    unfold parts
    rw [h]
    split
    · exact ⟨_, _, rfl⟩
    · exact ⟨_, _, rfl⟩
theorem parts_none (d : UInt8) : ∀ l, d ∉ l → parts d l = [l]
  | [], _ => rfl
  | c :: l, h => by
    simp only [List.mem_cons, not_or] at h
    unfold parts
    rw [if_neg (fun e => h.1 e.symm), parts_none d l h.2]
theorem parts_cut (d : UInt8) (r : List UInt8) : ∀ p, d ∉ p → parts d (p ++ d :: r) = p :: parts d r
  | [], _ => by simp [parts]
  | c :: p, h => by
    simp only [List.mem_cons, not_or] at h
    rw [List.cons_append, parts, if_neg (fun e => h.1 e.symm), parts_cut d r p h.2]
theorem splitK_parts (d : UInt8) : ∀ (s : List UInt8) (k : Nat), s.count d ≤ k → splitK [d] 0 k s = parts d s
  | [], k, _ => by
    cases k with
    | zero => rfl
    | succ k => unfold splitK; rw [index_one]; rfl
  | b :: l, k, hk => by
    cases k with
    | zero =>
      have : d ∉ b :: l := by rw [← List.count_eq_zero]; omega
      rw [parts_none d _ this]; rfl
    | succ k =>
      unfold splitK
      rw [index_one]
      unfold indexByte
      by_cases hb : b = d
      · subst hb
        simp only [BEq.rfl, if_true]
        rw [List.count_cons_self] at hk
        rw [if_neg (by decide)]
        have := splitK_parts b l k (by omega)
        simp only [Int.toNat_zero, Nat.add_zero, List.take_zero, List.length_cons, List.length_nil, Nat.zero_add, List.drop_one, List.tail_cons]
        rw [this, parts, if_pos rfl]
      · have hb' : (b == d) = false := by simpa using hb
        simp only [hb', Bool.false_eq_true, if_false]
        have hc : l.count d ≤ k + 1 := by rw [List.count_cons_of_ne hb] at hk; exact hk
        have ih := splitK_parts d l (k + 1) hc
        unfold splitK at ih
        rw [index_one] at ih
        have hge := indexByte_ge l d
        by_cases hi : indexByte l d = -1
        · rw [hi] at ih ⊢
          simp only [BEq.rfl, if_true] at ih ⊢
          unfold parts
          rw [if_neg hb, ← ih]
        · have hi' : (indexByte l d == -1) = false := by simpa using hi
          simp only [hi', Bool.false_eq_true, if_false] at ih ⊢
          rw [if_neg (by simp; omega)]
          unfold parts
          rw [if_neg hb, ← ih]
          have e : (indexByte l d + 1).toNat = (indexByte l d).toNat + 1 := by omega
          rw [e]
          simp
theorem split_parts (d : UInt8) (s : List UInt8) : split s [d] = parts d s := by
  unfold split
  rw [count_one]
  exact splitK_parts d s _ (Nat.le_refl _)
theorem join_cons2 (x y sep : List UInt8) (r : List (List UInt8)) : join (x :: y :: r) sep = x ++ sep ++ join (y :: r) sep := by
  rw [join_cons, join_cons]
  simp [joinTail]
theorem join_parts (d : UInt8) : ∀ s, join (parts d s) [d] = s
  | [] => by simp [parts, join_one]
  | c :: l => by
    have ih := join_parts d l
    obtain ⟨p, ps, h⟩ := parts_ne d l
    unfold parts
    split
    · rename_i hc; subst hc
      rw [h] at ih ⊢
      rw [join_cons2, ih]; simp
    · rw [h] at ih ⊢
      simp only
      cases ps with
      | nil => rw [join_one] at ih ⊢; rw [ih]
      | cons q r => rw [join_cons2] at ih ⊢; rw [← ih]; simp
def isW (c : UInt8) : Bool := decide (33 ≤ c.toNat) && decide (c.toNat ≤ 126)
/-- Is a text a word? -/
def word (s : List UInt8) : Bool := !s.isEmpty && s.all isW
/-- A text's words. -/
def words (s : List UInt8) : Option (List (List UInt8)) := if s = [] then some [] else if (parts 32 s).all word then some (parts 32 s) else none
theorem words_join {s : List UInt8} {l : List (List UInt8)} (h : words s = some l) : join l [32] = s := by
  unfold words at h
  split at h
  · rename_i h0; cases h; rw [h0]; rfl
  · split at h
    · cases h; exact join_parts 32 s
    · cases h
/-- The reference's loop: 'from' is where the part under way begins. -/
structure WInv (s : List UInt8) (i from_ : Nat) (out : List (List UInt8)) : Prop where
  le : from_ ≤ i
  hi : i ≤ s.length
  no : (32 : UInt8) ∉ (s.drop from_).take (i - from_)
  eq : parts 32 s = out ++ parts 32 (s.drop from_)
  wd : out.all word = true
theorem WInv.start (s : List UInt8) : WInv s 0 0 [] := ⟨by omega, by omega, by simp, by simp, rfl⟩
theorem WInv.next {s : List UInt8} {i f : Nat} {out : List (List UInt8)} (h : WInv s i f out) (hi : i < s.length) (hn : s[i] ≠ 32) : WInv s (i + 1) f out := by
  refine ⟨by have := h.le; omega, by omega, ?_, h.eq, h.wd⟩
  have hle := h.le
  have e : i + 1 - f = (i - f) + 1 := by omega
  rw [e, List.take_add_one, List.mem_append, not_or]
  refine ⟨h.no, ?_⟩
  rw [List.getElem?_drop, show f + (i - f) = i by omega, List.getElem?_eq_getElem hi]
  simpa using Ne.symm hn
theorem WInv.cut {s : List UInt8} {i f : Nat} {out : List (List UInt8)} (h : WInv s i f out) (hi : i < s.length) (hn : s[i] = 32) : parts 32 s = out ++ (s.drop f).take (i - f) :: parts 32 (s.drop (i + 1)) := by
  have hle := h.le
  rw [h.eq]
  congr 1
  have e1 : s.drop f = (s.drop f).take (i - f) ++ 32 :: s.drop (i + 1) := by
    conv => lhs; rw [← List.take_append_drop (i - f) (s.drop f)]
    rw [List.drop_drop, show f + (i - f) = i by omega, List.drop_eq_getElem_cons hi, hn]
  conv => lhs; rw [e1]
  exact parts_cut 32 _ _ h.no
theorem WInv.word {s : List UInt8} {i f : Nat} {out : List (List UInt8)} (h : WInv s i f out) (hi : i < s.length) (hn : s[i] = 32) (hw : Dg.word ((s.drop f).take (i - f)) = true) : WInv s (i + 1) (i + 1) (out ++ [(s.drop f).take (i - f)]) :=
  ⟨by omega, by omega, by simp, by rw [h.cut hi hn]; simp, by rw [List.all_append, h.wd]; simp [hw]⟩
theorem WInv.bad {s : List UInt8} {i f : Nat} {out : List (List UInt8)} (h : WInv s i f out) (hi : i < s.length) (hn : s[i] = 32) (hw : Dg.word ((s.drop f).take (i - f)) = false) : words s = none := by
  unfold words
  rw [if_neg (by intro e; subst e; simp at hi), h.cut hi hn, if_neg]
  simp [hw]
theorem WInv.last {s : List UInt8} {f : Nat} {out : List (List UInt8)} (h : WInv s s.length f out) : parts 32 s = out ++ [(s.drop f).take (s.length - f)] := by
  rw [h.eq, parts_none]
  · rw [List.take_of_length_le (by simp)]
  · have := h.no
    rwa [List.take_of_length_le (by simp)] at this
theorem WInv.end_ {s : List UInt8} {f : Nat} {out : List (List UInt8)} (h : WInv s s.length f out) (h0 : s ≠ []) : words s = if Dg.word ((s.drop f).take (s.length - f)) = true then some (out ++ [(s.drop f).take (s.length - f)]) else none := by
  unfold words
  rw [if_neg h0, h.last, List.all_append, h.wd]
  simp
end Dg
end Go.Proofs.YtoafajooffhimaaDoor
