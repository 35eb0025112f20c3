/- Texts in quotes, in plain Lean: a byte's part, the text, how it is read back. -/
import Derived.Test.YtpkohkkkbnfigaaDoorStrT
import Derived.Lib.Bytealg
namespace Go.Proofs.YtpkohkkkbnfigaaDoor
open Go Go.RowKit

def hexL : List UInt8 := [48, 49, 50, 51, 52, 53, 54, 55, 56, 57, 97, 98, 99, 100, 101, 102]
def hexd (n : Nat) : UInt8 := hexL.getD n 0
def one (c : UInt8) : List UInt8 := if c = 34 ∨ c = 92 then [92, c] else if 32 ≤ c ∧ c ≤ 126 then [c] else [92, 120, hexd (c.toNat / 16), hexd (c.toNat % 16)]
def quoted (l : List UInt8) : List UInt8 := 34 :: (l.flatMap one ++ [34])
def idx (a : UInt8) : Int := Lib.indexByte hexL a
def hexp : List UInt8 → Option UInt8
  | a :: b :: _ => if idx a < 0 ∨ idx b < 0 ∨ (32 ≤ 16 * idx a + idx b ∧ 16 * idx a + idx b ≤ 126) then none else some (UInt8.ofNat (16 * idx a + idx b).toNat)
  | _ => none
theorem hexp2 (a b : UInt8) (t : List UInt8) : hexp (a :: b :: t) = if idx a < 0 ∨ idx b < 0 ∨ (32 ≤ 16 * idx a + idx b ∧ 16 * idx a + idx b ≤ 126) then none else some (UInt8.ofNat (16 * idx a + idx b).toNat) := rfl
/-- The byte whose part stands at the head, and how long that is. -/
def dec : List UInt8 → Option (UInt8 × Nat)
  | [] => none
  | c :: t => if c = 34 then none else if c = 92 then (match t with
      | [] => none
      | d :: t' => if d = 34 ∨ d = 92 then some (d, 2) else if d = 120 then (hexp t').map (·, 4) else none)
    else if 32 ≤ c ∧ c ≤ 126 then some (c, 1) else none

theorem u8_all {p : UInt8 → Prop} (h : ∀ n : Fin 256, p (UInt8.ofNat n)) (a : UInt8) : p a := by
  have := h ⟨a.toNat, a.toNat_lt⟩
  simpa using this
theorem idx_hexd : ∀ n : Fin 16, idx (hexd n) = ((n : Nat) : Int) := by decide +kernel
theorem idx_back (a : UInt8) : idx a < 0 ∨ (0 ≤ idx a ∧ idx a < 16 ∧ a = hexd (idx a).toNat) := by
  refine u8_all (p := fun a => idx a < 0 ∨ (0 ≤ idx a ∧ idx a < 16 ∧ a = hexd (idx a).toNat)) ?_ a
  decide +kernel
theorem idx_at (m : Nat) (h : m < 16) : idx (hexd m) = (m : Int) := idx_hexd ⟨m, h⟩

theorem le_nat {a b : UInt8} : a ≤ b ↔ a.toNat ≤ b.toNat := UInt8.le_iff_toNat_le
theorem eq_nat {a b : UInt8} : a = b ↔ a.toNat = b.toNat := ⟨fun h => by rw [h], fun h => UInt8.toNat.inj h⟩

theorem one_pos (c : UInt8) : 0 < (one c).length := by
  unfold one
  split
  · simp
  · split <;> simp
theorem dec_one {c : UInt8} {r : List UInt8} (h : one c <+: r) : dec r = some (c, (one c).length) := by
  obtain ⟨t, rfl⟩ := h
  unfold one
  by_cases h1 : c = 34 ∨ c = 92
  · rw [if_pos h1]
    simp [dec, h1]
  · rw [if_neg h1]
    by_cases h2 : 32 ≤ c ∧ c ≤ 126
    · rw [if_pos h2]
      have h3 : ¬ c = 34 := fun e => h1 (.inl e)
      have h4 : ¬ c = 92 := fun e => h1 (.inr e)
      simp [dec, h3, h4, h2]
    · rw [if_neg h2]
      have hc := c.toNat_lt
      have e1 := idx_at (c.toNat / 16) (by omega)
      have e2 := idx_at (c.toNat % 16) (by omega)
      have hr : ¬ (32 ≤ c.toNat ∧ c.toNat ≤ 126) := fun h => h2 ⟨le_nat.2 h.1, le_nat.2 h.2⟩
      have e3 : 16 * (((c.toNat / 16 : Nat)) : Int) + ((c.toNat % 16 : Nat) : Int) = (c.toNat : Int) := by omega
      have hp : hexp (hexd (c.toNat / 16) :: hexd (c.toNat % 16) :: t) = some c := by
        rw [hexp2, e1, e2, e3, if_neg (by omega)]
        simp
      simp [dec, hp]
theorem hexp_some {c : UInt8} {r : List UInt8} (h : hexp r = some c) : ∃ t, [92, 120] ++ r = one c ++ t ∧ (one c).length = 4 := by
  match r, h with
  | x :: y :: t3, h =>
    rw [hexp2] at h
    by_cases hb : idx x < 0 ∨ idx y < 0 ∨ (32 ≤ 16 * idx x + idx y ∧ 16 * idx x + idx y ≤ 126)
    · rw [if_pos hb] at h; cases h
    · rw [if_neg hb] at h
      simp only [Option.some.injEq] at h
      subst h
      rcases idx_back x with bx | ⟨x0, x1, x2⟩
      · exact absurd (.inl bx) hb
      · rcases idx_back y with by_ | ⟨y0, y1, y2⟩
        · exact absurd (.inr (.inl by_)) hb
        · generalize hX : idx x = X at *
          generalize hY : idx y = Y at *
          have hv : (UInt8.ofNat (16 * X + Y).toNat).toNat = (16 * X + Y).toNat := by
            rw [UInt8.toNat_ofNat']
            exact Nat.mod_eq_of_lt (by omega)
          have hno : ¬ (32 ≤ (UInt8.ofNat (16 * X + Y).toNat) ∧ (UInt8.ofNat (16 * X + Y).toNat) ≤ 126) := fun hh => by
            have h5 := le_nat.1 hh.1
            have h6 := le_nat.1 hh.2
            rw [hv] at h5 h6
            have : (32 : UInt8).toNat = 32 := rfl
            have : (126 : UInt8).toNat = 126 := rfl
            omega
          have hn2 : ¬ ((UInt8.ofNat (16 * X + Y).toNat) = 34 ∨ (UInt8.ofNat (16 * X + Y).toNat) = 92) := fun hh => by
            rcases hh with hh | hh
            · have h5 := eq_nat.1 hh
              rw [hv] at h5
              have : (34 : UInt8).toNat = 34 := rfl
              omega
            · have h5 := eq_nat.1 hh
              rw [hv] at h5
              have : (92 : UInt8).toNat = 92 := rfl
              omega
          have ho : one (UInt8.ofNat (16 * X + Y).toNat) = [92, 120, x, y] := by
            unfold one
            rw [if_neg hn2, if_neg hno, hv]
            have d1 : (16 * X + Y).toNat / 16 = X.toNat := by omega
            have d2 : (16 * X + Y).toNat % 16 = Y.toNat := by omega
            rw [d1, d2, ← x2, ← y2]
          rw [ho]
          exact ⟨t3, rfl, rfl⟩
theorem dec_some {c : UInt8} {n : Nat} {r : List UInt8} (h : dec r = some (c, n)) : one c <+: r ∧ n = (one c).length ∧ r.head? ≠ some 34 := by
  cases r with
  | nil => simp [dec] at h
  | cons a t =>
    have h0 := h
    simp only [dec] at h
    split at h
    · cases h
    · rename_i ha
      have hh : (a :: t).head? ≠ some 34 := by simpa using ha
      split at h
      · rename_i ha2
        subst ha2
        cases t with
        | nil => cases h
        | cons d t' =>
          dsimp only at h
          split at h
          · rename_i hd
            cases h
            refine ⟨?_, ?_, hh⟩
            · unfold one; rw [if_pos hd]; exact ⟨t', rfl⟩
            · unfold one; rw [if_pos hd]; rfl
          · split at h
            · rename_i hd
              subst hd
              cases hx : hexp t' with
              | none => rw [hx] at h; cases h
              | some c' =>
                rw [hx] at h
                cases h
                obtain ⟨t2, e1, e2⟩ := hexp_some hx
                exact ⟨⟨t2, e1.symm⟩, e2.symm, hh⟩
            · cases h
      · rename_i ha2
        split at h
        · rename_i ha3
          cases h
          have : one c = [c] := by unfold one; rw [if_neg (by simp [ha, ha2]), if_pos ha3]
          rw [this]
          exact ⟨⟨t, rfl⟩, rfl, hh⟩
        · cases h

def rdF : Nat → List UInt8 → Option (List UInt8 × Nat)
  | 0, _ => none
  | f + 1, r => if r = [] then none else if r.head? = some 34 then some ([], 1) else match dec r with
    | none => none
    | some (x, n) => (rdF f (r.drop n)).map fun p => (x :: p.1, n + p.2)
theorem rdF_fuel : ∀ (f f' : Nat) (r : List UInt8), r.length < f → r.length < f' → rdF f r = rdF f' r
  | 0, _, _, h, _ => by omega
  | _, 0, _, _, h => by omega
  | f + 1, f' + 1, r, h, h' => by
    unfold rdF
    split
    · rfl
    · split
      · rfl
      · cases hd : dec r with
        | none => rfl
        | some p =>
          obtain ⟨x, n⟩ := p
          obtain ⟨h1, h2, _⟩ := dec_some hd
          have h3 := one_pos x
          have h4 := h1.length_le
          dsimp only
          rw [rdF_fuel f f' (r.drop n) (by rw [List.length_drop]; omega) (by rw [List.length_drop]; omega)]
/-- What is read behind an opening quote: the text, and how many bytes, with the closing quote. -/
def rd (r : List UInt8) : Option (List UInt8 × Nat) := rdF (r.length + 1) r
theorem rd_nil : rd [] = none := rfl
theorem rd_end {r : List UInt8} (h : r.head? = some 34) : rd r = some ([], 1) := by
  unfold rd rdF
  rw [if_neg (by intro e; subst e; cases h), if_pos h]
theorem rd_none {r : List UInt8} (h : r.head? ≠ some 34) (hd : dec r = none) : rd r = none := by
  by_cases hr : r = []
  · subst hr; rfl
  · unfold rd rdF
    rw [if_neg hr, if_neg h, hd]
theorem rd_some {r : List UInt8} {x : UInt8} {n : Nat} (hd : dec r = some (x, n)) : rd r = (rd (r.drop n)).map fun p => (x :: p.1, n + p.2) := by
  obtain ⟨h1, h2, h3⟩ := dec_some hd
  have h4 := one_pos x
  have h5 := h1.length_le
  have : r ≠ [] := fun e => by subst e; simp [dec] at hd
  rw [show rd r = rdF (r.length + 1) r from rfl]
  unfold rdF
  rw [if_neg this, if_neg h3, hd]
  dsimp only
  rw [show rd (r.drop n) = rdF ((r.drop n).length + 1) (r.drop n) from rfl, rdF_fuel r.length ((r.drop n).length + 1) _ (by rw [List.length_drop]; omega) (by omega)]

/-- What is told is read, whatever stands behind it. -/
theorem rd_told (l rest : List UInt8) : rd (l.flatMap one ++ 34 :: rest) = some (l, (l.flatMap one).length + 1) := by
  induction l with
  | nil => exact rd_end rfl
  | cons c l ih =>
    have hd := dec_one (c := c) (r := (c :: l).flatMap one ++ 34 :: rest) ⟨l.flatMap one ++ 34 :: rest, by simp⟩
    rw [rd_some hd]
    have : ((c :: l).flatMap one ++ 34 :: rest).drop (one c).length = l.flatMap one ++ 34 :: rest := by simp
    rw [this, ih]
    simp
    omega
/-- What is read is told so. -/
theorem rd_back : ∀ (n : Nat) (r : List UInt8) (o : List UInt8) (e : Nat), r.length ≤ n → rd r = some (o, e) → o.flatMap one ++ [34] = r.take e ∧ 1 ≤ e ∧ e ≤ r.length ∧ o.length ≤ e
  | n, r, o, e, hn, h => by
    by_cases hh : r.head? = some 34
    · rw [rd_end hh] at h
      cases h
      cases r with
      | nil => cases hh
      | cons a t => simp at hh; subst hh; simp
    · cases hd : dec r with
      | none => rw [rd_none hh hd] at h; cases h
      | some p =>
        obtain ⟨x, k⟩ := p
        rw [rd_some hd] at h
        obtain ⟨h1, h2, _⟩ := dec_some hd
        have h4 := one_pos x
        have h5 := h1.length_le
        cases hr : rd (r.drop k) with
        | none => rw [hr] at h; cases h
        | some q =>
          obtain ⟨o', e'⟩ := q
          rw [hr] at h
          cases h
          cases n with
          | zero => have : r.length = 0 := by omega
                    omega
          | succ n =>
            have ih := rd_back n (r.drop k) o' e' (by rw [List.length_drop]; omega) hr
            obtain ⟨i1, i2, i3, i4⟩ := ih
            rw [List.length_drop] at i3
            refine ⟨?_, by omega, by omega, by simp; omega⟩
            rw [List.flatMap_cons, List.append_assoc, i1]
            obtain ⟨t, ht⟩ := h1
            subst h2
            rw [← ht]
            rw [List.drop_left, List.take_append, List.take_of_length_le (l := one x) (by omega), Nat.add_sub_cancel_left]

/-- What stands at a place, read: the text and the place behind it. -/
def readAt (l : List UInt8) (at_ : Int) : Option (List UInt8 × Nat) := if 0 ≤ at_ ∧ at_ < l.length ∧ l[at_.toNat]? = some 34 then (rd (l.drop (at_.toNat + 1))).map fun p => (p.1, at_.toNat + 1 + p.2) else none
/-- Reading under way: at k, with the text out so far, it comes to res. -/
def Cont (l : List UInt8) (res : Option (List UInt8 × Nat)) (k : Nat) (out : List UInt8) : Prop := (rd (l.drop k)).map (fun p => (out ++ p.1, k + p.2)) = res
theorem Cont.over {l : List UInt8} {res : Option (List UInt8 × Nat)} {k : Nat} {out : List UInt8} (h : Cont l res k out) (hk : l.length ≤ k) : res = none := by
  unfold Cont at h
  rw [List.drop_eq_nil_of_le hk, rd_nil] at h
  exact h.symm
theorem Cont.done {l : List UInt8} {res : Option (List UInt8 × Nat)} {k : Nat} {out : List UInt8} (h : Cont l res k out) (hk : k < l.length) (hq : l[k] = 34) : res = some (out, k + 1) := by
  unfold Cont at h
  rw [rd_end (by rw [List.head?_drop, List.getElem?_eq_getElem hk, hq])] at h
  simpa using h.symm
theorem Cont.no {l : List UInt8} {res : Option (List UInt8 × Nat)} {k : Nat} {out : List UInt8} (h : Cont l res k out) (hk : k < l.length) (hq : l[k] ≠ 34) (hd : dec (l.drop k) = none) : res = none := by
  unfold Cont at h
  rw [rd_none (by rw [List.head?_drop, List.getElem?_eq_getElem hk]; simpa using hq) hd] at h
  exact h.symm
theorem Cont.next {l : List UInt8} {res : Option (List UInt8 × Nat)} {k : Nat} {out : List UInt8} {x : UInt8} {n : Nat} (h : Cont l res k out) (hd : dec (l.drop k) = some (x, n)) : Cont l res (k + n) (out ++ [x]) ∧ k + n ≤ l.length ∧ 0 < n := by
  obtain ⟨h1, h2, _⟩ := dec_some hd
  have h4 := one_pos x
  have h5 := h1.length_le
  rw [List.length_drop] at h5
  refine ⟨?_, by omega, by omega⟩
  unfold Cont at h ⊢
  rw [rd_some hd, List.drop_drop] at h
  rw [← h, Option.map_map]
  congr 1
  funext p
  simp [Function.comp]
  omega
end Go.Proofs.YtpkohkkkbnfigaaDoor
