/- Replies and operations as lines of text: plain laws. -/
import Derived.Test.YtpkohkkkbnfigaaDoorDgPl
import Derived.Test.YtpkohkkkbnfigaaDoorQuoteZ
namespace Go.Proofs.YtpkohkkkbnfigaaDoor
set_option linter.unusedVariables false
set_option linter.unusedSimpArgs false
set_option maxRecDepth 100000
theorem quoted_whole {s t : List UInt8} (h : wholeOf s = some t) : quoted t = s := by
  unfold wholeOf at h
  cases hr : readAt s 0 with
  | none => rw [hr] at h; cases h
  | some p =>
    rw [hr, Option.bind_some] at h
    split at h
    · rename_i hl
      cases h
      have := (readAt_back (o := p.1) (m := p.2) hr).2.2.1
      rw [this, hl, List.take_length]
    · cases h
theorem quoted_ne (t : List UInt8) : quoted t ≠ [] := by unfold quoted; simp
namespace Dg
open Go.Lib
theorem itoa_mem {n : Int} {c : UInt8} (h : c ∈ itoa n) : c.toNat = 45 ∨ (48 ≤ c.toNat ∧ c.toNat ≤ 57) := by
  unfold itoa at h
  split at h
  · rcases List.mem_cons.1 h with rfl | h
    · exact .inl rfl
    · exact .inr (dig_mem _ c h)
  · exact .inr (dig_mem _ c h)
theorem itoa_no {n : Int} {c : UInt8} (h : c.toNat < 45 ∨ c.toNat = 46 ∨ c.toNat = 47 ∨ 57 < c.toNat) : c ∉ itoa n := fun hc => by
  have := itoa_mem hc; omega
theorem itoa_ne (n : Int) : itoa n ≠ [] := by
  unfold itoa
  split
  · simp
  · exact decDigits_ne _
theorem itoa_dash (n : Int) : itoa n ≠ [45] := by
  unfold itoa
  split
  · intro h; simp at h; exact decDigits_ne _ h
  · intro h
    have := dig_mem n.toNat 45 (by rw [h]; simp)
    simp at this
/-- Up to the first byte d, and what is behind it. -/
def cutAt (d : UInt8) : List UInt8 → Option (List UInt8 × List UInt8)
  | [] => none
  | c :: l => if c = d then some ([], l) else (cutAt d l).map fun p => (c :: p.1, p.2)
theorem cutAt_app {d : UInt8} {r : List UInt8} : ∀ {a : List UInt8}, d ∉ a → cutAt d (a ++ d :: r) = some (a, r)
  | [], _ => by simp [cutAt]
  | c :: a, h => by
    simp only [List.mem_cons, not_or] at h
    rw [List.cons_append, cutAt, if_neg (fun e => h.1 e.symm), cutAt_app h.2]; rfl
theorem cutAt_some {d : UInt8} : ∀ {s a r : List UInt8}, cutAt d s = some (a, r) → s = a ++ d :: r ∧ d ∉ a
  | [], a, r, h => by simp [cutAt] at h
  | c :: l, a, r, h => by
    rw [cutAt] at h
    split at h
    · rename_i hc; cases h; subst hc; simp
    · rename_i hc
      cases h1 : cutAt d l with
      | none => rw [h1] at h; cases h
      | some p =>
        rw [h1] at h; cases h
        obtain ⟨e1, e2⟩ := cutAt_some (a := p.1) (r := p.2) h1
        exact ⟨by rw [List.cons_append, ← e1], by simp only [List.mem_cons, not_or]; exact ⟨fun e => hc e.symm, e2⟩⟩
theorem cutAt_none {d : UInt8} : ∀ {s : List UInt8}, cutAt d s = none → d ∉ s
  | [], _ => by simp
  | c :: l, h => by
    rw [cutAt] at h
    split at h
    · cases h
    · rename_i hc
      simp only [Option.map_eq_none_iff] at h
      simp only [List.mem_cons, not_or]
      exact ⟨fun e => hc e.symm, cutAt_none h⟩
theorem indexByte_cut (d : UInt8) : ∀ s : List UInt8, (cutAt d s = none ∧ indexByte s d = -1) ∨ ∃ a r, cutAt d s = some (a, r) ∧ indexByte s d = a.length
  | [] => .inl ⟨rfl, rfl⟩
  | c :: l => by
    rw [cutAt, indexByte]
    by_cases hc : c = d
    · subst hc; exact .inr ⟨[], l, by simp, by simp⟩
    · have hb : (c == d) = false := by simpa using hc
      simp only [hb, Bool.false_eq_true, if_false, if_neg hc]
      rcases indexByte_cut d l with ⟨h1, h2⟩ | ⟨a, r, h1, h2⟩
      · left; rw [h1, h2]; simp
      · right; refine ⟨c :: a, r, by rw [h1]; rfl, ?_⟩
        rw [h2, if_neg (by simp)]; simp
theorem splitK_cut (d : UInt8) (k : Nat) (s : List UInt8) : splitK [d] 0 (k + 1) s = match cutAt d s with
    | none => [s]
    | some (a, r) => a :: splitK [d] 0 k r := by
  unfold splitK
  rw [index_one]
  rcases indexByte_cut d s with ⟨h1, h2⟩ | ⟨a, r, h1, h2⟩
  · rw [h1, h2]; simp
  · rw [h1, h2]
    have hs := (cutAt_some h1).1
    rw [if_neg (by simp)]
    simp only [Nat.add_zero, Int.toNat_natCast, List.length_cons, List.length_nil, Nat.zero_add]
    congr 1
    · rw [hs]; simp
    · have e : List.drop (a.length + 1) s = r := by
        conv => lhs; rw [hs]
        rw [show a ++ d :: r = (a ++ [d]) ++ r by simp, List.drop_append_of_le_length (by simp), List.drop_of_length_le (by simp)]; rfl
      rw [e]
      cases k <;> rfl
theorem splitK_more (d : UInt8) (s : List UInt8) (k : Nat) (h : s.count d ≤ k) : splitK [d] 0 k s = parts d s := splitK_parts d s k h
theorem splitN_cut (d : UInt8) (s : List UInt8) (n : Nat) (hn : 1 ≤ n) : splitN s [d] n = splitK [d] 0 (n - 1) s := by
  unfold splitN
  rcases Nat.lt_or_ge s.length (n - 1) with h | h
  · have hc : s.count d ≤ s.length := List.count_le_length
    rw [show min n (s.length + 1) - 1 = s.length by omega, splitK_parts d s _ hc, splitK_parts d s _ (by omega)]
  · rw [show min n (s.length + 1) - 1 = n - 1 by omega]
end Dg
namespace Rp
open Dg Go.Lib
def wordL : List (List UInt8) := [[111, 107], [107, 105, 110, 100], [97, 114, 103], [99, 108, 105, 101, 110, 116], [115, 116, 97, 108, 101], [115, 105, 122, 101], [111, 118, 101, 114], [99, 108, 97, 105, 109], [119, 97, 105, 116], [100, 114, 121], [102, 117, 108, 108], [98, 117, 115, 121], [116, 105, 99, 107, 101, 116], [100, 111, 110, 101], [114, 101, 103, 105, 111, 110], [114, 97, 110, 103, 101], [110, 105, 108], [102, 111, 114, 109], [112, 104, 97, 115, 101], [116, 119, 105, 99, 101], [110, 111, 110, 101]]
/-- The first place of a text. -/
def place (s : List UInt8) : List (List UInt8) → Option Nat
  | [] => none
  | x :: l => if x = s then some 0 else (place s l).map (· + 1)
def wordOf (e : Int) : List UInt8 := if 0 ≤ e ∧ e < 21 then wordL.getD e.toNat [] else []
theorem words_ok : ∀ k : Fin 21, place (wordL.getD k []) wordL = some k ∧ wordL.getD k [] ≠ [] ∧ (32 : UInt8) ∉ wordL.getD k [] := by decide +kernel
theorem place_some {s : List UInt8} : ∀ {l : List (List UInt8)} {k : Nat}, place s l = some k → k < l.length ∧ l.getD k [] = s
  | [], k, h => by simp [place] at h
  | x :: l, k, h => by
    rw [place] at h
    split at h
    · rename_i hx; cases h; simpa using hx
    · cases h1 : place s l with
      | none => rw [h1] at h; cases h
      | some j =>
        rw [h1] at h; cases h
        obtain ⟨a, b⟩ := place_some h1
        exact ⟨by simp; omega, by simpa using b⟩
def find (s : List UInt8) : Option Nat := place s wordL
theorem wordOf_ne {e : Int} (h : wordOf e ≠ []) : 0 ≤ e ∧ e < 21 := by
  unfold wordOf at h
  split at h
  · assumption
  · exact absurd rfl h
theorem find_word {e : Int} (h : wordOf e ≠ []) : find (wordOf e) = some e.toNat ∧ (32 : UInt8) ∉ wordOf e := by
  have h2 := wordOf_ne h
  unfold wordOf
  rw [if_pos h2]
  have := words_ok ⟨e.toNat, by omega⟩
  exact ⟨this.1, this.2.2⟩
theorem word_find {s : List UInt8} {k : Nat} (h : find s = some k) : wordOf (k : Int) = s ∧ k < 21 ∧ s ≠ [] := by
  obtain ⟨h1, h2⟩ := place_some h
  have h1 : k < 21 := h1
  unfold wordOf
  rw [if_pos (by omega)]
  refine ⟨h2, h1, ?_⟩
  have := (words_ok ⟨k, h1⟩).2.1
  rw [← h2]; exact this
structure ReplyM where
  code : Int
  num : Int
  list : List Int
  text : List UInt8
def Ok (r : ReplyM) : Prop := I64 r.num ∧ ∀ x ∈ r.list, I64 x
def listT (l : List Int) : List UInt8 := if l = [] then [45] else join (l.map itoa) [44]
def text (r : ReplyM) : Option (List UInt8) := if wordOf r.code = [] then none else some (wordOf r.code ++ 32 :: (itoa r.num ++ 32 :: (listT r.list ++ 32 :: quoted r.text)))
def readAll : List (List UInt8) → Option (List Int)
  | [] => some []
  | x :: l => match read x, readAll l with
    | some n, some ns => some (n :: ns)
    | _, _ => none
def readL (s : List UInt8) : Option (List Int) := if s = [45] then some [] else readAll (parts 44 s)
def cut4 (s : List UInt8) : Option (List UInt8 × List UInt8 × List UInt8 × List UInt8) :=
  match cutAt 32 s with
  | none => none
  | some (a, r) => match cutAt 32 r with
    | none => none
    | some (b, r) => match cutAt 32 r with
      | none => none
      | some (c, d) => some (a, b, c, d)
def rd4 (p : List UInt8 × List UInt8 × List UInt8 × List UInt8) : Option ReplyM :=
  match find p.1, read p.2.1, readL p.2.2.1, wholeOf p.2.2.2 with
    | some e, some n, some l, some t => some ⟨e, n, l, t⟩
    | _, _, _, _ => none
def rd (s : List UInt8) : Option ReplyM := (cut4 s).bind rd4
theorem join_cons_ne {x sep : List UInt8} {r : List (List UInt8)} (h : r ≠ []) : join (x :: r) sep = x ++ sep ++ join r sep := by
  cases r with
  | nil => exact absurd rfl h
  | cons y r => exact join_cons2 x y sep r
theorem parts_join (d : UInt8) : ∀ {l : List (List UInt8)}, l ≠ [] → (∀ x ∈ l, d ∉ x) → parts d (join l [d]) = l
  | [], h, _ => absurd rfl h
  | [x], _, h => by rw [join_one]; exact parts_none d x (h x (by simp))
  | x :: y :: r, _, h => by
    rw [join_cons2]
    rw [show x ++ [d] ++ join (y :: r) [d] = x ++ d :: join (y :: r) [d] by simp, parts_cut d _ x (h x (by simp)), parts_join d (by simp) (fun z hz => h z (by simp [hz]))]
theorem mem_join {c : UInt8} {sep : List UInt8} : ∀ {l : List (List UInt8)}, c ∈ join l sep → c ∈ sep ∨ ∃ x ∈ l, c ∈ x
  | [], h => by simp [join_nil] at h
  | [x], h => by rw [join_one] at h; exact .inr ⟨x, by simp, h⟩
  | x :: y :: r, h => by
    rw [join_cons2] at h
    simp only [List.mem_append] at h
    rcases h with (h | h) | h
    · exact .inr ⟨x, by simp, h⟩
    · exact .inl h
    · rcases mem_join h with h | ⟨z, hz, hc⟩
      · exact .inl h
      · exact .inr ⟨z, by simp [hz], hc⟩
theorem listT_no {l : List Int} : (32 : UInt8) ∉ listT l := by
  unfold listT
  split
  · simp
  · intro h
    rcases mem_join h with h | ⟨x, hx, h⟩
    · simp at h
    · obtain ⟨n, _, rfl⟩ := List.mem_map.1 hx
      exact itoa_no (by left; decide) h
theorem readAll_itoa : ∀ {l : List Int}, (∀ x ∈ l, I64 x) → readAll (l.map itoa) = some l
  | [], _ => rfl
  | x :: l, h => by
    rw [List.map_cons, readAll, read_itoa (h x (by simp)), readAll_itoa (fun y hy => h y (by simp [hy]))]
theorem readAll_some : ∀ {s : List (List UInt8)} {l : List Int}, readAll s = some l → s = l.map itoa ∧ ∀ x ∈ l, I64 x
  | [], l, h => by rw [readAll] at h; cases h; simp
  | x :: s, l, h => by
    rw [readAll] at h
    split at h
    · rename_i n ns h1 h2
      cases h
      obtain ⟨a, b⟩ := read_iff.1 h1
      obtain ⟨c, d⟩ := readAll_some h2
      exact ⟨by rw [List.map_cons, b, ← c], by intro y hy; rcases List.mem_cons.1 hy with rfl | hy; exact a; exact d y hy⟩
    · cases h
theorem listT_dash {l : List Int} (h : l ≠ []) : listT l ≠ [45] := by
  unfold listT
  rw [if_neg h]
  cases l with
  | nil => exact absurd rfl h
  | cons x l =>
    cases l with
    | nil => rw [List.map_cons, List.map_nil, join_one]; exact itoa_dash x
    | cons y l =>
      rw [List.map_cons, List.map_cons, join_cons2]
      intro e
      have := congrArg List.length e
      have h1 : 1 ≤ (itoa x).length := by have := itoa_ne x; cases h : itoa x with | nil => exact absurd h this | cons => simp
      simp at this
      omega
theorem readL_listT {l : List Int} (h : ∀ x ∈ l, I64 x) : readL (listT l) = some l := by
  by_cases h0 : l = []
  · subst h0; rfl
  · unfold readL
    rw [if_neg (listT_dash h0)]
    unfold listT
    rw [if_neg h0, parts_join 44 (by simpa using h0)]
    · exact readAll_itoa h
    · intro x hx
      obtain ⟨n, _, rfl⟩ := List.mem_map.1 hx
      exact itoa_no (by left; decide)
theorem listT_readL {s : List UInt8} {l : List Int} (h : readL s = some l) : listT l = s ∧ ∀ x ∈ l, I64 x := by
  unfold readL at h
  split at h
  · rename_i hs; cases h; subst hs; exact ⟨rfl, by simp⟩
  · obtain ⟨h1, h2⟩ := readAll_some h
    refine ⟨?_, h2⟩
    unfold listT
    have hne : l ≠ [] := by
      rintro rfl
      obtain ⟨p, ps, hp⟩ := parts_ne 44 s
      rw [hp] at h1; simp at h1
    rw [if_neg hne, ← h1, join_parts]
theorem cut4_text {a b c d : List UInt8} (ha : (32 : UInt8) ∉ a) (hb : (32 : UInt8) ∉ b) (hc : (32 : UInt8) ∉ c) : cut4 (a ++ 32 :: (b ++ 32 :: (c ++ 32 :: d))) = some (a, b, c, d) := by
  unfold cut4
  rw [cutAt_app ha]; dsimp only
  rw [cutAt_app hb]; dsimp only
  rw [cutAt_app hc]
theorem cut4_some {s a b c d : List UInt8} (h : cut4 s = some (a, b, c, d)) : s = a ++ 32 :: (b ++ 32 :: (c ++ 32 :: d)) ∧ (32 : UInt8) ∉ a ∧ (32 : UInt8) ∉ b ∧ (32 : UInt8) ∉ c := by
  unfold cut4 at h
  split at h
  · cases h
  · rename_i a1 r1 h1
    split at h
    · cases h
    · rename_i b1 r2 h2
      split at h
      · cases h
      · rename_i c1 d1 h3
        cases h
        obtain ⟨e1, n1⟩ := cutAt_some h1
        obtain ⟨e2, n2⟩ := cutAt_some h2
        obtain ⟨e3, n3⟩ := cutAt_some h3
        exact ⟨by rw [e1, e2, e3], n1, n2, n3⟩
theorem rd_text {r : ReplyM} {s : List UInt8} (hr : Ok r) (h : text r = some s) : rd s = some r := by
  unfold text at h
  split at h
  · cases h
  · rename_i hw
    cases h
    obtain ⟨f1, f2⟩ := find_word hw
    have hb := wordOf_ne hw
    unfold rd
    rw [cut4_text f2 (itoa_no (by left; decide)) listT_no]
    rw [Option.bind_some]
    unfold rd4
    dsimp only
    rw [f1, read_itoa hr.1, readL_listT hr.2, wholeOf_quoted]
    dsimp only
    rw [Int.toNat_of_nonneg hb.1]
theorem text_rd {r : ReplyM} {s : List UInt8} (h : rd s = some r) : text r = some s ∧ Ok r := by
  unfold rd at h
  cases hc : cut4 s with
  | none => rw [hc] at h; cases h
  | some p =>
    obtain ⟨a, b, c, d⟩ := p
    rw [hc] at h
    have h : rd4 (a, b, c, d) = some r := h
    unfold rd4 at h
    split at h
    · rename_i e n l t h1 h2 h3 h4
      cases h
      obtain ⟨g1, g2, g3⟩ := word_find h1
      obtain ⟨i1, i2⟩ := read_iff.1 h2
      obtain ⟨l1, l2⟩ := listT_readL h3
      refine ⟨?_, i1, l2⟩
      unfold text
      rw [if_neg (by rw [g1]; exact g3)]
      dsimp only
      rw [g1, i2, l1, quoted_whole h4, (cut4_some hc).1]
    · cases h
/-- The reference's way: what is read, whatever it be, held against what is told of it. -/
theorem refRd {s : List UInt8} {a b c d : List UInt8} (hc : cut4 s = some (a, b, c, d)) (r : ReplyM) (hr : Ok r) (h1 : ∀ e, find a = some e → r.code = e) (h2 : ∀ n, read b = some n → r.num = n) (h3 : ∀ l, readL c = some l → r.list = l) (h4 : ∀ t, wholeOf d = some t → r.text = t) :
    (if (text r).getD [] = s then some r else none) = rd s := by
  cases hs : rd s with
  | some x =>
    have hx := text_rd hs
    unfold rd at hs
    rw [hc] at hs
    have hs : rd4 (a, b, c, d) = some x := hs
    unfold rd4 at hs
    split at hs
    · rename_i e n l t g1 g2 g3 g4
      cases hs
      obtain ⟨rc, rn, rl, rt⟩ := r
      have := h1 _ g1; have := h2 _ g2; have := h3 _ g3; have := h4 _ g4
      simp only at *
      subst_vars
      rw [hx.1]; simp
    · cases hs
  | none =>
    rw [if_neg]
    intro ht
    have hne : s ≠ [] := by rw [(cut4_some hc).1]; simp
    cases htx : text r with
    | none => rw [htx] at ht; exact hne ht.symm
    | some u =>
      rw [htx] at ht
      have ht : u = s := ht
      subst ht
      rw [rd_text hr htx] at hs
      cases hs
end Rp
namespace Oc
open Dg Go.Lib
def wordK : List (List UInt8) := [[114, 101, 103, 105, 115, 116, 101, 114], [114, 101, 116, 105, 114, 101], [97, 115, 107], [99, 97, 110, 99, 101, 108], [114, 111, 111, 116], [99, 104, 105, 108, 100], [108, 97, 121], [102, 114, 101, 101], [103, 105, 118, 101], [119, 114, 105, 116, 101], [114, 101, 97, 100], [116, 105, 99, 107], [115, 116, 97, 116, 101], [116, 114, 105, 109]]
def manyK : List Nat := [1, 1, 2, 2, 1, 1, 3, 1, 2, 2, 3, 0, 2, 1]
def wordOf (k : Int) : List UInt8 := if 1 ≤ k ∧ k ≤ 14 then wordK.getD (k.toNat - 1) [] else []
def many (k : Int) : Nat := if 1 ≤ k ∧ k ≤ 14 then manyK.getD (k.toNat - 1) 0 else 0
def find (s : List UInt8) : Nat := match Rp.place s wordK with | some k => k + 1 | none => 0
theorem words_ok : ∀ k : Fin 14, Rp.place (wordK.getD k []) wordK = some k ∧ wordK.getD k [] ≠ [] ∧ (32 : UInt8) ∉ wordK.getD k [] ∧ manyK.getD k 0 ≤ 3 := by decide +kernel
theorem many_le (k : Int) : many k ≤ 3 := by
  unfold many
  split
  · rename_i h; exact (words_ok ⟨k.toNat - 1, by omega⟩).2.2.2
  · omega
theorem wordOf_ne {k : Int} (h : wordOf k ≠ []) : 1 ≤ k ∧ k ≤ 14 := by
  unfold wordOf at h
  split at h
  · assumption
  · exact absurd rfl h
theorem wordOf_in {k : Int} (h : 1 ≤ k ∧ k ≤ 14) : wordOf k ≠ [] := by
  unfold wordOf; rw [if_pos h]; exact (words_ok ⟨k.toNat - 1, by omega⟩).2.1
theorem find_word {k : Int} (h : wordOf k ≠ []) : find (wordOf k) = k.toNat ∧ (32 : UInt8) ∉ wordOf k := by
  have h2 := wordOf_ne h
  unfold wordOf
  rw [if_pos h2]
  have := words_ok ⟨k.toNat - 1, by omega⟩
  refine ⟨?_, this.2.2.1⟩
  unfold find; rw [this.1]; show k.toNat - 1 + 1 = k.toNat; omega
theorem word_find {s : List UInt8} (h : find s ≠ 0) : wordOf (find s : Int) = s ∧ find s ≤ 14 ∧ 1 ≤ find s := by
  unfold find at h ⊢
  cases hp : Rp.place s wordK with
  | none => rw [hp] at h; exact absurd rfl h
  | some k =>
    obtain ⟨h1, h2⟩ := Rp.place_some hp
    have h1 : k < 14 := h1
    dsimp only
    refine ⟨?_, by omega, by omega⟩
    unfold wordOf; rw [if_pos (by omega)]
    rw [show ((k + 1 : Nat) : Int).toNat - 1 = k by omega]; exact h2
structure LineM where
  kind : Int
  a : Int
  b : Int
  c : Int
  text : List UInt8
  r0 : Int
  r1 : Int
  r2 : Int
def fields (l : LineM) : List (Int × Int) := [(l.a, l.r0), (l.b, l.r1), (l.c, l.r2)]
def Ok (l : LineM) : Prop := I64 l.a ∧ I64 l.b ∧ I64 l.c
def fOk (p : Int × Int) : Prop := 0 ≤ p.2 ∧ p.2 ≤ 4096 ∧ (0 < p.2 → p.1 = 0)
instance (p : Int × Int) : Decidable (fOk p) := inferInstanceAs (Decidable (_ ∧ _ ∧ _))
def txt (p : Int × Int) : List UInt8 := if 0 < p.2 then 35 :: itoa p.2 else itoa p.1
def tailT : List (List UInt8) → List UInt8
  | [] => []
  | x :: r => 32 :: (x ++ tailT r)
theorem join_tail (w : List UInt8) : ∀ r, join (w :: r) [32] = w ++ tailT r
  | [] => by rw [join_one]; simp [tailT]
  | y :: r => by rw [join_cons2, join_tail y r]; simp [tailT]
def last (l : LineM) : List (List UInt8) := if l.kind = 10 then [quoted l.text] else []
/-- May a line be told? -/
def tells (l : LineM) : Prop := wordOf l.kind ≠ [] ∧ (l.text = [] ∨ l.kind = 10) ∧ (∀ p ∈ fields l, fOk p) ∧ ∀ p ∈ (fields l).drop (many l.kind), p = (0, 0)
instance (l : LineM) : Decidable (tells l) := inferInstanceAs (Decidable (_ ∧ _ ∧ _ ∧ _))
def textO (l : LineM) : List UInt8 := wordOf l.kind ++ tailT (((fields l).take (many l.kind)).map txt ++ last l)
def text (l : LineM) : Option (List UInt8) := if tells l then some (textO l) else none
def cutO (s : List UInt8) : List UInt8 × Option (List UInt8) := match cutAt 32 s with
  | none => (s, none)
  | some (a, r) => (a, some r)
def within (s : List UInt8) (lo hi : Int) : Option Int := match read s with
  | some n => if n < lo ∨ hi < n then none else some n
  | none => none
def one (s : List UInt8) : Option (Int × Int) := if s.head? = some 35 then (within (s.drop 1) 1 4096).map fun r => (0, r) else (read s).map fun n => (n, 0)
def takeN : Nat → Option (List UInt8) → Option (List (Int × Int) × Option (List UInt8))
  | 0, o => some ([], o)
  | _ + 1, none => none
  | k + 1, some r => match one (cutO r).1 with
    | none => none
    | some p => (takeN k (cutO r).2).map fun q => (p :: q.1, q.2)
def mk (k : Int) (fs : List (Int × Int)) (t : List UInt8) : LineM := ⟨k, (fs.getD 0 (0, 0)).1, (fs.getD 1 (0, 0)).1, (fs.getD 2 (0, 0)).1, t, (fs.getD 0 (0, 0)).2, (fs.getD 1 (0, 0)).2, (fs.getD 2 (0, 0)).2⟩
/-- What is behind the numbers. -/
def endO (k : Int) (fs : List (Int × Int)) (o : Option (List UInt8)) : Option LineM :=
  if k = 10 then (match o with
    | none => none
    | some r => (wholeOf r).map (mk k fs))
  else if o = none then some (mk k fs []) else none
def rd (s : List UInt8) : Option LineM :=
  if find (cutO s).1 = 0 then none else (takeN (many (find (cutO s).1)) (cutO s).2).bind fun q => endO (find (cutO s).1) q.1 q.2
def stO : List (List UInt8) → Option (List UInt8)
  | [] => none
  | y :: r => some (y ++ tailT r)
theorem cutO_tail {x : List UInt8} (h : (32 : UInt8) ∉ x) (r : List (List UInt8)) : cutO (x ++ tailT r) = (x, stO r) := by
  unfold cutO
  cases r with
  | nil =>
    simp only [tailT, List.append_nil]
    cases hc : cutAt 32 x with
    | none => rfl
    | some p => obtain ⟨a, b⟩ := p; have := cutAt_some hc; exact absurd (by rw [this.1]; simp) h
  | cons y r => rw [tailT, cutAt_app h]; rfl
theorem cutO_eq {s w : List UInt8} {o : Option (List UInt8)} (h : cutO s = (w, o)) : (32 : UInt8) ∉ w ∧ ((o = none ∧ s = w) ∨ ∃ r, o = some r ∧ s = w ++ 32 :: r) := by
  unfold cutO at h
  split at h
  · rename_i hc; cases h; exact ⟨cutAt_none hc, .inl ⟨rfl, rfl⟩⟩
  · rename_i a r hc
    cases h
    obtain ⟨h1, h2⟩ := cutAt_some hc
    exact ⟨h2, .inr ⟨r, rfl, h1⟩⟩
theorem txt_no (p : Int × Int) : (32 : UInt8) ∉ txt p := by
  unfold txt
  split
  · simp only [List.mem_cons, not_or]; exact ⟨by decide, itoa_no (by left; decide)⟩
  · exact itoa_no (by left; decide)
theorem one_txt {p : Int × Int} (h : fOk p) (hi : I64 p.1) : one (txt p) = some p := by
  obtain ⟨h1, h2, h3⟩ := h
  unfold one txt
  by_cases hp : 0 < p.2
  · rw [if_pos hp, if_pos (by rfl), List.drop_one, List.tail_cons]
    unfold within
    rw [read_itoa (by unfold I64; omega)]
    dsimp only
    rw [if_neg (by omega)]
    have := h3 hp
    obtain ⟨x, y⟩ := p
    simp only at *
    subst this; rfl
  · rw [if_neg hp]
    have hne : (itoa p.1).head? ≠ some 35 := by
      intro e
      cases hx : itoa p.1 with
      | nil => rw [hx] at e; cases e
      | cons c r =>
        rw [hx] at e
        simp only [List.head?_cons, Option.some.injEq] at e
        subst e
        exact itoa_no (n := p.1) (c := 35) (by left; decide) (by rw [hx]; simp)
    rw [if_neg hne, read_itoa hi]
    obtain ⟨x, y⟩ := p
    simp only at *
    have : y = 0 := by omega
    subst this; rfl
theorem one_some {s : List UInt8} {p : Int × Int} (h : one s = some p) : txt p = s ∧ fOk p ∧ I64 p.1 := by
  unfold one at h
  split at h
  · rename_i hh
    unfold within at h
    cases hr : read (s.drop 1) with
    | none => rw [hr] at h; cases h
    | some n =>
      rw [hr] at h
      dsimp only at h
      split at h
      · cases h
      · cases h
        obtain ⟨g1, g2⟩ := read_iff.1 hr
        refine ⟨?_, ⟨?_, ?_, fun _ => rfl⟩, ?_⟩
        · unfold txt
          rw [if_pos (by dsimp only; omega)]
          dsimp only
          rw [g2]
          cases s with
          | nil => cases hh
          | cons c r => simp only [List.head?_cons, Option.some.injEq] at hh; subst hh; rfl
        · dsimp only; omega
        · dsimp only; omega
        · unfold I64; dsimp only; omega
  · cases hr : read s with
    | none => rw [hr] at h; cases h
    | some n =>
      rw [hr] at h; cases h
      obtain ⟨g1, g2⟩ := read_iff.1 hr
      exact ⟨by unfold txt; rw [if_neg (by dsimp only; omega)]; exact g2, ⟨by dsimp only; omega, by dsimp only; omega, fun h => absurd h (by dsimp only; omega)⟩, g1⟩
theorem takeN_txt (es : List (List UInt8)) : ∀ (fs : List (Int × Int)), (∀ p ∈ fs, fOk p ∧ I64 p.1) → takeN fs.length (stO (fs.map txt ++ es)) = some (fs, stO es)
  | [], _ => rfl
  | p :: fs, h => by
    rw [List.map_cons, List.cons_append, stO, List.length_cons, takeN, cutO_tail (txt_no p)]
    obtain ⟨h1, h2⟩ := h p (by simp)
    dsimp only
    rw [one_txt h1 h2]
    dsimp only
    rw [takeN_txt es fs (fun q hq => h q (by simp [hq]))]; rfl
theorem takeN_some : ∀ {k : Nat} {o o' : Option (List UInt8)} {fs : List (Int × Int)}, takeN k o = some (fs, o') → fs.length = k ∧ (∀ p ∈ fs, fOk p ∧ I64 p.1) ∧ ∀ es, o' = stO es → o = stO (fs.map txt ++ es)
  | 0, o, o', fs, h => by rw [takeN] at h; cases h; exact ⟨rfl, by simp, fun es he => he⟩
  | k + 1, none, o', fs, h => by rw [takeN] at h; cases h
  | k + 1, some r, o', fs, h => by
    rw [takeN] at h
    split at h
    · cases h
    · rename_i p hp
      cases ht : takeN k (cutO r).2 with
      | none => rw [ht] at h; cases h
      | some q =>
        rw [ht] at h
        obtain ⟨gs, o2⟩ := q
        cases h
        obtain ⟨a1, a2, a3⟩ := takeN_some ht
        obtain ⟨b1, b2, b3⟩ := one_some hp
        refine ⟨by rw [List.length_cons, a1], ?_, fun es he => ?_⟩
        · intro q hq
          rcases List.mem_cons.1 hq with rfl | hq
          · exact ⟨b2, b3⟩
          · exact a2 q hq
        · have h3 := a3 es he
          rw [List.map_cons, List.cons_append, stO, b1]
          obtain ⟨c1, c2⟩ := cutO_eq (s := r) (w := (cutO r).1) (o := (cutO r).2) rfl
          rcases c2 with ⟨c2, c3⟩ | ⟨r2, c2, c3⟩
          · rw [c2] at h3
            cases hl : gs.map txt ++ es with
            | nil => simp only [tailT, List.append_nil]; rw [← c3]
            | cons y t => rw [hl] at h3; cases h3
          · rw [c2] at h3
            cases hl : gs.map txt ++ es with
            | nil => rw [hl] at h3; cases h3
            | cons y t =>
              rw [hl, stO] at h3
              injection h3 with h3
              rw [tailT, ← h3, ← c3]
theorem rd_text {l : LineM} {s : List UInt8} (hl : Ok l) (h : text l = some s) : rd s = some l := by
  unfold text at h
  split at h
  · rename_i ht
    cases h
    obtain ⟨t1, t2, t3, t4⟩ := ht
    obtain ⟨f1, f2⟩ := find_word t1
    have hk := wordOf_ne t1
    have hm := many_le l.kind
    have hfl : ((fields l).take (many l.kind)).length = many l.kind := by rw [List.length_take]; simp [fields]; omega
    unfold rd textO
    rw [cutO_tail f2]
    dsimp only
    rw [f1, if_neg (by omega), show ((l.kind.toNat : Nat) : Int) = l.kind by omega]
    have hT := takeN_txt (last l) ((fields l).take (many l.kind)) (fun p hp => ⟨t3 p (List.mem_of_mem_take hp), by
      have hp := List.mem_of_mem_take hp
      simp only [fields, List.mem_cons, List.not_mem_nil, or_false] at hp
      rcases hp with rfl | rfl | rfl
      · exact hl.1
      · exact hl.2.1
      · exact hl.2.2⟩)
    rw [hfl] at hT
    rw [hT, Option.bind_some]
    dsimp only
    have hmk : ∀ t, t = l.text → mk l.kind ((fields l).take (many l.kind)) t = l := by
      rintro t rfl
      obtain ⟨k, a, b, c, t, r0, r1, r2⟩ := l
      simp only at *
      have e : many k = 0 ∨ many k = 1 ∨ many k = 2 ∨ many k = 3 := by omega
      simp only [fields] at t4
      rcases e with e | e | e | e <;> rw [e] at t4 ⊢ <;> simp [mk, fields] at t4 ⊢ <;> simp [t4]
    unfold endO last
    by_cases h10 : l.kind = 10
    · rw [if_pos h10, if_pos h10]
      simp only [stO, tailT, List.append_nil]
      rw [wholeOf_quoted, Option.map_some, hmk _ rfl]
    · rw [if_neg h10, if_neg h10]
      simp only [stO, if_true]
      rw [hmk]
      rcases t2 with h | h
      · exact h.symm
      · exact absurd h h10
  · cases h
theorem mk_fields {k : Int} {fs : List (Int × Int)} {t : List UInt8} (h : fs.length = many k) : (fields (mk k fs t)).take (many k) = fs ∧ (∀ p ∈ (fields (mk k fs t)).drop (many k), p = (0, 0)) ∧ (∀ p ∈ fields (mk k fs t), p ∈ fs ∨ p = (0, 0)) := by
  have hm := many_le k
  match fs, h with
  | [], h => simp at h; rw [← h]; simp [fields, mk]
  | [x], h => simp at h; rw [← h]; simp [fields, mk]
  | [x, y], h => simp at h; rw [← h]; simp [fields, mk]
  | [x, y, z], h => simp at h; rw [← h]; simp [fields, mk]
  | x :: y :: z :: u :: r, h => simp at h; omega
theorem text_rd {l : LineM} {s : List UInt8} (h : rd s = some l) : text l = some s ∧ Ok l := by
  unfold rd at h
  split at h
  · cases h
  · rename_i hf
    obtain ⟨w1, w2, w3⟩ := word_find hf
    generalize hk : find (cutO s).1 = k at *
    cases ht : takeN (many k) (cutO s).2 with
    | none => rw [ht] at h; cases h
    | some q =>
      obtain ⟨fs, o⟩ := q
      rw [ht, Option.bind_some] at h
      dsimp only at h
      obtain ⟨a1, a2, a3⟩ := takeN_some ht
      have hgo : ∀ t es, (es = if (k : Int) = 10 then [quoted t] else []) → o = stO es → (t = [] ∨ (k : Int) = 10) → l = mk k fs t → text l = some s ∧ Ok l := by
        rintro t es hes ho ht10 rfl
        obtain ⟨m1, m2, m3⟩ := mk_fields (t := t) a1
        have hpt : ∀ p ∈ fields (mk k fs t), fOk p ∧ I64 p.1 := by
          intro p hp
          rcases m3 p hp with h | rfl
          · exact a2 p h
          · exact ⟨⟨by decide, by decide, by decide⟩, by unfold I64; simp⟩
        refine ⟨?_, (hpt ((mk k fs t).a, (mk k fs t).r0) (by simp [fields])).2, (hpt ((mk k fs t).b, (mk k fs t).r1) (by simp [fields])).2, (hpt ((mk k fs t).c, (mk k fs t).r2) (by simp [fields])).2⟩
        have htell : tells (mk k fs t) := ⟨by show wordOf (k : Int) ≠ []; exact wordOf_in (by omega), ht10, fun p hp => (hpt p hp).1, m2⟩
        unfold text
        rw [if_pos htell]
        unfold textO
        show some (wordOf (k : Int) ++ tailT (((fields (mk k fs t)).take (many k)).map txt ++ last (mk k fs t))) = some s
        rw [m1, w1]
        have hlast : last (mk k fs t) = es := by rw [hes]; rfl
        rw [hlast]
        have h3 := a3 es ho
        obtain ⟨c1, c2⟩ := cutO_eq (s := s) (w := (cutO s).1) (o := (cutO s).2) rfl
        congr 1
        rcases c2 with ⟨c2, c3⟩ | ⟨r2, c2, c3⟩
        · rw [c2] at h3
          cases hl : fs.map txt ++ es with
          | nil => simp only [tailT, List.append_nil]; exact c3.symm
          | cons y u => rw [hl] at h3; cases h3
        · rw [c2] at h3
          cases hl : fs.map txt ++ es with
          | nil => rw [hl] at h3; cases h3
          | cons y u =>
            rw [hl, stO] at h3
            injection h3 with h3
            rw [tailT, ← h3, ← c3]
      unfold endO at h
      split at h
      · rename_i h10
        cases o with
        | none => cases h
        | some r =>
          dsimp only at h
          cases hw : wholeOf r with
          | none => rw [hw] at h; cases h
          | some t =>
            rw [hw] at h; cases h
            exact hgo t [quoted t] (by rw [if_pos h10]) (by simp [stO, tailT, quoted_whole hw]) (.inr h10) rfl
      · rename_i h10
        split at h
        · rename_i ho
          cases h
          exact hgo [] [] (by rw [if_neg h10]) ho (.inl rfl) rfl
        · cases h
theorem rd_iff {l : LineM} {s : List UInt8} : rd s = some l ↔ text l = some s ∧ Ok l := ⟨text_rd, fun h => rd_text h.2 h.1⟩
/-- The reference's way: what is left is not looked at, but what is told is held against the text. -/
def parse (s : List UInt8) : Option LineM := (takeN (many (find (cutO s).1)) (cutO s).2).bind fun q => if (find (cutO s).1 : Int) = 10 then (wholeOf (q.2.getD [])).map (mk (find (cutO s).1) q.1) else some (mk (find (cutO s).1) q.1 [])
theorem whole_ne {t : List UInt8} (h : wholeOf [] = some t) : False := by have := quoted_whole h; exact quoted_ne t this
theorem rd_parse {s : List UInt8} {l : LineM} (h : rd s = some l) : parse s = some l := by
  unfold rd at h
  split at h
  · cases h
  · unfold parse
    cases ht : takeN (many (find (cutO s).1)) (cutO s).2 with
    | none => rw [ht] at h; cases h
    | some q =>
      rw [ht, Option.bind_some] at h
      rw [Option.bind_some]
      unfold endO at h
      split at h
      · rename_i h10
        rw [if_pos h10]
        cases ho : q.2 with
        | none => rw [ho] at h; cases h
        | some r => rw [ho] at h; exact h
      · rename_i h10
        rw [if_neg h10]
        split at h
        · exact h
        · cases h
theorem parse_ok {s : List UInt8} {l : LineM} (h : parse s = some l) : Ok l := by
  unfold parse at h
  cases ht : takeN (many (find (cutO s).1)) (cutO s).2 with
  | none => rw [ht] at h; cases h
  | some q =>
    obtain ⟨fs, o⟩ := q
    rw [ht, Option.bind_some] at h
    dsimp only at h
    obtain ⟨a1, a2, a3⟩ := takeN_some ht
    have hI : ∀ i, I64 (fs.getD i (0, 0)).1 := by
      intro i
      rcases Nat.lt_or_ge i fs.length with hi | hi
      · have : fs.getD i (0, 0) = fs[i] := by simp [List.getD, hi]
        rw [this]; exact (a2 _ (List.getElem_mem hi)).2
      · have : fs.getD i (0, 0) = (0, 0) := by simp [List.getD, hi]
        rw [this]; unfold I64; simp
    split at h
    · cases hw : wholeOf (o.getD []) with
      | none => rw [hw] at h; cases h
      | some t => rw [hw] at h; cases h; exact ⟨hI 0, hI 1, hI 2⟩
    · cases h; exact ⟨hI 0, hI 1, hI 2⟩
theorem refRd (s : List UInt8) : ((parse s).bind fun l => if text l = some s then some l else none) = rd s := by
  cases hr : rd s with
  | some l =>
    rw [rd_parse hr, Option.bind_some, if_pos (text_rd hr).1]
  | none =>
    cases hp : parse s with
    | none => rfl
    | some l =>
      rw [Option.bind_some]
      split
      · rename_i ht
        rw [rd_text (parse_ok hp) ht] at hr; cases hr
      · rfl
end Oc

end Go.Proofs.YtpkohkkkbnfigaaDoor
