import Derived.WalkKit
import Derived.ProofKit
import Derived.Deep.Draws
import Derived.Maps.Own
import Derived.OwnWalk
import Derived.Test.YtlcdaalalihaiaaGreatRows
import Derived.BigQuiet
import Derived.Lib.Hide
import Derived.Deep.QuietTactic
import Derived.Maps.OwnSet
/- A small logic of memory pieces: 'holds w l' says that the world w's blocks can be shared out among the pieces of the list l; a piece owns a block alone, or shares it for reading. Pieces of memory as data: rows of cells (slices), maps keyed by ints; what make, append, lookup, store and delete do to them. Slices of ints as pieces of memory. -/
section
namespace Go.Proofs.YtlcdaalalihaiaaGreat
open Go Go.RowKit

/-- A fragment of a world: some blocks, each owned (true) or shared for reading (false), and what of the streams is as it was. -/
structure Frag where
  os : Os
  tape : Nat → Question → Nat
  output : Array (Nat × ByteArray)
  get : Nat → Option (Obj × Bool)

abbrev HProp := Frag → Prop

/-- Two fragments make a third one. -/
structure Joins (a b c : Frag) : Prop where
  os1 : a.os = c.os
  os2 : b.os = c.os
  tape1 : a.tape = c.tape
  tape2 : b.tape = c.tape
  out1 : a.output = c.output
  out2 : b.output = c.output
  at_ : ∀ k, (a.get k = none ∧ b.get k = c.get k) ∨ (b.get k = none ∧ a.get k = c.get k) ∨ (∃ o, a.get k = some (o, false) ∧ b.get k = some (o, false) ∧ c.get k = some (o, false))

theorem Joins.symm {a b c : Frag} (h : Joins a b c) : Joins b a c :=
  ⟨h.os2, h.os1, h.tape2, h.tape1, h.out2, h.out1, fun k => by
    rcases h.at_ k with h | h | ⟨o, h1, h2, h3⟩
    · exact .inr (.inl h)
    · exact .inl h
    · exact .inr (.inr ⟨o, h2, h1, h3⟩)⟩

/-- What the union of two fragments that agree is. -/
def Frag.union (a b : Frag) : Frag := { a with get := fun k => (a.get k).or (b.get k) }

theorem joins_opt (a b ab c d : Option (Obj × Bool))
    (h : (a = none ∧ b = ab) ∨ (b = none ∧ a = ab) ∨ (∃ o, a = some (o, false) ∧ b = some (o, false) ∧ ab = some (o, false)))
    (h' : (ab = none ∧ c = d) ∨ (c = none ∧ ab = d) ∨ (∃ o, ab = some (o, false) ∧ c = some (o, false) ∧ d = some (o, false))) :
    ∃ bc, bc = b.or c ∧ ((b = none ∧ c = bc) ∨ (c = none ∧ b = bc) ∨ (∃ o, b = some (o, false) ∧ c = some (o, false) ∧ bc = some (o, false))) ∧
      ((a = none ∧ bc = d) ∨ (bc = none ∧ a = d) ∨ (∃ o, a = some (o, false) ∧ bc = some (o, false) ∧ d = some (o, false))) := by
  refine ⟨_, rfl, ?_⟩
  rcases h with ⟨rfl, rfl⟩ | ⟨rfl, rfl⟩ | ⟨o, rfl, rfl, rfl⟩ <;> rcases h' with ⟨h1, rfl⟩ | ⟨rfl, rfl⟩ | ⟨o', h1, rfl, rfl⟩ <;>
    (first | (cases h1; simp; done) | (subst h1; simp; done) | (cases b <;> simp_all; done) | simp_all)

/-- a + b = ab, ab + c = d  gives  b + c = bc, a + bc = d. -/
theorem Joins.assoc {a b ab c d : Frag} (h : Joins a b ab) (h' : Joins ab c d) : ∃ bc, Joins b c bc ∧ Joins a bc d := by
  refine ⟨b.union c, ⟨rfl, ?_, rfl, ?_, rfl, ?_, fun k => ?_⟩, ⟨?_, ?_, ?_, ?_, ?_, ?_, fun k => ?_⟩⟩
  · exact h'.os2.trans (h'.os1.symm.trans h.os2.symm)
  · exact h'.tape2.trans (h'.tape1.symm.trans h.tape2.symm)
  · exact h'.out2.trans (h'.out1.symm.trans h.out2.symm)
  · obtain ⟨_, rfl, h1, _⟩ := joins_opt _ _ _ _ _ (h.at_ k) (h'.at_ k); exact h1
  · exact h.os1.trans h'.os1
  · exact h.os2.trans h'.os1
  · exact h.tape1.trans h'.tape1
  · exact h.tape2.trans h'.tape1
  · exact h.out1.trans h'.out1
  · exact h.out2.trans h'.out1
  · obtain ⟨_, rfl, _, h1⟩ := joins_opt _ _ _ _ _ (h.at_ k) (h'.at_ k); exact h1

/-- The pieces of a list, side by side. -/
def sep : List HProp → HProp
  | [], _ => True
  | A :: l, f => ∃ f1 f2, A f1 ∧ sep l f2 ∧ Joins f1 f2 f

/-- The world's own fragment. -/
def Frag.of (f : Frag) (w : World) : Prop :=
  f.os = w.os ∧ f.tape = w.tape ∧ f.output = w.output ∧ ∀ k o p, f.get k = some (o, p) → w.heap[k]? = some o

def holds (w : World) (l : List HProp) : Prop := ∃ f : Frag, f.of w ∧ sep l f

theorem sep_swap {A B : HProp} {l : List HProp} {f : Frag} (h : sep (A :: B :: l) f) : sep (B :: A :: l) f := by
  obtain ⟨f1, f2, ha, ⟨f3, f4, hb, hl, j2⟩, j1⟩ := h
  obtain ⟨bc, k1, k2⟩ := Joins.assoc j2 j1.symm
  exact ⟨f3, bc, hb, ⟨f1, f4, ha, hl, k1.symm⟩, k2⟩

theorem sep_cons_mono {A B : HProp} {l m : List HProp} (hA : ∀ f, A f → B f) (hl : ∀ f, sep l f → sep m f) {f : Frag} (h : sep (A :: l) f) : sep (B :: m) f := by
  obtain ⟨f1, f2, ha, h2, j⟩ := h
  exact ⟨f1, f2, hA _ ha, hl _ h2, j⟩

theorem sep_pick : ∀ (n : Nat) (l : List HProp) (A : HProp), l[n]? = some A → ∀ f, sep l f → sep (A :: l.eraseIdx n) f
  | 0, B :: l, A, h, f, hs => by simp at h; subst h; exact hs
  | n + 1, B :: l, A, h, f, hs => by
    have h' : l[n]? = some A := by simpa using h
    exact sep_swap (sep_cons_mono (fun _ x => x) (sep_pick n l A h') hs)
  | 0, [], A, h, f, hs => by simp at h
  | n + 1, [], A, h, f, hs => by simp at h

theorem sep_put : ∀ (n : Nat) (l : List HProp) (A : HProp), ∀ f, sep (A :: l) f → sep (l.take n ++ A :: l.drop n) f
  | 0, l, A, f, hs => by simpa using hs
  | n + 1, [], A, f, hs => by simpa using hs
  | n + 1, B :: l, A, f, hs => by
    have := sep_cons_mono (A := B) (B := B) (fun _ x => x) (sep_put n l A) (sep_swap hs)
    simpa using this

theorem sep_perm {l m : List HProp} (h : l.Perm m) : ∀ f, sep l f → sep m f := by
  induction h with
  | nil => exact fun _ h => h
  | cons x _ ih => exact fun f h => sep_cons_mono (fun _ h => h) ih h
  | swap x y l => exact fun f h => sep_swap h
  | trans _ _ ih1 ih2 => exact fun f h => ih2 _ (ih1 _ h)

theorem holds.perm {w : World} {l m : List HProp} (h : holds w l) (p : l.Perm m) : holds w m := let ⟨f, hf, hs⟩ := h; ⟨f, hf, sep_perm p f hs⟩

/-- The n-th piece to the head. -/
theorem holds.pick {w : World} {l : List HProp} (h : holds w l) (n : Nat) {A : HProp} (hA : l[n]? = some A := by rfl) : holds w (A :: l.eraseIdx n) :=
  let ⟨f, hf, hs⟩ := h; ⟨f, hf, sep_pick n l A hA f hs⟩
/-- The pieces in another order: 'is' tells which of the first ones comes where. -/
def reorder (l : List HProp) (is : List Nat) : List HProp := is.map (fun i => l.getD i (fun _ => True)) ++ l.drop is.length
theorem perm_range (l : List HProp) : ∀ n, n ≤ l.length → (List.range n).map (fun i => l.getD i (fun _ => True)) ++ l.drop n = l := by
  intro n hn
  have : (List.range n).map (fun i => l.getD i (fun _ => True)) = l.take n := by
    apply List.ext_getElem
    · simp; omega
    · intro i h1 h2
      simp only [List.length_map, List.length_range] at h1
      have : i < l.length := by omega
      simp [List.getD, this]
  rw [this, List.take_append_drop]
theorem holds.order {w : World} {l : List HProp} (h : holds w l) (is : List Nat) (hp : is.Perm (List.range is.length) := by decide) (hl : is.length ≤ l.length := by first | simp; done | simp [reorder]) : holds w (reorder l is) := by
  refine h.perm ?_
  unfold reorder
  have h1 := (hp.map (fun i => l.getD i (fun _ => True))).append_right (l.drop is.length)
  rw [perm_range l _ hl] at h1
  exact h1.symm
/-- The head to the n-th place behind. -/
theorem holds.put {w : World} {l : List HProp} {A : HProp} (h : holds w (A :: l)) (n : Nat) : holds w (l.take n ++ A :: l.drop n) :=
  let ⟨f, hf, hs⟩ := h; ⟨f, hf, sep_put n l A f hs⟩

theorem holds.tail {w : World} {l : List HProp} {A : HProp} (h : holds w (A :: l)) : holds w l := by
  obtain ⟨f, hf, f1, f2, ha, hl, j⟩ := h
  refine ⟨f2, ⟨j.os2.trans hf.1, j.tape2.trans hf.2.1, j.out2.trans hf.2.2.1, fun k o p hk => ?_⟩, hl⟩
  rcases j.at_ k with ⟨h1, h2⟩ | ⟨h1, h2⟩ | ⟨o', h1, h2, h3⟩
  · exact hf.2.2.2 k o p (h2 ▸ hk)
  · rw [h1] at hk; cases hk
  · rw [h2] at hk; cases hk; exact hf.2.2.2 k o false h3

theorem holds.mono {w : World} {l : List HProp} {A B : HProp} (h : holds w (A :: l)) (hA : ∀ f, A f → B f) : holds w (B :: l) :=
  let ⟨f, hf, hs⟩ := h; ⟨f, hf, sep_cons_mono hA (fun _ h => h) hs⟩

theorem holds.open_ex {w : World} {l : List HProp} {α : Sort _} {A : α → HProp} (h : holds w ((fun f => ∃ x, A x f) :: l)) : ∃ x, holds w (A x :: l) := by
  obtain ⟨f, hf, f1, f2, ⟨x, ha⟩, hl, j⟩ := h
  exact ⟨x, f, hf, f1, f2, ha, hl, j⟩

theorem holds.open_pure {w : World} {l : List HProp} {p : Prop} {A : HProp} (h : holds w ((fun f => p ∧ A f) :: l)) : p ∧ holds w (A :: l) := by
  obtain ⟨f, hf, f1, f2, ⟨x, ha⟩, hl, j⟩ := h
  exact ⟨x, f, hf, f1, f2, ha, hl, j⟩

theorem holds.nil (w : World) : holds w [] := ⟨⟨w.os, w.tape, w.output, fun _ => none⟩, ⟨rfl, rfl, rfl, by simp⟩, trivial⟩

theorem sep_sub : ∀ (m : List HProp) (a c : Frag) {b : Frag}, Joins a b c → sep m a → sep m c
  | [], _, _, _, _, _ => trivial
  | A :: m, a, c, b, j, ⟨f1, f2, ha, hm, j2⟩ => by
    obtain ⟨x, j3, j4⟩ := Joins.assoc j2 j
    exact ⟨f1, x, ha, sep_sub m f2 x j3 hm, j4⟩

/-- A list of pieces as one piece. -/
theorem sep_append : ∀ (l m : List HProp) (f : Frag), sep (l ++ m) f ↔ ∃ f1 f2, sep l f1 ∧ sep m f2 ∧ Joins f1 f2 f
  | [], m, f => by
    constructor
    · intro h
      exact ⟨⟨f.os, f.tape, f.output, fun _ => none⟩, f, trivial, h, ⟨rfl, rfl, rfl, rfl, rfl, rfl, fun _ => .inl ⟨rfl, rfl⟩⟩⟩
    · rintro ⟨f1, f2, _, h, j⟩
      exact sep_sub m f2 f j.symm h
  | A :: l, m, f => by
    constructor
    · rintro ⟨f1, f2, ha, h2, j⟩
      obtain ⟨g1, g2, hl, hm, j2⟩ := (sep_append l m f2).1 h2
      obtain ⟨x, j3, j4⟩ := Joins.assoc j2.symm j.symm
      exact ⟨x, g2, ⟨f1, g1, ha, hl, j3.symm⟩, hm, j4.symm⟩
    · rintro ⟨f1, f2, ⟨g1, g2, ha, hl, j2⟩, hm, j⟩
      obtain ⟨x, j3, j4⟩ := Joins.assoc j2 j
      exact ⟨g1, x, ha, (sep_append l m x).2 ⟨g2, f2, hl, hm, j3⟩, j4⟩

theorem holds_sep {w : World} {l m : List HProp} : holds w (sep l :: m) ↔ holds w (l ++ m) := by
  constructor
  · rintro ⟨f, hf, f1, f2, ha, hl, j⟩
    exact ⟨f, hf, (sep_append l m f).2 ⟨f1, f2, ha, hl, j⟩⟩
  · rintro ⟨f, hf, h⟩
    obtain ⟨f1, f2, ha, hl, j⟩ := (sep_append l m f).1 h
    exact ⟨f, hf, f1, f2, ha, hl, j⟩

/-! ### Blocks -/
/-- Block b is owned and is o. -/
def blk (b : Nat) (o : Obj) : HProp := fun f => f.get b = some (o, true)
/-- Block b is there for reading, and is o. -/
def ro (b : Nat) (o : Obj) : HProp := fun f => f.get b = some (o, false)

theorem holds.get_blk {w : World} {l : List HProp} {b : Nat} {o : Obj} (h : holds w (blk b o :: l)) : w.heap[b]? = some o := by
  obtain ⟨f, hf, f1, f2, ha, hl, j⟩ := h
  rcases j.at_ b with ⟨h1, h2⟩ | ⟨h1, h2⟩ | ⟨o', h1, h2, h3⟩
  · rw [blk, h1] at ha; cases ha
  · exact hf.2.2.2 b o true (h2 ▸ ha)
  · rw [blk, h1] at ha; cases ha
theorem holds.get_ro {w : World} {l : List HProp} {b : Nat} {o : Obj} (h : holds w (ro b o :: l)) : w.heap[b]? = some o := by
  obtain ⟨f, hf, f1, f2, ha, hl, j⟩ := h
  rcases j.at_ b with ⟨h1, h2⟩ | ⟨h1, h2⟩ | ⟨o', h1, h2, h3⟩
  · rw [ro, h1] at ha; cases ha
  · exact hf.2.2.2 b o false (h2 ▸ ha)
  · rw [ro, h1] at ha; cases ha; exact hf.2.2.2 b o false h3

theorem holds.lt {w : World} {l : List HProp} {b : Nat} {o : Obj} (h : holds w (blk b o :: l)) : b < w.heap.size := (Array.getElem?_eq_some_iff.1 h.get_blk).1

/-- A step of the world: new blocks; of the old ones b alone may have turned. -/
theorem holds.turn {w w' : World} {l : List HProp} {b : Nat} {o o' : Obj} (h : holds w (blk b o :: l)) (hg : w.grownBy w' (some b)) (hb : w'.heap[b]? = some o') : holds w' (blk b o' :: l) := by
  have hwb := h.get_blk
  obtain ⟨f, hf, f1, f2, ha, hl, j⟩ := h
  have hn : f2.get b = none ∧ f1.get b = f.get b := by
    rcases j.at_ b with ⟨h1, h2⟩ | h | ⟨o', h1, h2, h3⟩
    · rw [blk, h1] at ha; cases ha
    · exact h
    · rw [blk, h1] at ha; cases ha
  refine ⟨{ f with get := fun k => if k = b then some (o', true) else f.get k }, ⟨hf.1.trans hg.os.symm, hf.2.1.trans hg.tape.symm, hf.2.2.1.trans hg.output.symm, fun k o2 p hk => ?_⟩,
    { f1 with get := fun k => if k = b then some (o', true) else f1.get k }, f2, by simp [blk], hl, ⟨j.os1, j.os2, j.tape1, j.tape2, j.out1, j.out2, fun k => ?_⟩⟩
  · by_cases hkb : k = b
    · subst hkb; simp at hk; obtain ⟨rfl, rfl⟩ := hk; exact hb
    · simp [hkb] at hk
      have hh := hf.2.2.2 k o2 p hk
      rw [hg.block k (Array.getElem?_eq_some_iff.1 hh).1 (by simpa using hkb)]; exact hh
  · by_cases hkb : k = b
    · subst hkb; exact .inr (.inl ⟨hn.1, by simp⟩)
    · simpa [hkb] using j.at_ k

/-- Nothing that was there has turned. -/
theorem holds.below {w w' : World} {l : List HProp} (h : holds w l) (hb : Below w.heap.size w w') : holds w' l := by
  obtain ⟨f, hf, hs⟩ := h
  refine ⟨f, ⟨hf.1.trans hb.os.symm, hf.2.1.trans hb.tape.symm, hf.2.2.1.trans hb.output.symm, fun k o p hk => ?_⟩, hs⟩
  have hh := hf.2.2.2 k o p hk
  rw [hb.block k (Array.getElem?_eq_some_iff.1 hh).1]; exact hh

/-- Nothing that was there has turned, and block b is new. -/
theorem holds.new {w w' : World} {l : List HProp} {b : Nat} {o : Obj} (h : holds w l) (hb : Below w.heap.size w w') (hn : w.heap.size ≤ b) (ho : w'.heap[b]? = some o) : holds w' (blk b o :: l) := by
  obtain ⟨f, hf, hs⟩ := h
  have hnb : f.get b = none := by
    cases hfb : f.get b with
    | none => rfl
    | some x => have := (Array.getElem?_eq_some_iff.1 (hf.2.2.2 b x.1 x.2 hfb)).1; omega
  refine ⟨{ f with get := fun k => if k = b then some (o, true) else f.get k }, ⟨hf.1.trans hb.os.symm, hf.2.1.trans hb.tape.symm, hf.2.2.1.trans hb.output.symm, fun k o2 p hk => ?_⟩,
    { f with get := fun k => if k = b then some (o, true) else none }, f, by simp [blk], hs, ⟨rfl, rfl, rfl, rfl, rfl, rfl, fun k => ?_⟩⟩
  · by_cases hkb : k = b
    · subst hkb; simp at hk; obtain ⟨rfl, rfl⟩ := hk; exact ho
    · simp [hkb] at hk
      have hh := hf.2.2.2 k o2 p hk
      rw [hb.block k (Array.getElem?_eq_some_iff.1 hh).1]; exact hh
  · by_cases hkb : k = b
    · subst hkb; exact .inr (.inl ⟨hnb, by simp⟩)
    · exact .inl ⟨by simp [hkb], by simp [hkb]⟩

theorem holds.alloc {w : World} {l : List HProp} (h : holds w l) (o : Obj) : holds (w.alloc o) (blk w.heap.size o :: l) :=
  h.new ((Below.refl _ _).alloc (Nat.le_refl _) _) (Nat.le_refl _) (heap_alloc_new w o)

theorem holds.setCell {w : World} {l : List HProp} {b : Nat} {c : Array Value} {e : TypeId} {fz : Nat × Nat} (h : holds w (blk b (.cells c e fz) :: l)) (off : Nat) (u : Value) :
    holds (w.setCell ⟨b, off, none⟩ u) (blk b (.cells (c.setIfInBounds off u) e fz) :: l) := by
  have hb := h.get_blk
  refine h.turn ⟨rfl, rfl, rfl, by simp [World.setCell], fun k _ hk => by simp at hk; exact Below.heap_setCell _ _ _ _ hk⟩ ?_
  simp [World.setCell, Array.getElem?_modify, hb]

theorem holds.drew {w : World} {l : List HProp} (h : holds w l) : holds w.drew l := h
/-- All that a world holds, for reading. -/
def allOf (W : World) : HProp := fun f => f.os = W.os ∧ f.tape = W.tape ∧ f.output = W.output ∧ ∀ (k : Nat) (o : Obj), W.heap[k]? = some o → f.get k = some (o, false)

theorem holds.start (W : World) : holds W [allOf W] := by
  let f : Frag := ⟨W.os, W.tape, W.output, fun k => (W.heap[k]?).map (·, false)⟩
  refine ⟨f, ⟨rfl, rfl, rfl, fun k o p hk => ?_⟩, f, ⟨W.os, W.tape, W.output, fun _ => none⟩, ⟨rfl, rfl, rfl, fun k o hk => by simp [f, hk]⟩, trivial, ⟨rfl, rfl, rfl, rfl, rfl, rfl, fun k => .inr (.inl ⟨rfl, rfl⟩)⟩⟩
  simp only [f, Option.map_eq_some_iff, Prod.mk.injEq] at hk
  obtain ⟨a, h1, h2, _⟩ := hk
  rw [h1, h2]

theorem holds.get_all {w W : World} {l : List HProp} (h : holds w (allOf W :: l)) : w.os = W.os ∧ w.tape = W.tape ∧ w.output = W.output ∧ ∀ (k : Nat) (o : Obj), W.heap[k]? = some o → w.heap[k]? = some o := by
  obtain ⟨f, hf, f1, f2, ha, hl, j⟩ := h
  refine ⟨hf.1.symm.trans (j.os1.symm.trans ha.1), hf.2.1.symm.trans (j.tape1.symm.trans ha.2.1), hf.2.2.1.symm.trans (j.out1.symm.trans ha.2.2.1), fun k o hk => ?_⟩
  have h1 := ha.2.2.2 k o hk
  rcases j.at_ k with ⟨g1, g2⟩ | ⟨g1, g2⟩ | ⟨o', g1, g2, g3⟩
  · rw [h1] at g1; cases g1
  · exact hf.2.2.2 k o false (g2 ▸ h1)
  · rw [h1] at g1; cases g1; exact hf.2.2.2 k o false g3

theorem holds.below_all {w W : World} {l : List HProp} (h : holds w (allOf W :: l)) : Below W.heap.size W w := by
  obtain ⟨h1, h2, h3, h4⟩ := h.get_all
  refine ⟨h1, h2, h3, ?_, fun k hk => ?_⟩
  · rcases Nat.lt_or_ge w.heap.size W.heap.size with hlt | hge
    · have := h4 w.heap.size _ (Array.getElem?_eq_getElem hlt)
      simp at this
    · exact hge
  · rw [h4 k _ (Array.getElem?_eq_getElem hk), Array.getElem?_eq_getElem hk]

/-- Of all that the first world held, one block more for reading. -/
theorem holds.all_ro {w W : World} {l : List HProp} {b : Nat} {o : Obj} (h : holds w (allOf W :: l)) (hb : W.heap[b]? = some o) : holds w (ro b o :: allOf W :: l) := by
  obtain ⟨f, hf, f1, f2, ha, hl, j⟩ := h
  have h1 := ha.2.2.2 b o hb
  have h3 : f.get b = some (o, false) := by
    rcases j.at_ b with ⟨g1, g2⟩ | ⟨g1, g2⟩ | ⟨o', g1, g2, g3⟩
    · rw [h1] at g1; cases g1
    · exact g2 ▸ h1
    · rw [h1] at g1; cases g1; exact g3
  refine ⟨f, hf, { f with get := fun k => if k = b then some (o, false) else none }, f, by simp [ro], ⟨f1, f2, ha, hl, j⟩, ⟨rfl, rfl, rfl, rfl, rfl, rfl, fun k => ?_⟩⟩
  by_cases hkb : k = b
  · subst hkb; exact .inr (.inr ⟨o, by simp, h3, h3⟩)
  · exact .inl ⟨by simp [hkb], rfl⟩

end Go.Proofs.YtlcdaalalihaiaaGreat
end
section
namespace Go.Proofs.YtlcdaalalihaiaaGreat
open Go Go.RowKit Go.MapKept

/-! ### Rows -/
/-- The slice v has n elements of size cells each, owned, which are xs; it may be nil. -/
def ownRow (e : TypeId) (size : Nat) (v : Value) (n : Nat) (xs : List Value) : HProp := fun f =>
  xs.length = n * size ∧ ((v = .slice none 0 0 ∧ n = 0) ∨
    ∃ g cap cur, v = .slice (some ⟨g, 0, none⟩) n cap ∧ f.get g = some (.cells cur e (0, 0), true) ∧ n ≤ cap ∧ cap ≤ maxLen ∧ cur.size = cap * size ∧ cur.toList.take (n * size) = xs)

/-- What is known of an owned row: it is nil, or a block. -/
theorem holds.open_own {w : World} {l : List HProp} {e : TypeId} {size n : Nat} {v : Value} {xs : List Value} (h : holds w (ownRow e size v n xs :: l)) :
    xs.length = n * size ∧ ((v = .slice none 0 0 ∧ n = 0 ∧ xs = [] ∧ holds w l) ∨
    ∃ g cap cur, v = .slice (some ⟨g, 0, none⟩) n cap ∧ n ≤ cap ∧ cap ≤ maxLen ∧ cur.size = cap * size ∧ cur.toList.take (n * size) = xs ∧ holds w (blk g (.cells cur e (0, 0)) :: l)) := by
  have ht := h.tail
  obtain ⟨f, hf, f1, f2, ⟨hl, ha⟩, hs, j⟩ := h
  refine ⟨hl, ?_⟩
  rcases ha with ⟨rfl, rfl⟩ | ⟨g, cap, cur, rfl, hg, h1, h2, h3, h4⟩
  · exact .inl ⟨rfl, rfl, List.eq_nil_of_length_eq_zero (by simpa using hl), ht⟩
  · exact .inr ⟨g, cap, cur, rfl, h1, h2, h3, h4, f, hf, f1, f2, hg, hs, j⟩

theorem holds.mkRow {w : World} {l : List HProp} {e : TypeId} {size n g cap : Nat} {cur : Array Value} (h : holds w (blk g (.cells cur e (0, 0)) :: l)) (h1 : n ≤ cap) (h2 : cap ≤ maxLen) (h3 : cur.size = cap * size) :
    holds w (ownRow e size (.slice (some ⟨g, 0, none⟩) n cap) n (cur.toList.take (n * size)) :: l) := by
  refine h.mono fun f hf => ⟨?_, .inr ⟨g, cap, cur, rfl, hf, h1, h2, h3, rfl⟩⟩
  rw [List.length_take, Array.length_toList, h3]
  exact Nat.min_eq_left (Nat.mul_le_mul_right _ h1)

/-- The slice v has n elements of size cells each, which are xs, in w. -/
def reads (w : World) (size : Nat) (v : Value) (n : Nat) (xs : List Value) : Prop :=
  xs.length = n * size ∧ ∃ a cap, v = .slice a n cap ∧ n ≤ cap ∧ (n * size = 0 ∨ ∃ b off, a = some ⟨b, off, none⟩ ∧ ∀ i, i < n * size → w.cell? ⟨b, off + i, none⟩ = xs[i]?)

theorem holds.ownReads {w : World} {l : List HProp} {e : TypeId} {size n : Nat} {v : Value} {xs : List Value} (h : holds w (ownRow e size v n xs :: l)) : reads w size v n xs := by
  obtain ⟨hl, ha⟩ := h.open_own
  refine ⟨hl, ?_⟩
  rcases ha with ⟨rfl, rfl, _, _⟩ | ⟨g, cap, cur, rfl, h1, h2, h3, h4, hb⟩
  · exact ⟨none, 0, rfl, Nat.le_refl _, .inl (by simp)⟩
  · refine ⟨_, cap, rfl, h1, .inr ⟨g, 0, rfl, fun i hi => ?_⟩⟩
    rw [cell_of_row w g (0 + i) cur e (0, 0) hb.get_blk, ← h4, List.getElem?_take]
    simp [hi]

/-- .. for reading. -/
def roRow (size : Nat) (v : Value) (n : Nat) (xs : List Value) : HProp := fun f =>
  xs.length = n * size ∧ ∃ a cap, v = .slice a n cap ∧ n ≤ cap ∧ (n * size = 0 ∨
    ∃ g off cur e fz, a = some ⟨g, off, none⟩ ∧ f.get g = some (.cells cur e fz, false) ∧ off + n * size ≤ cur.size ∧ (cur.toList.drop off).take (n * size) = xs)

theorem holds.open_ro {w : World} {l : List HProp} {size n : Nat} {v : Value} {xs : List Value} (h : holds w (roRow size v n xs :: l)) :
    xs.length = n * size ∧ ∃ a cap, v = .slice a n cap ∧ n ≤ cap ∧ ((n * size = 0 ∧ xs = [] ∧ holds w l) ∨
    ∃ g off cur e fz, a = some ⟨g, off, none⟩ ∧ off + n * size ≤ cur.size ∧ (cur.toList.drop off).take (n * size) = xs ∧ holds w (ro g (.cells cur e fz) :: l)) := by
  have ht := h.tail
  obtain ⟨f, hf, f1, f2, ⟨hl, a, cap, rfl, hc, ha⟩, hs, j⟩ := h
  refine ⟨hl, a, cap, rfl, hc, ?_⟩
  rcases ha with h0 | ⟨g, off, cur, e, fz, rfl, hg, h1, h2⟩
  · exact .inl ⟨h0, List.eq_nil_of_length_eq_zero (by rw [hl, h0]), ht⟩
  · exact .inr ⟨g, off, cur, e, fz, rfl, h1, h2, f, hf, f1, f2, hg, hs, j⟩

theorem holds.roReads {w : World} {l : List HProp} {size n : Nat} {v : Value} {xs : List Value} (h : holds w (roRow size v n xs :: l)) : reads w size v n xs := by
  obtain ⟨hl, a, cap, rfl, hc, ha⟩ := h.open_ro
  refine ⟨hl, a, cap, rfl, hc, ?_⟩
  rcases ha with ⟨h0, _⟩ | ⟨g, off, cur, e, fz, rfl, h3, h4, hb⟩
  · exact .inl h0
  · refine .inr ⟨g, off, rfl, fun i hi => ?_⟩
    rw [cell_of_row w g (off + i) cur e fz hb.get_ro, ← h4, List.getElem?_take]
    simp [hi, List.getElem?_drop]

theorem reads.form {w : World} {size n : Nat} {v : Value} {xs : List Value} (h : reads w size v n xs) : ∃ a cap, v = .slice a n cap ∧ n ≤ cap := by
  obtain ⟨_, a, cap, rfl, hc, _⟩ := h
  exact ⟨a, cap, rfl, hc⟩

theorem reads.cells {w : World} {size n : Nat} {v : Value} {xs : List Value} (h : reads w size v n xs) (h0 : 0 < n * size) :
    ∃ b off cap, v = .slice (some ⟨b, off, none⟩) n cap ∧ n ≤ cap ∧ ∀ i, i < n * size → w.cell? ⟨b, off + i, none⟩ = xs[i]? := by
  obtain ⟨_, a, cap, rfl, hc, h1 | ⟨b, off, rfl, h2⟩⟩ := h
  · omega
  · exact ⟨b, off, cap, rfl, hc, h2⟩

theorem reads.below {w w' : World} {size n : Nat} {v : Value} {xs : List Value} (h : reads w size v n xs) (hb : Below w.heap.size w w') : reads w' size v n xs := by
  obtain ⟨hl, a, cap, rfl, hc, h2⟩ := h
  refine ⟨hl, a, cap, rfl, hc, ?_⟩
  rcases h2 with h0 | ⟨b, off, rfl, h2⟩
  · exact .inl h0
  · refine .inr ⟨b, off, rfl, fun i hi => ?_⟩
    have h3 := h2 i hi
    rw [List.getElem?_eq_getElem (by rw [hl]; exact hi)] at h3 ⊢
    rw [hb.cell (World.block_lt_of_cell? w _ h3)]
    exact h3

/-! ### append -/
section
variable {P : Program} {w : World} {l : List HProp}

theorem madeSize (z : Array Value) (n : Nat) : (Builtin.zeroCells z n).size = n * z.size := by simp [Builtin.zeroCells]

/-- append(v, src...) of an owned row. -/
theorem run_append_sl {t ty e : TypeId} {i : TypeInfo} {z : Value} {size bytes : Nat} (ht : P.underlying t = some (.slice e)) (hi : P.info? e = some i) (hz : i.zero = some z)
    (hsize : i.size = size) (hby : i.bytes = bytes) (hzs : z.cells.size = size) (hsz : 0 < size)
    {v : Value} {n : Nat} {xs : List Value} (hw : holds w (ownRow e size v n xs :: l))
    {a : Addr} {m c : Nat} {news : List Value} (hl : news.length = m * size) (hnews : ∀ j u, news[j]? = some u → w.cell? (a.add j) = some u) (h1 : ∀ u ∈ news, u.oneCell' = true)
    (h63 : n + m ≤ maxLen) (hbytes : (n + m) * bytes ≤ 140737488355328) (h0 : 0 < m) :
    ∃ v' w', (Builtin.append_ #[t, t] ty #[v, .slice (some a) m c]).run P w = .ok v' w' ∧ holds w' (ownRow e size v' (n + m) (xs ++ news) :: l) := by
  subst hsize
  subst hby
  have hsmall : n + m ≤ 9223372036854775807 := by simp only [maxLen] at h63; omega
  obtain ⟨hlx, ha⟩ := hw.open_own
  have grown : ∀ (old : Nat), old < n + m → holds w l →
      holds (w.drew.alloc (.cells (xs.toArray ++ news.toArray ++ Builtin.zeroCells z.cells (grownCap w (n + m) old e - (n + m))) e))
        (ownRow e i.size (.slice (some ⟨w.heap.size, 0, none⟩) (n + m) (grownCap w (n + m) old e)) (n + m) (xs ++ news) :: l) := by
    intro old ho hh
    have hge := grownCap_ge w (n + m) old e
    have hcm : grownCap w (n + m) old e ≤ maxLen := grownCap_le_maxLen w (n + m) old e h63
    have h2 := (hh.drew.alloc (.cells (xs.toArray ++ news.toArray ++ Builtin.zeroCells z.cells (grownCap w (n + m) old e - (n + m))) e (0, 0))).mkRow (size := i.size) (n := n + m) (cap := grownCap w (n + m) old e) hge hcm (by
      simp only [Array.size_append, List.size_toArray, madeSize, hzs, hlx, hl, ← Nat.add_mul]
      congr 1
      omega)
    have h3 : (xs.toArray ++ news.toArray ++ Builtin.zeroCells z.cells (grownCap w (n + m) old e - (n + m))).toList.take ((n + m) * i.size) = xs ++ news := by
      simp only [Array.toList_append]
      have : (xs ++ news).length = (n + m) * i.size := by rw [List.length_append, hlx, hl, Nat.add_mul]
      rw [← this]
      exact List.take_left
    rw [h3] at h2
    exact h2
  rcases ha with ⟨rfl, rfl, rfl, hh⟩ | ⟨g, cap, cur, rfl, hnc, hcm, hcs, htake, hb⟩
  · have hr := run_append_nil (P := P) w t ty e i z ht hi hz a m c news hl hnews h0 (by omega) (by have hb := hbytes; simp only [Nat.zero_add] at hb; omega)
    have hgr := grown 0 (by omega) hh
    simp only [Nat.zero_add, List.nil_append, Array.empty_append] at hgr ⊢
    exact ⟨_, _, hr, hgr⟩
  · by_cases hroom : n + m ≤ cap
    · have hfit : n * i.size + news.length ≤ cur.size := by rw [hl, hcs, ← Nat.add_mul]; exact Nat.mul_le_mul_right _ hroom
      have hr := run_append_room (P := P) w t ty e i ht hi g n cap cur hb.get_blk a m c news hl hnews h1 hroom hfit
      refine ⟨_, _, hr, ?_⟩
      have h2 := hb.turn (w' := w.setRow g (cur.toList.take (n * i.size) ++ news ++ cur.toList.drop (n * i.size + news.length)).toArray) ⟨rfl, rfl, rfl, by simp, fun k _ hk => setRow_other w g k _ (fun e => hk (by simp [e]))⟩ (setRow_heap w g cur _ e _ hb.get_blk)
      have h3 := h2.mkRow (size := i.size) (n := n + m) (cap := cap) hroom hcm (by
        simp only [List.size_toArray, List.length_append, List.length_take, List.length_drop, Array.length_toList]
        omega)
      have h4 : ((cur.toList.take (n * i.size) ++ news ++ cur.toList.drop (n * i.size + news.length)).toArray).toList.take ((n + m) * i.size) = xs ++ news := by
        rw [htake]
        have : (xs ++ news).length = (n + m) * i.size := by rw [List.length_append, hlx, hl, Nat.add_mul]
        rw [← this]
        exact List.take_left
      rw [h4] at h3
      exact h3
    · have hold : ∀ j u, xs[j]? = some u → w.cell? ((⟨g, 0, none⟩ : Addr).add j) = some u := by
        intro j u hu
        have hadd : (⟨g, 0, none⟩ : Addr).add j = ⟨g, j, none⟩ := by unfold Addr.add; split <;> simp_all
        rw [hadd, cell_of_row w g j cur e (0, 0) hb.get_blk]
        rw [← htake, List.getElem?_take] at hu
        split at hu
        · simpa using hu
        · cases hu
      have hr := run_append_grow (P := P) w t ty e i z ht hi hz ⟨g, 0, none⟩ n cap xs hlx hold a m c news hl hnews (by omega) (by omega) (growslice_fits (by omega) hbytes)
      exact ⟨_, _, hr, grown cap (by omega) hb.tail⟩

/-- make([]T, n). -/
theorem run_make_sl {t e : TypeId} {i : TypeInfo} {z : Value} {size : Nat} (ht : P.underlying t = some (.slice e)) (hi : P.info? e = some i) (hz : i.zero = some z) (hsize : i.size = size)
    (hw : holds w l) (kl kc : IntKind) {x c : Int} (h0 : 0 ≤ x) (hxc : x ≤ c) (hbytes : (i.bytes : Int) * c ≤ 281474976710656) (h63 : c ≤ 9223372036854775807) :
    (Instr.makeSlice t (.int kl x) (.int kc c)).run P w = .ok (.slice (some ⟨w.heap.size, 0, none⟩) x.toNat c.toNat) (w.alloc (.cells (madeCells z.cells (c.toNat * size)) e)) ∧
    holds (w.alloc (.cells (madeCells z.cells (c.toNat * size)) e)) (ownRow e size (.slice (some ⟨w.heap.size, 0, none⟩) x.toNat c.toNat) x.toNat ((madeCells z.cells (c.toNat * size)).toList.take (x.toNat * size)) :: l) := by
  subst hsize
  refine ⟨run_make (P := P) w t e i z ht hi hz kl kc x c h0 hxc hbytes h63, ?_⟩
  exact (hw.alloc (.cells (madeCells z.cells (c.toNat * i.size)) e (0, 0))).mkRow (size := i.size) (by omega) (by unfold maxLen; omega) (size_madeCells _ _)

end

/-! ### Maps keyed by ints: the entries in their order -/
def alFind {β : Type} (k : Int) : List (Int × β) → Nat → Option (Nat × β)
  | [], _ => none
  | (k', v) :: m, i => if k = k' then some (i, v) else alFind k m (i + 1)
def alGet {β : Type} (m : List (Int × β)) (k : Int) : Option β := (alFind k m 0).map (·.2)
def alSet {β : Type} (m : List (Int × β)) (k : Int) (v : β) : List (Int × β) :=
  match m with
  | [] => [(k, v)]
  | (k', v') :: m => if k = k' then (k, v) :: m else (k', v') :: alSet m k v
def alDel {β : Type} (m : List (Int × β)) (k : Int) : List (Int × β) :=
  match m with
  | [] => []
  | (k', v') :: m => if k = k' then m else (k', v') :: alDel m k

def kv {β : Type} (enc : β → Value) (p : Int × β) : Value × Value := (.int .i64 p.1, enc p.2)

/-- Block b is a map whose entries are m. -/
def imap {β : Type} (enc : β → Value) (b : Nat) (m : List (Int × β)) : HProp := fun f =>
  ∃ es clock, (es.toList.map (fun e => (e.key, e.val)) = m.map (kv enc) ∧ Stamped es clock) ∧ blk b (.map es clock) f

theorem findNow_int {β : Type} (enc : β → Value) (k : Int) : ∀ (es : List MapEntry) (m : List (Int × β)) (i : Nat), es.map (fun e => (e.key, e.val)) = m.map (kv enc) →
    Instr.findNow (.int .i64) (.int .i64 k) es i = some ((alFind k m i).map fun p => (p.1, enc p.2))
  | [], [], _, _ => rfl
  | [], _ :: _, _, h => by simp at h
  | _ :: _, [], _, h => by simp at h
  | e :: es, (k', v) :: m, i, h => by
    simp only [List.map_cons, List.cons.injEq, kv, Prod.mk.injEq] at h
    obtain ⟨⟨h1, h2⟩, h3⟩ := h
    have ih := findNow_int enc k es m (i + 1) h3
    by_cases hk : k = k'
    · subst hk; simp [Instr.findNow, h1, h2, Instr.sameNow, alFind]
    · have hb : (k == k') = false := by simpa using hk
      simp [Instr.findNow, h1, Instr.sameNow, alFind, hb, hk, ih]

theorem alFind_shift {β : Type} (k : Int) : ∀ (m : List (Int × β)) (i : Nat), alFind k m (i + 1) = (alFind k m i).map fun p => (p.1 + 1, p.2)
  | [], _ => rfl
  | (k', v) :: m, i => by
    unfold alFind
    split
    · rfl
    · exact alFind_shift k m (i + 1)

theorem alFind_spec {β : Type} (k : Int) : ∀ (m : List (Int × β)) (j : Nat) (v : β), alFind k m 0 = some (j, v) → m[j]? = some (k, v) ∧ (∀ v', alSet m k v' = m.set j (k, v')) ∧ alDel m k = m.eraseIdx j
  | [], _, _, h => by simp [alFind] at h
  | (k', v') :: m, j, v, h => by
    unfold alFind at h
    split at h
    · rename_i hk; subst hk; cases h; simp [alSet, alDel]
    · rename_i hk
      rw [alFind_shift] at h
      simp only [Option.map_eq_some_iff, Prod.mk.injEq] at h
      obtain ⟨⟨j', u⟩, h1, rfl, rfl⟩ := h
      obtain ⟨g1, g2, g3⟩ := alFind_spec k m j' u h1
      exact ⟨by simpa using g1, fun w => by simp [alSet, hk, g2], by simp [alDel, hk, g3]⟩

theorem alFind_none {β : Type} (k : Int) : ∀ (m : List (Int × β)), alFind k m 0 = none → (∀ p ∈ m, p.1 ≠ k) ∧ (∀ v', alSet m k v' = m ++ [(k, v')]) ∧ alDel m k = m
  | [], _ => by simp [alSet, alDel]
  | (k', v') :: m, h => by
    unfold alFind at h
    split at h
    · cases h
    · rename_i hk
      rw [alFind_shift] at h
      simp only [Option.map_eq_none_iff] at h
      obtain ⟨g1, g2, g3⟩ := alFind_none k m h
      refine ⟨?_, fun w => by simp [alSet, hk, g2], by simp [alDel, hk, g3]⟩
      intro p hp
      rcases List.mem_cons.1 hp with rfl | hp
      · exact fun e => hk e.symm
      · exact g1 p hp

def alKeys {β : Type} (m : List (Int × β)) : List Int := m.map (·.1)
section
variable {P : Program} {w : World} {l : List HProp} {β : Type} {enc : β → Value} {b : Nat} {m : List (Int × β)}

theorem holds.open_map (h : holds w (imap enc b m :: l)) : ∃ es clock, es.toList.map (fun e => (e.key, e.val)) = m.map (kv enc) ∧ Stamped es clock ∧ holds w (blk b (.map es clock) :: l) := by
  obtain ⟨es, h⟩ := h.open_ex
  obtain ⟨clock, h⟩ := h.open_ex
  obtain ⟨⟨h1, h2⟩, h3⟩ := h.open_pure
  exact ⟨es, clock, h1, h2, h3⟩

theorem holds.mkMap {es : Array MapEntry} {clock : Nat} (h : holds w (blk b (.map es clock) :: l)) (h1 : es.toList.map (fun e => (e.key, e.val)) = m.map (kv enc)) (h2 : Stamped es clock) : holds w (imap enc b m :: l) :=
  h.mono fun _ hf => ⟨es, clock, ⟨h1, h2⟩, hf⟩

theorem size_of_kv {es : Array MapEntry} (h : es.toList.map (fun e => (e.key, e.val)) = m.map (kv enc)) : es.size = m.length := by
  have := congrArg List.length h
  simpa using this

theorem run_len_sl {t k e ty : TypeId} (ht : P.underlying t = some (.map k e)) (h : holds w (imap enc b m :: l)) : (Builtin.len_ #[t] ty #[.map (some b)]).run P w = .ok (.int .i64 m.length) w := by
  obtain ⟨es, clock, h1, h2, h3⟩ := h.open_map
  simp [Builtin.len_, run_underlying ht, MapKept.run_getObj_map h3.get_blk, Result.andThen, goInt, size_of_kv h1]

theorem stamped_modify {es : Array MapEntry} {clock : Nat} (h : Stamped es clock) (i : Nat) (g : MapEntry → MapEntry) (hg : ∀ e, es[i]? = some e → (g e).born = e.born ∧ (g e).key = e.key) : Stamped (es.modify i g) clock := by
  obtain ⟨h1, h2, h3⟩ := h
  have hb : (es.modify i g).toList.map (·.born) = es.toList.map (·.born) := by
    apply List.ext_getElem?
    intro j
    simp only [List.getElem?_map, Array.getElem?_toList, Array.getElem?_modify]
    split
    · rename_i hj; subst hj
      cases he : es[i]? with
      | none => simp
      | some e => simp [(hg e he).1]
    · rfl
  have hk : (es.modify i g).toList.map (·.key) = es.toList.map (·.key) := by
    apply List.ext_getElem?
    intro j
    simp only [List.getElem?_map, Array.getElem?_toList, Array.getElem?_modify]
    split
    · rename_i hj; subst hj
      cases he : es[i]? with
      | none => simp
      | some e => simp [(hg e he).2]
    · rfl
  refine ⟨fun x hx => ?_, hb ▸ h2, hk ▸ h3⟩
  have : x.born ∈ (es.modify i g).toList.map (·.born) := List.mem_map.2 ⟨x, hx, rfl⟩
  rw [hb] at this
  obtain ⟨y, hy, hyx⟩ := List.mem_map.1 this
  rw [← hyx]; exact h1 y hy

theorem kv_modify {es : Array MapEntry} {j : Nat} {x : Int} {u v : β} (h : es.toList.map (fun e => (e.key, e.val)) = m.map (kv enc)) (hm : m[j]? = some (x, u)) (g : MapEntry → MapEntry) (hg : ∀ e, (g e).key = .int .i64 x ∧ (g e).val = enc v) :
    (es.modify j g).toList.map (fun e => (e.key, e.val)) = (m.set j (x, v)).map (kv enc) := by
  apply List.ext_getElem?
  intro i
  have hi := congrArg (fun l => l[i]?) h
  simp only [List.getElem?_map, Array.getElem?_toList, Array.getElem?_modify, List.getElem?_set] at hi ⊢
  by_cases hj : j = i
  · subst hj
    have hlt : j < m.length := (List.getElem?_eq_some_iff.1 hm).1
    have hes : ∃ e, es[j]? = some e := by
      rw [hm] at hi
      cases he : es[j]? with
      | none => simp [he] at hi
      | some e => exact ⟨e, rfl⟩
    obtain ⟨e, he⟩ := hes
    simp [he, hlt, kv, hg e]
  · simp [hj]
    simpa using hi

theorem run_mapUpdate_sl {t k e : TypeId} (ht : P.underlying t = some (.map k e)) (hk : P.underlying k = some (.int .i64))
    (h : holds w (imap enc b m :: l)) (x : Int) (v : β) :
    ∃ w', (Instr.mapUpdate t (.map (some b)) (.int .i64 x) (enc v)).run P w = .ok () w' ∧ holds w' (imap enc b (alSet m x v) :: l) := by
  obtain ⟨es, clock, h1, h2, h3⟩ := h.open_map
  have hf := findNow_int enc x es.toList m 0 h1
  have hck := run_checkKey (P := P) (w := w) (kt := k) (k := .int .i64 x) hk (by simp [IsKey]) false 9999
  cases hg : alFind x m 0 with
  | none =>
    obtain ⟨g1, g2, g3⟩ := alFind_none x m hg
    refine ⟨{ w with heap := w.heap.setIfInBounds b (.map (es.push { key := .int .i64 x, val := enc v, born := clock }) (clock + 1)) }, ?_, ?_⟩
    · simp [Instr.mapUpdate, run_underlying ht, MapKept.run_getObj_map h3.get_blk, hck, Instr.findKey, run_underlying hk, hf, hg, MapKept.run_setObj_map _ h3.get_blk, Result.andThen]
    · have hlt : b < w.heap.size := (Array.getElem?_eq_some_iff.1 h3.get_blk).1
      have h4 := h3.turn (w' := { w with heap := w.heap.setIfInBounds b (.map (es.push { key := .int .i64 x, val := enc v, born := clock }) (clock + 1)) })
        ⟨rfl, rfl, rfl, by simp, fun i _ hi => by simp at hi; simp [Ne.symm hi]⟩ (o' := .map (es.push { key := .int .i64 x, val := enc v, born := clock }) (clock + 1)) (by simp [hlt])
      refine h4.mkMap (by simp [g2, h1, kv]) (stamped_push h2 fun y hy he => ?_)
      have : (y.key, y.val) ∈ m.map (kv enc) := by rw [← h1]; exact List.mem_map.2 ⟨y, hy, rfl⟩
      obtain ⟨p, hp, hpe⟩ := List.mem_map.1 this
      simp only [kv, Prod.mk.injEq] at hpe
      rw [he] at hpe
      exact g1 p hp (by simpa using hpe.1)
  | some p =>
    obtain ⟨j, u⟩ := p
    obtain ⟨g1, g2, g3⟩ := alFind_spec x m j u hg
    have hes : ∃ e, es[j]? = some e ∧ e.key = .int .i64 x := by
      have hi := congrArg (fun l => l[j]?) h1
      simp only [List.getElem?_map, Array.getElem?_toList, g1, Option.map_some] at hi
      cases he : es[j]? with
      | none => simp [he] at hi
      | some e => simp [he, kv] at hi; exact ⟨e, rfl, hi.1⟩
    obtain ⟨e0, he0, hk0⟩ := hes
    refine ⟨{ w with heap := w.heap.setIfInBounds b (.map (es.modify j fun e => { e with key := .int .i64 x, val := enc v }) clock) }, ?_, ?_⟩
    · simp [Instr.mapUpdate, run_underlying ht, MapKept.run_getObj_map h3.get_blk, hck, Instr.findKey, run_underlying hk, hf, hg, MapKept.run_setObj_map _ h3.get_blk, Result.andThen, Instr.keyThatStays, he0, hk0, Instr.sameBits]
    · have hlt : b < w.heap.size := (Array.getElem?_eq_some_iff.1 h3.get_blk).1
      have h4 := h3.turn (w' := { w with heap := w.heap.setIfInBounds b (.map (es.modify j fun e => { e with key := .int .i64 x, val := enc v }) clock) })
        ⟨rfl, rfl, rfl, by simp, fun i _ hi => by simp at hi; simp [Ne.symm hi]⟩ (o' := .map (es.modify j fun e => { e with key := .int .i64 x, val := enc v }) clock) (by simp [hlt])
      refine h4.mkMap (by rw [g2]; exact kv_modify h1 g1 _ fun e => ⟨rfl, rfl⟩) (stamped_modify h2 j _ fun e he => ?_)
      rw [he0] at he; cases he
      exact ⟨rfl, hk0.symm⟩

end

/-! ### The laws at the operation -/
section
variable {P : Program} {ops : Array Oper} {rest : List Oper} {o : Oper} {a : Act} {Q : Exit → Act → World → Prop} {w : World} {l : List HProp} {β : Type} {enc : β → Value} {b : Nat} {M : List (Int × β)}

theorem wpList_mapUpdate_sl (hg : o.guard = none) (hd : o.dst = none) (m x v : Operand) (t : TypeId) (hop : o.op = .mapUpdate t m x v) {k e : TypeId} (ht : P.underlying t = some (.map k e)) (hk : P.underlying k = some (.int .i64))
    (hm : a.eval m = .map (some b)) (key : Int) (val : β) (hx : a.eval x = .int .i64 key) (hv : a.eval v = enc val) (h : holds w (imap enc b M :: l))
    (hK : ∀ w', holds w' (imap enc b (alSet M key val) :: l) → wpList P ops Q rest a w') : wpList P ops Q (o :: rest) a w := by
  refine wpList_plain hg fun K' hK' => ?_
  obtain ⟨w', hrun, r1⟩ := run_mapUpdate_sl (P := P) ht hk h key val
  unfold Oper.wp
  have hp : a.put o.dst undef = a := by simp [Act.put, hd]
  simp [execOp, hop, hm, hx, hv, hrun, Result.andThen]
  exact hK' _ _ (hp.symm ▸ hK w' r1)

theorem wpList_append_sl (hg : o.guard = none) (s x : Operand) (t : TypeId) (hop : o.op = .call { callee := .builtin .append, args := #[s, x], argTypes := #[t, t] })
    {e : TypeId} {i : TypeInfo} {z : Value} {size bytes : Nat} (ht : P.underlying t = some (.slice e)) (hi : P.info? e = some i) (hz : i.zero = some z)
    (hsize : i.size = size) (hby : i.bytes = bytes) (hzs : z.cells.size = size) (hsz : 0 < size)
    {v : Value} {n : Nat} {xs : List Value} (hs : a.eval s = v) (hw : holds w (ownRow e size v n xs :: l))
    {ad : Addr} {m c : Nat} {news : List Value} (hx : a.eval x = .slice (some ad) m c) (hl : news.length = m * size) (hnews : ∀ j u, news[j]? = some u → w.cell? (ad.add j) = some u) (h1 : ∀ u ∈ news, u.oneCell' = true)
    (h63 : n + m ≤ maxLen) (hbytes : (n + m) * bytes ≤ 140737488355328) (h0 : 0 < m)
    (hK : ∀ v' w', holds w' (ownRow e size v' (n + m) (xs ++ news) :: l) → wpList P ops Q rest (a.put o.dst v') w') : wpList P ops Q (o :: rest) a w := by
  refine wpList_plain hg fun K' hK' => ?_
  obtain ⟨v', w', hrun, r1⟩ := run_append_sl (P := P) (ty := o.type) (c := c) ht hi hz hsize hby hzs hsz hw hl hnews h1 h63 hbytes h0
  unfold Oper.wp execOp
  simp only [hop, resolve, invoke, builtin, Sem.run_bind, Sem.run_pure, Result.andThen_ok, List.map_toArray, List.map_cons, List.map_nil, hs, hx, hrun]
  exact hK' _ _ (hK v' w' r1)

/-- A store of a whole value into an owned block. -/
theorem wpList_store_sl (hg : o.guard = none) (hd : o.dst = none) (t : TypeId) (x v : Operand) (hop : o.op = .store t x v) {off : Nat} {c : Array Value} {e : TypeId} (val : Value)
    (hx : a.eval x = .pointer (some ⟨b, off, none⟩)) (hv : a.eval v = val) (hsz : (P.info? t).map (·.size) = some val.cells.size) (h1 : ∀ u ∈ val.cells.toList, u.oneCell' = true)
    (h : holds w (blk b (.cells c e (0, 0)) :: l)) (hoff : off + val.cells.size ≤ c.size)
    (hK : ∀ w', holds w' (blk b (.cells (c.toList.take off ++ val.cells.toList ++ c.toList.drop (off + val.cells.size)).toArray e (0, 0)) :: l) → wpList P ops Q rest a w') : wpList P ops Q (o :: rest) a w := by
  refine wpList_plain hg fun K' hK' => ?_
  have hr := run_storeCells_at (P := P) b off e val.cells.toList 0 c w h.get_blk (by simpa using hoff) h1
  have hp : a.put o.dst undef = a := by simp [Act.put, hd]
  have hrun : (storeVar t ⟨b, off, none⟩ val).run P w = .ok () (w.setRow b (c.toList.take off ++ val.cells.toList ++ c.toList.drop (off + val.cells.size)).toArray) := by
    cases hq : P.info? t with
    | none => simp [hq] at hsz
    | some i =>
      have hs : i.size = val.cells.size := by simpa [hq] using hsz
      simp [storeVar, sizeOf, typeInfo, hq, hs]
      simpa using hr
  unfold Oper.wp
  simp [execOp, hop, hx, hv, Instr.storeAt, Instr.sureAddr, hrun, Result.andThen]
  have h2 := h.turn (w' := w.setRow b (c.toList.take off ++ val.cells.toList ++ c.toList.drop (off + val.cells.size)).toArray) ⟨rfl, rfl, rfl, by simp, fun k _ hk => setRow_other w b k _ (fun e => hk (by simp [e]))⟩ (setRow_heap w b c _ e _ h.get_blk)
  have h3 := hK _ h2
  refine hK' _ _ ?_
  rw [hp]
  simpa using h3

/-- .. of a value of one cell. -/
theorem wpList_store1_sl (hg : o.guard = none) (hd : o.dst = none) (t : TypeId) (x v : Operand) (hop : o.op = .store t x v) {off : Nat} {c : Array Value} {e : TypeId} (val : Value)
    (hx : a.eval x = .pointer (some ⟨b, off, none⟩)) (hv : a.eval v = val) (hsz : (P.info? t).map (·.size) = some 1) (hc : val.cells = #[val]) (h1 : val.oneCell' = true)
    (h : holds w (blk b (.cells c e (0, 0)) :: l)) (hoff : off < c.size)
    (hK : ∀ w', holds w' (blk b (.cells (c.setIfInBounds off val) e (0, 0)) :: l) → wpList P ops Q rest a w') : wpList P ops Q (o :: rest) a w := by
  refine wpList_store_sl hg hd t x v hop val hx hv (by simpa [hc] using hsz) (by simpa [hc] using h1) h (by simp [hc]; omega) fun w' hw' => hK w' ?_
  have : (c.toList.take off ++ val.cells.toList ++ c.toList.drop (off + val.cells.size)).toArray = c.setIfInBounds off val := by
    apply Array.ext'
    simp only [hc, Array.toList_setIfInBounds, List.size_toArray, List.length_singleton]
    rw [List.set_eq_take_append_cons_drop, if_pos (by simpa using hoff)]
    simp
  rw [this] at hw'
  exact hw'

end

end Go.Proofs.YtlcdaalalihaiaaGreat
end
section
namespace Go.Proofs.YtlcdaalalihaiaaGreat
open Go Go.RowKit Go.MapKept
set_option maxRecDepth 100000

def ints (l : List Int) : List Value := l.map (.int .i64)
def ownInts (v : Value) (l : List Int) : HProp := ownRow 3 1 v l.length (ints l)

theorem cellAt {w : World} {b : Nat} {cs : Array Value} {t : TypeId} {fr : Nat × Nat} (h : w.heap[b]? = some (.cells cs t fr)) (j : Nat) : w.cell? ⟨b, j, none⟩ = cs[j]? := cell_of_row w b j cs t fr h

/-! ### A region that draws its order, whose operations only read and whose calls keep the pieces -/
/-- A world in which the pieces of F lie. -/
structure Hold (F : List HProp) where
  w : World
  h : holds w F

/-- The same, outside such a region. -/
theorem Calls.hold {P : Program} {f : FuncId} {args : Array Value} {w : World} {v : Value} {F : List HProp}
    (h : Calls P f args w fun e w' => e = .returned v ∧ holds w' F) : Calls P f args w fun e w'' => ∃ p : Hold F, e = .returned v ∧ w'' = p.w :=
  h.mono fun _ w' ⟨he, hh⟩ => ⟨⟨w', hh⟩, he, rfl⟩

/-- A slice of ints, for reading. -/
def roInts (v : Value) (l : List Int) : HProp := roRow 1 v l.length (ints l)
end Go.Proofs.YtlcdaalalihaiaaGreat
end
