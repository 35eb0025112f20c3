/- A small logic of memory pieces: 'holds w l' says that the world w's blocks can be shared out among the pieces of the list l; a piece owns a block alone, or shares it for reading. -/
import Derived.WalkKit
import Derived.ProofKit
import Derived.Deep.Draws
namespace Go.Proofs.YtpkohkkkbnfigaaDoor
open Go Go.RowKit

/-- A fragment of a world: some blocks, each owned (true) or shared for reading (false), and what of the streams is as it was. -/
structure Frag where
  os : Os
  tape : Nat → Question → Nat
  output : Array (Nat × ByteArray)
  get : Nat → Option (Obj × Bool)

abbrev HProp := Frag → Prop

/-- Two fragments make a third one. -/
structure Joins (a b c : Frag) : Prop where
  os1 : a.os = c.os
  os2 : b.os = c.os
  tape1 : a.tape = c.tape
  tape2 : b.tape = c.tape
  out1 : a.output = c.output
  out2 : b.output = c.output
  at_ : ∀ k, (a.get k = none ∧ b.get k = c.get k) ∨ (b.get k = none ∧ a.get k = c.get k) ∨ (∃ o, a.get k = some (o, false) ∧ b.get k = some (o, false) ∧ c.get k = some (o, false))

theorem Joins.symm {a b c : Frag} (h : Joins a b c) : Joins b a c :=
  ⟨h.os2, h.os1, h.tape2, h.tape1, h.out2, h.out1, fun k => by
    rcases h.at_ k with h | h | ⟨o, h1, h2, h3⟩
    · exact .inr (.inl h)
    · exact .inl h
    · exact .inr (.inr ⟨o, h2, h1, h3⟩)⟩

/-- What the union of two fragments that agree is. -/
def Frag.union (a b : Frag) : Frag := { a with get := fun k => (a.get k).or (b.get k) }

theorem joins_opt (a b ab c d : Option (Obj × Bool))
    (h : (a = none ∧ b = ab) ∨ (b = none ∧ a = ab) ∨ (∃ o, a = some (o, false) ∧ b = some (o, false) ∧ ab = some (o, false)))
    (h' : (ab = none ∧ c = d) ∨ (c = none ∧ ab = d) ∨ (∃ o, ab = some (o, false) ∧ c = some (o, false) ∧ d = some (o, false))) :
    ∃ bc, bc = b.or c ∧ ((b = none ∧ c = bc) ∨ (c = none ∧ b = bc) ∨ (∃ o, b = some (o, false) ∧ c = some (o, false) ∧ bc = some (o, false))) ∧
      ((a = none ∧ bc = d) ∨ (bc = none ∧ a = d) ∨ (∃ o, a = some (o, false) ∧ bc = some (o, false) ∧ d = some (o, false))) := by
  refine ⟨_, rfl, ?_⟩
  rcases h with ⟨rfl, rfl⟩ | ⟨rfl, rfl⟩ | ⟨o, rfl, rfl, rfl⟩ <;> rcases h' with ⟨h1, rfl⟩ | ⟨rfl, rfl⟩ | ⟨o', h1, rfl, rfl⟩ <;>
    (first | (cases h1; simp; done) | (subst h1; simp; done) | (cases b <;> simp_all; done) | simp_all)

/-- a + b = ab, ab + c = d  gives  b + c = bc, a + bc = d. -/
theorem Joins.assoc {a b ab c d : Frag} (h : Joins a b ab) (h' : Joins ab c d) : ∃ bc, Joins b c bc ∧ Joins a bc d := by
  refine ⟨b.union c, ⟨rfl, ?_, rfl, ?_, rfl, ?_, fun k => ?_⟩, ⟨?_, ?_, ?_, ?_, ?_, ?_, fun k => ?_⟩⟩
  · exact h'.os2.trans (h'.os1.symm.trans h.os2.symm)
  · exact h'.tape2.trans (h'.tape1.symm.trans h.tape2.symm)
  · exact h'.out2.trans (h'.out1.symm.trans h.out2.symm)
  · obtain ⟨_, rfl, h1, _⟩ := joins_opt _ _ _ _ _ (h.at_ k) (h'.at_ k); exact h1
  · exact h.os1.trans h'.os1
  · exact h.os2.trans h'.os1
  · exact h.tape1.trans h'.tape1
  · exact h.tape2.trans h'.tape1
  · exact h.out1.trans h'.out1
  · exact h.out2.trans h'.out1
  · obtain ⟨_, rfl, _, h1⟩ := joins_opt _ _ _ _ _ (h.at_ k) (h'.at_ k); exact h1

/-- The pieces of a list, side by side. -/
def sep : List HProp → HProp
  | [], _ => True
  | A :: l, f => ∃ f1 f2, A f1 ∧ sep l f2 ∧ Joins f1 f2 f

/-- The world's own fragment. -/
def Frag.of (f : Frag) (w : World) : Prop :=
  f.os = w.os ∧ f.tape = w.tape ∧ f.output = w.output ∧ ∀ k o p, f.get k = some (o, p) → w.heap[k]? = some o

def holds (w : World) (l : List HProp) : Prop := ∃ f : Frag, f.of w ∧ sep l f

theorem sep_swap {A B : HProp} {l : List HProp} {f : Frag} (h : sep (A :: B :: l) f) : sep (B :: A :: l) f := by
  obtain ⟨f1, f2, ha, ⟨f3, f4, hb, hl, j2⟩, j1⟩ := h
  obtain ⟨bc, k1, k2⟩ := Joins.assoc j2 j1.symm
  exact ⟨f3, bc, hb, ⟨f1, f4, ha, hl, k1.symm⟩, k2⟩

theorem sep_cons_mono {A B : HProp} {l m : List HProp} (hA : ∀ f, A f → B f) (hl : ∀ f, sep l f → sep m f) {f : Frag} (h : sep (A :: l) f) : sep (B :: m) f := by
  obtain ⟨f1, f2, ha, h2, j⟩ := h
  exact ⟨f1, f2, hA _ ha, hl _ h2, j⟩

theorem sep_pick : ∀ (n : Nat) (l : List HProp) (A : HProp), l[n]? = some A → ∀ f, sep l f → sep (A :: l.eraseIdx n) f
  | 0, B :: l, A, h, f, hs => by simp at h; subst h; exact hs
  | n + 1, B :: l, A, h, f, hs => by
    have h' : l[n]? = some A := by simpa using h
    exact sep_swap (sep_cons_mono (fun _ x => x) (sep_pick n l A h') hs)
  | 0, [], A, h, f, hs => by simp at h
  | n + 1, [], A, h, f, hs => by simp at h

theorem sep_put : ∀ (n : Nat) (l : List HProp) (A : HProp), ∀ f, sep (A :: l) f → sep (l.take n ++ A :: l.drop n) f
  | 0, l, A, f, hs => by simpa using hs
  | n + 1, [], A, f, hs => by simpa using hs
  | n + 1, B :: l, A, f, hs => by
    have := sep_cons_mono (A := B) (B := B) (fun _ x => x) (sep_put n l A) (sep_swap hs)
    simpa using this

theorem sep_perm {l m : List HProp} (h : l.Perm m) : ∀ f, sep l f → sep m f := by
  induction h with
  | nil => exact fun _ h => h
  | cons x _ ih => exact fun f h => sep_cons_mono (fun _ h => h) ih h
  | swap x y l => exact fun f h => sep_swap h
  | trans _ _ ih1 ih2 => exact fun f h => ih2 _ (ih1 _ h)

theorem holds.perm {w : World} {l m : List HProp} (h : holds w l) (p : l.Perm m) : holds w m := let ⟨f, hf, hs⟩ := h; ⟨f, hf, sep_perm p f hs⟩

/-- The n-th piece to the head. -/
theorem holds.pick {w : World} {l : List HProp} (h : holds w l) (n : Nat) {A : HProp} (hA : l[n]? = some A := by rfl) : holds w (A :: l.eraseIdx n) :=
  let ⟨f, hf, hs⟩ := h; ⟨f, hf, sep_pick n l A hA f hs⟩
/-- The pieces in another order: 'is' tells which of the first ones comes where. -/
def reorder (l : List HProp) (is : List Nat) : List HProp := is.map (fun i => l.getD i (fun _ => True)) ++ l.drop is.length
theorem perm_range (l : List HProp) : ∀ n, n ≤ l.length → (List.range n).map (fun i => l.getD i (fun _ => True)) ++ l.drop n = l := by
  intro n hn
  have : (List.range n).map (fun i => l.getD i (fun _ => True)) = l.take n := by
    apply List.ext_getElem
    · simp; omega
    · intro i h1 h2
      simp only [List.length_map, List.length_range] at h1
      have : i < l.length := by omega
      simp [List.getD, this]
  rw [this, List.take_append_drop]
theorem holds.order {w : World} {l : List HProp} (h : holds w l) (is : List Nat) (hp : is.Perm (List.range is.length) := by decide) (hl : is.length ≤ l.length := by first | simp; done | simp [reorder]) : holds w (reorder l is) := by
  refine h.perm ?_
  unfold reorder
  have h1 := (hp.map (fun i => l.getD i (fun _ => True))).append_right (l.drop is.length)
  rw [perm_range l _ hl] at h1
  exact h1.symm
/-- The head to the n-th place behind. -/
theorem holds.put {w : World} {l : List HProp} {A : HProp} (h : holds w (A :: l)) (n : Nat) : holds w (l.take n ++ A :: l.drop n) :=
  let ⟨f, hf, hs⟩ := h; ⟨f, hf, sep_put n l A f hs⟩

theorem holds.tail {w : World} {l : List HProp} {A : HProp} (h : holds w (A :: l)) : holds w l := by
  obtain ⟨f, hf, f1, f2, ha, hl, j⟩ := h
  refine ⟨f2, ⟨j.os2.trans hf.1, j.tape2.trans hf.2.1, j.out2.trans hf.2.2.1, fun k o p hk => ?_⟩, hl⟩
  rcases j.at_ k with ⟨h1, h2⟩ | ⟨h1, h2⟩ | ⟨o', h1, h2, h3⟩
  · exact hf.2.2.2 k o p (h2 ▸ hk)
  · rw [h1] at hk; cases hk
  · rw [h2] at hk; cases hk; exact hf.2.2.2 k o false h3

theorem holds.mono {w : World} {l : List HProp} {A B : HProp} (h : holds w (A :: l)) (hA : ∀ f, A f → B f) : holds w (B :: l) :=
  let ⟨f, hf, hs⟩ := h; ⟨f, hf, sep_cons_mono hA (fun _ h => h) hs⟩

theorem holds.open_ex {w : World} {l : List HProp} {α : Sort _} {A : α → HProp} (h : holds w ((fun f => ∃ x, A x f) :: l)) : ∃ x, holds w (A x :: l) := by
  obtain ⟨f, hf, f1, f2, ⟨x, ha⟩, hl, j⟩ := h
  exact ⟨x, f, hf, f1, f2, ha, hl, j⟩

theorem holds.open_pure {w : World} {l : List HProp} {p : Prop} {A : HProp} (h : holds w ((fun f => p ∧ A f) :: l)) : p ∧ holds w (A :: l) := by
  obtain ⟨f, hf, f1, f2, ⟨x, ha⟩, hl, j⟩ := h
  exact ⟨x, f, hf, f1, f2, ha, hl, j⟩

theorem holds.nil (w : World) : holds w [] := ⟨⟨w.os, w.tape, w.output, fun _ => none⟩, ⟨rfl, rfl, rfl, by simp⟩, trivial⟩

theorem sep_sub : ∀ (m : List HProp) (a c : Frag) {b : Frag}, Joins a b c → sep m a → sep m c
  | [], _, _, _, _, _ => trivial
  | A :: m, a, c, b, j, ⟨f1, f2, ha, hm, j2⟩ => by
    obtain ⟨x, j3, j4⟩ := Joins.assoc j2 j
    exact ⟨f1, x, ha, sep_sub m f2 x j3 hm, j4⟩

/-- A list of pieces as one piece. -/
theorem sep_append : ∀ (l m : List HProp) (f : Frag), sep (l ++ m) f ↔ ∃ f1 f2, sep l f1 ∧ sep m f2 ∧ Joins f1 f2 f
  | [], m, f => by
    constructor
    · intro h
      exact ⟨⟨f.os, f.tape, f.output, fun _ => none⟩, f, trivial, h, ⟨rfl, rfl, rfl, rfl, rfl, rfl, fun _ => .inl ⟨rfl, rfl⟩⟩⟩
    · rintro ⟨f1, f2, _, h, j⟩
      exact sep_sub m f2 f j.symm h
  | A :: l, m, f => by
    constructor
    · rintro ⟨f1, f2, ha, h2, j⟩
      obtain ⟨g1, g2, hl, hm, j2⟩ := (sep_append l m f2).1 h2
      obtain ⟨x, j3, j4⟩ := Joins.assoc j2.symm j.symm
      exact ⟨x, g2, ⟨f1, g1, ha, hl, j3.symm⟩, hm, j4.symm⟩
    · rintro ⟨f1, f2, ⟨g1, g2, ha, hl, j2⟩, hm, j⟩
      obtain ⟨x, j3, j4⟩ := Joins.assoc j2 j
      exact ⟨g1, x, ha, (sep_append l m x).2 ⟨g2, f2, hl, hm, j3⟩, j4⟩

theorem holds_sep {w : World} {l m : List HProp} : holds w (sep l :: m) ↔ holds w (l ++ m) := by
  constructor
  · rintro ⟨f, hf, f1, f2, ha, hl, j⟩
    exact ⟨f, hf, (sep_append l m f).2 ⟨f1, f2, ha, hl, j⟩⟩
  · rintro ⟨f, hf, h⟩
    obtain ⟨f1, f2, ha, hl, j⟩ := (sep_append l m f).1 h
    exact ⟨f, hf, f1, f2, ha, hl, j⟩

/-! ### Blocks -/
/-- Block b is owned and is o. -/
def blk (b : Nat) (o : Obj) : HProp := fun f => f.get b = some (o, true)
/-- Block b is there for reading, and is o. -/
def ro (b : Nat) (o : Obj) : HProp := fun f => f.get b = some (o, false)

theorem holds.get_blk {w : World} {l : List HProp} {b : Nat} {o : Obj} (h : holds w (blk b o :: l)) : w.heap[b]? = some o := by
  obtain ⟨f, hf, f1, f2, ha, hl, j⟩ := h
  rcases j.at_ b with ⟨h1, h2⟩ | ⟨h1, h2⟩ | ⟨o', h1, h2, h3⟩
  · rw [blk, h1] at ha; cases ha
  · exact hf.2.2.2 b o true (h2 ▸ ha)
  · rw [blk, h1] at ha; cases ha
theorem holds.get_ro {w : World} {l : List HProp} {b : Nat} {o : Obj} (h : holds w (ro b o :: l)) : w.heap[b]? = some o := by
  obtain ⟨f, hf, f1, f2, ha, hl, j⟩ := h
  rcases j.at_ b with ⟨h1, h2⟩ | ⟨h1, h2⟩ | ⟨o', h1, h2, h3⟩
  · rw [ro, h1] at ha; cases ha
  · exact hf.2.2.2 b o false (h2 ▸ ha)
  · rw [ro, h1] at ha; cases ha; exact hf.2.2.2 b o false h3

theorem holds.lt {w : World} {l : List HProp} {b : Nat} {o : Obj} (h : holds w (blk b o :: l)) : b < w.heap.size := (Array.getElem?_eq_some_iff.1 h.get_blk).1

/-- What is read may be read twice. -/
theorem holds.dup {w : World} {l : List HProp} {b : Nat} {o : Obj} (h : holds w (ro b o :: l)) : holds w (ro b o :: ro b o :: l) := by
  obtain ⟨f, hf, f1, f2, ha, hl, j⟩ := h
  let g : Frag := { f1 with get := fun k => if k = b then some (o, false) else none }
  refine ⟨f, hf, g, f, by simp [ro, g], ⟨f1, f2, ha, hl, j⟩, ⟨j.os1, rfl, j.tape1, rfl, j.out1, rfl, fun k => ?_⟩⟩
  by_cases hk : k = b
  · subst hk
    refine .inr (.inr ⟨o, by simp [g], ?_, ?_⟩)
    all_goals
      rcases j.at_ k with ⟨h1, h2⟩ | ⟨h1, h2⟩ | ⟨o', h1, h2, h3⟩
      · rw [ro, h1] at ha; cases ha
      · rw [← h2]; exact ha
      · rw [ro, h1] at ha; cases ha; exact h3
  · exact .inl ⟨by simp [g, hk], rfl⟩

/-- What is owned may be shared from now on. -/
theorem holds.share {w : World} {l : List HProp} {b : Nat} {o : Obj} (h : holds w (blk b o :: l)) : holds w (ro b o :: l) := by
  obtain ⟨f, hf, f1, f2, ha, hl, j⟩ := h
  have hb : f2.get b = none ∧ f1.get b = f.get b := by
    rcases j.at_ b with ⟨h1, h2⟩ | h | ⟨o', h1, h2, h3⟩
    · rw [blk, h1] at ha; cases ha
    · exact h
    · rw [blk, h1] at ha; cases ha
  refine ⟨{ f with get := fun k => if k = b then some (o, false) else f.get k }, ⟨hf.1, hf.2.1, hf.2.2.1, fun k o' p hk => ?_⟩,
    { f1 with get := fun k => if k = b then some (o, false) else f1.get k }, f2, by simp [ro], hl, ⟨j.os1, j.os2, j.tape1, j.tape2, j.out1, j.out2, fun k => ?_⟩⟩
  · by_cases hkb : k = b
    · subst hkb; simp at hk; obtain ⟨rfl, rfl⟩ := hk
      exact hf.2.2.2 k o true (hb.2 ▸ ha)
    · simp [hkb] at hk; exact hf.2.2.2 k o' p hk
  · by_cases hkb : k = b
    · subst hkb; exact .inr (.inl ⟨hb.1, by simp⟩)
    · simpa [hkb] using j.at_ k

/-- A step of the world: new blocks; of the old ones b alone may have turned. -/
theorem holds.turn {w w' : World} {l : List HProp} {b : Nat} {o o' : Obj} (h : holds w (blk b o :: l)) (hg : w.grownBy w' (some b)) (hb : w'.heap[b]? = some o') : holds w' (blk b o' :: l) := by
  have hwb := h.get_blk
  obtain ⟨f, hf, f1, f2, ha, hl, j⟩ := h
  have hn : f2.get b = none ∧ f1.get b = f.get b := by
    rcases j.at_ b with ⟨h1, h2⟩ | h | ⟨o', h1, h2, h3⟩
    · rw [blk, h1] at ha; cases ha
    · exact h
    · rw [blk, h1] at ha; cases ha
  refine ⟨{ f with get := fun k => if k = b then some (o', true) else f.get k }, ⟨hf.1.trans hg.os.symm, hf.2.1.trans hg.tape.symm, hf.2.2.1.trans hg.output.symm, fun k o2 p hk => ?_⟩,
    { f1 with get := fun k => if k = b then some (o', true) else f1.get k }, f2, by simp [blk], hl, ⟨j.os1, j.os2, j.tape1, j.tape2, j.out1, j.out2, fun k => ?_⟩⟩
  · by_cases hkb : k = b
    · subst hkb; simp at hk; obtain ⟨rfl, rfl⟩ := hk; exact hb
    · simp [hkb] at hk
      have hh := hf.2.2.2 k o2 p hk
      rw [hg.block k (Array.getElem?_eq_some_iff.1 hh).1 (by simpa using hkb)]; exact hh
  · by_cases hkb : k = b
    · subst hkb; exact .inr (.inl ⟨hn.1, by simp⟩)
    · simpa [hkb] using j.at_ k

/-- Nothing that was there has turned. -/
theorem holds.below {w w' : World} {l : List HProp} (h : holds w l) (hb : Below w.heap.size w w') : holds w' l := by
  obtain ⟨f, hf, hs⟩ := h
  refine ⟨f, ⟨hf.1.trans hb.os.symm, hf.2.1.trans hb.tape.symm, hf.2.2.1.trans hb.output.symm, fun k o p hk => ?_⟩, hs⟩
  have hh := hf.2.2.2 k o p hk
  rw [hb.block k (Array.getElem?_eq_some_iff.1 hh).1]; exact hh

/-- Nothing that was there has turned, and block b is new. -/
theorem holds.new {w w' : World} {l : List HProp} {b : Nat} {o : Obj} (h : holds w l) (hb : Below w.heap.size w w') (hn : w.heap.size ≤ b) (ho : w'.heap[b]? = some o) : holds w' (blk b o :: l) := by
  obtain ⟨f, hf, hs⟩ := h
  have hnb : f.get b = none := by
    cases hfb : f.get b with
    | none => rfl
    | some x => have := (Array.getElem?_eq_some_iff.1 (hf.2.2.2 b x.1 x.2 hfb)).1; omega
  refine ⟨{ f with get := fun k => if k = b then some (o, true) else f.get k }, ⟨hf.1.trans hb.os.symm, hf.2.1.trans hb.tape.symm, hf.2.2.1.trans hb.output.symm, fun k o2 p hk => ?_⟩,
    { f with get := fun k => if k = b then some (o, true) else none }, f, by simp [blk], hs, ⟨rfl, rfl, rfl, rfl, rfl, rfl, fun k => ?_⟩⟩
  · by_cases hkb : k = b
    · subst hkb; simp at hk; obtain ⟨rfl, rfl⟩ := hk; exact ho
    · simp [hkb] at hk
      have hh := hf.2.2.2 k o2 p hk
      rw [hb.block k (Array.getElem?_eq_some_iff.1 hh).1]; exact hh
  · by_cases hkb : k = b
    · subst hkb; exact .inr (.inl ⟨hnb, by simp⟩)
    · exact .inl ⟨by simp [hkb], by simp [hkb]⟩

theorem holds.alloc {w : World} {l : List HProp} (h : holds w l) (o : Obj) : holds (w.alloc o) (blk w.heap.size o :: l) :=
  h.new ((Below.refl _ _).alloc (Nat.le_refl _) _) (Nat.le_refl _) (heap_alloc_new w o)

theorem holds.setCell {w : World} {l : List HProp} {b : Nat} {c : Array Value} {e : TypeId} {fz : Nat × Nat} (h : holds w (blk b (.cells c e fz) :: l)) (off : Nat) (u : Value) :
    holds (w.setCell ⟨b, off, none⟩ u) (blk b (.cells (c.setIfInBounds off u) e fz) :: l) := by
  have hb := h.get_blk
  refine h.turn ⟨rfl, rfl, rfl, by simp [World.setCell], fun k _ hk => by simp at hk; exact Below.heap_setCell _ _ _ _ hk⟩ ?_
  simp [World.setCell, Array.getElem?_modify, hb]

theorem holds.drew {w : World} {l : List HProp} (h : holds w l) : holds w.drew l := h
theorem holds.drewN {w : World} {l : List HProp} (h : holds w l) (n : Nat) : holds (w.drewN n) l := h

/-- All that a world holds, for reading. -/
def allOf (W : World) : HProp := fun f => f.os = W.os ∧ f.tape = W.tape ∧ f.output = W.output ∧ ∀ (k : Nat) (o : Obj), W.heap[k]? = some o → f.get k = some (o, false)

theorem holds.start (W : World) : holds W [allOf W] := by
  let f : Frag := ⟨W.os, W.tape, W.output, fun k => (W.heap[k]?).map (·, false)⟩
  refine ⟨f, ⟨rfl, rfl, rfl, fun k o p hk => ?_⟩, f, ⟨W.os, W.tape, W.output, fun _ => none⟩, ⟨rfl, rfl, rfl, fun k o hk => by simp [f, hk]⟩, trivial, ⟨rfl, rfl, rfl, rfl, rfl, rfl, fun k => .inr (.inl ⟨rfl, rfl⟩)⟩⟩
  simp only [f, Option.map_eq_some_iff, Prod.mk.injEq] at hk
  obtain ⟨a, h1, h2, _⟩ := hk
  rw [h1, h2]

theorem holds.get_all {w W : World} {l : List HProp} (h : holds w (allOf W :: l)) : w.os = W.os ∧ w.tape = W.tape ∧ w.output = W.output ∧ ∀ (k : Nat) (o : Obj), W.heap[k]? = some o → w.heap[k]? = some o := by
  obtain ⟨f, hf, f1, f2, ha, hl, j⟩ := h
  refine ⟨hf.1.symm.trans (j.os1.symm.trans ha.1), hf.2.1.symm.trans (j.tape1.symm.trans ha.2.1), hf.2.2.1.symm.trans (j.out1.symm.trans ha.2.2.1), fun k o hk => ?_⟩
  have h1 := ha.2.2.2 k o hk
  rcases j.at_ k with ⟨g1, g2⟩ | ⟨g1, g2⟩ | ⟨o', g1, g2, g3⟩
  · rw [h1] at g1; cases g1
  · exact hf.2.2.2 k o false (g2 ▸ h1)
  · rw [h1] at g1; cases g1; exact hf.2.2.2 k o false g3

theorem holds.below_all {w W : World} {l : List HProp} (h : holds w (allOf W :: l)) : Below W.heap.size W w := by
  obtain ⟨h1, h2, h3, h4⟩ := h.get_all
  refine ⟨h1, h2, h3, ?_, fun k hk => ?_⟩
  · rcases Nat.lt_or_ge w.heap.size W.heap.size with hlt | hge
    · have := h4 w.heap.size _ (Array.getElem?_eq_getElem hlt)
      simp at this
    · exact hge
  · rw [h4 k _ (Array.getElem?_eq_getElem hk), Array.getElem?_eq_getElem hk]

/-- Of all that the first world held, one block more for reading. -/
theorem holds.all_ro {w W : World} {l : List HProp} {b : Nat} {o : Obj} (h : holds w (allOf W :: l)) (hb : W.heap[b]? = some o) : holds w (ro b o :: allOf W :: l) := by
  obtain ⟨f, hf, f1, f2, ha, hl, j⟩ := h
  have h1 := ha.2.2.2 b o hb
  have h3 : f.get b = some (o, false) := by
    rcases j.at_ b with ⟨g1, g2⟩ | ⟨g1, g2⟩ | ⟨o', g1, g2, g3⟩
    · rw [h1] at g1; cases g1
    · exact g2 ▸ h1
    · rw [h1] at g1; cases g1; exact g3
  refine ⟨f, hf, { f with get := fun k => if k = b then some (o, false) else none }, f, by simp [ro], ⟨f1, f2, ha, hl, j⟩, ⟨rfl, rfl, rfl, rfl, rfl, rfl, fun k => ?_⟩⟩
  by_cases hkb : k = b
  · subst hkb; exact .inr (.inr ⟨o, by simp, h3, h3⟩)
  · exact .inl ⟨by simp [hkb], rfl⟩

end Go.Proofs.YtpkohkkkbnfigaaDoor
