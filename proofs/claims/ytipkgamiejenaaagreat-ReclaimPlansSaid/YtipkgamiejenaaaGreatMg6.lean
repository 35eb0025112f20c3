import Derived.Test.YtipkgamiejenaaaGreatSepD
import Derived.KernelRfl

/- Bytes in rows: what is plain. -/
namespace Go.Proofs.YtipkgamiejenaaaGreat
open Go Go.RowKit Go.MapKept
set_option linter.unusedVariables false
set_option linter.unusedSimpArgs false
namespace By
def zrow : List UInt8 := List.replicate 64 0
def row (t : List UInt8) (k : Nat) : List UInt8 := (t.drop (64 * k)).take 64
def splice {α : Type} (l : List α) (p : Nat) (s : List α) : List α := l.take p ++ s ++ l.drop (p + s.length)
theorem splice_len {α : Type} (l : List α) (p : Nat) (s : List α) (h : p + s.length ≤ l.length) : (splice l p s).length = l.length := by
  simp only [splice, List.length_append, List.length_take, List.length_drop]; omega
theorem splice_at {α : Type} (l : List α) (p : Nat) (s : List α) (h : p + s.length ≤ l.length) (i : Nat) : (splice l p s)[i]? = if i < p then l[i]? else if i < p + s.length then s[i - p]? else l[i]? := by
  unfold splice
  by_cases h1 : i < p
  · rw [if_pos h1, List.append_assoc, List.getElem?_append_left (by rw [List.length_take]; omega), List.getElem?_take_of_lt h1]
  · rw [if_neg h1]
    by_cases h2 : i < p + s.length
    · rw [if_pos h2, List.append_assoc, List.getElem?_append_right (by rw [List.length_take]; omega), List.length_take, Nat.min_eq_left (by omega), List.getElem?_append_left (by omega)]
    · rw [if_neg h2, List.getElem?_append_right (by rw [List.length_append, List.length_take]; omega), List.getElem?_drop, List.length_append, List.length_take]
      congr 1; omega
theorem row_len (t : List UInt8) (k : Nat) (h : 64 * k + 64 ≤ t.length) : (row t k).length = 64 := by
  unfold row; rw [List.length_take, List.length_drop]; omega
theorem row_at (t : List UInt8) (k j : Nat) (hj : j < 64) : (row t k)[j]? = t[64 * k + j]? := by
  unfold row; rw [List.getElem?_take_of_lt hj, List.getElem?_drop]
theorem row_splice (t s : List UInt8) (a k : Nat) (h1 : k + s.length ≤ 64) (h2 : 64 * a + 64 ≤ t.length) : row (splice t (64 * a + k) s) a = splice (row t a) k s := by
  have hl := row_len t a h2
  have hs : (splice t (64 * a + k) s).length = t.length := splice_len _ _ _ (by omega)
  apply List.ext_getElem?
  intro j
  by_cases hj : j < 64
  · rw [row_at _ _ _ hj, splice_at _ _ _ (by omega), splice_at _ _ _ (by omega), row_at _ _ _ hj]
    by_cases c1 : j < k
    · rw [if_pos c1, if_pos (by omega)]
    · rw [if_neg c1, if_neg (by omega)]
      by_cases c2 : j < k + s.length
      · rw [if_pos c2, if_pos (by omega)]; congr 1; omega
      · rw [if_neg c2, if_neg (by omega)]
  · rw [List.getElem?_eq_none (by rw [row_len _ _ (by omega)]; omega), List.getElem?_eq_none (by rw [splice_len _ _ _ (by omega)]; omega)]
theorem row_other (t s : List UInt8) (a k b : Nat) (h1 : k + s.length ≤ 64) (h2 : 64 * a + 64 ≤ t.length) (hb : b ≠ a) : row (splice t (64 * a + k) s) b = row t b := by
  have hs : (splice t (64 * a + k) s).length = t.length := splice_len _ _ _ (by omega)
  apply List.ext_getElem?
  intro j
  by_cases hj : j < 64
  · rw [row_at _ _ _ hj, row_at _ _ _ hj, splice_at _ _ _ (by omega)]
    by_cases c1 : 64 * b + j < 64 * a + k
    · rw [if_pos c1]
    · rw [if_neg c1, if_neg (by omega)]
  · rw [List.getElem?_eq_none, List.getElem?_eq_none] <;> (unfold row; rw [List.length_take]; omega)
theorem splice_more {α : Type} (t d : List α) (at_ i m : Nat) (h : at_ + d.length ≤ t.length) (hi : i + m ≤ d.length) : splice (splice t at_ (d.take i)) (at_ + i) ((d.drop i).take m) = splice t at_ (d.take (i + m)) := by
  have l1 : (d.take i).length = i := by rw [List.length_take]; omega
  have l2 : ((d.drop i).take m).length = m := by rw [List.length_take, List.length_drop]; omega
  have l3 : (d.take (i + m)).length = i + m := by rw [List.length_take]; omega
  have l4 : (splice t at_ (d.take i)).length = t.length := splice_len _ _ _ (by omega)
  apply List.ext_getElem?
  intro j
  rw [splice_at _ _ _ (by omega), splice_at _ _ _ (by omega), splice_at _ _ _ (by omega), l1, l2, l3]
  by_cases c1 : j < at_
  · rw [if_pos (by omega), if_pos c1, if_pos c1]
  · by_cases c2 : j < at_ + i
    · rw [if_pos c2, if_neg c1, if_pos c2, if_neg c1, if_pos (by omega), List.getElem?_take_of_lt (by omega), List.getElem?_take_of_lt (by omega)]
    · rw [if_neg c2]
      by_cases c3 : j < at_ + i + m
      · rw [if_pos c3, if_neg c1, if_pos (by omega), List.getElem?_take_of_lt (by omega), List.getElem?_take_of_lt (by omega), List.getElem?_drop]
        congr 1; omega
      · rw [if_neg c3, if_neg c1, if_neg c2, if_neg c1, if_neg (by omega)]
theorem splice_nil {α : Type} (t : List α) (p : Nat) : splice t p [] = t := by simp [splice]
/-- The rows that are there, of a text. -/
structure Rows (am : List (Int × List UInt8)) (t : List UInt8) : Prop where
  nodup : (alKeys am).Nodup
  at_ : ∀ k : Nat, 64 * k < t.length → alGet am k = if row t k = zrow then none else some (row t k)
  out : ∀ x : Int, x < 0 ∨ (t.length : Int) ≤ 64 * x → alGet am x = none
theorem alKeys_nodup_set {β : Type} {m : List (Int × β)} (h : (alKeys m).Nodup) (k : Int) (v : β) : (alKeys (alSet m k v)).Nodup := by
  rw [alKeys_set]; split
  · exact h
  · rename_i hk
    rw [List.nodup_append]
    exact ⟨h, by simp, fun a ha b hb => by simp at hb; subst hb; exact fun e => hk (e ▸ ha)⟩
def putRow (am : List (Int × List UInt8)) (a : Int) (r : List UInt8) : List (Int × List UInt8) := if r = zrow then alDel am a else alSet am a r
theorem Rows.put {am : List (Int × List UInt8)} {t s : List UInt8} (h : Rows am t) (h64 : t.length % 64 = 0) (a k : Nat) (h1 : k + s.length ≤ 64) (h2 : 64 * a < t.length) : Rows (putRow am a (splice (row t a) k s)) (splice t (64 * a + k) s) := by
  have hl : (splice t (64 * a + k) s).length = t.length := splice_len _ _ _ (by omega)
  have hg : ∀ x : Int, alGet (putRow am a (splice (row t a) k s)) x = if x = a then (if splice (row t a) k s = zrow then none else some (splice (row t a) k s)) else alGet am x := by
    intro x
    unfold putRow
    split
    · rw [alGet_del _ _ _ h.nodup]
    · rw [alGet_set]
  refine ⟨?_, fun b hb => ?_, fun x hx => ?_⟩
  · unfold putRow; split
    · rw [alKeys_del]; exact h.nodup.erase _
    · exact alKeys_nodup_set h.nodup _ _
  · rw [hl] at hb
    rw [hg]
    by_cases e : b = a
    · subst e; rw [if_pos rfl, row_splice _ _ _ _ h1 (by omega)]
    · rw [if_neg (by omega), row_other _ _ _ _ _ h1 (by omega) e, h.at_ _ hb]
  · rw [hl] at hx
    rw [hg, if_neg (by omega), h.out _ hx]
theorem Rows.get {am : List (Int × List UInt8)} {t : List UInt8} (h : Rows am t) (k : Nat) (hk : 64 * k < t.length) : (alGet am k).getD zrow = row t k := by
  rw [h.at_ k hk]; split
  · rename_i e; rw [e]; rfl
  · rfl
theorem Rows.new (n : Nat) (h64 : n % 64 = 0) : Rows [] (List.replicate n 0) := by
  refine ⟨by simp [alKeys], fun k hk => ?_, fun x _ => rfl⟩
  rw [List.length_replicate] at hk
  rw [if_pos, alGet_nil]
  unfold row zrow
  rw [List.drop_replicate, List.take_replicate]
  congr 1; omega
theorem alGet_all {β : Type} : ∀ (m : List (Int × β)), (∀ x, alGet m x = none) → m = []
  | [], _ => rfl
  | (k, v) :: m, h => by have := h k; rw [alGet_cons, if_pos rfl] at this; cases this
theorem Rows.clean {am : List (Int × List UInt8)} {t : List UInt8} (h : Rows am t) (h64 : t.length % 64 = 0) : am = [] ↔ ∀ b ∈ t, b = 0 := by
  constructor
  · rintro rfl b hb
    obtain ⟨i, hi, rfl⟩ := List.getElem_of_mem hb
    have hk := h.at_ (i / 64) (by omega)
    rw [alGet_nil] at hk
    have hr : row t (i / 64) = zrow := by
      apply Classical.byContradiction; intro c; rw [if_neg c] at hk; cases hk
    have := row_at t (i / 64) (i % 64) (by omega)
    rw [hr, show 64 * (i / 64) + i % 64 = i by omega, List.getElem?_eq_getElem hi] at this
    unfold zrow at this
    rw [List.getElem?_replicate, if_pos (by omega)] at this
    exact (Option.some.inj this).symm
  · intro ha
    refine alGet_all _ fun x => ?_
    by_cases hx : x < 0 ∨ (t.length : Int) ≤ 64 * x
    · exact h.out x hx
    · obtain ⟨k, rfl⟩ : ∃ k : Nat, x = k := ⟨x.toNat, by omega⟩
      rw [h.at_ k (by omega), if_pos]
      apply List.ext_getElem
      · rw [row_len _ _ (by omega)]; simp [zrow]
      · intro i h1 h2
        have h3 : (row t k)[i] ∈ t := List.mem_of_mem_drop (List.mem_of_mem_take (List.getElem_mem h1))
        rw [ha _ h3]; simp only [zrow, List.getElem_replicate]
end By
end Go.Proofs.YtipkgamiejenaaaGreat

/- Chapter 20 in plain terms: when chunks are sound, two ways of saying it. -/
namespace Go.Proofs.YtipkgamiejenaaaGreat

structure ChunkM where
  phase : Int
  owner : Int
  gen : Int

namespace Audit
def is (p : Int) : Bool := decide (0 ≤ p) && decide (p ≤ 3)
def right (c : ChunkM) : Bool := is c.phase && decide (0 ≤ c.owner) && (decide (0 < c.owner) == (c.phase == 1)) && decide (0 ≤ c.gen) && decide (c.gen ≤ 1048575)
def many (l : List ChunkM) (p : Int) : Nat := (l.filter fun c => c.phase == p).length
def deferredAt (l : List ChunkM) (i : Int) : Bool := decide (0 ≤ i) && decide (i < l.length) && (match l[i.toNat]? with | some c => c.phase == 2 | none => false)
def sound (l : List ChunkM) (w : List Int) : Bool := l.all right && (w.length == many l 2) && w.all (deferredAt l) && decide w.Nodup

def one (c : ChunkM) : Bool :=
  if c.phase = 1 then decide (0 < c.owner) && decide (0 ≤ c.gen) && decide (c.gen < 1048576)
  else (c.phase == 0 || c.phase == 2 || c.phase == 3) && (c.owner == 0) && decide (0 ≤ c.gen) && decide (c.gen < 1048576)
def refAt (w : List Int) (i : Nat) (c : ChunkM) : Bool := one c && !(c.phase == 2 && w.count (i : Int) != 1) && !(c.phase != 2 && w.count (i : Int) != 0)
def refRow (l : List ChunkM) (w : List Int) (i : Nat) : Bool := match l[i]? with | some c => refAt w i c | none => true
def refSound (l : List ChunkM) (w : List Int) : Bool := (List.range l.length).all (refRow l w) && w.all fun x => decide (0 ≤ x) && decide (x < l.length)

/-- The places that are deferred. -/
def places : List ChunkM → Nat → List Int
  | [], _ => []
  | c :: l, k => if c.phase = 2 then (k : Int) :: places l (k + 1) else places l (k + 1)

end Audit
end Go.Proofs.YtipkgamiejenaaaGreat

/- A store as the document says, and a stack's places: what is plain. -/
namespace Go.Proofs.YtipkgamiejenaaaGreat
open Go Go.RowKit Go.MapKept
set_option linter.unusedVariables false
set_option linter.unusedSimpArgs false
namespace St
structure S where
  size : Nat
  ch : List ChunkM
  tx : List (List UInt8)
  wi : List Int
  stack : List Int
  ev : List Int
def ch0 : ChunkM := ⟨0, 0, 0⟩
def up (l : List Int) (k : Nat) : List Int := l.set k (l.getD k 0 + 1)
def S.c (t : S) (i : Int) : ChunkM := t.ch.getD i.toNat ch0
def S.x (t : S) (i : Int) : List UInt8 := t.tx.getD i.toNat []
def S.w (t : S) (i : Int) : Int := t.wi.getD i.toNat 0
def S.out (t : S) (i : Int) : Prop := i < 0 ∨ (t.ch.length : Int) ≤ i
instance (t : S) (i : Int) : Decidable (t.out i) := inferInstanceAs (Decidable (_ ∨ _))
def zeros (n : Nat) : List UInt8 := List.replicate n 0
def take (t : S) (ow : Int) : S × Int × Int :=
  if ow < 1 then (t, 0, 2) else match t.stack.getLast? with
    | none => (t, 0, 20)
    | some i => ({ t with stack := t.stack.dropLast, ch := t.ch.set i.toNat ⟨1, ow, (t.c i).gen⟩, ev := up t.ev 0 }, i, 0)
def give (t : S) (i ow : Int) : S × Int :=
  if t.out i then (t, 2) else if (t.c i).phase ≠ 1 ∨ (t.c i).owner ≠ ow then (t, 18) else
    ({ t with ch := t.ch.set i.toNat ⟨2, 0, (t.c i).gen⟩, ev := up t.ev 1 }, 0)
def start (t : S) (i : Int) : S × Int :=
  if t.out i then (t, 2) else if (t.c i).phase ≠ 2 then (t, 18) else
    ({ t with wi := t.wi.set i.toNat 0, ch := t.ch.set i.toNat ⟨3, 0, (t.c i).gen⟩, ev := up t.ev 2 }, 0)
def portion (t : S) (i n : Int) : Nat := (min n (t.size - t.w i)).toNat
def wiped (t : S) (i n : Int) : S := { t with tx := t.tx.set i.toNat (By.splice (t.x i) (t.w i).toNat (zeros (portion t i n))), wi := t.wi.set i.toNat (t.w i + portion t i n) }
def step (t : S) (i n : Int) : S × Bool × Int :=
  if t.out i ∨ n < 1 then (t, false, 2) else if (t.c i).phase ≠ 3 then (t, false, 18) else
    if t.w i + portion t i n < t.size then (wiped t i n, false, 0) else
      ({ wiped t i n with stack := t.stack ++ [i], ch := t.ch.set i.toNat ⟨0, 0, (t.c i).gen + 1⟩, ev := up t.ev 3 }, true, 0)
def stale (t : S) (i ge : Int) : Prop := (t.c i).phase ≠ 1 ∨ (t.c i).gen ≠ ge
instance (t : S) (i ge : Int) : Decidable (stale t i ge) := inferInstanceAs (Decidable (_ ∨ _))
def off (b : List UInt8) (at_ n : Int) : Prop := at_ < 0 ∨ n < 0 ∨ (b.length : Int) < at_ + n
instance (b : List UInt8) (at_ n : Int) : Decidable (off b at_ n) := inferInstanceAs (Decidable (_ ∨ _))
def load (t : S) (i ge at_ n : Int) : List UInt8 × Int :=
  if t.out i then ([], 2) else if stale t i ge then ([], 4) else if off (t.x i) at_ n then ([], 15) else (((t.x i).drop at_.toNat).take n.toNat, 0)
def put (t : S) (i ge at_ : Int) (s : List UInt8) : S × Int :=
  if t.out i then (t, 2) else if stale t i ge then (t, 4) else if off (t.x i) at_ s.length then (t, 15) else
    ({ t with tx := t.tx.set i.toNat (By.splice (t.x i) at_.toNat s) }, 0)
def cntP (l : List ChunkM) (p : Int) : Int := ((l.filter fun c => c.phase == p).length : Nat)
def gens (l : List ChunkM) : Int := (l.map (·.gen)).sum
structure CellOk (size K : Nat) (c : ChunkM) (b : List UInt8) (x : Int) : Prop where
  ph : 0 ≤ c.phase ∧ c.phase ≤ 3
  ow : (c.phase = 1 ∧ 0 < c.owner) ∨ (c.phase ≠ 1 ∧ c.owner = 0)
  ge : 0 ≤ c.gen ∧ c.gen ≤ K
  len : b.length = size
  zero : c.phase = 0 → ∀ y ∈ b, y = 0
  wip : c.phase = 3 → (0 ≤ x ∧ x < size) ∧ ∀ y ∈ b.take x.toNat, y = 0
structure Inv (t : S) (K : Nat) : Prop where
  n1 : t.tx.length = t.ch.length
  n2 : t.wi.length = t.ch.length
  n3 : t.ev.length = 4
  ncap : t.ch.length ≤ 1048576
  sz : 64 ≤ t.size ∧ t.size ≤ 1048576 ∧ t.size % 64 = 0
  cell : ∀ (i : Nat) (h : i < t.ch.length), CellOk t.size K t.ch[i] (t.x i) (t.w i)
  nodup : t.stack.Nodup
  free : ∀ x : Int, x ∈ t.stack ↔ ∃ (i : Nat) (h : i < t.ch.length), x = i ∧ t.ch[i].phase = 0
  ev : ∀ e ∈ t.ev, 0 ≤ e ∧ e ≤ K
  gen : t.ev.getD 3 0 = gens t.ch
theorem CellOk.mono {size K K' : Nat} (hk : K ≤ K') {c : ChunkM} {b : List UInt8} {x : Int} (h : CellOk size K c b x) : CellOk size K' c b x := ⟨h.ph, h.ow, ⟨h.ge.1, by have := h.ge.2; omega⟩, h.len, h.zero, h.wip⟩
theorem Inv.mono {t : S} {K K' : Nat} (hk : K ≤ K') (h : Inv t K) : Inv t K' := ⟨h.n1, h.n2, h.n3, h.ncap, h.sz, fun i hi => (h.cell i hi).mono hk, h.nodup, h.free, fun e he => ⟨(h.ev e he).1, by have := (h.ev e he).2; omega⟩, h.gen⟩
theorem up_len (l : List Int) (k : Nat) : (up l k).length = l.length := by simp [up]
theorem up_in {l : List Int} {K : Nat} (h : ∀ e ∈ l, 0 ≤ e ∧ e ≤ (K : Int)) (k : Nat) : ∀ e ∈ up l k, 0 ≤ e ∧ e ≤ ((K + 1 : Nat) : Int) := by
  intro e he
  unfold up at he
  rcases List.mem_or_eq_of_mem_set he with h1 | rfl
  · have := h e h1; omega
  · rw [List.getD_eq_getElem?_getD]
    by_cases hk : k < l.length
    · rw [List.getElem?_eq_getElem hk]; have := h _ (List.getElem_mem hk); simp only [Option.getD_some]; omega
    · rw [List.getElem?_eq_none (by omega)]; simp only [Option.getD_none]; omega
theorem getD_set {α : Type} (l : List α) (i j : Nat) (v d : α) (hi : i < l.length) : (l.set i v).getD j d = if j = i then v else l.getD j d := by
  rw [List.getD_eq_getElem?_getD, List.getD_eq_getElem?_getD, List.getElem?_set]
  by_cases h : j = i
  · subst h; simp [hi]
  · rw [if_neg (fun e => h e.symm), if_neg h]
theorem gens_set : ∀ (l : List ChunkM) (i : Nat) (hi : i < l.length) (c : ChunkM), gens (l.set i c) = gens l + c.gen - (l[i]).gen
  | a :: l, 0, _, c => by simp [gens]; omega
  | a :: l, i + 1, hi, c => by
    have := gens_set l i (by simpa using hi) c
    simp only [gens, List.set_cons_succ, List.map_cons, List.sum_cons, List.getElem_cons_succ] at this ⊢
    omega
  | [], i, hi, c => by simp at hi
theorem cntP_set : ∀ (l : List ChunkM) (i : Nat) (hi : i < l.length) (c : ChunkM) (p : Int), cntP (l.set i c) p = cntP l p + (if c.phase = p then 1 else 0) - (if (l[i]).phase = p then 1 else 0)
  | a :: l, 0, _, c, p => by
    simp only [cntP, List.set_cons_zero, List.filter_cons, List.getElem_cons_zero, beq_iff_eq]
    split <;> split <;> simp <;> omega
  | a :: l, i + 1, hi, c, p => by
    have := cntP_set l i (by simpa using hi) c p
    simp only [cntP, List.set_cons_succ, List.filter_cons, List.getElem_cons_succ, beq_iff_eq] at this ⊢
    by_cases ha : a.phase = p
    · simp only [ha, if_true, List.length_cons]; omega
    · simp only [ha, if_false]; omega
  | [], i, hi, c, p => by simp at hi
theorem Inv.upd {t : S} {K : Nat} (h : Inv t K) (i : Nat) (hi : i < t.ch.length) {c : ChunkM} {b : List UInt8} {x : Int} {st ev : List Int} (hc : CellOk t.size (K + 1) c b x) (hn : st.Nodup)
    (hf : ∀ y : Int, y ∈ st ↔ if y = i then c.phase = 0 else y ∈ t.stack) (he3 : ev.length = 4) (hev : ∀ e ∈ ev, 0 ≤ e ∧ e ≤ ((K + 1 : Nat) : Int)) (hg : ev.getD 3 0 = t.ev.getD 3 0 + c.gen - (t.ch[i]).gen) :
    Inv { t with ch := t.ch.set i c, tx := t.tx.set i b, wi := t.wi.set i x, stack := st, ev := ev } (K + 1) := by
  refine ⟨by simpa using h.n1, by simpa using h.n2, he3, by simpa using h.ncap, h.sz, fun j hj => ?_, hn, fun y => ?_, hev, ?_⟩
  · simp only [List.length_set] at hj
    have hx : i < t.tx.length := by rw [h.n1]; exact hi
    have hw : i < t.wi.length := by rw [h.n2]; exact hi
    simp only [S.x, S.w, Int.toNat_natCast, getD_set _ _ _ _ _ hx, getD_set _ _ _ _ _ hw]
    by_cases e : j = i
    · subst e; simp only [List.getElem_set_self, if_true]; exact hc
    · have := (h.cell j hj).mono (Nat.le_succ K)
      simp only [S.x, S.w, Int.toNat_natCast] at this
      rw [if_neg e, if_neg e, List.getElem_set_ne (fun q => e q.symm)]
      exact this
  · simp only [hf y, h.free y, List.length_set]
    constructor
    · intro hy
      split at hy
      · rename_i e; exact ⟨i, hi, e, by simpa using hy⟩
      · rename_i e
        obtain ⟨j, hj, rfl, hp⟩ := hy
        exact ⟨j, hj, rfl, by rw [List.getElem_set_ne (fun q => e (by omega))]; exact hp⟩
    · rintro ⟨j, hj, rfl, hp⟩
      split
      · rename_i e
        have e2 : j = i := by omega
        subst e2; simpa using hp
      · rename_i e
        refine ⟨j, hj, rfl, ?_⟩
        rw [List.getElem_set_ne (fun q => e (by omega))] at hp; exact hp
  · dsimp only
    rw [hg, gens_set _ _ hi, h.gen]
theorem set_self {α : Type} (l : List α) (i : Nat) (d : α) : l.set i (l.getD i d) = l := by
  apply List.ext_getElem?
  intro j
  rw [List.getElem?_set]
  split
  · rename_i e; subst e
    split
    · rename_i hlt; rw [List.getD_eq_getElem?_getD, List.getElem?_eq_getElem hlt]; rfl
    · rename_i hlt; rw [List.getElem?_eq_none (by omega)]
  · rfl
theorem S.c_eq (t : S) (i : Nat) (hi : i < t.ch.length) : t.c i = t.ch[i] := by
  unfold S.c; rw [Int.toNat_natCast, List.getD_eq_getElem?_getD, List.getElem?_eq_getElem hi]; rfl
theorem snoc_last {α : Type} {l : List α} {y : α} (h : l.getLast? = some y) : l.dropLast ++ [y] = l := by
  have hne : l ≠ [] := fun e => by subst e; cases h
  have : y = l.getLast hne := by rw [List.getLast?_eq_some_getLast hne] at h; exact (Option.some.inj h).symm
  rw [this]; exact List.dropLast_concat_getLast hne
theorem Inv.take {t : S} {K : Nat} (h : Inv t K) (ow : Int) : Inv (take t ow).1 (K + 1) := by
  unfold St.take
  split
  · exact h.mono (Nat.le_succ _)
  · rename_i how
    cases hl : t.stack.getLast? with
    | none => exact h.mono (Nat.le_succ _)
    | some y =>
      have hs : t.stack = t.stack.dropLast ++ [y] := by
        exact (snoc_last hl).symm
      have hm : y ∈ t.stack := by rw [hs]; simp
      obtain ⟨i, hi, rfl, hp⟩ := (h.free y).1 hm
      have hnd := h.nodup
      rw [hs, List.nodup_append] at hnd
      have hc := (h.cell i hi)
      have u := h.upd i hi (c := ⟨1, ow, (t.c i).gen⟩) (b := t.x i) (x := t.w i) (st := t.stack.dropLast) (ev := up t.ev 0)
        ⟨by simp, .inl ⟨rfl, by dsimp only; omega⟩, by rw [t.c_eq i hi]; exact (hc.mono (Nat.le_succ K)).ge, hc.len, by simp, by simp⟩ hnd.1
        (fun z => by
          split
          · rename_i e; subst e
            simp only [Int.reduceEq, iff_false]
            intro hz; simp at *
            exact hnd.2 _ hz rfl
          · rename_i e
            constructor
            · exact fun hz => by rw [hs]; exact List.mem_append_left _ hz
            · intro hz; rw [hs] at hz; simp only [List.mem_append, List.mem_singleton] at hz; rcases hz with hz | hz
              · exact hz
              · exact absurd hz e)
        (by rw [up_len]; exact h.n3) (up_in h.ev 0) (by
          have e : (up t.ev 0).getD 3 0 = t.ev.getD 3 0 := by
            unfold up; rw [getD_set _ _ _ _ _ (by rw [h.n3]; omega), if_neg (by omega)]
          rw [e, t.c_eq i hi]; dsimp only; omega)
      simp only [S.x, S.w, Int.toNat_natCast, set_self] at u
      simpa using u
theorem out_ex {t : S} {i : Int} (h : ¬ t.out i) : ∃ k : Nat, i = k ∧ k < t.ch.length := by
  unfold S.out at h
  exact ⟨i.toNat, by omega, by omega⟩
theorem Inv.keep {t : S} {K : Nat} (h : Inv t K) (i : Nat) (hi : i < t.ch.length) {c : ChunkM} {b : List UInt8} {x : Int} {k : Nat} (hk : k < 3) (h1 : (t.ch[i]).phase ≠ 0) (h2 : c.phase ≠ 0) (hg : c.gen = (t.ch[i]).gen) (hc : CellOk t.size (K + 1) c b x) :
    Inv { t with ch := t.ch.set i c, tx := t.tx.set i b, wi := t.wi.set i x, ev := up t.ev k } (K + 1) := by
  refine h.upd i hi hc h.nodup (fun y => ?_) (by rw [up_len]; exact h.n3) (up_in h.ev k) ?_
  · split
    · rename_i e; subst e
      constructor
      · intro hy
        obtain ⟨j, hj, e, hp⟩ := (h.free _).1 hy
        have e2 : i = j := by omega
        subst e2; exact absurd hp h1
      · exact fun e => absurd e h2
    · exact .rfl
  · have e : (up t.ev k).getD 3 0 = t.ev.getD 3 0 := by
      unfold up; rw [getD_set _ _ _ _ _ (by rw [h.n3]; omega), if_neg (by omega)]
    rw [e, hg]; omega
theorem Inv.give {t : S} {K : Nat} (h : Inv t K) (i ow : Int) : Inv (give t i ow).1 (K + 1) := by
  unfold St.give
  split
  · exact h.mono (Nat.le_succ _)
  · rename_i ho
    obtain ⟨k, rfl, hk⟩ := out_ex ho
    split
    · exact h.mono (Nat.le_succ _)
    · rename_i hp
      rw [t.c_eq k hk] at hp ⊢
      have hc := h.cell k hk
      have u := h.keep k hk (c := ⟨2, 0, (t.ch[k]).gen⟩) (b := t.x k) (x := t.w k) (k := 1) (by omega) (by omega) (by simp) rfl
        ⟨by simp, .inr ⟨by simp, rfl⟩, (hc.mono (Nat.le_succ K)).ge, hc.len, by simp, by simp⟩
      simp only [S.x, S.w, Int.toNat_natCast, set_self] at u
      simpa using u
theorem Inv.start {t : S} {K : Nat} (h : Inv t K) (i : Int) : Inv (start t i).1 (K + 1) := by
  unfold St.start
  split
  · exact h.mono (Nat.le_succ _)
  · rename_i ho
    obtain ⟨k, rfl, hk⟩ := out_ex ho
    split
    · exact h.mono (Nat.le_succ _)
    · rename_i hp
      rw [t.c_eq k hk] at hp ⊢
      have hc := h.cell k hk
      have hsz := h.sz
      have u := h.keep k hk (c := ⟨3, 0, (t.ch[k]).gen⟩) (b := t.x k) (x := 0) (k := 2) (by omega) (by omega) (by simp) rfl
        ⟨by simp, .inr ⟨by simp, rfl⟩, (hc.mono (Nat.le_succ K)).ge, hc.len, by simp, fun _ => ⟨by omega, by simp⟩⟩
      simp only [S.x, Int.toNat_natCast, set_self] at u
      simpa using u
theorem splice_zero {b : List UInt8} {x m : Nat} (h0 : ∀ y ∈ b.take x, y = 0) (hx : x + m ≤ b.length) : ∀ y ∈ (By.splice b x (zeros m)).take (x + m), y = 0 := by
  intro y hy
  have e : (By.splice b x (zeros m)).take (x + m) = b.take x ++ zeros m := by
    unfold By.splice
    rw [List.take_append_of_le_length (by rw [List.length_append, List.length_take]; simp [zeros]; omega)]
    exact List.take_of_length_le (by rw [List.length_append, List.length_take]; simp [zeros]; omega)
  rw [e] at hy
  rcases List.mem_append.1 hy with h | h
  · exact h0 y h
  · exact (List.mem_replicate.1 h).2
theorem Inv.step {t : S} {K : Nat} (h : Inv t K) (i n : Int) : Inv (step t i n).1 (K + 1) := by
  unfold St.step
  split
  · exact h.mono (Nat.le_succ _)
  · rename_i ho
    obtain ⟨k, rfl, hk⟩ := out_ex (fun e => ho (.inl e))
    split
    · exact h.mono (Nat.le_succ _)
    · rename_i hp
      rw [t.c_eq k hk] at hp
      have hc := h.cell k hk
      obtain ⟨⟨hw0, hw1⟩, hz⟩ := hc.wip (by omega)
      have hpo : (t.w k) + portion t k n ≤ t.size := by unfold portion; omega
      have hlen : (By.splice (t.x k) (t.w k).toNat (zeros (portion t k n))).length = t.size := by
        rw [By.splice_len _ _ _ (by rw [hc.len]; simp only [zeros, List.length_replicate]; omega), hc.len]
      have hzz : ∀ y ∈ (By.splice (t.x k) (t.w k).toNat (zeros (portion t k n))).take ((t.w k) + portion t k n).toNat, y = 0 := by
        rw [show ((t.w k) + portion t k n).toNat = (t.w k).toNat + portion t k n by omega]
        exact splice_zero hz (by rw [hc.len]; omega)
      split
      · rename_i hlt
        have u := h.upd k hk (c := t.ch[k]) (b := By.splice (t.x k) (t.w k).toNat (zeros (portion t k n))) (x := t.w k + portion t k n) (st := t.stack) (ev := t.ev)
          ⟨hc.ph, hc.ow, (hc.mono (Nat.le_succ K)).ge, hlen, fun e => by omega, fun _ => ⟨by omega, hzz⟩⟩ h.nodup (fun y => by
            split
            · rename_i e; subst e
              constructor
              · intro hy
                obtain ⟨j, hj, e, hp2⟩ := (h.free _).1 hy
                have e2 : k = j := by omega
                subst e2; exact hp2
              · intro e; omega
            · exact .rfl) h.n3 (fun e he => by have := h.ev e he; omega) (by omega)
        rw [List.set_getElem_self] at u
        simpa [wiped] using u
      · rename_i hlt
        have hfull : ((t.w k) + portion t k n).toNat = t.size := by omega
        have u := h.upd k hk (c := ⟨0, 0, (t.ch[k]).gen + 1⟩) (b := By.splice (t.x k) (t.w k).toNat (zeros (portion t k n))) (x := t.w k + portion t k n) (st := t.stack ++ [(k : Int)]) (ev := up t.ev 3)
          ⟨by simp, .inr ⟨by simp, rfl⟩, by have := hc.ge; dsimp only; omega, hlen, fun _ => by
            rw [hfull] at hzz
            rw [List.take_of_length_le (by omega)] at hzz
            exact hzz, by simp⟩
          (by
            rw [List.nodup_append]
            refine ⟨h.nodup, by simp, fun a ha b hb => ?_⟩
            simp at hb; subst hb
            intro e; subst e
            obtain ⟨j, hj, e, hp2⟩ := (h.free _).1 ha
            have e2 : k = j := by omega
            subst e2; omega)
          (fun y => by
            simp only [List.mem_append, List.mem_singleton]
            split
            · rename_i e; simp [e]
            · rename_i e; simp [e])
          (by rw [up_len]; exact h.n3) (up_in h.ev 3) (by
            unfold up; rw [getD_set _ _ _ _ _ (by rw [h.n3]; omega), if_pos rfl]; dsimp only; omega)
        rw [t.c_eq k hk]
        simpa [wiped] using u
theorem Inv.put {t : S} {K : Nat} (h : Inv t K) (i ge at_ : Int) (s : List UInt8) : Inv (put t i ge at_ s).1 (K + 1) := by
  unfold St.put
  split
  · exact h.mono (Nat.le_succ _)
  · rename_i ho
    obtain ⟨k, rfl, hk⟩ := out_ex ho
    split
    · exact h.mono (Nat.le_succ _)
    · rename_i hs
      split
      · exact h.mono (Nat.le_succ _)
      · rename_i hof
        unfold stale at hs
        rw [t.c_eq k hk] at hs
        unfold off at hof
        have hc := h.cell k hk
        have u := h.upd k hk (c := t.ch[k]) (b := By.splice (t.x k) at_.toNat s) (x := t.w k) (st := t.stack) (ev := t.ev)
          ⟨hc.ph, hc.ow, (hc.mono (Nat.le_succ K)).ge, by rw [By.splice_len _ _ _ (by omega), hc.len], fun e => by omega, fun e => by omega⟩ h.nodup (fun y => by
            split
            · rename_i e; subst e
              constructor
              · intro hy
                obtain ⟨j, hj, e, hp2⟩ := (h.free _).1 hy
                have e2 : k = j := by omega
                subst e2; exact hp2
              · intro e; omega
            · exact .rfl) h.n3 (fun e he => by have := h.ev e he; omega) (by omega)
        rw [List.set_getElem_self] at u
        simp only [S.w, Int.toNat_natCast, set_self] at u
        simpa using u
end St
namespace Stk
theorem nodup_len : ∀ (n : Nat) (l : List Int), l.Nodup → (∀ x ∈ l, 0 ≤ x ∧ x < (n : Int)) → l.length ≤ n
  | 0, l, _, h => by
    cases l with
    | nil => simp
    | cons a l => have := h a (by simp); omega
  | n + 1, l, hn, h => by
    have h1 := nodup_len n (l.erase n) (hn.erase _) (fun x hx => by
      have := h x (List.mem_of_mem_erase hx)
      have hne : x ≠ n := fun e => by subst e; exact (List.Nodup.mem_erase_iff hn).1 hx |>.1 rfl
      omega)
    rw [List.length_erase] at h1
    split at h1 <;> omega
/-- What a stack's places say. -/
structure Ok (n : Nat) (pl l : List Int) : Prop where
  len : pl.length = n
  nodup : l.Nodup
  in_ : ∀ x ∈ l, 0 ≤ x ∧ x < (n : Int)
  at_ : ∀ (k : Nat) (h : k < l.length), pl.getD (l[k]).toNat 0 = k
  non : ∀ x : Nat, x < n → (x : Int) ∉ l → pl.getD x 0 = -1
theorem Ok.new (n : Nat) : Ok n (List.replicate n (-1)) [] := ⟨by simp, by simp, by simp, fun k h => by simp at h, fun x hx _ => by rw [List.getD_eq_getElem?_getD, List.getElem?_replicate, if_pos hx]; rfl⟩
theorem Ok.room {n : Nat} {pl l : List Int} (h : Ok n pl l) (x : Int) (hx : x ∉ l) (h0 : 0 ≤ x ∧ x < (n : Int)) : l.length < n := by
  have := nodup_len n (x :: l) (List.nodup_cons.2 ⟨hx, h.nodup⟩) (fun y hy => by
    rcases List.mem_cons.1 hy with rfl | hy
    · exact h0
    · exact h.in_ y hy)
  rw [List.length_cons] at this; omega
theorem Ok.push {n : Nat} {pl l : List Int} (h : Ok n pl l) (x : Nat) (hx : (x : Int) ∉ l) (h0 : x < n) : Ok n (pl.set x (l.length : Nat)) (l ++ [(x : Int)]) := by
  have hl := h.len
  refine ⟨by simpa using h.len, ?_, fun y hy => ?_, fun k hk => ?_, fun y hy hn => ?_⟩
  · rw [List.nodup_append]; exact ⟨h.nodup, by simp, fun a ha b hb => by simp at hb; subst hb; exact fun e => hx (e ▸ ha)⟩
  · rcases List.mem_append.1 hy with hy | hy
    · exact h.in_ y hy
    · simp at hy; subst hy; omega
  · rw [St.getD_set _ _ _ _ _ (by omega)]
    by_cases c : k < l.length
    · rw [List.getElem_append_left c, if_neg, h.at_ k c]
      intro e
      have hm := List.getElem_mem c
      have := h.in_ _ hm
      exact hx (by rw [← e, Int.toNat_of_nonneg this.1]; exact hm)
    · simp only [List.length_append, List.length_cons, List.length_nil] at hk
      rw [List.getElem_append_right (by omega)]
      simp only [List.getElem_singleton, Int.toNat_natCast, if_true]; omega
  · simp only [List.mem_append, List.mem_singleton, not_or] at hn
    rw [St.getD_set _ _ _ _ _ (by omega), if_neg (by omega)]
    exact h.non y hy hn.1
theorem Ok.pop {n : Nat} {pl l : List Int} {x : Nat} (h : Ok n pl (l ++ [(x : Int)])) : Ok n (pl.set x (-1)) l := by
  have hl := h.len
  have hnd := h.nodup
  rw [List.nodup_append] at hnd
  have hxn := h.in_ (x : Int) (by simp)
  have hx : (x : Int) ∉ l := fun hm => hnd.2.2 _ hm _ (by simp) rfl
  refine ⟨by simpa using h.len, hnd.1, fun y hy => h.in_ y (by simp [hy]), fun k hk => ?_, fun y hy hn => ?_⟩
  · rw [St.getD_set _ _ _ _ _ (by omega), if_neg]
    · have := h.at_ k (by simp; omega)
      rw [List.getElem_append_left hk] at this; exact this
    · intro e
      have hm := List.getElem_mem hk
      have := h.in_ _ (List.mem_append_left [(x : Int)] hm)
      exact hx (by rw [← e, Int.toNat_of_nonneg this.1]; exact hm)
  · rw [St.getD_set _ _ _ _ _ (by omega)]
    split
    · rfl
    · rename_i e
      exact h.non y hy (by simp only [List.mem_append, List.mem_singleton, not_or]; exact ⟨hn, by omega⟩)
theorem Ok.top {n : Nat} {pl l : List Int} {x : Nat} (h : Ok n pl (l ++ [(x : Int)])) : pl.getD x 0 = (l.length : Nat) := by
  have := h.at_ l.length (by simp)
  rw [List.getElem_append_right (by omega)] at this
  simpa using this
theorem Ok.is {n : Nat} {pl l : List Int} (h : Ok n pl l) (x : Nat) (hx : x < n) : 0 ≤ pl.getD x 0 ↔ (x : Int) ∈ l := by
  constructor
  · intro h0
    apply Classical.byContradiction
    intro hn
    rw [h.non x hx hn] at h0; omega
  · intro hm
    obtain ⟨k, hk, e⟩ := List.getElem_of_mem hm
    have := h.at_ k hk
    rw [e, Int.toNat_natCast] at this
    omega
end Stk
namespace St
/-- A store of which all chunks are free. -/
def new (n size : Nat) : S := ⟨size, List.replicate n ch0, List.replicate n (zeros size), List.replicate n 0, ((List.range n).reverse).map (Nat.cast : Nat → Int), [0, 0, 0, 0]⟩
theorem gens_new (n : Nat) : gens (List.replicate n ch0) = 0 := by
  induction n with
  | zero => rfl
  | succ n ih => rw [List.replicate_succ]; simp only [gens, List.map_cons, List.sum_cons] at ih ⊢; rw [ih]; rfl
theorem Inv.new (n size : Nat) (hn : n ≤ 1048576) (h : 64 ≤ size ∧ size ≤ 1048576 ∧ size % 64 = 0) : Inv (new n size) 0 := by
  refine ⟨by simp [St.new], by simp [St.new], rfl, by simpa [St.new] using hn, h, fun i hi => ?_, ?_, fun x => ?_, ?_, ?_⟩
  · have hi' : i < n := by simpa [St.new] using hi
    simp only [St.new, S.x, S.w, Int.toNat_natCast, List.getElem_replicate, List.getD_eq_getElem?_getD, List.getElem?_replicate, hi', if_true, Option.getD_some]
    exact ⟨by simp [ch0], .inr ⟨by simp [ch0], rfl⟩, by simp [ch0], by simp [zeros], fun _ y hy => (List.mem_replicate.1 hy).2, by simp [ch0]⟩
  · simp only [St.new, List.map_reverse]
    have h1 : (List.range n).Nodup := List.nodup_range
    unfold List.Nodup at h1 ⊢
    rw [List.pairwise_reverse, List.pairwise_map]
    exact h1.imp fun hne e => hne (Int.ofNat.inj e).symm
  · simp only [St.new, List.mem_map, List.mem_reverse, List.mem_range, List.length_replicate, List.getElem_replicate]
    constructor
    · rintro ⟨k, hk, rfl⟩; exact ⟨k, hk, rfl, rfl⟩
    · rintro ⟨k, hk, rfl, _⟩; exact ⟨k, hk, rfl⟩
  · simp [St.new]
  · simp only [St.new]; rw [gens_new]; rfl
end St
end Go.Proofs.YtipkgamiejenaaaGreat
