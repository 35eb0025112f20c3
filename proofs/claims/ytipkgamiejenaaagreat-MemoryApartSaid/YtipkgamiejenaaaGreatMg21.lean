import Derived.Test.YtipkgamiejenaaaGreatMg20
import Derived.Test.YtipkgamiejenaaaGreatMg19
/- Plain: the numbers of a list above 0, each once, rising: one after the other by the least one above the last. -/
namespace Go.Proofs.YtipkgamiejenaaaGreat

/-- The least one above 'last', in as many as have been looked at; 0: none yet. -/
def leastStep (last next x : Int) : Int := if last < x ∧ (next = 0 ∨ x < next) then x else next
def leastAbove (last : Int) (l : List Int) : Int := l.foldl (leastStep last) 0

theorem leastAbove_snoc (last : Int) (l : List Int) (k : Nat) (hk : k < l.length) : leastAbove last (l.take (k + 1)) = leastStep last (leastAbove last (l.take k)) l[k] := by
  unfold leastAbove
  rw [List.take_succ_eq_append_getElem hk, List.foldl_append]
  rfl

theorem leastAbove_spec (last : Int) (h0 : 0 ≤ last) (l : List Int) : ∀ k, k ≤ l.length →
    (leastAbove last (l.take k) = 0 ∧ ∀ x ∈ l.take k, x ≤ last) ∨ (last < leastAbove last (l.take k) ∧ leastAbove last (l.take k) ∈ l.take k ∧ ∀ x ∈ l.take k, last < x → leastAbove last (l.take k) ≤ x)
  | 0, _ => .inl ⟨rfl, by simp⟩
  | k + 1, hk => by
    have hlt : k < l.length := by omega
    have ih := leastAbove_spec last h0 l k (by omega)
    rw [leastAbove_snoc last l k hlt]
    have hm : ∀ x, x ∈ l.take (k + 1) ↔ x ∈ l.take k ∨ x = l[k] := fun x => by rw [List.take_succ_eq_append_getElem hlt, List.mem_append]; simp
    generalize leastAbove last (l.take k) = n at ih
    generalize l[k] = y at hm
    unfold leastStep
    rcases ih with ⟨rfl, h1⟩ | ⟨h1, h2, h3⟩
    · by_cases hy : last < y
      · rw [if_pos ⟨hy, .inl rfl⟩]
        refine .inr ⟨hy, (hm y).2 (.inr rfl), fun x hx hlx => ?_⟩
        rcases (hm x).1 hx with h | h
        · have := h1 x h; omega
        · omega
      · rw [if_neg (fun h => hy h.1)]
        refine .inl ⟨rfl, fun x hx => ?_⟩
        rcases (hm x).1 hx with h | h
        · exact h1 x h
        · omega
    · by_cases hy : last < y ∧ y < n
      · rw [if_pos ⟨hy.1, .inr hy.2⟩]
        refine .inr ⟨hy.1, (hm y).2 (.inr rfl), fun x hx hlx => ?_⟩
        rcases (hm x).1 hx with h | h
        · have := h3 x h hlx; omega
        · omega
      · rw [if_neg (fun h => hy ⟨h.1, by rcases h.2 with h | h <;> omega⟩)]
        refine .inr ⟨h1, (hm n).2 (.inl h2), fun x hx hlx => ?_⟩
        rcases (hm x).1 hx with h | h
        · exact h3 x h hlx
        · omega

/-- What has been told up to 'last'. -/
structure Told (l : List Int) (last : Int) (o : List Int) : Prop where
  pos : 0 ≤ last
  up : o.Pairwise (· < ·)
  mem : ∀ x, x ∈ o ↔ x ∈ l ∧ 0 < x ∧ x ≤ last

theorem Told.start (l : List Int) : Told l 0 [] := ⟨by omega, by simp, fun x => by simp⟩
theorem Told.next {l : List Int} {last : Int} {o : List Int} (h : Told l last o) (hn : 0 < leastAbove last l) : Told l (leastAbove last l) (o ++ [leastAbove last l]) ∧ last < leastAbove last l ∧ leastAbove last l ∈ l := by
  have hs := leastAbove_spec last h.pos l l.length (Nat.le_refl _)
  rw [List.take_length] at hs
  generalize leastAbove last l = n at hn hs
  rcases hs with ⟨h1, _⟩ | ⟨h1, h2, h3⟩
  · omega
  · refine ⟨⟨by omega, ?_, fun x => ?_⟩, h1, h2⟩
    · rw [List.pairwise_append]
      refine ⟨h.up, by simp, fun a ha b hb => ?_⟩
      have := ((h.mem a).1 ha).2.2
      simp at hb
      omega
    · rw [List.mem_append, h.mem]
      constructor
      · rintro (⟨a, b, c⟩ | hx)
        · exact ⟨a, b, by omega⟩
        · simp at hx; subst hx; exact ⟨h2, by omega, by omega⟩
      · rintro ⟨a, b, c⟩
        by_cases hx : x ≤ last
        · exact .inl ⟨a, b, hx⟩
        · have := h3 x a (by omega)
          exact .inr (by simp; omega)
theorem Told.last {l : List Int} {last : Int} {o : List Int} (h : Told l last o) (hn : ¬ 0 < leastAbove last l) : o.Pairwise (· < ·) ∧ ∀ x, x ∈ o ↔ x ∈ l ∧ 0 < x := by
  have hs := leastAbove_spec last h.pos l l.length (Nat.le_refl _)
  rw [List.take_length] at hs
  have hp := h.pos
  refine ⟨h.up, fun x => ?_⟩
  rw [h.mem]
  constructor
  · rintro ⟨a, b, _⟩; exact ⟨a, b⟩
  · rintro ⟨a, b⟩
    rcases hs with ⟨_, h1⟩ | ⟨h1, _, _⟩
    · exact ⟨a, b, h1 x a⟩
    · omega

/-- How many are above a. -/
def leftN (l : List Int) (a : Int) : Nat := (l.filter fun x => decide (a < x)).length
theorem sortInts_rises {l : List Int} (h : l.Nodup) : (sortInts l).Pairwise (· < ·) := by
  have tr : ∀ a b c : Int, decide (a ≤ b) = true → decide (b ≤ c) = true → decide (a ≤ c) = true := by simp; omega
  have to : ∀ a b : Int, (decide (a ≤ b) || decide (b ≤ a)) = true := by simp; omega
  have h1 := List.pairwise_mergeSort tr to l
  have h2 : (sortInts l).Nodup := (List.mergeSort_perm l _).nodup_iff.2 h
  have h3 := h1.and h2
  exact h3.imp fun {a b} ⟨x, y⟩ => by simp at x; omega
theorem mem_sortInts (l : List Int) (x : Int) : x ∈ sortInts l ↔ x ∈ l := (List.mergeSort_perm l _).mem_iff

end Go.Proofs.YtipkgamiejenaaaGreat

/- The plain law of chapter 41: the program's pieces and the document's, side by side. -/
namespace Go.Proofs.YtipkgamiejenaaaGreat
open Go Go.RowKit Go.MapKept
set_option linter.unusedVariables false
set_option maxRecDepth 100000

namespace Lv
abbrev LtL (a b : LaidM) : Prop := a.chunk < b.chunk ∨ a.chunk = b.chunk ∧ a.pos < b.pos
structure Good (x : LaidM) : Prop where
  c0 : 0 ≤ x.chunk ∧ x.chunk ≤ 1048575
  g0 : 0 ≤ x.gen ∧ x.gen ≤ 1048575
  p0 : 0 ≤ x.pos ∧ x.pos ≤ 1048575
  l0 : 1 ≤ x.len ∧ x.len ≤ 1048576
  r0 : 0 ≤ x.region
theorem good_of_not_bad {x : LaidM} (h : ¬ Live.Bad x) : Good x := by
  unfold Live.Bad at h
  simp only [not_or] at h
  obtain ⟨h1, h2, h3, h4⟩ := h
  have h5 : (Hdl.put 3 x.chunk x.gen x.pos).2 = 0 := Classical.not_not.1 h1
  unfold Hdl.put at h5
  split at h5
  · omega
  · split at h5
    · simp at h5
    · rename_i h6
      unfold Hdl.Beyond at h6
      exact ⟨by omega, by omega, by omega, by omega, by omega⟩
theorem bad_of_not_good {x : LaidM} (h : Good x) : ¬ Live.Bad x := by
  unfold Live.Bad
  rw [Hdl.put_y (by omega) (by have := h.c0; have := h.g0; have := h.p0; unfold Hdl.Beyond; omega)]
  have := h.l0
  have := h.r0
  omega
/-- The program's pieces M are the pieces l of the document. -/
structure Inv (M : LvM) (l : List LaidM) : Prop where
  sorted : l.Pairwise LtL
  good : ∀ x ∈ l, Good x
  ins : ∀ i, Live.lin l i = inM M i
  ok : Ok M
  some_ : ∀ i q, alGet M i = some q → q.2.sp ≠ []
  keys : (alKeys M).Nodup
theorem Inv.nil : Inv [] [] := ⟨.nil, by simp, fun i => rfl, ⟨fun i q h => by simp [alGet_nil] at h⟩, fun i q h => by simp [alGet_nil] at h, by simp [alKeys]⟩
theorem mem_lin {l : List LaidM} {c : Int} {x : LaidM} : x ∈ Live.lin l c ↔ x ∈ l ∧ x.chunk = c := by simp [Live.lin]
theorem Inv.mem {M : LvM} {l : List LaidM} (h : Inv M l) {x : LaidM} (hx : x ∈ l) : ∃ q, alGet M x.chunk = some q ∧ ∃ s ∈ q.2.sp, x = laid x.chunk q.2 s := by
  have h1 : x ∈ inM M x.chunk := by rw [← h.ins]; exact mem_lin.2 ⟨hx, rfl⟩
  unfold inM at h1
  split at h1
  · simp at h1
  · rename_i q hq
    obtain ⟨s, hs, he⟩ := List.mem_map.1 h1
    exact ⟨q, hq, s, hs, he.symm⟩
theorem Inv.of {M : LvM} {l : List LaidM} (h : Inv M l) {i : Int} {q : Nat × ChM} (hq : alGet M i = some q) {s : SpanM} (hs : s ∈ q.2.sp) : laid i q.2 s ∈ l := by
  have h1 : laid i q.2 s ∈ inM M i := by unfold inM; rw [hq]; exact List.mem_map.2 ⟨s, hs, rfl⟩
  rw [← h.ins] at h1
  exact (mem_lin.1 h1).1
theorem find_lin {l : List LaidM} {c : Int} {p : LaidM → Bool} (hp : ∀ x, p x = true → x.chunk = c) : l.find? p = (Live.lin l c).find? p := by
  unfold Live.lin
  rw [List.find?_filter]
  congr 1
  funext x
  by_cases h : p x = true
  · simp [h, hp x h]
  · simp [h]
/-- Find. -/
theorem Inv.find {M : LvM} {l : List LaidM} (h : Inv M l) (x : Int) : Lv.find M x = Live.find l x := by
  unfold Lv.find Live.find
  split
  · rfl
  · rw [find_lin (c := (Hdl.get x).place) (fun y hy => by simp at hy; exact hy.1), h.ins]
    unfold inM
    cases hq : alGet M (Hdl.get x).place with
    | none => rfl
    | some q =>
      simp only
      rw [List.find?_map]
      by_cases hg : q.2.gen = (Hdl.get x).gen
      · have e : ((fun y => decide (Live.Is (Hdl.get x).place (Hdl.get x).gen (Hdl.get x).off y)) ∘ laid (Hdl.get x).place q.2) = fun s => decide (s.pos = (Hdl.get x).off) := by
          funext s
          simp [laid, Live.Is, hg]
        rw [e]
        simp only [hg, not_true, if_false]
        cases List.find? (fun s => decide (s.pos = (Hdl.get x).off)) q.2.sp <;> rfl
      · have e : ((fun y => decide (Live.Is (Hdl.get x).place (Hdl.get x).gen (Hdl.get x).off y)) ∘ laid (Hdl.get x).place q.2) = fun s => false := by
          funext s
          simp [laid, Live.Is, hg]
        have e2 : q.2.sp.find? (fun s => false) = none := by simp [List.find?_eq_none]
        rw [e, e2]
        simp [hg]
/-- At. -/
theorem Inv.atOf {M : LvM} {l : List LaidM} (h : Inv M l) (i x : Int) : Lv.atOf M i x = Live.atOf l i x := by
  unfold Lv.atOf Live.atOf
  rw [find_lin (c := i) (fun y hy => by simp at hy; exact hy.1), h.ins]
  unfold inM
  cases hq : alGet M i with
  | none => rfl
  | some q =>
    simp only
    rw [List.find?_map]
    have e : ((fun y => decide (Live.Has i x y)) ∘ laid i q.2) = fun s => decide (Spn.Has x s) := by
      funext s
      apply decide_eq_decide.2
      simp [laid, Live.Has, Spn.Has]
    rw [e]
    cases List.find? (fun s => decide (Spn.Has x s)) q.2.sp <;> rfl
theorem spansOf_laid (i : Int) (c : ChM) : ∀ l : List SpanM, Live.spansOf (l.map (laid i c)) = l
  | [] => rfl
  | s :: l => by
    have := spansOf_laid i c l
    simp only [Live.spansOf, List.map_cons, laid] at this ⊢
    rw [this]
theorem Inv.spans {M : LvM} {l : List LaidM} (h : Inv M l) (i : Int) : Live.spansOf (Live.lin l i) = match alGet M i with
  | none => []
  | some q => q.2.sp := by
  rw [h.ins]
  unfold inM
  cases alGet M i with
  | none => rfl
  | some q => exact spansOf_laid i q.2 q.2.sp
/-- All. -/
theorem split_lin (c : Int) : ∀ (l : List LaidM), l.Pairwise LtL → (∀ x ∈ l, c ≤ x.chunk) → l = Live.lin l c ++ Live.lout l c
  | [], _, _ => rfl
  | a :: l, hp, hc => by
    rw [List.pairwise_cons] at hp
    have ih := split_lin c l hp.2 (fun x hx => hc x (List.mem_cons_of_mem _ hx))
    by_cases h : a.chunk = c
    · unfold Live.lin Live.lout at ih ⊢
      simp only [List.filter_cons, h, decide_true, if_true, Bool.not_true, Bool.false_eq_true, if_false, List.cons_append]
      rw [← ih]
    · have hl : c < a.chunk := by have := hc a (List.mem_cons_self ..); omega
      have hn : ∀ x ∈ a :: l, ¬ x.chunk = c := fun x hx => by
        rcases List.mem_cons.1 hx with rfl | hx
        · exact h
        · have := hp.1 x hx; unfold LtL at this; omega
      have e1 : Live.lin (a :: l) c = [] := by
        unfold Live.lin
        rw [List.filter_eq_nil_iff]
        intro x hx
        simpa using hn x hx
      have e2 : Live.lout (a :: l) c = a :: l := by
        unfold Live.lout
        rw [List.filter_eq_self]
        intro x hx
        simpa using hn x hx
      rw [e1, e2]; rfl
theorem flat_lin : ∀ (ks : List Int) (l : List LaidM), ks.Pairwise (· < ·) → l.Pairwise LtL → (∀ x ∈ l, x.chunk ∈ ks) → ks.flatMap (Live.lin l) = l
  | [], l, _, _, h => by
    have : l = [] := List.eq_nil_iff_forall_not_mem.2 fun x hx => by simpa using h x hx
    subst this; rfl
  | k :: ks, l, hk, hp, h => by
    rw [List.pairwise_cons] at hk
    have hs := split_lin k l hp (fun x hx => by
      rcases List.mem_cons.1 (h x hx) with e | e
      · omega
      · have := hk.1 _ e; omega)
    have ih := flat_lin ks (Live.lout l k) hk.2 (hp.sublist List.filter_sublist) (fun x hx => by
      have h1 := List.mem_filter.1 hx
      rcases List.mem_cons.1 (h x h1.1) with e | e
      · simp [e] at h1
      · exact e)
    have e : ks.flatMap (Live.lin l) = ks.flatMap (Live.lin (Live.lout l k)) := by
      rw [List.flatMap_def, List.flatMap_def]
      congr 1
      apply List.map_congr_left
      intro j hj
      have : j ≠ k := fun e => by subst e; exact absurd (hk.1 j hj) (Int.lt_irrefl j)
      unfold Live.lin Live.lout
      rw [List.filter_filter]
      congr 1
      funext x
      by_cases hx : x.chunk = j
      · simp [hx, this]
      · simp [hx]
    rw [List.flatMap_cons, e, ih]
    exact hs.symm
theorem Inv.all {M : LvM} {l : List LaidM} (h : Inv M l) : (sortInts (alKeys M)).flatMap (inM M) = l := by
  have e : inM M = Live.lin l := funext fun i => (h.ins i).symm
  rw [e]
  refine flat_lin _ l (sortInts_rises h.keys) h.sorted fun x hx => ?_
  rw [mem_sortInts]
  obtain ⟨q, hq, -⟩ := h.mem hx
  exact Classical.byContradiction fun hc => by rw [(alGet_none _ _).2 hc] at hq; cases hq
/-- Drop. -/
theorem Inv.drop {M : LvM} {l : List LaidM} (h : Inv M l) (c : Int) : Inv (alDel M c) (Live.lout l c) := by
  have hg : ∀ i, alGet (alDel M c) i = if i = c then none else alGet M i := fun i => alGet_del c i M h.keys
  refine ⟨h.sorted.sublist List.filter_sublist, fun x hx => h.good x (List.mem_filter.1 hx).1, fun i => ?_, ⟨fun i q hq => ?_⟩, fun i q hq => ?_, alKeys_del_nodup c M h.keys⟩
  · have hi := h.ins i
    unfold inM at hi ⊢
    rw [hg]
    by_cases e : i = c
    · subst e
      rw [if_pos rfl]
      unfold Live.lin Live.lout
      rw [List.filter_filter, List.filter_eq_nil_iff]
      intro x hx; simp
    · rw [if_neg e, ← hi]
      unfold Live.lin Live.lout
      rw [List.filter_filter]
      congr 1
      funext x
      by_cases hx : x.chunk = i
      · simp [hx, e]
      · simp [hx]
  · rw [hg] at hq
    split at hq
    · cases hq
    · exact h.ok.right i q hq
  · rw [hg] at hq
    split at hq
    · cases hq
    · exact h.some_ i q hq
/-- What Add does where it adds. -/
def old (M : LvM) (i : Int) : List SpanM × List (Int × Int) := match alGet M i with
  | none => ([], [])
  | some q => (q.2.sp, q.2.reg)
structure Adds (M : LvM) (x : LaidM) (M' : LvM) : Prop where
  gen : ∀ q, alGet M x.chunk = some q → q.2.gen = x.gen
  free : ∀ q, alGet M x.chunk = some q → ∀ (i : Nat) (hi : i < q.2.sp.length), ¬ Spn.Meet q.2.sp[i] ⟨x.pos, x.len⟩
  new : ∃ cb k, Spn.IsLow (old M x.chunk).1 x.pos k ∧ M' = alSet M x.chunk (cb, ⟨x.gen, (old M x.chunk).1.take k ++ [⟨x.pos, x.len⟩] ++ (old M x.chunk).1.drop k, alSet (old M x.chunk).2 x.pos x.region⟩)
theorem Inv.noOld {M : LvM} {l : List LaidM} (h : Inv M l) {x : LaidM} (hg : ∀ q, alGet M x.chunk = some q → q.2.gen = x.gen) (j : Nat) (hj : j < l.length) : ¬ Live.Old x l[j] := by
  rintro ⟨h1, h2⟩
  obtain ⟨q, hq, s, hs, he⟩ := h.mem (List.getElem_mem hj)
  rw [h1] at hq
  have := hg q hq
  rw [he] at h2
  simp [laid] at h2
  exact h2 this
theorem Inv.isOld {M : LvM} {l : List LaidM} (h : Inv M l) {x : LaidM} {q : Nat × ChM} (hq : alGet M x.chunk = some q) (hg : ¬ q.2.gen = x.gen) : ∃ (j : Nat) (hj : j < l.length), Live.Old x l[j] := by
  obtain ⟨s, hs⟩ := List.exists_mem_of_ne_nil _ (h.some_ _ _ hq)
  obtain ⟨j, hj, he⟩ := List.getElem_of_mem (h.of hq hs)
  exact ⟨j, hj, by rw [he]; exact ⟨rfl, hg⟩⟩
theorem Inv.noTwice {M : LvM} {l : List LaidM} (h : Inv M l) {x : LaidM} (hf : ∀ q, alGet M x.chunk = some q → ∀ (i : Nat) (hi : i < q.2.sp.length), ¬ Spn.Meet q.2.sp[i] ⟨x.pos, x.len⟩) (j : Nat) (hj : j < l.length) : ¬ Live.Twice x l[j] := by
  rintro ⟨h1, h2⟩
  obtain ⟨q, hq, s, hs, he⟩ := h.mem (List.getElem_mem hj)
  rw [h1] at hq
  obtain ⟨i, hi, hs⟩ := List.getElem_of_mem hs
  apply hf q hq i hi
  rw [hs]
  rw [he] at h2
  exact h2
theorem Inv.isTwice {M : LvM} {l : List LaidM} (h : Inv M l) {x : LaidM} {q : Nat × ChM} (hq : alGet M x.chunk = some q) {i : Nat} (hi : i < q.2.sp.length) (hm : Spn.Meet q.2.sp[i] ⟨x.pos, x.len⟩) : ∃ (j : Nat) (hj : j < l.length), Live.Twice x l[j] := by
  obtain ⟨j, hj, he⟩ := List.getElem_of_mem (h.of hq (List.getElem_mem hi))
  exact ⟨j, hj, by rw [he]; exact ⟨rfl, hm⟩⟩
theorem SpOk.of_good {x : LaidM} (h : Good x) : SpOk ⟨x.pos, x.len⟩ := ⟨h.p0.1, h.p0.2, h.l0.1, h.l0.2⟩
theorem SpR.short {l : List SpanM} (h1 : ∀ (i : Nat) (h : i < l.length), SpOk l[i]) (h2 : ∀ (i j : Nat) (h : i < j) (hj : j < l.length), l[i].pos + l[i].len ≤ l[j].pos) : l.length ≤ 1048576 := by
  have key : ∀ i : Nat, ∀ h : i < l.length, (i : Int) ≤ l[i].pos := by
    intro i
    induction i with
    | zero => intro h; exact (h1 0 h).p0
    | succ i ih =>
      intro h
      have a := ih (by omega)
      have b := h2 i (i + 1) (by omega) h
      have c := (h1 i (by omega)).l0
      omega
  rcases Nat.eq_zero_or_pos l.length with e | e
  · omega
  · have a := key (l.length - 1) (by omega)
    have b := (h1 (l.length - 1) (by omega)).p1
    omega
theorem SpR.insert {sp : List SpanM} {s : SpanM} {k : Nat} (hR : SpR sp) (hs : SpOk s) (hk : Spn.IsLow sp s.pos k) (hf : ∀ (i : Nat) (hi : i < sp.length), ¬ Spn.Meet sp[i] s) : SpR (sp.take k ++ [s] ++ sp.drop k) := by
  have hkl := hk.le
  have hget : ∀ (i : Nat) (h : i < (sp.take k ++ [s] ++ sp.drop k).length), (sp.take k ++ [s] ++ sp.drop k)[i] = if h1 : i < k then sp[i]'(by omega) else if h2 : i = k then s else sp[i - 1]'(by simp at h; omega) := by
    intro i h
    simp only [List.append_assoc]
    split
    · rename_i h1
      rw [List.getElem_append_left (by simp; omega), List.getElem_take]
    · rename_i h1
      rw [List.getElem_append_right (by simp; omega)]
      have hl : (sp.take k).length = k := by simp; omega
      split
      · rename_i h2
        subst h2
        simp [hl]
      · rename_i h2
        rw [List.getElem_append_right (by simp [hl]; omega), List.getElem_drop]
        congr 1
        simp [hl]; omega
  have o1 : ∀ (i : Nat) (h : i < (sp.take k ++ [s] ++ sp.drop k).length), SpOk (sp.take k ++ [s] ++ sp.drop k)[i] := by
    intro i h
    rw [hget]
    split
    · exact hR.ok _ _
    · split
      · exact hs
      · exact hR.ok _ _
  have o2 : ∀ (i j : Nat) (h : i < j) (hj : j < (sp.take k ++ [s] ++ sp.drop k).length), (sp.take k ++ [s] ++ sp.drop k)[i].pos + (sp.take k ++ [s] ++ sp.drop k)[i].len ≤ (sp.take k ++ [s] ++ sp.drop k)[j].pos := by
    intro i j hij hj
    have hl : j < sp.length + 1 := by simp at hj; omega
    rw [hget, hget]
    by_cases hik : i < k
    · rw [dif_pos hik]
      by_cases hjk : j < k
      · rw [dif_pos hjk]; exact hR.ord i j hij (by omega)
      · rw [dif_neg hjk]
        split
        · have h1 := hk.lo i (by omega) hik
          have h2 := hf i (by omega)
          unfold Spn.Meet at h2
          have := hs.l0
          omega
        · exact hR.ord i (j - 1) (by omega) (by omega)
    · rw [dif_neg hik, dif_neg (show ¬ j < k by omega), dif_neg (show ¬ j = k by omega)]
      split
      · have h1 := hk.hi (j - 1) (by omega) (by omega)
        have h2 := hf (j - 1) (by omega)
        unfold Spn.Meet at h2
        have := (hR.ok (j - 1) (by omega)).l0
        omega
      · exact hR.ord (i - 1) (j - 1) (by omega) (by omega)
  exact ⟨o1, o2, SpR.short o1 o2⟩
theorem pair_of {α : Type} {R : α → α → Prop} {l : List α} (h : l.Pairwise R) {i j : Nat} (hij : i < j) (hj : j < l.length) : R (l[i]'(by omega)) l[j] := by
  rw [List.pairwise_iff_getElem] at h
  exact h i j (by omega) hj hij
theorem LtL.trans {a b c : LaidM} (h : LtL a b) (g : LtL b c) : LtL a c := by unfold LtL at *; omega
/-- The two ends of a sorted list around x. -/
theorem place_lo {l : List LaidM} (hs : l.Pairwise LtL) {x : LaidM} {a : Nat} (hp : Live.IsPlace l x l.length a) : ∀ y ∈ l.take a, LtL y x := by
  intro y hy
  obtain ⟨j, hj, rfl⟩ := List.getElem_of_mem hy
  have hle := hp.le
  simp only [List.length_take] at hj
  rw [List.getElem_take]
  have hlast : LtL (l[a - 1]'(by omega)) x := hp.at_ (by omega) (by omega)
  rcases Nat.lt_or_ge j (a - 1) with h1 | h1
  · exact (pair_of hs h1 (by omega)).trans hlast
  · have : j = a - 1 := by omega
    subst this; exact hlast
theorem place_hi {l : List LaidM} {x : LaidM} {a : Nat} (hp : Live.IsPlace l x l.length a) : ∀ y ∈ l.drop a, ¬ LtL y x := by
  intro y hy hlt
  obtain ⟨j, hj, rfl⟩ := List.getElem_of_mem hy
  simp only [List.length_drop] at hj
  rw [List.getElem_drop] at hlt
  have := hp.up (a + j) (by omega) (by omega) hlt
  omega
theorem Inv.add {M M' : LvM} {l : List LaidM} (h : Inv M l) {x : LaidM} (hx : Good x) (hA : Adds M x M') {a : Nat} (hp : Live.IsPlace l x l.length a) : Inv M' (l.take a ++ [x] ++ l.drop a) := by
  obtain ⟨hgen, hfree, cb, k, hk, rfl⟩ := hA
  have hnt := h.noTwice hfree
  have lo := place_lo h.sorted hp
  have hi0 := place_hi hp
  have hi : ∀ y ∈ l.drop a, LtL x y := by
    intro y hy
    have h1 := hi0 y hy
    obtain ⟨j, hj, rfl⟩ := List.getElem_of_mem hy
    simp only [List.length_drop] at hj
    rw [List.getElem_drop] at h1 ⊢
    have h2 := hnt (a + j) (by omega)
    have h3 := (h.good _ (List.getElem_mem (show a + j < l.length by omega))).l0
    have h4 := hx.l0
    unfold LtL at h1 ⊢
    unfold Live.Twice Spn.Meet at h2
    simp only at h2
    omega
  have hR : SpR (old M x.chunk).1 := by
    unfold old
    cases hq : alGet M x.chunk with
    | none => exact ⟨fun i h => absurd h (Nat.not_lt_zero i), fun i j _ h => absurd h (Nat.not_lt_zero j), by simp⟩
    | some q => exact h.ok.right _ _ hq
  have hfr : ∀ (i : Nat) (hi : i < (old M x.chunk).1.length), ¬ Spn.Meet (old M x.chunk).1[i] ⟨x.pos, x.len⟩ := by
    unfold old
    cases hq : alGet M x.chunk with
    | none => intro i hi; exact absurd hi (Nat.not_lt_zero i)
    | some q => exact hfree q hq
  have hold : Live.lin l x.chunk = (old M x.chunk).1.map (laid x.chunk ⟨x.gen, (old M x.chunk).1, (old M x.chunk).2⟩) := by
    rw [h.ins]
    unfold inM old
    cases hq : alGet M x.chunk with
    | none => rfl
    | some q =>
      simp only
      apply List.map_congr_left
      intro s _
      unfold laid
      rw [hgen q hq]
  generalize old M x.chunk = o at hk hR hold hfr
  obtain ⟨sp, reg⟩ := o
  simp only at hk hR hold hfr ⊢
  have hkl := hk.le
  have hlenM : ∀ (i : Nat) (hi : i < sp.length), sp[i].pos ≠ x.pos := fun i hi e => by
    have := hfr i hi
    have h3 := (hR.ok i hi).l0
    have h4 := hx.l0
    unfold Spn.Meet at this
    simp only at this
    omega
  refine ⟨?_, ?_, fun i => ?_, ⟨fun i q hq => ?_⟩, fun i q hq => ?_, alKeys_set_nodup _ _ _ h.keys⟩
  · rw [List.append_assoc, List.pairwise_append]
    refine ⟨h.sorted.sublist (List.take_sublist ..), ?_, ?_⟩
    · rw [List.singleton_append, List.pairwise_cons]
      exact ⟨hi, h.sorted.sublist (List.drop_sublist ..)⟩
    · intro y hy z hz
      rcases List.mem_append.1 hz with hz | hz
      · simp at hz; subst hz; exact lo y hy
      · exact (lo y hy).trans (hi z hz)
  · intro y hy
    rcases List.mem_append.1 hy with hy | hy
    · rcases List.mem_append.1 hy with hy | hy
      · exact h.good y (List.mem_of_mem_take hy)
      · simp at hy; subst hy; exact hx
    · exact h.good y (List.mem_of_mem_drop hy)
  · have e0 : Live.lin (l.take a ++ [x] ++ l.drop a) i = Live.lin (l.take a) i ++ Live.lin [x] i ++ Live.lin (l.drop a) i := by
      unfold Live.lin; rw [List.filter_append, List.filter_append]
    have e1 : Live.lin l i = Live.lin (l.take a) i ++ Live.lin (l.drop a) i := by
      unfold Live.lin; rw [← List.filter_append, List.take_append_drop]
    unfold inM
    rw [e0, alGet_set]
    by_cases hic : i = x.chunk
    · subst hic
      rw [if_pos rfl]
      simp only
      have e2 : Live.lin [x] x.chunk = [x] := by simp [Live.lin]
      rw [e2]
      -- the two ends of the chunk
      have f1 : (Live.lin l x.chunk).filter (fun y => decide (y.pos < x.pos)) = Live.lin (l.take a) x.chunk := by
        rw [e1, List.filter_append]
        have g1 : (Live.lin (l.take a) x.chunk).filter (fun y => decide (y.pos < x.pos)) = Live.lin (l.take a) x.chunk := by
          rw [List.filter_eq_self]
          intro y hy
          have hm := mem_lin.1 hy
          have := lo y hm.1
          unfold LtL at this
          simp; omega
        have g2 : (Live.lin (l.drop a) x.chunk).filter (fun y => decide (y.pos < x.pos)) = [] := by
          rw [List.filter_eq_nil_iff]
          intro y hy
          have hm := mem_lin.1 hy
          have := hi y hm.1
          unfold LtL at this
          simp; omega
        rw [g1, g2, List.append_nil]
      have f2 : (Live.lin l x.chunk).filter (fun y => !decide (y.pos < x.pos)) = Live.lin (l.drop a) x.chunk := by
        rw [e1, List.filter_append]
        have g1 : (Live.lin (l.drop a) x.chunk).filter (fun y => !decide (y.pos < x.pos)) = Live.lin (l.drop a) x.chunk := by
          rw [List.filter_eq_self]
          intro y hy
          have hm := mem_lin.1 hy
          have := hi y hm.1
          unfold LtL at this
          simp; omega
        have g2 : (Live.lin (l.take a) x.chunk).filter (fun y => !decide (y.pos < x.pos)) = [] := by
          rw [List.filter_eq_nil_iff]
          intro y hy
          have hm := mem_lin.1 hy
          have := lo y hm.1
          unfold LtL at this
          simp; omega
        rw [g1, g2, List.nil_append]
      have m1 : sp.filter (fun s => decide (s.pos < x.pos)) = sp.take k := by
        conv => lhs; rw [← List.take_append_drop k sp]
        rw [List.filter_append]
        have g1 : (sp.take k).filter (fun s => decide (s.pos < x.pos)) = sp.take k := by
          rw [List.filter_eq_self]
          intro y hy
          obtain ⟨j, hj, rfl⟩ := List.getElem_of_mem hy
          simp only [List.length_take] at hj
          rw [List.getElem_take]
          have := hk.lo j (by omega) (by omega)
          simpa using this
        have g2 : (sp.drop k).filter (fun s => decide (s.pos < x.pos)) = [] := by
          rw [List.filter_eq_nil_iff]
          intro y hy
          obtain ⟨j, hj, rfl⟩ := List.getElem_of_mem hy
          simp only [List.length_drop] at hj
          rw [List.getElem_drop]
          have := hk.hi (k + j) (by omega) (by omega)
          simp; omega
        rw [g1, g2, List.append_nil]
      have m2 : sp.filter (fun s => !decide (s.pos < x.pos)) = sp.drop k := by
        conv => lhs; rw [← List.take_append_drop k sp]
        rw [List.filter_append]
        have g1 : (sp.drop k).filter (fun s => !decide (s.pos < x.pos)) = sp.drop k := by
          rw [List.filter_eq_self]
          intro y hy
          obtain ⟨j, hj, rfl⟩ := List.getElem_of_mem hy
          simp only [List.length_drop] at hj
          rw [List.getElem_drop]
          have := hk.hi (k + j) (by omega) (by omega)
          simp; omega
        have g2 : (sp.take k).filter (fun s => !decide (s.pos < x.pos)) = [] := by
          rw [List.filter_eq_nil_iff]
          intro y hy
          obtain ⟨j, hj, rfl⟩ := List.getElem_of_mem hy
          simp only [List.length_take] at hj
          rw [List.getElem_take]
          have := hk.lo j (by omega) (by omega)
          simp; omega
        rw [g1, g2, List.nil_append]
      rw [← f1, ← f2, hold, List.filter_map, List.filter_map]
      have c1 : ((fun y : LaidM => decide (y.pos < x.pos)) ∘ laid x.chunk ⟨x.gen, sp, reg⟩) = fun s => decide (s.pos < x.pos) := rfl
      have c2 : ((fun y : LaidM => !decide (y.pos < x.pos)) ∘ laid x.chunk ⟨x.gen, sp, reg⟩) = fun s => !decide (s.pos < x.pos) := rfl
      rw [c1, c2, m1, m2, List.map_append, List.map_append]
      have hsame : ∀ s ∈ sp, laid x.chunk ⟨x.gen, sp, reg⟩ s = laid x.chunk ⟨x.gen, sp.take k ++ [⟨x.pos, x.len⟩] ++ sp.drop k, alSet reg x.pos x.region⟩ s := by
        intro s hs
        obtain ⟨j, hj, rfl⟩ := List.getElem_of_mem hs
        unfold laid
        rw [alGet_set, if_neg (hlenM j hj)]
      have hnew : [x] = List.map (laid x.chunk ⟨x.gen, sp.take k ++ [⟨x.pos, x.len⟩] ++ sp.drop k, alSet reg x.pos x.region⟩) [⟨x.pos, x.len⟩] := by
        simp [laid, alGet_set]
      rw [List.map_congr_left (fun s hs => hsame s (List.mem_of_mem_take hs)), List.map_congr_left (fun s hs => hsame s (List.mem_of_mem_drop hs))]
      congr 1
      congr 1
    · rw [if_neg hic]
      have e2 : Live.lin [x] i = [] := by simp [Live.lin, Ne.symm hic]
      rw [e2, List.append_nil, ← e1]
      have := h.ins i
      unfold inM at this
      exact this
  · rw [alGet_set] at hq
    split at hq
    · cases hq
      exact SpR.insert hR (SpOk.of_good hx) hk hfr
    · exact h.ok.right i q hq
  · rw [alGet_set] at hq
    split at hq
    · cases hq; simp
    · exact h.some_ i q hq
/-- What Add of the program answers. -/
inductive IsAdd (M : LvM) (x : LaidM) : LvM × Int × Int → Prop
  | bad (h : Live.Bad x) : IsAdd M x (M, 0, 2)
  | old (h : ¬ Live.Bad x) (q : Nat × ChM) (hq : alGet M x.chunk = some q) (hg : ¬ q.2.gen = x.gen) : IsAdd M x (M, 0, 4)
  | twice (h : ¬ Live.Bad x) (q : Nat × ChM) (hq : alGet M x.chunk = some q) (hg : q.2.gen = x.gen) (i : Nat) (hi : i < q.2.sp.length) (hm : Spn.Meet q.2.sp[i] ⟨x.pos, x.len⟩) : IsAdd M x (M, 0, 19)
  | yes (h : ¬ Live.Bad x) (M' : LvM) (hA : Adds M x M') : IsAdd M x (M', (Hdl.put 3 x.chunk x.gen x.pos).1, 0)
/-- .. of the reference. -/
inductive RefAdd (l : List LaidM) (x : LaidM) : List LaidM × Int × Int → Prop
  | bad (h : Live.Bad x) : RefAdd l x (l, 0, 2)
  | old (h : ¬ Live.Bad x) (j : Nat) (hj : j < l.length) (ho : Live.Old x l[j]) : RefAdd l x (l, 0, 4)
  | twice (h : ¬ Live.Bad x) (hno : ∀ (j : Nat) (h : j < l.length), ¬ Live.Old x l[j]) (j : Nat) (hj : j < l.length) (ht : Live.Twice x l[j]) : RefAdd l x (l, 0, 19)
  | yes (h : ¬ Live.Bad x) (hno : ∀ (j : Nat) (h : j < l.length), ¬ Live.Old x l[j]) (hnt : ∀ (j : Nat) (h : j < l.length), ¬ Live.Twice x l[j]) (a : Nat) (ha : Live.IsPlace l x l.length a) : RefAdd l x (l.take a ++ [x] ++ l.drop a, (Hdl.put 3 x.chunk x.gen x.pos).1, 0)
theorem Inv.step {M : LvM} {l : List LaidM} (h : Inv M l) {x : LaidM} {r : LvM × Int × Int} {s : List LaidM × Int × Int} (hr : IsAdd M x r) (hs : RefAdd l x s) : Inv r.1 s.1 ∧ r.2 = s.2 := by
  cases hr with
  | bad hb => cases hs with
    | bad _ => exact ⟨h, rfl⟩
    | old hn _ _ _ => exact absurd hb hn
    | twice hn _ _ _ _ => exact absurd hb hn
    | yes hn _ _ _ _ => exact absurd hb hn
  | old hn q hq hg => cases hs with
    | bad hb => exact absurd hb hn
    | old _ _ _ _ => exact ⟨h, rfl⟩
    | twice _ hno _ _ _ => obtain ⟨j, hj, ho⟩ := h.isOld hq hg; exact absurd ho (hno j hj)
    | yes _ hno _ _ _ => obtain ⟨j, hj, ho⟩ := h.isOld hq hg; exact absurd ho (hno j hj)
  | twice hn q hq hg i hi hm => cases hs with
    | bad hb => exact absurd hb hn
    | old _ j hj ho => exact absurd ho (h.noOld (fun q' hq' => by rw [hq] at hq'; cases hq'; exact hg) j hj)
    | twice _ _ _ _ _ => exact ⟨h, rfl⟩
    | yes _ _ hnt _ _ => obtain ⟨j, hj, ho⟩ := h.isTwice hq hi hm; exact absurd ho (hnt j hj)
  | yes hn M' hA => cases hs with
    | bad hb => exact absurd hb hn
    | old _ j hj ho => exact absurd ho (h.noOld hA.gen j hj)
    | twice _ _ j hj ht => exact absurd ht (h.noTwice hA.free j hj)
    | yes _ _ _ a ha => exact ⟨h.add (good_of_not_bad hn) hA ha, rfl⟩
theorem RefAdd.len {l : List LaidM} {x : LaidM} {s : List LaidM × Int × Int} (h : RefAdd l x s) : s.1.length ≤ l.length + 1 := by
  cases h with
  | yes _ _ _ a ha => have := ha.le; simp; omega
  | _ => simp
theorem flat_count {α β : Type} (f : α → List β) : ∀ (ks : List α), (∀ k ∈ ks, f k ≠ []) → ks.length ≤ (ks.flatMap f).length
  | [], _ => by simp
  | k :: ks, h => by
    have ih := flat_count f ks (fun x hx => h x (List.mem_cons_of_mem _ hx))
    have h1 := List.length_pos_iff.2 (h k (List.mem_cons_self ..))
    rw [List.flatMap_cons, List.length_append, List.length_cons]
    omega
theorem Inv.count {M : LvM} {l : List LaidM} (h : Inv M l) : M.length ≤ l.length := by
  have h1 := flat_count (inM M) (sortInts (alKeys M)) (fun i hi => by
    rw [mem_sortInts] at hi
    cases hq : alGet M i with
    | none => exact absurd hi ((alGet_none _ _).1 hq)
    | some q =>
      unfold inM
      rw [hq]
      simp only [ne_eq, List.map_eq_nil_iff]
      exact h.some_ _ _ hq)
  rw [h.all] at h1
  unfold sortInts at h1
  rw [(List.mergeSort_perm _ _).length_eq, alKeys, List.length_map] at h1
  exact h1
end Lv
end Go.Proofs.YtipkgamiejenaaaGreat
