import Derived.Test.YtipkgamiejenaaaGreatMg5
import Derived.Test.YtipkgamiejenaaaGreatMg4
/- A store as the document says, and a stack's places: what is plain. -/
namespace Go.Proofs.YtipkgamiejenaaaGreat
open Go Go.RowKit Go.MapKept
set_option linter.unusedVariables false
set_option linter.unusedSimpArgs false
namespace St
structure S where
  size : Nat
  ch : List ChunkM
  tx : List (List UInt8)
  wi : List Int
  stack : List Int
  ev : List Int
def ch0 : ChunkM := ⟨0, 0, 0⟩
def up (l : List Int) (k : Nat) : List Int := l.set k (l.getD k 0 + 1)
def S.c (t : S) (i : Int) : ChunkM := t.ch.getD i.toNat ch0
def S.x (t : S) (i : Int) : List UInt8 := t.tx.getD i.toNat []
def S.w (t : S) (i : Int) : Int := t.wi.getD i.toNat 0
def S.out (t : S) (i : Int) : Prop := i < 0 ∨ (t.ch.length : Int) ≤ i
instance (t : S) (i : Int) : Decidable (t.out i) := inferInstanceAs (Decidable (_ ∨ _))
def zeros (n : Nat) : List UInt8 := List.replicate n 0
def take (t : S) (ow : Int) : S × Int × Int :=
  if ow < 1 then (t, 0, 2) else match t.stack.getLast? with
    | none => (t, 0, 20)
    | some i => ({ t with stack := t.stack.dropLast, ch := t.ch.set i.toNat ⟨1, ow, (t.c i).gen⟩, ev := up t.ev 0 }, i, 0)
def give (t : S) (i ow : Int) : S × Int :=
  if t.out i then (t, 2) else if (t.c i).phase ≠ 1 ∨ (t.c i).owner ≠ ow then (t, 18) else
    ({ t with ch := t.ch.set i.toNat ⟨2, 0, (t.c i).gen⟩, ev := up t.ev 1 }, 0)
def start (t : S) (i : Int) : S × Int :=
  if t.out i then (t, 2) else if (t.c i).phase ≠ 2 then (t, 18) else
    ({ t with wi := t.wi.set i.toNat 0, ch := t.ch.set i.toNat ⟨3, 0, (t.c i).gen⟩, ev := up t.ev 2 }, 0)
def portion (t : S) (i n : Int) : Nat := (min n (t.size - t.w i)).toNat
def wiped (t : S) (i n : Int) : S := { t with tx := t.tx.set i.toNat (By.splice (t.x i) (t.w i).toNat (zeros (portion t i n))), wi := t.wi.set i.toNat (t.w i + portion t i n) }
def step (t : S) (i n : Int) : S × Bool × Int :=
  if t.out i ∨ n < 1 then (t, false, 2) else if (t.c i).phase ≠ 3 then (t, false, 18) else
    if t.w i + portion t i n < t.size then (wiped t i n, false, 0) else
      ({ wiped t i n with stack := t.stack ++ [i], ch := t.ch.set i.toNat ⟨0, 0, (t.c i).gen + 1⟩, ev := up t.ev 3 }, true, 0)
def stale (t : S) (i ge : Int) : Prop := (t.c i).phase ≠ 1 ∨ (t.c i).gen ≠ ge
instance (t : S) (i ge : Int) : Decidable (stale t i ge) := inferInstanceAs (Decidable (_ ∨ _))
def off (b : List UInt8) (at_ n : Int) : Prop := at_ < 0 ∨ n < 0 ∨ (b.length : Int) < at_ + n
instance (b : List UInt8) (at_ n : Int) : Decidable (off b at_ n) := inferInstanceAs (Decidable (_ ∨ _))
def load (t : S) (i ge at_ n : Int) : List UInt8 × Int :=
  if t.out i then ([], 2) else if stale t i ge then ([], 4) else if off (t.x i) at_ n then ([], 15) else (((t.x i).drop at_.toNat).take n.toNat, 0)
def put (t : S) (i ge at_ : Int) (s : List UInt8) : S × Int :=
  if t.out i then (t, 2) else if stale t i ge then (t, 4) else if off (t.x i) at_ s.length then (t, 15) else
    ({ t with tx := t.tx.set i.toNat (By.splice (t.x i) at_.toNat s) }, 0)
def cntP (l : List ChunkM) (p : Int) : Int := ((l.filter fun c => c.phase == p).length : Nat)
def gens (l : List ChunkM) : Int := (l.map (·.gen)).sum
structure CellOk (size K : Nat) (c : ChunkM) (b : List UInt8) (x : Int) : Prop where
  ph : 0 ≤ c.phase ∧ c.phase ≤ 3
  ow : (c.phase = 1 ∧ 0 < c.owner) ∨ (c.phase ≠ 1 ∧ c.owner = 0)
  ge : 0 ≤ c.gen ∧ c.gen ≤ K
  len : b.length = size
  zero : c.phase = 0 → ∀ y ∈ b, y = 0
  wip : c.phase = 3 → (0 ≤ x ∧ x < size) ∧ ∀ y ∈ b.take x.toNat, y = 0
structure Inv (t : S) (K : Nat) : Prop where
  n1 : t.tx.length = t.ch.length
  n2 : t.wi.length = t.ch.length
  n3 : t.ev.length = 4
  ncap : t.ch.length ≤ 1048576
  sz : 64 ≤ t.size ∧ t.size ≤ 1048576 ∧ t.size % 64 = 0
  cell : ∀ (i : Nat) (h : i < t.ch.length), CellOk t.size K t.ch[i] (t.x i) (t.w i)
  nodup : t.stack.Nodup
  free : ∀ x : Int, x ∈ t.stack ↔ ∃ (i : Nat) (h : i < t.ch.length), x = i ∧ t.ch[i].phase = 0
  ev : ∀ e ∈ t.ev, 0 ≤ e ∧ e ≤ K
  gen : t.ev.getD 3 0 = gens t.ch
theorem CellOk.mono {size K K' : Nat} (hk : K ≤ K') {c : ChunkM} {b : List UInt8} {x : Int} (h : CellOk size K c b x) : CellOk size K' c b x := ⟨h.ph, h.ow, ⟨h.ge.1, by have := h.ge.2; omega⟩, h.len, h.zero, h.wip⟩
theorem Inv.mono {t : S} {K K' : Nat} (hk : K ≤ K') (h : Inv t K) : Inv t K' := ⟨h.n1, h.n2, h.n3, h.ncap, h.sz, fun i hi => (h.cell i hi).mono hk, h.nodup, h.free, fun e he => ⟨(h.ev e he).1, by have := (h.ev e he).2; omega⟩, h.gen⟩
theorem up_len (l : List Int) (k : Nat) : (up l k).length = l.length := by simp [up]
theorem up_in {l : List Int} {K : Nat} (h : ∀ e ∈ l, 0 ≤ e ∧ e ≤ (K : Int)) (k : Nat) : ∀ e ∈ up l k, 0 ≤ e ∧ e ≤ ((K + 1 : Nat) : Int) := by
  intro e he
  unfold up at he
  rcases List.mem_or_eq_of_mem_set he with h1 | rfl
  · have := h e h1; omega
  · rw [List.getD_eq_getElem?_getD]
    by_cases hk : k < l.length
    · rw [List.getElem?_eq_getElem hk]; have := h _ (List.getElem_mem hk); simp only [Option.getD_some]; omega
    · rw [List.getElem?_eq_none (by omega)]; simp only [Option.getD_none]; omega
theorem getD_set {α : Type} (l : List α) (i j : Nat) (v d : α) (hi : i < l.length) : (l.set i v).getD j d = if j = i then v else l.getD j d := by
  rw [List.getD_eq_getElem?_getD, List.getD_eq_getElem?_getD, List.getElem?_set]
  by_cases h : j = i
  · subst h; simp [hi]
  · rw [if_neg (fun e => h e.symm), if_neg h]
theorem gens_set : ∀ (l : List ChunkM) (i : Nat) (hi : i < l.length) (c : ChunkM), gens (l.set i c) = gens l + c.gen - (l[i]).gen
  | a :: l, 0, _, c => by simp [gens]; omega
  | a :: l, i + 1, hi, c => by
    have := gens_set l i (by simpa using hi) c
    simp only [gens, List.set_cons_succ, List.map_cons, List.sum_cons, List.getElem_cons_succ] at this ⊢
    omega
  | [], i, hi, c => by simp at hi
theorem cntP_set : ∀ (l : List ChunkM) (i : Nat) (hi : i < l.length) (c : ChunkM) (p : Int), cntP (l.set i c) p = cntP l p + (if c.phase = p then 1 else 0) - (if (l[i]).phase = p then 1 else 0)
  | a :: l, 0, _, c, p => by
    simp only [cntP, List.set_cons_zero, List.filter_cons, List.getElem_cons_zero, beq_iff_eq]
    split <;> split <;> simp <;> omega
  | a :: l, i + 1, hi, c, p => by
    have := cntP_set l i (by simpa using hi) c p
    simp only [cntP, List.set_cons_succ, List.filter_cons, List.getElem_cons_succ, beq_iff_eq] at this ⊢
    by_cases ha : a.phase = p
    · simp only [ha, if_true, List.length_cons]; omega
    · simp only [ha, if_false]; omega
  | [], i, hi, c, p => by simp at hi
theorem Inv.upd {t : S} {K : Nat} (h : Inv t K) (i : Nat) (hi : i < t.ch.length) {c : ChunkM} {b : List UInt8} {x : Int} {st ev : List Int} (hc : CellOk t.size (K + 1) c b x) (hn : st.Nodup)
    (hf : ∀ y : Int, y ∈ st ↔ if y = i then c.phase = 0 else y ∈ t.stack) (he3 : ev.length = 4) (hev : ∀ e ∈ ev, 0 ≤ e ∧ e ≤ ((K + 1 : Nat) : Int)) (hg : ev.getD 3 0 = t.ev.getD 3 0 + c.gen - (t.ch[i]).gen) :
    Inv { t with ch := t.ch.set i c, tx := t.tx.set i b, wi := t.wi.set i x, stack := st, ev := ev } (K + 1) := by
  refine ⟨by simpa using h.n1, by simpa using h.n2, he3, by simpa using h.ncap, h.sz, fun j hj => ?_, hn, fun y => ?_, hev, ?_⟩
  · simp only [List.length_set] at hj
    have hx : i < t.tx.length := by rw [h.n1]; exact hi
    have hw : i < t.wi.length := by rw [h.n2]; exact hi
    simp only [S.x, S.w, Int.toNat_natCast, getD_set _ _ _ _ _ hx, getD_set _ _ _ _ _ hw]
    by_cases e : j = i
    · subst e; simp only [List.getElem_set_self, if_true]; exact hc
    · have := (h.cell j hj).mono (Nat.le_succ K)
      simp only [S.x, S.w, Int.toNat_natCast] at this
      rw [if_neg e, if_neg e, List.getElem_set_ne (fun q => e q.symm)]
      exact this
  · simp only [hf y, h.free y, List.length_set]
    constructor
    · intro hy
      split at hy
      · rename_i e; exact ⟨i, hi, e, by simpa using hy⟩
      · rename_i e
        obtain ⟨j, hj, rfl, hp⟩ := hy
        exact ⟨j, hj, rfl, by rw [List.getElem_set_ne (fun q => e (by omega))]; exact hp⟩
    · rintro ⟨j, hj, rfl, hp⟩
      split
      · rename_i e
        have e2 : j = i := by omega
        subst e2; simpa using hp
      · rename_i e
        refine ⟨j, hj, rfl, ?_⟩
        rw [List.getElem_set_ne (fun q => e (by omega))] at hp; exact hp
  · dsimp only
    rw [hg, gens_set _ _ hi, h.gen]
theorem set_self {α : Type} (l : List α) (i : Nat) (d : α) : l.set i (l.getD i d) = l := by
  apply List.ext_getElem?
  intro j
  rw [List.getElem?_set]
  split
  · rename_i e; subst e
    split
    · rename_i hlt; rw [List.getD_eq_getElem?_getD, List.getElem?_eq_getElem hlt]; rfl
    · rename_i hlt; rw [List.getElem?_eq_none (by omega)]
  · rfl
theorem S.c_eq (t : S) (i : Nat) (hi : i < t.ch.length) : t.c i = t.ch[i] := by
  unfold S.c; rw [Int.toNat_natCast, List.getD_eq_getElem?_getD, List.getElem?_eq_getElem hi]; rfl
theorem snoc_last {α : Type} {l : List α} {y : α} (h : l.getLast? = some y) : l.dropLast ++ [y] = l := by
  have hne : l ≠ [] := fun e => by subst e; cases h
  have : y = l.getLast hne := by rw [List.getLast?_eq_some_getLast hne] at h; exact (Option.some.inj h).symm
  rw [this]; exact List.dropLast_concat_getLast hne
theorem Inv.take {t : S} {K : Nat} (h : Inv t K) (ow : Int) : Inv (take t ow).1 (K + 1) := by
  unfold St.take
  split
  · exact h.mono (Nat.le_succ _)
  · rename_i how
    cases hl : t.stack.getLast? with
    | none => exact h.mono (Nat.le_succ _)
    | some y =>
      have hs : t.stack = t.stack.dropLast ++ [y] := by
        exact (snoc_last hl).symm
      have hm : y ∈ t.stack := by rw [hs]; simp
      obtain ⟨i, hi, rfl, hp⟩ := (h.free y).1 hm
      have hnd := h.nodup
      rw [hs, List.nodup_append] at hnd
      have hc := (h.cell i hi)
      have u := h.upd i hi (c := ⟨1, ow, (t.c i).gen⟩) (b := t.x i) (x := t.w i) (st := t.stack.dropLast) (ev := up t.ev 0)
        ⟨by simp, .inl ⟨rfl, by dsimp only; omega⟩, by rw [t.c_eq i hi]; exact (hc.mono (Nat.le_succ K)).ge, hc.len, by simp, by simp⟩ hnd.1
        (fun z => by
          split
          · rename_i e; subst e
            simp only [Int.reduceEq, iff_false]
            intro hz; simp at *
            exact hnd.2 _ hz rfl
          · rename_i e
            constructor
            · exact fun hz => by rw [hs]; exact List.mem_append_left _ hz
            · intro hz; rw [hs] at hz; simp only [List.mem_append, List.mem_singleton] at hz; rcases hz with hz | hz
              · exact hz
              · exact absurd hz e)
        (by rw [up_len]; exact h.n3) (up_in h.ev 0) (by
          have e : (up t.ev 0).getD 3 0 = t.ev.getD 3 0 := by
            unfold up; rw [getD_set _ _ _ _ _ (by rw [h.n3]; omega), if_neg (by omega)]
          rw [e, t.c_eq i hi]; dsimp only; omega)
      simp only [S.x, S.w, Int.toNat_natCast, set_self] at u
      simpa using u
theorem out_ex {t : S} {i : Int} (h : ¬ t.out i) : ∃ k : Nat, i = k ∧ k < t.ch.length := by
  unfold S.out at h
  exact ⟨i.toNat, by omega, by omega⟩
theorem Inv.keep {t : S} {K : Nat} (h : Inv t K) (i : Nat) (hi : i < t.ch.length) {c : ChunkM} {b : List UInt8} {x : Int} {k : Nat} (hk : k < 3) (h1 : (t.ch[i]).phase ≠ 0) (h2 : c.phase ≠ 0) (hg : c.gen = (t.ch[i]).gen) (hc : CellOk t.size (K + 1) c b x) :
    Inv { t with ch := t.ch.set i c, tx := t.tx.set i b, wi := t.wi.set i x, ev := up t.ev k } (K + 1) := by
  refine h.upd i hi hc h.nodup (fun y => ?_) (by rw [up_len]; exact h.n3) (up_in h.ev k) ?_
  · split
    · rename_i e; subst e
      constructor
      · intro hy
        obtain ⟨j, hj, e, hp⟩ := (h.free _).1 hy
        have e2 : i = j := by omega
        subst e2; exact absurd hp h1
      · exact fun e => absurd e h2
    · exact .rfl
  · have e : (up t.ev k).getD 3 0 = t.ev.getD 3 0 := by
      unfold up; rw [getD_set _ _ _ _ _ (by rw [h.n3]; omega), if_neg (by omega)]
    rw [e, hg]; omega
theorem Inv.give {t : S} {K : Nat} (h : Inv t K) (i ow : Int) : Inv (give t i ow).1 (K + 1) := by
  unfold St.give
  split
  · exact h.mono (Nat.le_succ _)
  · rename_i ho
    obtain ⟨k, rfl, hk⟩ := out_ex ho
    split
    · exact h.mono (Nat.le_succ _)
    · rename_i hp
      rw [t.c_eq k hk] at hp ⊢
      have hc := h.cell k hk
      have u := h.keep k hk (c := ⟨2, 0, (t.ch[k]).gen⟩) (b := t.x k) (x := t.w k) (k := 1) (by omega) (by omega) (by simp) rfl
        ⟨by simp, .inr ⟨by simp, rfl⟩, (hc.mono (Nat.le_succ K)).ge, hc.len, by simp, by simp⟩
      simp only [S.x, S.w, Int.toNat_natCast, set_self] at u
      simpa using u
theorem Inv.start {t : S} {K : Nat} (h : Inv t K) (i : Int) : Inv (start t i).1 (K + 1) := by
  unfold St.start
  split
  · exact h.mono (Nat.le_succ _)
  · rename_i ho
    obtain ⟨k, rfl, hk⟩ := out_ex ho
    split
    · exact h.mono (Nat.le_succ _)
    · rename_i hp
      rw [t.c_eq k hk] at hp ⊢
      have hc := h.cell k hk
      have hsz := h.sz
      have u := h.keep k hk (c := ⟨3, 0, (t.ch[k]).gen⟩) (b := t.x k) (x := 0) (k := 2) (by omega) (by omega) (by simp) rfl
        ⟨by simp, .inr ⟨by simp, rfl⟩, (hc.mono (Nat.le_succ K)).ge, hc.len, by simp, fun _ => ⟨by omega, by simp⟩⟩
      simp only [S.x, Int.toNat_natCast, set_self] at u
      simpa using u
theorem splice_zero {b : List UInt8} {x m : Nat} (h0 : ∀ y ∈ b.take x, y = 0) (hx : x + m ≤ b.length) : ∀ y ∈ (By.splice b x (zeros m)).take (x + m), y = 0 := by
  intro y hy
  have e : (By.splice b x (zeros m)).take (x + m) = b.take x ++ zeros m := by
    unfold By.splice
    rw [List.take_append_of_le_length (by rw [List.length_append, List.length_take]; simp [zeros]; omega)]
    exact List.take_of_length_le (by rw [List.length_append, List.length_take]; simp [zeros]; omega)
  rw [e] at hy
  rcases List.mem_append.1 hy with h | h
  · exact h0 y h
  · exact (List.mem_replicate.1 h).2
theorem Inv.step {t : S} {K : Nat} (h : Inv t K) (i n : Int) : Inv (step t i n).1 (K + 1) := by
  unfold St.step
  split
  · exact h.mono (Nat.le_succ _)
  · rename_i ho
    obtain ⟨k, rfl, hk⟩ := out_ex (fun e => ho (.inl e))
    split
    · exact h.mono (Nat.le_succ _)
    · rename_i hp
      rw [t.c_eq k hk] at hp
      have hc := h.cell k hk
      obtain ⟨⟨hw0, hw1⟩, hz⟩ := hc.wip (by omega)
      have hpo : (t.w k) + portion t k n ≤ t.size := by unfold portion; omega
      have hlen : (By.splice (t.x k) (t.w k).toNat (zeros (portion t k n))).length = t.size := by
        rw [By.splice_len _ _ _ (by rw [hc.len]; simp only [zeros, List.length_replicate]; omega), hc.len]
      have hzz : ∀ y ∈ (By.splice (t.x k) (t.w k).toNat (zeros (portion t k n))).take ((t.w k) + portion t k n).toNat, y = 0 := by
        rw [show ((t.w k) + portion t k n).toNat = (t.w k).toNat + portion t k n by omega]
        exact splice_zero hz (by rw [hc.len]; omega)
      split
      · rename_i hlt
        have u := h.upd k hk (c := t.ch[k]) (b := By.splice (t.x k) (t.w k).toNat (zeros (portion t k n))) (x := t.w k + portion t k n) (st := t.stack) (ev := t.ev)
          ⟨hc.ph, hc.ow, (hc.mono (Nat.le_succ K)).ge, hlen, fun e => by omega, fun _ => ⟨by omega, hzz⟩⟩ h.nodup (fun y => by
            split
            · rename_i e; subst e
              constructor
              · intro hy
                obtain ⟨j, hj, e, hp2⟩ := (h.free _).1 hy
                have e2 : k = j := by omega
                subst e2; exact hp2
              · intro e; omega
            · exact .rfl) h.n3 (fun e he => by have := h.ev e he; omega) (by omega)
        rw [List.set_getElem_self] at u
        simpa [wiped] using u
      · rename_i hlt
        have hfull : ((t.w k) + portion t k n).toNat = t.size := by omega
        have u := h.upd k hk (c := ⟨0, 0, (t.ch[k]).gen + 1⟩) (b := By.splice (t.x k) (t.w k).toNat (zeros (portion t k n))) (x := t.w k + portion t k n) (st := t.stack ++ [(k : Int)]) (ev := up t.ev 3)
          ⟨by simp, .inr ⟨by simp, rfl⟩, by have := hc.ge; dsimp only; omega, hlen, fun _ => by
            rw [hfull] at hzz
            rw [List.take_of_length_le (by omega)] at hzz
            exact hzz, by simp⟩
          (by
            rw [List.nodup_append]
            refine ⟨h.nodup, by simp, fun a ha b hb => ?_⟩
            simp at hb; subst hb
            intro e; subst e
            obtain ⟨j, hj, e, hp2⟩ := (h.free _).1 ha
            have e2 : k = j := by omega
            subst e2; omega)
          (fun y => by
            simp only [List.mem_append, List.mem_singleton]
            split
            · rename_i e; simp [e]
            · rename_i e; simp [e])
          (by rw [up_len]; exact h.n3) (up_in h.ev 3) (by
            unfold up; rw [getD_set _ _ _ _ _ (by rw [h.n3]; omega), if_pos rfl]; dsimp only; omega)
        rw [t.c_eq k hk]
        simpa [wiped] using u
theorem Inv.put {t : S} {K : Nat} (h : Inv t K) (i ge at_ : Int) (s : List UInt8) : Inv (put t i ge at_ s).1 (K + 1) := by
  unfold St.put
  split
  · exact h.mono (Nat.le_succ _)
  · rename_i ho
    obtain ⟨k, rfl, hk⟩ := out_ex ho
    split
    · exact h.mono (Nat.le_succ _)
    · rename_i hs
      split
      · exact h.mono (Nat.le_succ _)
      · rename_i hof
        unfold stale at hs
        rw [t.c_eq k hk] at hs
        unfold off at hof
        have hc := h.cell k hk
        have u := h.upd k hk (c := t.ch[k]) (b := By.splice (t.x k) at_.toNat s) (x := t.w k) (st := t.stack) (ev := t.ev)
          ⟨hc.ph, hc.ow, (hc.mono (Nat.le_succ K)).ge, by rw [By.splice_len _ _ _ (by omega), hc.len], fun e => by omega, fun e => by omega⟩ h.nodup (fun y => by
            split
            · rename_i e; subst e
              constructor
              · intro hy
                obtain ⟨j, hj, e, hp2⟩ := (h.free _).1 hy
                have e2 : k = j := by omega
                subst e2; exact hp2
              · intro e; omega
            · exact .rfl) h.n3 (fun e he => by have := h.ev e he; omega) (by omega)
        rw [List.set_getElem_self] at u
        simp only [S.w, Int.toNat_natCast, set_self] at u
        simpa using u
end St
namespace Stk
theorem nodup_len : ∀ (n : Nat) (l : List Int), l.Nodup → (∀ x ∈ l, 0 ≤ x ∧ x < (n : Int)) → l.length ≤ n
  | 0, l, _, h => by
    cases l with
    | nil => simp
    | cons a l => have := h a (by simp); omega
  | n + 1, l, hn, h => by
    have h1 := nodup_len n (l.erase n) (hn.erase _) (fun x hx => by
      have := h x (List.mem_of_mem_erase hx)
      have hne : x ≠ n := fun e => by subst e; exact (List.Nodup.mem_erase_iff hn).1 hx |>.1 rfl
      omega)
    rw [List.length_erase] at h1
    split at h1 <;> omega
/-- What a stack's places say. -/
structure Ok (n : Nat) (pl l : List Int) : Prop where
  len : pl.length = n
  nodup : l.Nodup
  in_ : ∀ x ∈ l, 0 ≤ x ∧ x < (n : Int)
  at_ : ∀ (k : Nat) (h : k < l.length), pl.getD (l[k]).toNat 0 = k
  non : ∀ x : Nat, x < n → (x : Int) ∉ l → pl.getD x 0 = -1
theorem Ok.new (n : Nat) : Ok n (List.replicate n (-1)) [] := ⟨by simp, by simp, by simp, fun k h => by simp at h, fun x hx _ => by rw [List.getD_eq_getElem?_getD, List.getElem?_replicate, if_pos hx]; rfl⟩
theorem Ok.room {n : Nat} {pl l : List Int} (h : Ok n pl l) (x : Int) (hx : x ∉ l) (h0 : 0 ≤ x ∧ x < (n : Int)) : l.length < n := by
  have := nodup_len n (x :: l) (List.nodup_cons.2 ⟨hx, h.nodup⟩) (fun y hy => by
    rcases List.mem_cons.1 hy with rfl | hy
    · exact h0
    · exact h.in_ y hy)
  rw [List.length_cons] at this; omega
theorem Ok.push {n : Nat} {pl l : List Int} (h : Ok n pl l) (x : Nat) (hx : (x : Int) ∉ l) (h0 : x < n) : Ok n (pl.set x (l.length : Nat)) (l ++ [(x : Int)]) := by
  have hl := h.len
  refine ⟨by simpa using h.len, ?_, fun y hy => ?_, fun k hk => ?_, fun y hy hn => ?_⟩
  · rw [List.nodup_append]; exact ⟨h.nodup, by simp, fun a ha b hb => by simp at hb; subst hb; exact fun e => hx (e ▸ ha)⟩
  · rcases List.mem_append.1 hy with hy | hy
    · exact h.in_ y hy
    · simp at hy; subst hy; omega
  · rw [St.getD_set _ _ _ _ _ (by omega)]
    by_cases c : k < l.length
    · rw [List.getElem_append_left c, if_neg, h.at_ k c]
      intro e
      have hm := List.getElem_mem c
      have := h.in_ _ hm
      exact hx (by rw [← e, Int.toNat_of_nonneg this.1]; exact hm)
    · simp only [List.length_append, List.length_cons, List.length_nil] at hk
      rw [List.getElem_append_right (by omega)]
      simp only [List.getElem_singleton, Int.toNat_natCast, if_true]; omega
  · simp only [List.mem_append, List.mem_singleton, not_or] at hn
    rw [St.getD_set _ _ _ _ _ (by omega), if_neg (by omega)]
    exact h.non y hy hn.1
theorem Ok.pop {n : Nat} {pl l : List Int} {x : Nat} (h : Ok n pl (l ++ [(x : Int)])) : Ok n (pl.set x (-1)) l := by
  have hl := h.len
  have hnd := h.nodup
  rw [List.nodup_append] at hnd
  have hxn := h.in_ (x : Int) (by simp)
  have hx : (x : Int) ∉ l := fun hm => hnd.2.2 _ hm _ (by simp) rfl
  refine ⟨by simpa using h.len, hnd.1, fun y hy => h.in_ y (by simp [hy]), fun k hk => ?_, fun y hy hn => ?_⟩
  · rw [St.getD_set _ _ _ _ _ (by omega), if_neg]
    · have := h.at_ k (by simp; omega)
      rw [List.getElem_append_left hk] at this; exact this
    · intro e
      have hm := List.getElem_mem hk
      have := h.in_ _ (List.mem_append_left [(x : Int)] hm)
      exact hx (by rw [← e, Int.toNat_of_nonneg this.1]; exact hm)
  · rw [St.getD_set _ _ _ _ _ (by omega)]
    split
    · rfl
    · rename_i e
      exact h.non y hy (by simp only [List.mem_append, List.mem_singleton, not_or]; exact ⟨hn, by omega⟩)
theorem Ok.top {n : Nat} {pl l : List Int} {x : Nat} (h : Ok n pl (l ++ [(x : Int)])) : pl.getD x 0 = (l.length : Nat) := by
  have := h.at_ l.length (by simp)
  rw [List.getElem_append_right (by omega)] at this
  simpa using this
theorem Ok.is {n : Nat} {pl l : List Int} (h : Ok n pl l) (x : Nat) (hx : x < n) : 0 ≤ pl.getD x 0 ↔ (x : Int) ∈ l := by
  constructor
  · intro h0
    apply Classical.byContradiction
    intro hn
    rw [h.non x hx hn] at h0; omega
  · intro hm
    obtain ⟨k, hk, e⟩ := List.getElem_of_mem hm
    have := h.at_ k hk
    rw [e, Int.toNat_natCast] at this
    omega
end Stk
namespace St
/-- A store of which all chunks are free. -/
def new (n size : Nat) : S := ⟨size, List.replicate n ch0, List.replicate n (zeros size), List.replicate n 0, ((List.range n).reverse).map (Nat.cast : Nat → Int), [0, 0, 0, 0]⟩
theorem gens_new (n : Nat) : gens (List.replicate n ch0) = 0 := by
  induction n with
  | zero => rfl
  | succ n ih => rw [List.replicate_succ]; simp only [gens, List.map_cons, List.sum_cons] at ih ⊢; rw [ih]; rfl
theorem Inv.new (n size : Nat) (hn : n ≤ 1048576) (h : 64 ≤ size ∧ size ≤ 1048576 ∧ size % 64 = 0) : Inv (new n size) 0 := by
  refine ⟨by simp [St.new], by simp [St.new], rfl, by simpa [St.new] using hn, h, fun i hi => ?_, ?_, fun x => ?_, ?_, ?_⟩
  · have hi' : i < n := by simpa [St.new] using hi
    simp only [St.new, S.x, S.w, Int.toNat_natCast, List.getElem_replicate, List.getD_eq_getElem?_getD, List.getElem?_replicate, hi', if_true, Option.getD_some]
    exact ⟨by simp [ch0], .inr ⟨by simp [ch0], rfl⟩, by simp [ch0], by simp [zeros], fun _ y hy => (List.mem_replicate.1 hy).2, by simp [ch0]⟩
  · simp only [St.new, List.map_reverse]
    have h1 : (List.range n).Nodup := List.nodup_range
    unfold List.Nodup at h1 ⊢
    rw [List.pairwise_reverse, List.pairwise_map]
    exact h1.imp fun hne e => hne (Int.ofNat.inj e).symm
  · simp only [St.new, List.mem_map, List.mem_reverse, List.mem_range, List.length_replicate, List.getElem_replicate]
    constructor
    · rintro ⟨k, hk, rfl⟩; exact ⟨k, hk, rfl, rfl⟩
    · rintro ⟨k, hk, rfl, _⟩; exact ⟨k, hk, rfl⟩
  · simp [St.new]
  · simp only [St.new]; rw [gens_new]; rfl
end St
end Go.Proofs.YtipkgamiejenaaaGreat

/- Drawn regions whose operations write to pieces of memory that others of them read: each piece is told state by state; one walk in the order of the text. Drawn regions told state by state: guards that are known, calls. Drawn regions that make rows and variables, whose shape is told. Drawn regions that append and store: slices whose form is told. -/
section
namespace Go.Proofs.YtipkgamiejenaaaGreat
open Go Go.RowKit Go.MapKept
set_option linter.unusedVariables false
set_option linter.unusedSectionVars false
set_option linter.unusedSimpArgs false

/-- A state of a piece: the operation that makes it (none: it is there at the start), the states that this operation takes, the operation that takes it away (none: it is there at the end), the slot that the state hangs on, which values the operation yields, the piece. -/
structure Wff where
  k : Option Nat
  takes : List Nat
  cons : Option Nat
  d : Option Tmp
  R : Value → Prop
  piece : Value → HProp
def wTok (e : Wff) : Tok := ⟨e.k, e.cons, (match e.k, e.d with | some _, some d => [d] | _, _ => []), fun vs => e.piece (vs.headD undef)⟩
def wffToks (E : List Wff) : List Tok := E.map wTok
def wffIdx : List Wff → Nat → Nat → Option (Nat × Wff)
  | [], _, _ => none
  | e :: E, i, k => bif (match e.k with | some j => Nat.beq j k | none => false) then some (i, e) else wffIdx E (i + 1) k
def seenBy : List (Nat × List Nat) → Nat → List Nat
  | [], _ => []
  | (j, l) :: V, k => bif Nat.beq j k then l else seenBy V k
def wffS (E : List Wff) (V : List (Nat × List Nat)) (k : Nat) : TSpec :=
  match wffIdx E 0 k with
  | none => ⟨none, [], seenBy V k, []⟩
  | some (i, e) => ⟨some e.R, e.takes, seenBy V k, [i]⟩
/-- The states of these numbers, as they are now. -/
def wffNow (E : List Wff) (env : Env) : List Nat → Option (List HProp)
  | [] => some []
  | i :: is => match E[i]?, wffNow E env is with
    | some e, some l => match e.k, e.d with
      | some _, some d => match look env d with
        | some v => some (e.piece v :: l)
        | none => none
      | _, _ => some (e.piece undef :: l)
    | _, _ => none
def wffDef (E : List Wff) (env : Env) : List Nat → Prop
  | [] => True
  | i :: is => (∃ e, E[i]? = some e ∧ (e.k = none ∨ e.d = none ∨ ∃ d v, e.d = some d ∧ look env d = some v ∧ isUndef v = false)) ∧ wffDef E env is

section
variable {P : Program} {n : Nat} {ops : Array Oper} {Q : Exit → Act → World → Prop} {env : Env} {F : List HProp} {Z : Act → Prop} {k : Nat} {rest : List Oper} {d : Tmp} {ty : TypeId} {pos : String} {aft : Array Edge} {E : List Wff} {V : List (Nat × List Nat)}
theorem wffNow_at {a : Act} (hf : Fits n a env) : ∀ (is : List Nat) (T : List HProp), wffNow E env is = some T → wffDef E env is → toksAt ops (wffToks E) a is = T
  | [], T, h, _ => by simp only [wffNow, Option.some.injEq] at h; subst h; rfl
  | i :: is, T, h, ⟨⟨e, he, hv⟩, hd⟩ => by
    unfold wffNow at h
    rw [he] at h
    cases hl : wffNow E env is with
    | none => simp [hl] at h
    | some l =>
      have ih := wffNow_at hf is l hl hd
      unfold toksAt at ih ⊢
      rw [List.flatMap_cons, ih]
      have ht : tokNo (wffToks E) i = wTok e := by
        simp [tokNo, wffToks, List.getD, he]
      rw [ht]
      rw [hl] at h
      simp only at h
      cases hk : e.k with
      | none =>
        simp only [hk] at h
        cases h
        simp [tokAt, skipped, wTok, hk]
      | some k0 =>
        cases hed : e.d with
        | none =>
          simp only [hk, hed] at h
          cases h
          have hsk : skipped ops a (wTok e) = false := by
            unfold skipped wTok
            simp only [hk, hed]
            split <;> simp
          unfold tokAt
          rw [hsk]
          simp [wTok, hk, hed]
        | some d0 =>
          rcases hv with hv | hv | ⟨d1, v, h1, h2, hu⟩
          · rw [hk] at hv; cases hv
          · rw [hed] at hv; cases hv
          rw [hed] at h1; cases h1
          simp only [hk, hed, h2] at h
          cases h
          have hs : slotOf a d0 = v := by have := hf.at_ _ _ h2; simp [slotOf, this]
          have hsk : skipped ops a (wTok e) = false := by
            unfold skipped wTok
            simp only [hk, hed]
            cases hd' : (ops[k0]?).bind (·.dst) with
            | none => rfl
            | some d' =>
              simp only
              by_cases hdd : d' = d0
              · subst hdd; rw [hs, hu]; simp
              · simp [hdd]
          unfold tokAt
          rw [hsk]
          simp [wTok, hk, hed, hs]
section
variable (P n ops E V)
structure GW (F : List HProp) (Z : Act → Prop) (k : Nat) (rest : List Oper) (env : Env) : Prop where
  out : ∀ a, Fits n a env → wpTok P ops (wffToks E) (wffS E V) F Z k rest a
end
theorem GW.nilE {last : List Nat} {T : List HProp} (hT : wffNow E env last = some T) (hd : wffDef E env last) (h : GE n .normal Q env (T ++ F)) : GW P n ops E V F (fun a' => ∀ w', holds w' (toksAt ops (wffToks E) a' last ++ F) → Q .normal a' w') k [] env :=
  ⟨fun a hf => tok_nil fun w' hw' => h a w' hf (by rw [wffNow_at hf last T hT hd] at hw'; exact hw')⟩
theorem GW.run {op : Op} {v : Value} (hi : wffIdx E 0 k = none) (hr : Runs P n env F op v) (hd : Nat.blt d n = true) (h : GW P n ops E V F Z (k + 1) rest ((d, v) :: env)) : GW P n ops E V F Z k (⟨some d, op, ty, pos, aft, none⟩ :: rest) env := ⟨fun a hf => by
  refine tok_exact (by simp [wffS, hi]) fun K hK => ?_
  rw [if_pos (by simp [Region.wanted])]
  intro w hw
  rw [hr a w _ _ _ _ _ hf hw]
  exact ⟨rfl, hK _ (h.out _ (hf.put hd v))⟩⟩
/-- An operation that reads pieces that others of the region write. -/
theorem GW.see {op : Op} {v : Value} {L : List HProp} (hi : wffIdx E 0 k = none) (hL : wffNow E env (seenBy V k) = some L) (hdef : wffDef E env (seenBy V k)) (hr : Runs P n env (L ++ F) op v) (hd : Nat.blt d n = true) (h : GW P n ops E V F Z (k + 1) rest ((d, v) :: env)) : GW P n ops E V F Z k (⟨some d, op, ty, pos, aft, none⟩ :: rest) env := ⟨fun a hf => by
  unfold wpTok TokOp
  rw [if_pos (by simp [Region.wanted])]
  have hR : (wffS E V k).R = none := by simp [wffS, hi]
  rw [hR]
  intro w F' hh
  unfold tpre at hh
  have h1 : toksAt ops (wffToks E) a (wffS E V k).takes = [] := by simp [wffS, hi, toksAt]
  have h2 : toksAt ops (wffToks E) a (wffS E V k).sees = L := by simp only [wffS, hi]; exact wffNow_at hf _ _ hL hdef
  rw [h1, h2, List.nil_append] at hh
  have h3 : holds w (L ++ F) := (show holds w ((L ++ F) ++ F') from by simpa using hh).perm_drop (.refl _)
  rw [hr a w _ _ _ _ _ hf h3]
  exact ⟨rfl, h.out _ (hf.put hd v)⟩⟩
theorem GW.runA {op : Op} {v : Value} (hi : wffIdx E 0 k = none) (hd : Nat.blt d n = true) (h : GW P n ops E V F Z (k + 1) rest ((d, v) :: env)) (hr : Runs P n env F op v := by first | (apply Runs.isMove; exact Runs.move rfl) | (apply Runs.isLoad; first | exact Runs.loadBlk rfl rfl | exact Runs.loadRow rfl (by first | omega | decide) rfl | exact Runs.loadRow0 rfl (by first | omega | decide) rfl | exact Runs.loadElem rfl (by first | omega | decide) | exact Runs.loadWhole rfl rfl | exact Runs.loadBlkA rfl rfl rfl) | (apply Runs.isFieldA; exact Runs.fieldAddr rfl) | (apply Runs.isBin; first | (apply Runs.eql <;> rfl) | (apply Runs.lss <;> rfl) | (apply Runs.neq <;> rfl) | (apply Runs.leq <;> rfl) | (apply Runs.gtr <;> rfl) | (apply Runs.geq <;> rfl) | exact Runs.add rfl rfl (by omega) | exact Runs.sub rfl rfl (by omega) | exact Runs.mul rfl rfl (by omega) | exact Runs.quo rfl rfl (by omega) | exact Runs.rem rfl rfl (by omega) | exact Runs.shr rfl rfl | exact Runs.shl rfl rfl (by omega) | exact Runs.and20 rfl rfl | exact Runs.shrU rfl rfl | exact Runs.eqlPtrNil rfl | exact Runs.neqPtrNil rfl | exact Runs.eqlMapNil rfl | exact Runs.neqMapNil rfl | exact Runs.eqlSlNil rfl | exact Runs.eqlInts rfl rfl rfl rfl | exact Runs.neqInts rfl rfl rfl rfl) | (apply Runs.isAssign; exact Runs.assign rfl) | (apply Runs.isIndexA; first | exact Runs.indexAddr rfl rfl rfl rfl (by first | omega | decide) | exact Runs.indexAddrI rfl rfl rfl (by first | omega | decide) (by first | omega | decide) | exact Runs.indexArr rfl rfl rfl (by first | omega | decide)) | (apply Runs.isPick; first | exact Runs.pickT rfl rfl | exact Runs.pickF rfl rfl) | (apply Runs.isExtract; exact Runs.extract rfl rfl) | (apply Runs.isBuiltin; first | exact Runs.lenRow rfl | exact Runs.min2 rfl rfl | exact Runs.max2 rfl rfl | exact Runs.lenMap rfl | exact Runs.lenArr rfl) | (apply Runs.isLookup; first | exact Runs.lookupI rfl rfl | exact Runs.lookupS rfl rfl (by assumption) | exact Runs.lookupN rfl rfl (by assumption) | exact Runs.lookup rfl rfl | exact Runs.lookupOk rfl rfl) | (apply Runs.isSlice; first | exact Runs.slice _ _ rfl rfl rfl rfl rfl rfl ⟨⟨(by first | omega | decide), (by first | omega | decide)⟩, .inl rfl⟩ | exact Runs.slice3 _ _ rfl rfl rfl rfl rfl rfl rfl ⟨⟨(by first | omega | decide), (by first | omega | decide)⟩, .inr rfl⟩) | (apply Runs.isConvert; exact Runs.convII rfl (by omega)) | (apply Runs.isField; first | exact Runs.fieldVal rfl rfl | exact Runs.fieldAgg rfl) | (apply Runs.isBuild; exact Runs.build rfl rfl) | (apply Runs.isIndex; first | exact Runs.indexVal rfl rfl rfl (by first | omega | decide) rfl | exact Runs.indexAgg rfl rfl rfl rfl rfl) | (apply Runs.isUn; first | exact Runs.not rfl | exact Runs.neg rfl (by omega)) | (apply Runs.isMakeFunc; exact Runs.makeFunc rfl rfl) | (apply Runs.isNilCheck; exact Runs.nilCheck rfl)) : GW P n ops E V F Z k (⟨some d, op, ty, pos, aft, none⟩ :: rest) env := GW.run hi hr hd h
theorem GW.seeA {op : Op} {v : Value} {L : List HProp} (hi : wffIdx E 0 k = none) (hL : wffNow E env (seenBy V k) = some L) (hdef : wffDef E env (seenBy V k)) (hd : Nat.blt d n = true) (h : GW P n ops E V F Z (k + 1) rest ((d, v) :: env)) (hr : Runs P n env (L ++ F) op v := by first | (apply Runs.isMove; exact Runs.move rfl) | (apply Runs.isLoad; first | exact Runs.loadBlk rfl rfl | exact Runs.loadRow rfl (by first | omega | decide) rfl | exact Runs.loadRow0 rfl (by first | omega | decide) rfl | exact Runs.loadElem rfl (by first | omega | decide) | exact Runs.loadWhole rfl rfl | exact Runs.loadBlkA rfl rfl rfl) | (apply Runs.isFieldA; exact Runs.fieldAddr rfl) | (apply Runs.isBin; first | (apply Runs.eql <;> rfl) | (apply Runs.lss <;> rfl) | (apply Runs.neq <;> rfl) | (apply Runs.leq <;> rfl) | (apply Runs.gtr <;> rfl) | (apply Runs.geq <;> rfl) | exact Runs.add rfl rfl (by omega) | exact Runs.sub rfl rfl (by omega) | exact Runs.mul rfl rfl (by omega) | exact Runs.quo rfl rfl (by omega) | exact Runs.rem rfl rfl (by omega) | exact Runs.shr rfl rfl | exact Runs.shl rfl rfl (by omega) | exact Runs.and20 rfl rfl | exact Runs.shrU rfl rfl | exact Runs.eqlPtrNil rfl | exact Runs.neqPtrNil rfl | exact Runs.eqlMapNil rfl | exact Runs.neqMapNil rfl | exact Runs.eqlSlNil rfl | exact Runs.eqlInts rfl rfl rfl rfl | exact Runs.neqInts rfl rfl rfl rfl) | (apply Runs.isAssign; exact Runs.assign rfl) | (apply Runs.isIndexA; first | exact Runs.indexAddr rfl rfl rfl rfl (by first | omega | decide) | exact Runs.indexAddrI rfl rfl rfl (by first | omega | decide) (by first | omega | decide) | exact Runs.indexArr rfl rfl rfl (by first | omega | decide)) | (apply Runs.isPick; first | exact Runs.pickT rfl rfl | exact Runs.pickF rfl rfl) | (apply Runs.isExtract; exact Runs.extract rfl rfl) | (apply Runs.isBuiltin; first | exact Runs.lenRow rfl | exact Runs.min2 rfl rfl | exact Runs.max2 rfl rfl | exact Runs.lenMap rfl | exact Runs.lenArr rfl) | (apply Runs.isLookup; first | exact Runs.lookupI rfl rfl | exact Runs.lookupS rfl rfl (by assumption) | exact Runs.lookupN rfl rfl (by assumption) | exact Runs.lookup rfl rfl | exact Runs.lookupOk rfl rfl) | (apply Runs.isSlice; first | exact Runs.slice _ _ rfl rfl rfl rfl rfl rfl ⟨⟨(by first | omega | decide), (by first | omega | decide)⟩, .inl rfl⟩ | exact Runs.slice3 _ _ rfl rfl rfl rfl rfl rfl rfl ⟨⟨(by first | omega | decide), (by first | omega | decide)⟩, .inr rfl⟩) | (apply Runs.isConvert; exact Runs.convII rfl (by omega)) | (apply Runs.isField; first | exact Runs.fieldVal rfl rfl | exact Runs.fieldAgg rfl) | (apply Runs.isBuild; exact Runs.build rfl rfl) | (apply Runs.isIndex; first | exact Runs.indexVal rfl rfl rfl (by first | omega | decide) rfl | exact Runs.indexAgg rfl rfl rfl rfl rfl) | (apply Runs.isUn; first | exact Runs.not rfl | exact Runs.neg rfl (by omega)) | (apply Runs.isMakeFunc; exact Runs.makeFunc rfl rfl) | (apply Runs.isNilCheck; exact Runs.nilCheck rfl)) : GW P n ops E V F Z k (⟨some d, op, ty, pos, aft, none⟩ :: rest) env := GW.see hi hL hdef hr hd h
/-- What an operation does to the pieces T, seeing the pieces L, beside whatever else. -/
structure DoesW (P : Program) (n : Nat) (env : Env) (F T L : List HProp) (op : Op) (R : Value → Prop) (piece : Value → HProp) : Prop where
  out : ∀ a w F' ty pos aft g d, Fits n a env → holds w (T ++ (L ++ (F ++ F'))) → looseUpon P (fun u w' => R u ∧ holds w' (piece u :: (L ++ (F ++ F')))) ((execOp a.eval ⟨d, op, ty, pos, aft, g⟩).run P w)
/-- A store: nothing is yielded. -/
theorem GW.store {op : Op} {i : Nat} {e : Wff} {T L : List HProp} (hi : wffIdx E 0 k = some (i, e)) (hE : E[i]? = some e) (hek : e.k = some k) (hed : e.d = none) (hT : wffNow E env e.takes = some T) (hdef : wffDef E env e.takes) (hL : wffNow E env (seenBy V k) = some L) (hdefL : wffDef E env (seenBy V k)) (hR : e.R = fun _ => True) (hD : DoesW P n env F T L op (fun _ => True) (fun _ => e.piece undef))
    (h : GW P n ops E V F Z (k + 1) rest env) : GW P n ops E V F Z k (⟨none, op, ty, pos, aft, none⟩ :: rest) env := ⟨fun a hf => by
  refine tok_op (R := fun _ => True) T L (fun u => [e.piece undef]) ?_ ?_ ?_ rfl (fun u hu => ?_) (fun w F' hw => ?_) (fun u hu => h.out _ (hf.put0 u))
  · simp only [wffS, hi]; exact wffNow_at hf _ _ hT hdef
  · simp only [wffS, hi]; exact wffNow_at hf _ _ hL hdefL
  · simp only [wffS, hi, hR]
  · simp only [wffS, hi]
    refine wffNow_at (hf.put0 u) [i] [e.piece undef] ?_ ⟨⟨e, hE, .inr (.inl hed)⟩, trivial⟩
    simp [wffNow, hE, hek, hed]
  · have := hD.out a w F' ty pos aft none none hf (by simpa using hw)
    simpa using this⟩
theorem GW.eff {op : Op} {i : Nat} {e : Wff} {T L : List HProp} (hi : wffIdx E 0 k = some (i, e)) (hE : E[i]? = some e) (hek : e.k = some k) (hed : e.d = some d) (hT : wffNow E env e.takes = some T) (hdef : wffDef E env e.takes) (hL : wffNow E env (seenBy V k) = some L) (hdefL : wffDef E env (seenBy V k)) (hU : ∀ u, e.R u → isUndef u = false) (hD : DoesW P n env F T L op e.R e.piece) (hd : Nat.blt d n = true)
    (h : ∀ u, e.R u → GW P n ops E V F Z (k + 1) rest ((d, u) :: env)) : GW P n ops E V F Z k (⟨some d, op, ty, pos, aft, none⟩ :: rest) env := ⟨fun a hf => by
  refine tok_op (R := e.R) T L (fun u => [e.piece u]) ?_ ?_ ?_ rfl (fun u hu => ?_) (fun w F' hw => ?_) (fun u hu => (h u hu).out _ (hf.put hd u))
  · simp only [wffS, hi]; exact wffNow_at hf _ _ hT hdef
  · simp only [wffS, hi]; exact wffNow_at hf _ _ hL hdefL
  · simp only [wffS, hi]
  · simp only [wffS, hi]
    refine wffNow_at (hf.put hd u) [i] [e.piece u] ?_ ⟨⟨e, hE, .inr (.inr ⟨d, u, hed, by rw [look_cons, if_pos rfl], hU u hu⟩)⟩, trivial⟩
    simp [wffNow, hE, hek, hed, look_cons]
  · have := hD.out a w F' ty pos aft none (some d) hf (by simpa using hw)
    simpa using this⟩
theorem G.drawW {id : Nat} {l : List Oper} {S B : List HProp} (E : List Wff) (V : List (Nat × List Nat)) (start last : List Nat) (hm : P.follows .mixedOrders = true)
    (hB : (tokB l.toArray (wffToks E) (wffS E V) .any && (((List.range (wffToks E).length).filter (fun i => (tokNo (wffToks E) i).prod.isNone) == start) && ((List.range (wffToks E).length).filter (fun i => (tokNo (wffToks E) i).cons.isNone) == last))) = true)
    (hS : wffNow E env start = some S) (hd : wffDef E env start) [ht : Takes F S B]
    (h : GW P n l.toArray E V B (fun a' => ∀ w', holds w' (toksAt l.toArray (wffToks E) a' last ++ B) → Q .normal a' w') 0 l env) : G P n (.region id l.toArray true) Q env F := .mk fun a w hf hw =>
  wp_region_tok (wffToks E) (wffS E V) B start last hm hB (by rw [wffNow_at hf start S hS hd]; exact hw.perm ht.perm) (h.out a hf)
theorem GW.isAny {o : Oper} (h : GW P n ops E V F Z k (o :: rest) env) : GW P n ops E V F Z k (o :: rest) env := h
/-! ### What operations do -/
theorem run_storeVar_sl {w : World} {l : List HProp} {b off : Nat} {c : Array Value} {T t : TypeId} {val : Value} (hsz : (P.info? t).map (·.size) = some val.cells.size) (h1 : ∀ u ∈ val.cells.toList, u.oneCell' = true)
    (h : holds w (blk b (.cells c T (0, 0)) :: l)) (hoff : off + val.cells.size ≤ c.size) :
    ∃ w', (storeVar t ⟨b, off, none⟩ val).run P w = .ok () w' ∧ holds w' (blk b (.cells (c.toList.take off ++ val.cells.toList ++ c.toList.drop (off + val.cells.size)).toArray T (0, 0)) :: l) := by
  have hr := run_storeCells_at (P := P) b off T val.cells.toList 0 c w h.get_blk (by simpa using hoff) h1
  refine ⟨w.setRow b (c.toList.take off ++ val.cells.toList ++ c.toList.drop (off + val.cells.size)).toArray, ?_, ?_⟩
  · cases hq : P.info? t with
    | none => simp [hq] at hsz
    | some i =>
      have hs : i.size = val.cells.size := by simpa [hq] using hsz
      simp [storeVar, sizeOf, typeInfo, hq, hs]
      simpa using hr
  · exact h.turn (w' := w.setRow b (c.toList.take off ++ val.cells.toList ++ c.toList.drop (off + val.cells.size)).toArray) ⟨rfl, rfl, rfl, by simp, fun k _ hk => setRow_other w b k _ (fun e => hk (by simp [e]))⟩ (setRow_heap w b c _ T _ h.get_blk)
/-- A store of one cell into a block. -/
theorem DoesW.storeBlk {t T : TypeId} {x y : Operand} {b o : Nat} {c c' : Array Value} {u : Value} {L : List HProp} {R : Value → Prop} (hx : opnd env x = some (.pointer (some ⟨b, o, none⟩))) (hy : opnd env y = some u) [ht : CellT P t] (hc : u.cells = #[u]) (h1 : u.oneCell' = true) (ho : Nat.blt o c.size = true) (hs : (c.toList.set o u).toArray = c') :
    DoesW P n env F [blk b (.cells c T (0, 0))] L (.store t x y) (fun _ => True) (fun _ => blk b (.cells c' T (0, 0))) := ⟨fun a w F' ty pos aft g d hf hw => by
  subst hs
  obtain ⟨i, ds, g1, g2, g3, g4⟩ := ht.ok
  have ho : o < c.size := by simpa [Nat.blt_eq] using ho
  obtain ⟨w', hr, hh⟩ := run_storeVar_sl (P := P) (t := t) (val := u) (off := o) (by simp [g1, g2, hc]) (by simpa [hc] using h1) (show holds w (blk b (.cells c T (0, 0)) :: (L ++ (F ++ F'))) from by simpa using hw) (by simp [hc]; omega)
  simp [execOp, hf.eval hx, hf.eval hy, Instr.storeAt, Instr.sureAddr, hr, Result.andThen, looseUpon]
  have : (c.toList.take o ++ u.cells.toList ++ c.toList.drop (o + u.cells.size)) = c.toList.set o u := by
    simp only [hc, List.size_toArray, List.length_singleton]
    rw [List.set_eq_take_append_cons_drop, if_pos (by simpa using ho)]
    simp
  rw [this] at hh
  exact hh⟩
def stampV : Value → Nat
  | .tuple t => match t.toList with
    | [_, Value.int _ s] => s.toNat
    | _ => 0
  | _ => 0
def IsEntry (v : Value) : Prop := ∃ (u : Value) (s : Nat), v = Value.tuple #[u, Value.int .i64 (s : Int)]
theorem IsEntry.defd {v : Value} (h : IsEntry v) : isUndef v = false := by obtain ⟨u, s, rfl⟩ := h; rfl
end
end Go.Proofs.YtipkgamiejenaaaGreat
end
section
namespace Go.Proofs.YtipkgamiejenaaaGreat
open Go Go.RowKit Go.MapKept
set_option linter.unusedVariables false
set_option linter.unusedSectionVars false
set_option linter.unusedSimpArgs false

section
variable {P : Program} {n : Nat} {ops : Array Oper} {Q : Exit → Act → World → Prop} {env : Env} {F : List HProp} {Z : Act → Prop} {k : Nat} {rest : List Oper} {d : Tmp} {ty : TypeId} {pos : String} {aft : Array Edge} {E : List Wff} {V : List (Nat × List Nat)}
theorem GW.guardY {op : Op} {dst : Option Tmp} {j : Nat} {want : Bool} {dj : Tmp} (hj : (ops[j]?).bind (·.dst) = some dj) (hb : look env dj = some (.bool want)) (h : GW P n ops E V F Z k (⟨dst, op, ty, pos, aft, none⟩ :: rest) env) :
    GW P n ops E V F Z k (⟨dst, op, ty, pos, aft, some (j, want)⟩ :: rest) env := ⟨fun a hf => by
  have h1 := h.out a hf
  have hyl : yielded ops a.tmps j = some want := by
    have := hf.at_ _ _ hb
    unfold yielded; rw [hj, Option.bind_some, this]
  unfold wpTok at h1 ⊢
  simp only [Region.wanted, hyl, beq_self_eq_true, if_true] at h1 ⊢
  exact h1⟩
/-- A call of one value that keeps what it sees. -/
theorem DoesW.callK {L : List HProp} {f : FuncId} {xs : List Operand} {ts : Array TypeId} {vs : List Value} {v : Value} [ho : Own P f] (hx : opnds env xs = some vs)
    (hc : ∀ w F', holds w (L ++ (F ++ F')) → Ct P f vs.toArray w fun e w' => e = .returned v ∧ holds w' (L ++ (F ++ F'))) :
    DoesW P n env F [] L (.call { callee := .value (.func f), args := xs.toArray, argTypes := ts }) (fun u => u = v) (fun _ _ => True) := ⟨fun a w F' ty pos aft g d hf hw => by
  have hr : (execOp a.eval ⟨d, .call { callee := .value (.func f), args := xs.toArray, argTypes := ts }, ty, pos, aft, g⟩).run P w = .ok (.enter f vs.toArray) w := by
    simp [execOp, resolve, Act.eval, Deferred.ofValue, invoke, hf.evals hx, Result.andThen]
    exact ho.run _ _
  rw [hr]
  refine (hc w F' (by simpa using hw)).out.mono fun e w' ⟨he, hh⟩ => ⟨v, he, rfl, ?_⟩
  have h1 := (holds_sep (l := []) (m := L ++ (F ++ F'))).2 hh
  exact h1.mono (B := fun _ => True) fun _ _ => trivial⟩
end
end Go.Proofs.YtipkgamiejenaaaGreat
end
section
namespace Go.Proofs.YtipkgamiejenaaaGreat
open Go Go.RowKit Go.MapKept
set_option linter.unusedVariables false
set_option linter.unusedSectionVars false
set_option linter.unusedSimpArgs false

def IsSl (a b : Nat) (u : Value) : Prop := ∃ g, u = .slice (some ⟨g, 0, none⟩) a b
theorem IsSl.defd {a b : Nat} {u : Value} (h : IsSl a b u) : isUndef u = false := by obtain ⟨g, rfl⟩ := h; rfl
def IsPt (u : Value) : Prop := ∃ g, u = .pointer (some ⟨g, 0, none⟩)
theorem IsPt.defd {u : Value} (h : IsPt u) : isUndef u = false := by obtain ⟨g, rfl⟩ := h; rfl
/-- The block of a pointer. -/
def ptB : Value → Nat
  | .pointer (some a) => a.block
  | _ => 0
section
variable {P : Program} {n : Nat} {env : Env} {F : List HProp} {ops : Array Oper} {Q : Exit → Act → World → Prop} {Z : Act → Prop} {k : Nat} {rest : List Oper} {d : Tmp} {ty : TypeId} {pos : String} {aft : Array Edge} {E : List Wff} {V : List (Nat × List Nat)}
theorem DoesW.makeSl {α : Type} {m : Nat} {t e : TypeId} {x y : Operand} {size bytes : Nat} {z : Value} {i c : Int} {L : List HProp} (enc : α → List Value) [he : Enc enc m] (z0 : α) (a b : Nat) [ht : SliceT P t e size] [hz : ZeroT P e z m bytes] (hz0 : z.cells.toList = enc z0) (hx : opnd env x = some (.int .i64 i)) (hy : opnd env y = some (.int .i64 c)) (hi : i = (a : Int)) (hc : c = (b : Int)) (hab : a ≤ b) (hb : bytes * b ≤ 281474976710656) (h63 : b ≤ maxLen) :
    DoesW P n env F [] L (.makeSlice t x y) (IsSl a b) (fun u => owns e enc m u (List.replicate a z0)) := ⟨fun ac w F' ty pos aft g d hf hw => by
  subst hi hc
  obtain ⟨it, g1, g2, g3⟩ := ht.ok
  obtain ⟨iz, k1, k2, k3, k4, k5⟩ := hz.ok
  have hb' : (iz.bytes : Int) * (b : Int) ≤ 281474976710656 := by
    rw [k4]
    have h1 : ((bytes * b : Nat) : Int) ≤ 281474976710656 := by omega
    rwa [Int.natCast_mul] at h1
  have h63' : (b : Int) ≤ 9223372036854775807 := by
    have h1 := h63
    simp [maxLen] at h1
    omega
  obtain ⟨hr, hh⟩ := run_make_sl (P := P) (t := t) (e := e) (size := m) g1 k1 k2 k3 hw .i64 .i64 (x := a) (c := b) (by omega) (by omega) hb' h63'
  simp only [Int.toNat_natCast] at hr hh
  simp only [execOp, hf.eval hx, hf.eval hy, Sem.run_bind, Sem.run_pure, hr, Result.andThen_ok, looseUpon]
  refine ⟨⟨_, rfl⟩, ?_⟩
  rw [made_flat z0 hz0 a b hab] at hh
  have e1 : owns e enc m (.slice (some ⟨w.heap.size, 0, none⟩) a b) (List.replicate a z0) = ownRow e m (.slice (some ⟨w.heap.size, 0, none⟩) a b) a ((List.replicate a z0).flatMap enc) := by
    unfold owns; rw [List.length_replicate]
  rw [e1]; simpa using hh⟩
theorem DoesW.alloc {e : TypeId} {z : Value} {size bytes : Nat} {L : List HProp} [hz : ZeroT P e z size bytes] : DoesW P n env F [] L (.alloc e) IsPt (fun u => blk (ptB u) (.cells z.cells e (0, 0))) := ⟨fun ac w F' ty pos aft g d hf hw => by
  obtain ⟨i, h1, h2, _⟩ := hz.ok
  have hr : (execOp ac.eval ⟨d, .alloc e, ty, pos, aft, g⟩).run P w = .ok (.value (.pointer (some ⟨w.heap.size, 0, none⟩))) (w.alloc (.cells z.cells e (0, 0))) := by
    simp [execOp, Instr.alloc, zeroValue, typeInfo, h1, h2, newVar, newRow, run_newObj, Result.andThen]
  rw [hr]
  exact ⟨⟨_, rfl⟩, by simpa [ptB] using hw.alloc (.cells z.cells e (0, 0))⟩⟩
/-- A store whose new state hangs on a slot that is known. -/
theorem GW.storeOn {op : Op} {i : Nat} {e : Wff} {d7 : Tmp} {v7 : Value} {T L : List HProp} (hi : wffIdx E 0 k = some (i, e)) (hE : E[i]? = some e) (hek : e.k = some k) (hed : e.d = some d7) (h7 : look env d7 = some v7) (hu7 : isUndef v7 = false) (hT : wffNow E env e.takes = some T) (hdef : wffDef E env e.takes) (hL : wffNow E env (seenBy V k) = some L) (hdefL : wffDef E env (seenBy V k)) (hR : e.R = fun _ => True) (hD : DoesW P n env F T L op (fun _ => True) (fun _ => e.piece v7))
    (h : GW P n ops E V F Z (k + 1) rest env) : GW P n ops E V F Z k (⟨none, op, ty, pos, aft, none⟩ :: rest) env := ⟨fun a hf => by
  refine tok_op (R := fun _ => True) T L (fun u => [e.piece v7]) ?_ ?_ ?_ rfl (fun u hu => ?_) (fun w F' hw => ?_) (fun u hu => h.out _ (hf.put0 u))
  · simp only [wffS, hi]; exact wffNow_at hf _ _ hT hdef
  · simp only [wffS, hi]; exact wffNow_at hf _ _ hL hdefL
  · simp only [wffS, hi, hR]
  · simp only [wffS, hi]
    refine wffNow_at (hf.put0 u) [i] [e.piece v7] ?_ ⟨⟨e, hE, .inr (.inr ⟨d7, v7, hed, h7, hu7⟩)⟩, trivial⟩
    simp [wffNow, hE, hek, hed, h7]
  · have := hD.out a w F' ty pos aft none none hf (by simpa using hw)
    simpa using this⟩
end
end Go.Proofs.YtipkgamiejenaaaGreat
end
section
namespace Go.Proofs.YtipkgamiejenaaaGreat
open Go Go.RowKit Go.MapKept
set_option linter.unusedVariables false
set_option linter.unusedSectionVars false
set_option linter.unusedSimpArgs false

def IsSlc (u : Value) : Prop := ∃ a k c, u = .slice a k c
theorem IsSlc.defd {u : Value} (h : IsSlc u) : isUndef u = false := by obtain ⟨_, _, _, rfl⟩ := h; rfl
theorem owns_isSlc {α : Type} {T : TypeId} {enc : α → List Value} {m : Nat} {v : Value} {l : List α} {w : World} {G : List HProp} (h : holds w (owns T enc m v l :: G)) : IsSlc v := by
  rcases (holds.open_own h).2 with ⟨rfl, _⟩ | ⟨g, cap, cur, rfl, _⟩ <;> exact ⟨_, _, _, rfl⟩
structure SlV where
  a : Option Addr
  n : Nat
  c : Nat
@[reducible] def SlV.v (s : SlV) : Value := .slice s.a s.n s.c
theorem owns_SlV {α : Type} {T : TypeId} {enc : α → List Value} {m : Nat} {v : Value} {l : List α} {w : World} {G : List HProp} (h : holds w (owns T enc m v l :: G)) : ∃ s : SlV, v = s.v := by
  obtain ⟨a, k, c, rfl⟩ := owns_isSlc h
  exact ⟨⟨a, k, c⟩, rfl⟩
section
variable {P : Program} {n : Nat} {env : Env} {F T L : List HProp} {op : Op}
theorem DoesW.ofDoes {piece : Value → HProp} (h : Does P n env (L ++ F) T op piece) (hp : ∀ u w G, holds w (piece u :: G) → IsSlc u) : DoesW P n env F T L op IsSlc piece := ⟨fun a w F' ty pos aft g d hf hw => by
  have h1 := h.out a w F' ty pos aft g d hf (by simpa using hw)
  revert h1
  generalize (execOp a.eval ⟨d, op, ty, pos, aft, g⟩).run P w = r
  intro h1
  cases r with
  | halt x w1 => exact h1
  | ok x w1 =>
    cases x with
    | value u => exact ⟨hp _ _ _ h1.2, by simpa using h1.2⟩
    | skip => exact ⟨hp _ _ _ h1.2, by simpa using h1.2⟩
    | enter f args => exact h1.mono fun e w2 ⟨u, he, h2⟩ => ⟨u, he, hp _ _ _ h2.2, by simpa using h2.2⟩
    | _ => exact h1⟩
theorem DoesW.append {α : Type} {t e : TypeId} {size bytes m : Nat} {z v u : Value} {x y : Operand} {enc : α → List Value} {l ys : List α} [ht : SliceT P t e size] [hz : ZeroT P e z size bytes] [he : Enc enc m] (hm : m = size) (hx : opnd env x = some v) (hy : opnd env y = some u)
    (hlen : (l.length + ys.length) * bytes ≤ 140737488355328) (hl63 : l.length + ys.length ≤ 140737488355328) :
    DoesW P n env F [owns e enc m v l, owns e enc m u ys] L (.call { callee := .builtin .append, args := #[x, y], argTypes := #[t, t] }) IsSlc (fun r => owns e enc m r (l ++ ys)) :=
  .ofDoes (Does.append hm hx hy hlen hl63) fun u w G h => owns_isSlc h
end
end Go.Proofs.YtipkgamiejenaaaGreat
end

/- copy into the beginning of a row (in a drawn region); clear of a whole row. -/
namespace Go.Proofs.YtipkgamiejenaaaGreat
open Go Go.RowKit Go.MapKept
set_option linter.unusedVariables false
set_option linter.unusedSectionVars false
set_option linter.unusedSimpArgs false
theorem secV_whole {n m a : Nat} {hc : (0 ≤ n ∧ n ≤ n) ∧ ((none : Option Nat) = none ∨ (none : Option Nat) = some n)} (h : n ≠ 0) : secV (.slice (some ⟨a, 0, none⟩) n n) 0 n none n m hc = .slice (some ⟨a, 0, none⟩) n n := by
  simp [secV, subV, h, Addr.add]
section
variable {P : Program} {n : Nat} {Q : Exit → Act → World → Prop} {env : Env} {F L : List HProp} {ops : Array Oper} {rest : List Oper} {ty : TypeId} {pos : String} {aft : Array Edge} {α : Type} {enc : α → List Value} {m : Nat}
theorem GL.clearAll {t e T : TypeId} {x : Operand} {z : Value} {size bytes a : Nat} {l : List α} {F' : List HProp} (z0 : α) [ht : SliceT P t e size] [hz : ZeroT P e z size bytes] [he : Enc enc m] (hm : m = size) (hz0 : z.cells.toList = enc z0) (hl : l.length ≠ 0)
    (hx : opnd env x = some (.slice (some ⟨a, 0, none⟩) l.length l.length)) [hr : HasOwn F (.slice (some ⟨a, 0, none⟩) l.length l.length) T enc m l F']
    (h : GL P n ops Q rest env (owns T enc m (.slice (some ⟨a, 0, none⟩) l.length l.length) (List.replicate l.length z0) :: F')) : GL P n ops Q (⟨none, .call { callee := .builtin .clear, args := #[x], argTypes := #[t] }, ty, pos, aft, none⟩ :: rest) env F := by
  refine GL.clearEnd (lo := 0) (v := .slice (some ⟨a, 0, none⟩) l.length l.length) (l := l) z0 (hc := ⟨⟨Nat.zero_le _, Nat.le_refl _⟩, .inl rfl⟩) hm hz0 (by rw [secV_whole hl]; exact hx) ?_
  simpa using h
theorem DoesW.copyPre {t t2 e T T' : TypeId} {x y : Operand} {size : Nat} {v u : Value} {l l2 : List α} [he : Enc enc m] [ht : SliceT P t e size] (hm : m = size) (hx : opnd env x = some v) (hy : opnd env y = some u) (hl : l2.length ≤ l.length) :
    DoesW P n env F [owns T enc m v l, owns T' enc m u l2] L (.call { callee := .builtin .copy, args := #[x, y], argTypes := #[t, t2] }) (fun r => r = .int .i64 l2.length) (fun _ => owns T enc m v (l2 ++ l.drop l2.length)) := ⟨fun a w F' ty pos aft gd d hf hw0 => by
  subst hm
  obtain ⟨it, g1, g2, g3⟩ := ht.ok
  have hw1 : holds w (owns T enc m v l :: owns T' enc m u l2 :: (L ++ (F ++ F'))) := hw0
  have hmp := he.pos
  obtain ⟨hrl, au, cu, rfl, hcu, hau⟩ := hw1.tail.ownReads
  obtain ⟨hxs, hop⟩ := holds.open_own hw1
  have e1 : (execOp a.eval ⟨d, .call { callee := .builtin .copy, args := #[x, y], argTypes := #[t, t2] }, ty, pos, aft, gd⟩).run P w = ((Builtin.copy_ #[t, t2] ty #[v, .slice au l2.length cu]).run P w).andThen fun r w' => .ok (.value r) w' := by
    simp [execOp, resolve, invoke, builtin, hf.eval hx, hf.eval hy, Result.andThen]
  by_cases h0 : l2.length = 0
  · have hl2 : l2 = [] := List.eq_nil_of_length_eq_zero h0
    subst hl2
    have hv : ∃ ad cp, v = .slice ad l.length cp := by
      rcases hop with ⟨rfl, h1, _⟩ | ⟨g, cap, cur, rfl, _⟩
      · exact ⟨_, _, by rw [h1]⟩
      · exact ⟨_, _, rfl⟩
    obtain ⟨ad, cp, rfl⟩ := hv
    have hrun : (Builtin.copy_ #[t, t2] ty #[.slice ad l.length cp, .slice au ([] : List α).length cu]).run P w = .ok (.int .i64 0) w := by
      have hl0 : ∀ x : Addr, (loadCells x 0).run P w = .ok #[] w := fun x => by simpa using run_loadCells_list (P := P) w x [] (by simp)
      cases ad <;> cases au <;> simp [Builtin.copy_, run_underlying g1, Builtin.lenOf, Builtin.firstCells, sizeOf, typeInfo, g2, g3, hl0, storeCells, goInt]
    rw [e1, hrun]
    exact ⟨rfl, by simpa using (hw1.perm (List.Perm.swap _ _ _)).tail⟩
  · rcases hop with ⟨_, hl0, _⟩ | ⟨g, cap, cur, rfl, h4, h5, h6, h7, h8⟩
    · omega
    · rcases hau with h00 | ⟨b, off, rfl, hcells⟩
      · exfalso
        rcases Nat.mul_eq_zero.1 h00 with h | h <;> omega
      · have hle2 : l.length * m ≤ cap * m := Nat.mul_le_mul_right _ h4
        have hle3 : l2.length * m ≤ l.length * m := Nat.mul_le_mul_right _ hl
        have hl1 := run_loadCells_list (P := P) w ⟨b, off, none⟩ (l2.flatMap enc) (fun j u hj => by
          have hjl : j < l2.length * m := by rw [← hrl]; exact (List.getElem?_eq_some_iff.1 hj).1
          have := hcells j hjl
          rw [hj] at this
          have e2 : (⟨b, off, none⟩ : Addr).add j = ⟨b, off + j, none⟩ := by unfold Addr.add; split <;> simp_all
          rw [e2]; exact this)
        have hst := run_storeCells_at P g 0 T (l2.flatMap enc) 0 cur w h8.get_blk (by rw [hrl]; omega) (fun u hu => by
          obtain ⟨a, _, ha⟩ := List.mem_flatMap.1 hu
          exact he.one a u ha)
        rw [hrl] at hl1
        have hmin : l2.length.min l.length = l2.length := Nat.min_eq_left hl
        have hrun : (Builtin.copy_ #[t, t2] ty #[.slice (some ⟨g, 0, none⟩) l.length cap, .slice (some ⟨b, off, none⟩) l2.length cu]).run P w = .ok (.int .i64 l2.length) (w.setRow g (cur.toList.take (0 + 0) ++ l2.flatMap enc ++ cur.toList.drop (0 + 0 + (l2.flatMap enc).length)).toArray) := by
          simp [Builtin.copy_, run_underlying g1, Builtin.lenOf, Builtin.firstCells, sizeOf, typeInfo, g2, g3, hmin, hl1, hst, goInt]
        rw [e1, hrun]
        refine ⟨rfl, ?_⟩
        have hsize : (cur.toList.take (0 + 0) ++ l2.flatMap enc ++ cur.toList.drop (0 + 0 + (l2.flatMap enc).length)).toArray.size = cap * m := by
          simp only [List.size_toArray, List.length_append, List.length_take, List.length_drop, Array.length_toList, h6, hrl]
          omega
        have h9 := h8.turn (w' := w.setRow g (cur.toList.take (0 + 0) ++ l2.flatMap enc ++ cur.toList.drop (0 + 0 + (l2.flatMap enc).length)).toArray) ⟨rfl, rfl, rfl, by simp, fun k _ hk => setRow_other w g k _ (fun e => hk (by simp [e]))⟩ (setRow_heap w g cur _ T _ h8.get_blk)
        have h10 := h9.mkRow (size := m) (n := l.length) h4 h5 hsize
        have h11 : (cur.toList.take (0 + 0) ++ l2.flatMap enc ++ cur.toList.drop (0 + 0 + (l2.flatMap enc).length)).toArray.toList.take (l.length * m) = (l2 ++ l.drop l2.length).flatMap enc := by
          simp only [Nat.add_zero, List.take_zero, List.nil_append, Nat.zero_add]
          rw [List.flatMap_append, List.take_append, List.take_of_length_le (by rw [hrl]; omega)]
          congr 1
          rw [hrl, List.take_drop, show l2.length * m + (l.length * m - l2.length * m) = l.length * m by omega, h7, ← Enc.flat_drop]
        rw [h11] at h10
        have hlen : (l2 ++ l.drop l2.length).length = l.length := by simp; omega
        have e1 : owns T enc m (.slice (some ⟨g, 0, none⟩) l.length cap) (l2 ++ l.drop l2.length) = ownRow T m (.slice (some ⟨g, 0, none⟩) l.length cap) l.length ((l2 ++ l.drop l2.length).flatMap enc) := by unfold owns; rw [hlen]
        rw [e1]
        exact (h10.perm (List.Perm.swap _ _ _)).tail⟩
end
end Go.Proofs.YtipkgamiejenaaaGreat
