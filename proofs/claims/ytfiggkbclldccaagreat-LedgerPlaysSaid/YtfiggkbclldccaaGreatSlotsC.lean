/- What holds of slots whatever is called: who is open is not closed; a place's generation rises with each close. -/
import Derived.Test.YtfiggkbclldccaaGreatSlotsB
namespace Go.Proofs.YtfiggkbclldccaaGreat
open Go Go.RowKit Go.MapKept

structure SlotsM.Good (s : SlotsM) (k : Nat) : Prop where
  ok : s.ok
  gens : ∀ x ∈ s.gens, 0 ≤ x ∧ x ≤ k
  clen : s.closed.length ≤ k
  keys : ∀ p ∈ alKeys s.opn, p < s.fresh ∧ p ∉ s.closed
  val : ∀ p b, alGet s.opn p = some b → b = true
  nodup : s.closed.Nodup
  cf : ∀ p ∈ s.closed, p < s.fresh

theorem SlotsM.Good.up {s : SlotsM} {k : Nat} (h : s.Good k) : s.Good (k + 1) :=
  ⟨h.ok, fun x hx => by have := h.gens x hx; omega, by have := h.clen; omega, h.keys, h.val, h.nodup, h.cf⟩
theorem SlotsM.Good.new (n : Nat) (h : n ≤ 1048576) : (SlotsM.new n).Good 0 :=
  ⟨SlotsM.new_ok n h, fun x hx => by simp [SlotsM.new] at hx; omega, by simp [SlotsM.new], by simp [SlotsM.new, alKeys], by simp [SlotsM.new, alGet, alFind], by simp [SlotsM.new], by simp [SlotsM.new]⟩

theorem alGet_mem {β : Type} {m : List (Int × β)} {k : Int} {v : β} (h : alGet m k = some v) : k ∈ alKeys m := by
  cases hm : decide (k ∈ alKeys m) with
  | true => simpa using hm
  | false =>
    have := (alGet_none k m).2 (by simpa using hm)
    rw [this] at h; cases h
theorem alGet_of_mem {β : Type} {m : List (Int × β)} {k : Int} (h : k ∈ alKeys m) : ∃ v, alGet m k = some v := by
  cases hg : alGet m k with
  | some v => exact ⟨v, rfl⟩
  | none => exact absurd h ((alGet_none k m).1 hg)
theorem mem_keys_set {β : Type} {m : List (Int × β)} {k q : Int} {v : β} : q ∈ alKeys (alSet m k v) ↔ q = k ∨ q ∈ alKeys m := by
  rw [alKeys_set]
  split
  · constructor
    · exact .inr
    · rintro (rfl | h)
      · assumption
      · exact h
  · simp [or_comm]

/-- What an opening tells and leaves. -/
structure SlotsM.Opens (s : SlotsM) : Prop where
  yes : s.told.2.2 = true → 0 ≤ s.told.1 ∧ s.told.1 < s.gens.length ∧ s.told.1 ∉ alKeys s.opn ∧ s.told.2.1 = s.gens.getD s.told.1.toNat 0 ∧ s.opened.opn = alSet s.opn s.told.1 true
  no : s.told.2.2 = false → s.opened = s
  gens : s.opened.gens = s.gens

theorem SlotsM.Good.pick {s s' : SlotsM} {k : Nat} {p : Int} (h : s.Good k) (hp : s.pick = some (p, s')) :
    s'.Good k ∧ p ∉ alKeys s'.opn ∧ p < s'.fresh ∧ p ∉ s'.closed := by
  obtain ⟨hok', _, _, hgens, hopn⟩ := SlotsM.pick_ok h.ok hp
  unfold SlotsM.pick at hp
  split at hp
  · rename_i hc
    simp only [Option.some.injEq, Prod.mk.injEq] at hp
    obtain ⟨rfl, rfl⟩ := hp
    have hm : s.closed.getD (s.closed.length - 1) 0 ∈ s.closed := by
      rw [List.getD_eq_getElem?_getD, List.getElem?_eq_getElem (by omega)]
      simp
    have hnot : s.closed.getD (s.closed.length - 1) 0 ∉ s.closed.take (s.closed.length - 1) := by
      intro hm2
      obtain ⟨j, hj, he⟩ := List.getElem_of_mem hm2
      simp only [List.length_take] at hj
      rw [List.getElem_take, List.getD_eq_getElem?_getD, List.getElem?_eq_getElem (by omega)] at he
      exact List.pairwise_iff_getElem.1 h.nodup j (s.closed.length - 1) (by omega) (by omega) (by omega) (by simpa using he)
    refine ⟨⟨hok', h.gens, by have := h.clen; simp; omega, fun q hq => ?_, h.val, h.nodup.sublist (List.take_sublist _ _), fun q hq => h.cf q (List.mem_of_mem_take hq)⟩, fun hk => (h.keys _ hk).2 hm, h.cf _ hm, hnot⟩
    exact ⟨(h.keys q hq).1, fun hc => (h.keys q hq).2 (List.mem_of_mem_take hc)⟩
  · split at hp
    · simp only [Option.some.injEq, Prod.mk.injEq] at hp
      obtain ⟨rfl, rfl⟩ := hp
      refine ⟨⟨hok', h.gens, h.clen, fun q hq => ?_, h.val, h.nodup, fun q hq => ?_⟩, fun hk => ?_, ?_, fun hc => ?_⟩
      · have := h.keys q hq; exact ⟨by simp; omega, this.2⟩
      · have := h.cf q hq; simp; omega
      · have := (h.keys _ hk).1; omega
      · simp; omega
      · have := h.cf _ hc; omega
    · cases hp

theorem SlotsM.Good.opens {s : SlotsM} {k : Nat} (h : s.Good k) : s.Opens ∧ s.opened.Good k := by
  cases hp : s.pick with
  | none =>
    have e1 : s.told = (0, 0, false) := by unfold SlotsM.told; rw [hp]
    have e2 : s.opened = s := by unfold SlotsM.opened; rw [hp]
    exact ⟨⟨fun h => (by rw [e1] at h; cases h), fun _ => e2, by rw [e2]⟩, by rw [e2]; exact h⟩
  | some q =>
    obtain ⟨p, s'⟩ := q
    have e1 : s.told = (p, s'.gens.getD p.toNat 0, true) := by unfold SlotsM.told; rw [hp]
    have e2 : s.opened = { s' with opn := alSet s'.opn p true } := by unfold SlotsM.opened; rw [hp]
    obtain ⟨_, h0, h1, h2, h3⟩ := SlotsM.pick_ok h.ok hp
    obtain ⟨hg, hk, hf, hc⟩ := h.pick hp
    refine ⟨⟨fun _ => ?_, fun h => (by rw [e1] at h; cases h), by rw [e2]; exact h2⟩, ?_⟩
    · rw [e1, e2]
      refine ⟨h0, by rw [← h2]; exact h1, by rw [← h3]; exact hk, by rw [h2], by simp [h3]⟩
    · have hok := SlotsM.opened_ok h.ok
      rw [e2] at hok ⊢
      refine ⟨hok, hg.gens, hg.clen, fun q hq => ?_, fun q b hq => ?_, hg.nodup, hg.cf⟩
      · rcases mem_keys_set.1 hq with rfl | hq
        · exact ⟨hf, hc⟩
        · exact hg.keys q hq
      · simp only [alGet_set] at hq
        split at hq
        · injection hq with hq; exact hq.symm
        · exact hg.val q b hq

theorem SlotsM.right_open {s : SlotsM} {p g : Int} (hok : s.ok) (h : s.right p g = true) : p ∈ alKeys s.opn ∧ 0 ≤ p ∧ p < s.gens.length ∧ s.gens.getD p.toNat 0 = g := by
  unfold SlotsM.right at h
  cases hg : alGet s.opn p with
  | none => simp [hg] at h
  | some b =>
    have := hok.opn p b hg
    simp only [hg, Option.getD_some, Bool.and_eq_true, beq_iff_eq] at h
    exact ⟨alGet_mem hg, this.1, this.2, h.2⟩
theorem SlotsM.Good.close {s : SlotsM} {k : Nat} (h : s.Good k) {p g : Int} (hr : s.right p g = true) : (s.closeAt p).Good (k + 1) := by
  obtain ⟨hm, h0, h1, h2⟩ := SlotsM.right_open h.ok hr
  refine ⟨SlotsM.close_ok h.ok hr, fun x hx => ?_, by have := h.clen; simp [SlotsM.closeAt]; omega, fun q hq => ?_, fun q b hq => ?_, ?_, fun q hq => ?_⟩
  · simp only [SlotsM.closeAt] at hx
    rcases List.mem_or_eq_of_mem_set hx with h3 | h3
    · have := h.gens x h3; omega
    · have hmem : s.gens.getD p.toNat 0 ∈ s.gens := by
        rw [List.getD_eq_getElem?_getD, List.getElem?_eq_getElem (by omega)]
        simp
      have := h.gens _ hmem
      omega
  · simp only [SlotsM.closeAt, alKeys_del] at hq ⊢
    have hq' := (h.ok.nodup.mem_erase_iff).1 hq
    have := h.keys q hq'.2
    refine ⟨this.1, fun hc => ?_⟩
    rcases List.mem_append.1 hc with hc | hc
    · exact this.2 hc
    · simp at hc; exact hq'.1 hc
  · obtain ⟨u, hu⟩ := alGet_del_some _ _ _ _ hq
    simp only [SlotsM.closeAt, alGet_del _ _ _ h.ok.nodup] at hq
    split at hq
    · cases hq
    · exact h.val q b hq
  · simp only [SlotsM.closeAt]
    rw [List.nodup_append]
    exact ⟨h.nodup, by simp, fun a ha b hb => by simp at hb; subst hb; exact fun e => (h.keys _ hm).2 (e ▸ ha)⟩
  · simp only [SlotsM.closeAt, List.mem_append, List.mem_singleton] at hq ⊢
    rcases hq with hq | rfl
    · exact h.cf q hq
    · exact (h.keys _ hm).1

/-- Each place and generation that was told: it is open with it, or its generation is greater by now. -/
def Once (s : SlotsM) (P G : List Int) : Prop := ∀ (k : Nat) (h1 : k < P.length) (h2 : k < G.length), 0 ≤ P[k] ∧ P[k] < s.gens.length ∧ (G[k] < s.gens.getD P[k].toNat 0 ∨ (G[k] = s.gens.getD P[k].toNat 0 ∧ P[k] ∈ alKeys s.opn))

theorem Once.close {s : SlotsM} {k0 : Nat} {P G : List Int} (h : Once s P G) (hg : s.Good k0) {p g : Int} (hr : s.right p g = true) : Once (s.closeAt p) P G := by
  obtain ⟨hm, p0, p1, p2⟩ := SlotsM.right_open hg.ok hr
  intro k h1 h2
  obtain ⟨b1, b2, b3⟩ := h k h1 h2
  have hs : ∀ q : Int, 0 ≤ q → q < s.gens.length → (s.gens.set p.toNat (s.gens.getD p.toNat 0 + 1)).getD q.toNat 0 = if q = p then s.gens.getD p.toNat 0 + 1 else s.gens.getD q.toNat 0 := fun q hq0 hq1 => by
    by_cases e : q = p
    · subst e
      rw [if_pos rfl, List.getD_eq_getElem?_getD, List.getElem?_set_self (by omega)]
      rfl
    · rw [if_neg e, List.getD_eq_getElem?_getD, List.getElem?_set_ne (by omega), List.getD_eq_getElem?_getD]
  simp only [SlotsM.closeAt, List.length_set, alKeys_del]
  rw [hs _ b1 b2]
  refine ⟨b1, b2, ?_⟩
  by_cases e : P[k] = p
  · rw [if_pos e]
    rw [e] at b3
    left
    rcases b3 with h3 | ⟨h3, _⟩ <;> omega
  · rw [if_neg e]
    exact b3.imp id fun ⟨c1, c2⟩ => ⟨c1, (hg.ok.nodup.mem_erase_iff).2 ⟨e, c2⟩⟩
end Go.Proofs.YtfiggkbclldccaaGreat
