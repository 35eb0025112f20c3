/- What a book of tickets holds, in plain Lean: all tickets, and the keys of those that are pending. -/
import Derived.Test.YtdcekeclemgkcaaRef31
import Derived.Test.YtdcekeclemgkcaaSorted
namespace Go.Proofs.Ytdcekeclemgkcaa
open Go Go.RowKit Go.MapKept
set_option linter.unusedVariables false

def pend (l : List TicketM) : List TicketM := l.filter fun t => t.state == 1
def ids (l : List TicketM) : List Int := l.map (·.id)
/-- Each has its place's number, and is right. -/
structure TkOk (l : List TicketM) : Prop where
  at_ : ∀ (i : Nat) (hi : i < l.length), l[i].id = i + 1
  right : ∀ t ∈ l, Ticket.right t = true
structure BookOk (l : List TicketM) (m : List (Int × Unit)) : Prop where
  ok : TkOk l
  keys : (alKeys m).Perm (ids (pend l))

theorem TkOk.nil : TkOk [] := ⟨fun i hi => by simp at hi, fun t ht => by simp at ht⟩
theorem TkOk.push {l : List TicketM} (h : TkOk l) {t : TicketM} (h1 : t.id = l.length + 1) (h2 : Ticket.right t = true) : TkOk (l ++ [t]) := by
  refine ⟨fun i hi => ?_, fun u hu => ?_⟩
  · rcases Nat.lt_or_ge i l.length with h3 | h3
    · rw [List.getElem_append_left h3]; exact h.at_ i h3
    · have : i = l.length := by simp at hi; omega
      subst this
      simpa using h1
  · rcases List.mem_append.1 hu with h3 | h3
    · exact h.right u h3
    · simp at h3; subst h3; exact h2
theorem TkOk.set {l : List TicketM} (h : TkOk l) {t : TicketM} {k : Nat} (hk : k < l.length) (h1 : t.id = l[k].id) (h2 : Ticket.right t = true) : TkOk (l.set k t) := by
  refine ⟨fun i hi => ?_, fun u hu => ?_⟩
  · rw [List.getElem_set]
    split
    · rename_i h3; subst h3; rw [h1]; exact h.at_ _ hk
    · exact h.at_ i (by simpa using hi)
  · rcases List.mem_or_eq_of_mem_set hu with h3 | h3
    · exact h.right u h3
    · subst h3; exact h2
theorem TkOk.mem_id {l : List TicketM} (h : TkOk l) {t : TicketM} (ht : t ∈ l) : 1 ≤ t.id ∧ t.id ≤ l.length := by
  obtain ⟨i, hi, rfl⟩ := List.mem_iff_getElem.1 ht
  rw [h.at_ i hi]; omega
theorem TkOk.sorted {l : List TicketM} (h : TkOk l) : l.Pairwise fun a b => a.id < b.id := by
  rw [List.pairwise_iff_getElem]
  intro i j hi hj hij
  rw [h.at_ i hi, h.at_ j hj]; omega
theorem pend_sorted {l : List TicketM} (h : TkOk l) : (ids (pend l)).Pairwise fun a b => a < b := by
  rw [ids, List.pairwise_map]
  exact h.sorted.filter _
theorem pend_mem {l : List TicketM} {t : TicketM} : t ∈ pend l ↔ t ∈ l ∧ t.state = 1 := by simp [pend]
theorem pend_at {l : List TicketM} (h : TkOk l) {t : TicketM} (ht : t ∈ pend l) : ∃ k : Nat, ∃ hk : k < l.length, t.id = k + 1 ∧ l[k] = t := by
  obtain ⟨h1, _⟩ := pend_mem.1 ht
  obtain ⟨i, hi, rfl⟩ := List.mem_iff_getElem.1 h1
  exact ⟨i, hi, h.at_ i hi, rfl⟩
theorem pend_le (l : List TicketM) : (pend l).length ≤ l.length := List.length_filter_le _ _
theorem BookOk.length {l : List TicketM} {m : List (Int × Unit)} (h : BookOk l m) : m.length = (pend l).length := by
  have := h.keys.length_eq
  simpa [alKeys, ids] using this
theorem BookOk.nil : BookOk [] [] := ⟨TkOk.nil, by simp [alKeys, pend, ids]⟩
theorem BookOk.push {l : List TicketM} {m : List (Int × Unit)} (h : BookOk l m) {t : TicketM} (h1 : t.id = l.length + 1) (h2 : Ticket.right t = true) (h3 : t.state = 1) : BookOk (l ++ [t]) (alSet m (l.length + 1) ()) := by
  refine ⟨h.ok.push h1 h2, ?_⟩
  have hn : ((l.length : Int) + 1) ∉ alKeys m := fun hm => by
    have := (h.keys.mem_iff).1 hm
    obtain ⟨u, hu, he⟩ := List.mem_map.1 this
    have := h.ok.mem_id (pend_mem.1 hu).1
    omega
  rw [alKeys_set, if_neg hn]
  have e : ids (pend (l ++ [t])) = ids (pend l) ++ [(l.length : Int) + 1] := by
    simp [pend, ids, h3, h1]
  rw [e]
  exact h.keys.append_right _
theorem ids_split {l : List TicketM} (h : TkOk l) (k : Nat) (hk : k < l.length) : ∃ A B, l = A ++ l[k] :: B ∧ A.length = k ∧ (∀ t, l.set k t = A ++ t :: B) ∧ l[k].id ∉ ids (pend A) := by
  refine ⟨l.take k, l.drop (k + 1), ?_, by simp; omega, fun t => ?_, fun hm => ?_⟩
  · rw [List.getElem_cons_drop, List.take_append_drop]
  · rw [List.set_eq_take_append_cons_drop, if_pos hk]
  · obtain ⟨u, hu, he⟩ := List.mem_map.1 hm
    obtain ⟨i, hi, rfl⟩ := List.mem_iff_getElem.1 (pend_mem.1 hu).1
    rw [List.getElem_take] at he
    have hi' : i < k := by simp at hi; omega
    rw [h.at_ i (by omega), h.at_ k hk] at he
    omega
/-- To another state than pending. -/
theorem BookOk.leave {l : List TicketM} {m : List (Int × Unit)} (h : BookOk l m) (k : Nat) (hk : k < l.length) {t : TicketM} (h1 : t.id = l[k].id) (h2 : Ticket.right t = true) (h3 : t.state ≠ 1) (h4 : l[k].state = 1) : BookOk (l.set k t) (alDel m (k + 1)) := by
  refine ⟨h.ok.set hk h1 h2, ?_⟩
  obtain ⟨A, B, e1, e2, e3, e4⟩ := ids_split h.ok k hk
  have hid := h.ok.at_ k hk
  have p := h.keys
  rw [alKeys_del, e3]
  have e5 : ids (pend l) = ids (pend A) ++ l[k].id :: ids (pend B) := by
    have : ids (pend l) = ids (pend (A ++ l[k] :: B)) := by rw [← e1]
    rw [this]
    simp [pend, ids, h4]
  have e6 : ids (pend (A ++ t :: B)) = ids (pend A) ++ ids (pend B) := by simp [pend, ids, h3]
  rw [e6]
  rw [e5] at p
  have p2 := p.erase ((k : Int) + 1)
  rw [hid] at e4 p2
  rw [List.erase_append_right _ e4, List.erase_cons_head] at p2
  exact p2
/-- Pending as before. -/
theorem BookOk.stay {l : List TicketM} {m : List (Int × Unit)} (h : BookOk l m) (k : Nat) (hk : k < l.length) {t : TicketM} (h1 : t.id = l[k].id) (h2 : Ticket.right t = true) (h3 : t.state = l[k].state) : BookOk (l.set k t) m := by
  refine ⟨h.ok.set hk h1 h2, ?_⟩
  obtain ⟨A, B, e1, e2, e3, e4⟩ := ids_split h.ok k hk
  have e5 : ids (pend l) = ids (pend (A ++ l[k] :: B)) := by rw [← e1]
  have e6 : ids (pend (A ++ t :: B)) = ids (pend (A ++ l[k] :: B)) := by
    by_cases hs : l[k].state = 1
    · simp [pend, ids, hs, h3, h1]
    · simp [pend, ids, hs, h3]
  rw [e3, e6, ← e5]
  exact h.keys
theorem sortInts_asc {l : List Int} (h : l.Pairwise fun a b => a < b) : sortInts l = l := by
  unfold sortInts
  exact List.mergeSort_of_pairwise (h.imp fun hab => by simp; omega)
theorem BookOk.sort {l : List TicketM} {m : List (Int × Unit)} (h : BookOk l m) : sortInts (alKeys m) = ids (pend l) := by
  rw [sortInts_perm h.keys, sortInts_asc (pend_sorted h.ok)]
theorem BookOk.wf {l : List TicketM} {m : List (Int × Unit)} (h : BookOk l m) (hl : l.length ≤ 1048576) : ∀ x ∈ alKeys m, (Lit.int .i64 x).wf = true := fun x hx => by
  obtain ⟨u, hu, rfl⟩ := List.mem_map.1 (h.keys.mem_iff.1 hx)
  have := h.ok.mem_id (pend_mem.1 hu).1
  have e1 : IntKind.i64.min = -9223372036854775808 := rfl
  have e2 : IntKind.i64.max = 9223372036854775807 := rfl
  simp [Lit.wf, e1, e2]
  omega
end Go.Proofs.Ytdcekeclemgkcaa
