/- What calls of accounts keep. -/
import Derived.Test.YtfiggkbclldccaaGreatAccts
namespace Go.Proofs.YtfiggkbclldccaaGreat
open Go Go.RowKit Go.MapKept
set_option maxRecDepth 100000
set_option linter.unusedVariables false
set_option maxHeartbeats 1000000

theorem AccsM.Ok.up {t : AccsM} {k : Nat} (h : t.Ok k) : t.Ok (k + 1) := ⟨h.good.up, h.len, h.right, h.zero⟩
theorem AccsM.Ok.new : (AccsM.mk (SlotsM.new 64) (List.replicate 64 ac0)).Ok 0 := by
  refine ⟨SlotsM.Good.new 64 (by omega), by simp [SlotsM.new], fun a ha => .inr (List.eq_of_mem_replicate ha), fun i hi _ => by exact List.getElem_replicate ..⟩
theorem Acct.new_right {c : Int} (h : (Acct.new c).2 = 0) : Acct.right (Acct.new c).1 = true := by
  unfold Acct.new at *
  split at h
  · rename_i h1; rw [if_pos h1]; exact h1
  · cases h
theorem mem_set_or {l : List AcM} {k : Nat} {x : AcM} {P : AcM → Prop} (h : ∀ a ∈ l, P a) (hx : P x) : ∀ a ∈ l.set k x, P a := fun a ha => by
  rcases List.mem_or_eq_of_mem_set ha with h1 | h1
  · exact h a h1
  · rw [h1]; exact hx
theorem AccsM.Ok.open {t : AccsM} {k : Nat} (h : t.Ok k) (c : Int) : (Accs.open t c).1.Ok k ∧ (Accs.open t c).1.s.gens.length = t.s.gens.length := by
  unfold Accs.open
  split
  · exact ⟨h, rfl⟩
  · rename_i h1
    split
    · rename_i h2
      obtain ⟨p0, p1, _, _, ho⟩ := h.good.opens.1.yes h2
      have hg := h.good.opens.1.gens
      refine ⟨⟨h.good.opens.2, ?_, mem_set_or h.right (.inl (Acct.new_right (by simpa using h1))), fun i hi hn => ?_⟩, by simp only; rw [hg]⟩
      · simp only [List.length_set]; rw [hg, h.len]
      · simp only [List.length_set] at hi
        simp only [ho, mem_keys_set, not_or] at hn
        simp only
        rw [List.getElem_set_ne (by omega)]
        exact h.zero i hi hn.2
    · exact ⟨h, rfl⟩
theorem AccsM.Ok.close {t : AccsM} {k : Nat} (h : t.Ok k) (p g : Int) : (Accs.close t p g).1.Ok (k + 1) ∧ (Accs.close t p g).1.s.gens.length = t.s.gens.length := by
  unfold Accs.close
  split
  · exact ⟨h.up, rfl⟩
  · rename_i h1
    split
    · exact ⟨h.up, rfl⟩
    · obtain ⟨hr, q, hq, rfl, _⟩ := Accs.get_ok (p := p) (g := g) h.good.ok h.len (by simpa using h1)
      refine ⟨⟨h.good.close hr, ?_, mem_set_or h.right (.inr rfl), fun i hi hn => ?_⟩, by simp [SlotsM.closeAt]⟩
      · simp [SlotsM.closeAt, h.len]
      · simp only [List.length_set] at hi
        simp only [Int.toNat_natCast]
        by_cases hiq : q = i
        · subst hiq; simp
        · rw [List.getElem_set_ne hiq]
          refine h.zero i hi fun hm => hn ?_
          simp only [SlotsM.closeAt, alKeys_del]
          exact (h.good.ok.nodup.mem_erase_iff).2 ⟨by omega, hm⟩
theorem AccsM.Ok.act {t : AccsM} {k : Nat} (h : t.Ok k) (c p g n : Int) : (Accs.act t c p g n).1.Ok k ∧ (Accs.act t c p g n).1.s = t.s := by
  unfold Accs.act
  split
  · exact ⟨h, rfl⟩
  · split
    · exact ⟨h, rfl⟩
    · rename_i h1
      split
      · exact ⟨h, rfl⟩
      · rename_i h2
        obtain ⟨hr, q, hq, rfl, _⟩ := Accs.get_ok (p := p) (g := g) h.good.ok h.len (by simpa using h1)
        have hm := (SlotsM.right_open h.good.ok hr).1
        refine ⟨⟨h.good, by simp [h.len], mem_set_or h.right (.inl ?_), fun i hi hn => ?_⟩, rfl⟩
        · exact Acct.act_right (c := c) (a := (Accs.get t.s t.A q g).1) (n := n) (Prod.ext rfl (by simpa using h2))
        · simp only [List.length_set] at hi
          simp only [Int.toNat_natCast]
          by_cases hiq : q = i
          · subst hiq; exact absurd hm hn
          · rw [List.getElem_set_ne hiq]
            exact h.zero i hi hn
end Go.Proofs.YtfiggkbclldccaaGreat
