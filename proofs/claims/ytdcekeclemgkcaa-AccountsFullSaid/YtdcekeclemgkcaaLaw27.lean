/- The example of chapter 27; what calls keep. -/
import Derived.Test.YtdcekeclemgkcaaMembC
namespace Go.Proofs.Ytdcekeclemgkcaa
open Go Go.RowKit Go.MapKept
set_option maxRecDepth 100000
set_option linter.unusedVariables false
set_option maxHeartbeats 1000000

theorem AccsM.Ok.up {t : AccsM} {k : Nat} (h : t.Ok k) : t.Ok (k + 1) := ⟨h.good.up, h.len, h.right, h.zero⟩
theorem AccsM.Ok.new : (AccsM.mk (SlotsM.new 64) (List.replicate 64 ac0)).Ok 0 := by
  refine ⟨SlotsM.Good.new 64 (by omega), by simp [SlotsM.new], fun a ha => .inr (List.eq_of_mem_replicate ha), fun i hi _ => by exact List.getElem_replicate ..⟩
theorem Acct.new_right {c : Int} (h : (Acct.new c).2 = 0) : Acct.right (Acct.new c).1 = true := by
  unfold Acct.new at *
  split at h
  · rename_i h1; rw [if_pos h1]; exact h1
  · cases h
theorem mem_set_or {l : List AcM} {k : Nat} {x : AcM} {P : AcM → Prop} (h : ∀ a ∈ l, P a) (hx : P x) : ∀ a ∈ l.set k x, P a := fun a ha => by
  rcases List.mem_or_eq_of_mem_set ha with h1 | h1
  · exact h a h1
  · rw [h1]; exact hx
theorem AccsM.Ok.open {t : AccsM} {k : Nat} (h : t.Ok k) (c : Int) : (Accs.open t c).1.Ok k ∧ (Accs.open t c).1.s.gens.length = t.s.gens.length := by
  unfold Accs.open
  split
  · exact ⟨h, rfl⟩
  · rename_i h1
    split
    · rename_i h2
      obtain ⟨p0, p1, _, _, ho⟩ := h.good.opens.1.yes h2
      have hg := h.good.opens.1.gens
      refine ⟨⟨h.good.opens.2, ?_, mem_set_or h.right (.inl (Acct.new_right (by simpa using h1))), fun i hi hn => ?_⟩, by simp only; rw [hg]⟩
      · simp only [List.length_set]; rw [hg, h.len]
      · simp only [List.length_set] at hi
        simp only [ho, mem_keys_set, not_or] at hn
        simp only
        rw [List.getElem_set_ne (by omega)]
        exact h.zero i hi hn.2
    · exact ⟨h, rfl⟩
theorem AccsM.Ok.close {t : AccsM} {k : Nat} (h : t.Ok k) (p g : Int) : (Accs.close t p g).1.Ok (k + 1) ∧ (Accs.close t p g).1.s.gens.length = t.s.gens.length := by
  unfold Accs.close
  split
  · exact ⟨h.up, rfl⟩
  · rename_i h1
    split
    · exact ⟨h.up, rfl⟩
    · obtain ⟨hr, q, hq, rfl, _⟩ := Accs.get_ok (p := p) (g := g) h.good.ok h.len (by simpa using h1)
      refine ⟨⟨h.good.close hr, ?_, mem_set_or h.right (.inr rfl), fun i hi hn => ?_⟩, by simp [SlotsM.closeAt]⟩
      · simp [SlotsM.closeAt, h.len]
      · simp only [List.length_set] at hi
        simp only [Int.toNat_natCast]
        by_cases hiq : q = i
        · subst hiq; simp
        · rw [List.getElem_set_ne hiq]
          refine h.zero i hi fun hm => hn ?_
          simp only [SlotsM.closeAt, alKeys_del]
          exact (h.good.ok.nodup.mem_erase_iff).2 ⟨by omega, hm⟩
theorem AccsM.Ok.act {t : AccsM} {k : Nat} (h : t.Ok k) (c p g n : Int) : (Accs.act t c p g n).1.Ok k ∧ (Accs.act t c p g n).1.s = t.s := by
  unfold Accs.act
  split
  · exact ⟨h, rfl⟩
  · split
    · exact ⟨h, rfl⟩
    · rename_i h1
      split
      · exact ⟨h, rfl⟩
      · rename_i h2
        obtain ⟨hr, q, hq, rfl, _⟩ := Accs.get_ok (p := p) (g := g) h.good.ok h.len (by simpa using h1)
        have hm := (SlotsM.right_open h.good.ok hr).1
        refine ⟨⟨h.good, by simp [h.len], mem_set_or h.right (.inl ?_), fun i hi hn => ?_⟩, rfl⟩
        · exact Acct.act_right (c := c) (a := (Accs.get t.s t.A q g).1) (n := n) (Prod.ext rfl (by simpa using h2))
        · simp only [List.length_set] at hi
          simp only [Int.toNat_natCast]
          by_cases hiq : q = i
          · subst hiq; exact absurd hm hn
          · rw [List.getElem_set_ne hiq]
            exact h.zero i hi hn

def w27a : AccsM := (Accs.open ⟨SlotsM.new 64, List.replicate 64 ac0⟩ 5).1
def w27b : AccsM := (Accs.act w27a 1 0 0 6).1
def w27c : AccsM := (Accs.close w27b 0 0).1
def w27d : AccsM := (Accs.open w27c 3).1
theorem law27_works (w : World) (F : List HProp) (hw : holds w F) :
    Calls Try.prog 40 #[] w fun e w' => e = .returned (.bool true) ∧ holds w' F := by
  have k0 : (AccsM.mk (SlotsM.new 64) (List.replicate 64 ac0)).Ok 0 := AccsM.Ok.new
  have k1 : w27a.Ok 0 ∧ w27a.s.gens.length = 64 := k0.open 5
  have k2 : w27b.Ok 0 ∧ w27b.s = w27a.s := k1.1.act 1 0 0 6
  have k3 : w27c.Ok 1 ∧ w27c.s.gens.length = 64 := by
    have := k2.1.close 0 0
    rw [k2.2, k1.2] at this
    exact this
  have k4 : w27d.Ok 1 ∧ w27d.s.gens.length = 64 := by
    have := k3.1.open 3
    rw [k3.2] at this
    exact this
  have e1 : (Accs.open ⟨SlotsM.new 64, List.replicate 64 ac0⟩ 5).2 = (0, 0, 0) := by decide +kernel
  have e2 : (Accs.act w27a 1 0 0 6).2 = 7 := by decide +kernel
  have e3 : (Accs.close w27b 0 0).2 = 0 := by decide +kernel
  have e4 : (Accs.open w27c 3).2 = (0, 1, 0) := by decide +kernel
  have e5 : w27d.members.length = 1 := by
    unfold AccsM.members
    rw [List.length_map, AccsM.ids_len]
    decide +kernel
  have O1 := Lib.hid (show ∀ w v F, holds w (accsAt v ⟨SlotsM.new 64, List.replicate 64 ac0⟩ :: F) → Calls Try.prog 44 #[v, .int .i64 5] w fun e w' => e = .returned (.tuple #[.int .i64 0, .int .i64 0, .int .i64 0]) ∧ holds w' (accsAt v w27a :: F) from fun w v F h => by
    have := accs_Open w v _ 0 5 F k0.good k0.len h
    rw [e1] at this
    exact this)
  have O2 := Lib.hid (show ∀ w v F, holds w (accsAt v w27a :: F) → Calls Try.prog 48 #[v, .int .i64 1, .int .i64 0, .int .i64 0, .int .i64 6] w fun e w' => e = .returned (.int .i64 7) ∧ holds w' (accsAt v w27b :: F) from fun w v F h => by
    have := accs_Do w v _ 0 1 0 0 6 F k1.1 (by omega) h
    rw [e2] at this
    exact this)
  have O3 := Lib.hid (show ∀ w v F, holds w (accsAt v w27b :: F) → Calls Try.prog 46 #[v, .int .i64 0, .int .i64 0] w fun e w' => e = .returned (.int .i64 0) ∧ holds w' (accsAt v w27c :: F) from fun w v F h => by
    have := accs_Close w v _ 0 0 0 F k2.1 (by omega) h
    rw [e3] at this
    exact this)
  have O4 := Lib.hid (show ∀ w v F, holds w (accsAt v w27c :: F) → Calls Try.prog 44 #[v, .int .i64 3] w fun e w' => e = .returned (.tuple #[.int .i64 0, .int .i64 1, .int .i64 0]) ∧ holds w' (accsAt v w27d :: F) from fun w v F h => by
    have := accs_Open w v _ 1 3 F k3.1.good k3.1.len h
    rw [e4] at this
    exact this)
  have O5 := Lib.hid (fun w v F h => accs_Members w v _ 1 F k4.1 (by rw [k4.2]; omega) h)
  rw [e5] at O5
  clear k0 k1 k2 k3 k4 e1 e2 e3 e4 e5
  go_enter Try.func40, Try.ntmps40
  go_wp2_with fail
  refine (accs_New _ F hw).mono ?_
  rintro e w1 ⟨v, rfl, h1⟩
  go_wp2_with fail
  refine (O1.out _ _ _ h1).mono ?_
  rintro e w2 ⟨rfl, h2⟩
  go_wp2_with fail
  refine (O2.out _ _ _ h2).mono ?_
  rintro e w3 ⟨rfl, h3⟩
  go_wp2_with fail
  refine (O3.out _ _ _ h3).mono ?_
  rintro e w4 ⟨rfl, h4⟩
  go_wp2_with fail
  refine (O4.out _ _ _ h4).mono ?_
  rintro e w5 ⟨rfl, h5⟩
  go_wp2_with fail
  refine (O5.out _ _ _ h5).mono ?_
  rintro e w6 ⟨a, c, rfl, h6⟩
  go_wp2_with fail
  go_ret
  exact ⟨rfl, h6.tail.tail⟩
end Go.Proofs.Ytdcekeclemgkcaa
