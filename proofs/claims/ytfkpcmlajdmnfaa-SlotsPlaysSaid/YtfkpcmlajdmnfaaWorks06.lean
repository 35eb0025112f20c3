/- The example of chapter 6; all open places. -/
import Derived.Test.YtfkpcmlajdmnfaaSlotsD
import Derived.Test.YtfkpcmlajdmnfaaSortedN
namespace Go.Proofs.Ytfkpcmlajdmnfaa
open Go Go.RowKit Go.MapKept
set_option maxRecDepth 100000

set_option maxRecDepth 100000 in
theorem law06_works (w : World) (F : List HProp) (hw : holds w F) :
    Calls Try.prog 66 #[] w fun e w' => e = .returned (.bool true) ∧ holds w' F := by
  go_enter Try.func66, Try.ntmps66
  go_wp2_with fail
  refine (slots_New _ _ F (by omega) (by omega) hw).mono ?_
  rintro e w1 ⟨v, rfl, h1⟩
  have k0 : (SlotsM.new (Int.toNat 3)).ok := SlotsM.new_ok 3 (by omega)
  go_wp2_with fail
  refine (slots_Open _ v _ F k0 h1).mono ?_
  rw [show (SlotsM.new (Int.toNat 3)).told = (0, 0, true) from rfl, show (SlotsM.new (Int.toNat 3)).opened = ⟨[0, 0, 0], [(0, true)], [], 1⟩ from rfl]
  rintro e w2 ⟨rfl, h2⟩
  have k1 : (⟨[0, 0, 0], [(0, true)], [], 1⟩ : SlotsM).ok := SlotsM.opened_ok k0
  go_wp2_with fail
  refine (slots_Open _ v _ F k1 h2).mono ?_
  rw [show (⟨[0, 0, 0], [(0, true)], [], 1⟩ : SlotsM).told = (1, 0, true) from rfl, show (⟨[0, 0, 0], [(0, true)], [], 1⟩ : SlotsM).opened = ⟨[0, 0, 0], [(0, true), (1, true)], [], 2⟩ from rfl]
  rintro e w3 ⟨rfl, h3⟩
  have k2 : (⟨[0, 0, 0], [(0, true), (1, true)], [], 2⟩ : SlotsM).ok := SlotsM.opened_ok k1
  go_wp2_with fail
  refine (slots_Close _ v _ 0 0 F k2 (by decide) (by decide) h3).mono ?_
  rw [show (⟨[0, 0, 0], [(0, true), (1, true)], [], 2⟩ : SlotsM).right 0 0 = true from rfl, if_pos rfl, show (⟨[0, 0, 0], [(0, true), (1, true)], [], 2⟩ : SlotsM).closeAt 0 = ⟨[1, 0, 0], [(1, true)], [0], 2⟩ from rfl]
  rintro e w4 ⟨rfl, h4⟩
  have k3 : (⟨[1, 0, 0], [(1, true)], [0], 2⟩ : SlotsM).ok := SlotsM.close_ok (p := 0) (g := 0) k2 rfl
  go_wp2_with fail
  refine (slots_Open _ v _ F k3 h4).mono ?_
  rw [show (⟨[1, 0, 0], [(1, true)], [0], 2⟩ : SlotsM).told = (0, 1, true) from rfl, show (⟨[1, 0, 0], [(1, true)], [0], 2⟩ : SlotsM).opened = ⟨[1, 0, 0], [(1, true), (0, true)], [], 2⟩ from rfl]
  rintro e w5 ⟨rfl, h5⟩
  have k4 : (⟨[1, 0, 0], [(1, true), (0, true)], [], 2⟩ : SlotsM).ok := SlotsM.opened_ok k3
  go_wp2_with fail
  refine (slots_Right _ v _ 0 0 F k4 h5).mono ?_
  rw [show (⟨[1, 0, 0], [(1, true), (0, true)], [], 2⟩ : SlotsM).right 0 0 = false from rfl]
  rintro e w6 ⟨rfl, h6⟩
  go_wp2_with fail
  refine (slots_Right _ v _ 0 1 F k4 h6).mono ?_
  rw [show (⟨[1, 0, 0], [(1, true), (0, true)], [], 2⟩ : SlotsM).right 0 1 = true from rfl]
  rintro e w7 ⟨rfl, h7⟩
  go_wp2_with fail
  refine (slots_Len _ v _ F h7).mono ?_
  rintro e w8 ⟨rfl, h8⟩
  go_wp2_with fail
  go_ret
  exact ⟨rfl, h8.tail⟩

theorem zslots_Places (w : World) (b : Nat) (F : List HProp) (hw : holds w (zslot b :: F)) :
    Calls Try.prog 78 #[.pointer (some ⟨b, 0, none⟩)] w fun e w' => e = .returned (.slice none 0 0) ∧ holds w' (zslot b :: F) := by
  obtain ⟨c0, c1, c2, c3⟩ := zslot_cells hw
  go_enter Try.func78, Try.ntmps78
  go_wp2_with fail
  refine (Try.keysIB_nil _ _ hw).mono ?_
  rintro e w1 ⟨rfl, h1⟩
  go_wp2_with fail
  refine (Try.sortedIB_nil _ _ _ h1).mono ?_
  rintro e w2 ⟨rfl, h2⟩
  go_wp2_with fail
  go_ret
  exact ⟨rfl, h2⟩
theorem slots_Places (w : World) (v : Value) (s : SlotsM) (F : List HProp) (hsz : s.opn.length ≤ 1000000) (hwf : ∀ x ∈ alKeys s.opn, 0 ≤ x ∧ x ≤ 1048576) (hw : holds w (slotsAt v s :: F)) :
    Calls Try.prog 78 #[v] w fun e w' => ∃ r, e = .returned r ∧ holds w' (roInts r (sortInts (alKeys s.opn)) :: slotsAt v s :: F) := by
  obtain ⟨b, bm, vg, vc, rfl, h⟩ := open_slots hw
  have c1 := cellAt h.get_blk 1
  simp at c1
  have hwf2 : ∀ x ∈ alKeys s.opn, (Lit.int .i64 x).wf = true := fun x hx => by
    have := hwf x hx
    have h1 : IntKind.i64.min = -9223372036854775808 := by decide
    have h2 : IntKind.i64.max = 9223372036854775807 := by decide
    simp only [Lit.wf, h1, h2, Bool.and_eq_true, decide_eq_true_eq]
    omega
  clear hw
  go_enter Try.func78, Try.ntmps78
  go_wp2_with fail
  refine (Try.keysIB_call _ _ _ h).mono ?_
  rintro e w1 ⟨rfl, h1⟩
  have h2 : holds w1 (_ :: _ :: _ :: _ :: _ :: F) := h1.sel 5 [0, 4, 1, 2, 3]
  go_wp2_with fail
  refine (Try.sortedIB_call _ _ _ _ _ _ h2 hwf2 (by omega)).mono ?_
  rintro e w2 ⟨r, rfl, h3⟩
  go_wp2_with fail
  go_ret
  have h4 : holds w2 (blk b _ :: ownInts vg s.gens :: ownInts vc s.closed :: imap .bool bm s.opn :: roInts r _ :: F) := h3.shareInts.sel 5 [2, 3, 4, 1, 0]
  have h5 := shut_slots h4
  exact ⟨_, rfl, h5.sel 2 [1, 0]⟩
theorem slots_Gen (w : World) (v : Value) (s : SlotsM) (p : Int) (F : List HProp) (hok : s.ok) (hw : holds w (slotsAt v s :: F)) :
    Calls Try.prog 75 #[v, .int .i64 p] w fun e w' => e = .returned (.int .i64 (if 0 ≤ p ∧ p < s.gens.length then s.gens.getD p.toNat 0 else -1)) ∧ holds w' (slotsAt v s :: F) := by
  obtain ⟨b, bm, vg, vc, rfl, h⟩ := open_slots hw
  have c0 := cellAt h.get_blk 0
  simp at c0
  obtain ⟨a, cp, rfl⟩ := ownInts_form (h.pick 1)
  have hsz := hok.size
  by_cases h0 : 0 ≤ p ∧ p < s.gens.length
  · rw [if_pos h0]
    obtain ⟨n, rfl⟩ := Int.eq_ofNat_of_zero_le h0.1
    have hn : n < s.gens.length := by omega
    have h01 := h0.2
    have h00 : ¬ (n : Int) < 0 := by omega
    obtain ⟨g, cap, hv, _, _, ct, _⟩ := (h.pick 1).intAt n hn
    have ha : a = some ⟨g, 0, none⟩ := by injection hv
    subst ha
    rw [show s.gens.getD (n : Int).toNat 0 = s.gens[n] from by simp [hn]]
    generalize s.gens[n] = x at ct ⊢
    clear hv hok
    go_enter Try.func75, Try.ntmps75
    go_wp2_with fail
    go_ret
    exact ⟨rfl, hw⟩
  · rw [if_neg h0]
    by_cases hneg : p < 0
    · clear h0
      go_enter Try.func75, Try.ntmps75
      go_wp2_with fail
      go_ret
      exact ⟨rfl, hw⟩
    · have h00 : (s.gens.length : Int) ≤ p := by omega
      clear h0
      go_enter Try.func75, Try.ntmps75
      go_wp2_with fail
      go_ret
      exact ⟨rfl, hw⟩
end Go.Proofs.Ytfkpcmlajdmnfaa
