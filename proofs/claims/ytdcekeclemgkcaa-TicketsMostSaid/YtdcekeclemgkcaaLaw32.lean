/- The example of chapter 32, and whether two rows of tickets are the same. -/
import Derived.Test.YtdcekeclemgkcaaRef32B
import Derived.Test.YtdcekeclemgkcaaBase
namespace Go.Proofs.Ytdcekeclemgkcaa
open Go Go.RowKit Go.MapKept
set_option maxRecDepth 100000
set_option linter.unusedVariables false
set_option maxHeartbeats 1000000

theorem law32_works (w : World) (F : List HProp) (hw : holds w F) :
    Calls Try.prog 22 #[] w fun e w' => e = .returned (.bool true) ∧ holds w' F := by
  have e1 : Book.issue [] 0 5 = ([⟨1, 0, 5, 1, 0⟩], 1, 0) := by decide
  have e2 : Book.issue [⟨1, 0, 5, 1, 0⟩] 3 1 = ([⟨1, 0, 5, 1, 0⟩, ⟨2, 3, 1, 1, 0⟩], 2, 0) := by decide
  have e3 : Book.turn [⟨1, 0, 5, 1, 0⟩, ⟨2, 3, 1, 1, 0⟩] 1 2 = ([⟨1, 0, 5, 2, 0⟩, ⟨2, 3, 1, 1, 0⟩], 0) := by decide
  have e4 : Book.turn [⟨1, 0, 5, 2, 0⟩, ⟨2, 3, 1, 1, 0⟩] 1 2 = ([⟨1, 0, 5, 2, 0⟩, ⟨2, 3, 1, 1, 0⟩], 13) := by decide
  have e5 : pend [⟨1, 0, 5, 2, 0⟩, ⟨2, 3, 1, 1, 0⟩] = [⟨2, 3, 1, 1, 0⟩] := by decide
  have e6 : Book.of [⟨1, 0, 5, 2, 0⟩, ⟨2, 3, 1, 1, 0⟩] 3 = [2] := by decide
  have e7 : Book.of [⟨1, 0, 5, 2, 0⟩, ⟨2, 3, 1, 1, 0⟩] 0 = [] := by decide
  have e8 : Book.turn [⟨1, 0, 5, 2, 0⟩, ⟨2, 3, 1, 1, 0⟩] 3 3 = ([⟨1, 0, 5, 2, 0⟩, ⟨2, 3, 1, 1, 0⟩], 12) := by decide
  have o1 := fun w v F h => book_Issue w v [] 0 5 F (by decide) h
  have o2 := fun w v F h => book_Issue w v [⟨1, 0, 5, 1, 0⟩] 3 1 F (by decide) h
  have o3 := fun w v F h => book_Grant w v [⟨1, 0, 5, 1, 0⟩, ⟨2, 3, 1, 1, 0⟩] 1 F (by decide) h
  have o4 := fun w v F h => book_Grant w v [⟨1, 0, 5, 2, 0⟩, ⟨2, 3, 1, 1, 0⟩] 1 F (by decide) h
  have o5 := fun w v F h => book_Pending w v [⟨1, 0, 5, 2, 0⟩, ⟨2, 3, 1, 1, 0⟩] F (by decide) h
  have o6 := fun w v F h => book_Waits w v [⟨1, 0, 5, 2, 0⟩, ⟨2, 3, 1, 1, 0⟩] 3 F (by decide) h
  have o7 := fun w v F h => book_Waits w v [⟨1, 0, 5, 2, 0⟩, ⟨2, 3, 1, 1, 0⟩] 0 F (by decide) h
  have o8 := fun w v F h => book_Cancel w v [⟨1, 0, 5, 2, 0⟩, ⟨2, 3, 1, 1, 0⟩] 3 F (by decide) h
  rw [e1] at o1
  rw [e2] at o2
  rw [e3] at o3
  rw [e4] at o4
  rw [e5] at o5
  rw [e6] at o6
  rw [e7] at o7
  rw [e8] at o8
  have O1 := Lib.hid o1
  have O2 := Lib.hid o2
  have O3 := Lib.hid o3
  have O4 := Lib.hid o4
  have O5 := Lib.hid o5
  have O6 := Lib.hid o6
  have O7 := Lib.hid o7
  have O8 := Lib.hid o8
  clear o1 o2 o3 o4 o5 o6 o7 o8 e1 e2 e3 e4 e5 e6 e7 e8
  go_enter Try.func22, Try.ntmps22
  go_wp2_with fail
  refine (book_New _ F hw).mono ?_
  rintro e w1 ⟨v, rfl, h1⟩
  go_wp2_with fail
  refine (O1.out _ _ _ h1).mono ?_
  rintro e w2 ⟨rfl, h2⟩
  go_wp2_with fail
  refine (O2.out _ _ _ h2).mono ?_
  rintro e w3 ⟨rfl, h3⟩
  go_wp2_with fail
  refine (O3.out _ _ _ h3).mono ?_
  rintro e w4 ⟨rfl, h4⟩
  go_wp2_with fail
  refine (O4.out _ _ _ h4).mono ?_
  rintro e w5 ⟨rfl, h5⟩
  go_wp2_with fail
  refine (O5.out _ _ _ h5).mono ?_
  rintro e w6 ⟨r, rfl, h6⟩
  obtain ⟨a, c, rfl⟩ := ownRow_form h6
  go_wp2_with fail
  refine (O6.out _ _ _ h6.tail).mono ?_
  rintro e w7 ⟨rfl, h7⟩
  go_wp2_with fail
  refine (O7.out _ _ _ h7).mono ?_
  rintro e w8 ⟨rfl, h8⟩
  go_wp2_with fail
  refine (O8.out _ _ _ h8).mono ?_
  rintro e w9 ⟨rfl, h9⟩
  go_wp2_with fail
  go_ret
  exact ⟨rfl, h9.tail⟩

/-- Two rows of the same tickets. -/
theorem base_SameTickets (w : World) (va vb : Value) (l : List TicketM) (F : List HProp) (hl : l.length ≤ 1000000000) (hw : holds w (roTk va l :: roTk vb l :: F)) :
    Calls Try.prog 37 #[va, vb] w fun e w' => e = .returned (.bool true) ∧ holds w' F := by
  obtain ⟨pa, ca, rfl, hca⟩ := roTk_form hw
  obtain ⟨pb, cb, rfl, hcb⟩ := roTk_form (hw.pick 1)
  go_enter Try.func37, Try.ntmps37
  go_wp2_with fail
  go_loopw [5] (fun i wr => ∃ k : Nat, k ≤ l.length ∧ i = .int .i64 k ∧ holds wr (roTk (.slice pa l.length ca) l :: roTk (.slice pb l.length cb) l :: F)) (fun i _ => l.length - (intOf i).toNat)
  case atStart => exact ⟨0, Nat.zero_le _, rfl, hw⟩
  case round =>
    obtain ⟨k, hk, rfl, h2⟩ := hrel
    clear hw
    by_cases hlt : k < l.length
    · obtain ⟨ga, oa, c1, hv, _, ca1⟩ := h2.roTkAt (by omega)
      cases hv
      obtain ⟨gb, ob, c2, hv, _, cb1⟩ := (h2.pick 1).roTkAt (by omega)
      cases hv
      obtain ⟨k0, k1, k2, k3, k4⟩ := ca1 k hlt
      obtain ⟨j0, j1, j2, j3, j4⟩ := cb1 k hlt
      clear ca1 cb1
      generalize l[k] = t at k0 k1 k2 k3 k4 j0 j1 j2 j3 j4
      have hq := eqTk_run t
      unfold tkV tkCells at hq
      go_wp2_with fail
      go_quiet (fail)
      go_wp2_with fail
      go_roundw
      case rel => exact ⟨k + 1, by omega, by go_num, h2.drewN _⟩
      case measure => simp [intOf]; omega
    · have hkk : k = l.length := by omega
      subst hkk
      go_wp2_with fail
      go_ret
      exact ⟨rfl, h2.tail.tail⟩
end Go.Proofs.Ytdcekeclemgkcaa
