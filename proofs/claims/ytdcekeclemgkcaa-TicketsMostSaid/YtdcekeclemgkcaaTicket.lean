/- Contracts of package ticket and of its reference. -/
import Derived.Test.YtdcekeclemgkcaaElems
namespace Go.Proofs.Ytdcekeclemgkcaa
open Go Go.RowKit Go.MapKept
set_option maxRecDepth 100000
set_option linter.unusedVariables false
set_option maxHeartbeats 1000000

structure TicketM where
  id : Int
  client : Int
  count : Int
  state : Int
  passed : Int
deriving DecidableEq
def tkCells (t : TicketM) : Array Value := #[.int .i64 t.id, .int .i64 t.client, .int .i64 t.count, .int .i64 t.state, .int .i64 t.passed]
def tkV (t : TicketM) : Value := .agg (tkCells t)
def tk0 : TicketM := ⟨0, 0, 0, 0, 0⟩
theorem Try.sizeTk : (Try.prog.info? 43).map (·.size) = some 5 := by kernel_rfl
namespace Ticket
def win (x a b : Int) : Bool := decide (a ≤ x) && decide (x ≤ b)
def right (t : TicketM) : Bool := decide (0 < t.id) && decide (0 ≤ t.passed) && win t.client 0 63 && win t.count 1 1048576 && win t.state 1 3
def check (t : TicketM) : Int := if right t = false then 2 else if t.state = 1 then 0 else 13
/-- To a state; 1: passed. -/
def turn (t : TicketM) (s : Int) : TicketM × Int :=
  if check t = 0 then (if s = 1 then (if 1099511627776 ≤ t.passed then (tk0, 6) else ({ t with passed := t.passed + 1 }, 0)) else ({ t with state := s }, 0)) else (tk0, check t)
def new (i c n : Int) : TicketM × Int := if right ⟨i, c, n, 1, 0⟩ then (⟨i, c, n, 1, 0⟩, 0) else (tk0, 2)
theorem check_passed {t : TicketM} (h : check t = 0) : 0 ≤ t.passed := by
  unfold check at h
  split at h
  · cases h
  · rename_i h1
    simp [right] at h1
    exact h1.2.1
end Ticket

theorem ticket_within (x a b : Int) (w : World) : Calls Try.prog 178 #[.int .i64 x, .int .i64 a, .int .i64 b] w fun e w' => e = .returned (.bool (Ticket.win x a b)) ∧ w = w' := by
  by_cases h : a ≤ x <;> by_cases h2 : x ≤ b
  all_goals
    go_enter Try.func178, Try.ntmps178
    go_wp2
    go_ret
    exact ⟨by simp [Ticket.win, h, h2], rfl⟩

theorem ticket_Right (t : TicketM) (w : World) (F : List HProp) (hw : holds w F) :
    Calls Try.prog 141 #[tkV t] w fun e w' => e = .returned (.bool (Ticket.right t)) ∧ holds w' F := by
  obtain ⟨r, hr⟩ : ∃ r, Ticket.right t = r := ⟨_, rfl⟩
  rw [hr]
  obtain ⟨i, c, n, s, p⟩ := t
  unfold tkV tkCells
  simp only
  have HR := Lib.hid hr
  clear hr
  go_enter Try.func141, Try.ntmps141
  go_wp2_with (go_at_call 178; refine (ticket_within _ _ _ _).mono ?_; rintro e w' ⟨rfl, rfl⟩)
  all_goals
    go_ret
    refine ⟨?_, (hw.alloc _).tail⟩
    rw [← HR.out]
    simp_all [Ticket.right]
  all_goals (intros; omega)

theorem store5 {w : World} {n : Nat} {T : TypeId} {t : TicketM} {F : List HProp} (h : holds w (blk n (.cells (tkCells t) T (0, 0)) :: F)) (u : TicketM) :
    holds (((((w.setCell ⟨n, 0, none⟩ (.int .i64 u.id)).setCell ⟨n, 1, none⟩ (.int .i64 u.client)).setCell ⟨n, 2, none⟩ (.int .i64 u.count)).setCell ⟨n, 3, none⟩ (.int .i64 u.state)).setCell ⟨n, 4, none⟩ (.int .i64 u.passed)) (blk n (.cells (tkCells u) T (0, 0)) :: F) :=
  ((((h.setCell 0 (.int .i64 u.id)).setCell 1 (.int .i64 u.client)).setCell 2 (.int .i64 u.count)).setCell 3 (.int .i64 u.state)).setCell 4 (.int .i64 u.passed)

theorem ticket_check (t : TicketM) (w : World) (F : List HProp) (hw : holds w F) :
    Calls Try.prog 147 #[tkV t] w fun e w' => e = .returned (.int .i64 (Ticket.check t)) ∧ holds w' F := by
  have hb := hw.alloc (.cells (tkCells t) 43 (0, 0))
  have H := Lib.hid (fun w F h => ticket_Right t w F h)
  unfold Ticket.check
  cases hr : Ticket.right t with
  | false =>
    rw [if_pos rfl]
    simp only [hr] at H
    clear hr
    unfold tkV tkCells at *
    go_enter Try.func147, Try.ntmps147
    go_wp2_with fail
    refine (H.out _ _ hb).mono ?_
    rintro e w1 ⟨rfl, h1⟩
    go_wp2_with fail
    go_ret
    exact ⟨rfl, h1.tail⟩
  | true =>
    rw [if_neg (by simp)]
    simp only [hr] at H
    clear hr
    by_cases hs : t.state = 1
    all_goals
      have HS := Lib.hid hs
      clear hs
      unfold tkV tkCells at *
      go_enter Try.func147, Try.ntmps147
      go_wp2_with fail
      refine (H.out _ _ hb).mono ?_
      rintro e w1 ⟨rfl, h1⟩
      have b3 := cellAt h1.get_blk 3
      simp only [List.getElem?_toArray, List.getElem?_cons_succ, List.getElem?_cons_zero] at b3
      have hs := HS.out
      go_wp2_with fail
      go_ret
      exact ⟨by simp [hs], h1.tail⟩

end Go.Proofs.Ytdcekeclemgkcaa
