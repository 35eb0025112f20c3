/- Contracts of package ticket: what turns one. -/
import Derived.Test.YtdcekeclemgkcaaTicket
namespace Go.Proofs.Ytdcekeclemgkcaa
open Go Go.RowKit Go.MapKept
set_option maxRecDepth 100000
set_option linter.unusedVariables false
set_option maxHeartbeats 1000000

theorem tk_cells {w : World} {n : Nat} {T : TypeId} {t : TicketM} {F : List HProp} (h : holds w (blk n (.cells (tkCells t) T (0, 0)) :: F)) :
    w.cell? ⟨n, 0, none⟩ = some (.int .i64 t.id) ∧ w.cell? ⟨n, 1, none⟩ = some (.int .i64 t.client) ∧ w.cell? ⟨n, 2, none⟩ = some (.int .i64 t.count) ∧ w.cell? ⟨n, 3, none⟩ = some (.int .i64 t.state) ∧ w.cell? ⟨n, 4, none⟩ = some (.int .i64 t.passed) ∧
    w.frozen? ⟨n, 0, none⟩ = false ∧ w.frozen? ⟨n, 1, none⟩ = false ∧ w.frozen? ⟨n, 2, none⟩ = false ∧ w.frozen? ⟨n, 3, none⟩ = false ∧ w.frozen? ⟨n, 4, none⟩ = false := by
  have r := h.get_blk
  exact ⟨cellAt r 0, cellAt r 1, cellAt r 2, cellAt r 3, cellAt r 4, frozen_of_row _ _ _ _ _ r, frozen_of_row _ _ _ _ _ r, frozen_of_row _ _ _ _ _ r, frozen_of_row _ _ _ _ _ r, frozen_of_row _ _ _ _ _ r⟩
def tkR (r : TicketM × Int) : Value := .tuple #[tkV r.1, .int .i64 r.2]

theorem ticket_turn (t : TicketM) (s : Int) (hs : s ≠ 1) (w : World) (F : List HProp) (hw : holds w F) :
    Calls Try.prog 142 #[tkV t, .int .i64 s] w fun e w' => e = .returned (tkR (Ticket.turn t s)) ∧ holds w' F := by
  have hb := (hw.alloc (.cells (tkCells t) 43 (0, 0))).alloc (.cells (tkCells tk0) 43 (0, 0))
  rw [World.size_alloc] at hb
  have H := Lib.hid (fun w F h => ticket_check t w F h)
  unfold Ticket.turn
  rw [if_neg hs]
  obtain ⟨c, hc⟩ : ∃ c, Ticket.check t = c := ⟨_, rfl⟩
  simp only [hc] at H ⊢
  clear hc hs
  by_cases h0 : c = 0
  · subst h0
    rw [if_pos rfl]
    unfold tkV tkCells tk0 at *
    go_enter Try.func142, Try.ntmps142
    go_wp2_with fail
    refine (H.out _ _ hb).mono ?_
    rintro e w1 ⟨rfl, h1⟩
    obtain ⟨b0, b1, b2, b3, b4, fb0, fb1, fb2, fb3, fb4⟩ := tk_cells (t := t) (h1.pick 1)
    obtain ⟨r0, r1, r2, r3, r4, f0, f1, f2, f33, f4⟩ := tk_cells (t := tk0) h1
    go_wp2_with fail
    have h3 := ((h1.pick 1).setCell 3 (.int .i64 s))
    have h4 := store5 (t := tk0) (h3.pick 1) { t with state := s }
    refine bodyPost_ret (v := tkR ({ t with state := s }, 0)) ?_ rfl ⟨rfl, h4.tail.tail⟩
    exact results_row_tmp Try.results142 _ _ (w.heap.size + 1) _ _ _ _ _ rfl rfl h4.get_blk Try.underlying43 rfl Try.sizeTk
  · rw [if_neg h0]
    unfold tkV tkCells tk0 at *
    go_enter Try.func142, Try.ntmps142
    go_wp2_with fail
    refine (H.out _ _ hb).mono ?_
    rintro e w1 ⟨rfl, h1⟩
    obtain ⟨r0, r1, r2, r3, r4, f0, f1, f2, f33, f4⟩ := tk_cells (t := tk0) h1
    go_wp2_with fail
    have h4 := store5 (t := tk0) h1 tk0
    refine bodyPost_ret (v := tkR (tk0, c)) ?_ rfl ⟨rfl, h4.tail.tail⟩
    exact results_row_tmp Try.results142 _ _ (w.heap.size + 1) _ _ _ _ _ rfl rfl h4.get_blk Try.underlying43 rfl Try.sizeTk

theorem ticket_Grant (t : TicketM) (w : World) (F : List HProp) (hw : holds w F) :
    Calls Try.prog 93 #[tkV t] w fun e w' => e = .returned (tkR (Ticket.turn t 2)) ∧ holds w' F := by
  have hb := (hw.alloc (.cells (tkCells t) 43 (0, 0))).alloc (.cells (tkCells tk0) 43 (0, 0))
  rw [World.size_alloc] at hb
  have H := Lib.hid (fun w F h => ticket_turn t 2 (by decide) w F h)
  generalize Ticket.turn t 2 = r at H ⊢
  obtain ⟨u, c⟩ := r
  unfold tkR at *
  simp only at *
  unfold tkV tkCells tk0 at *
  go_enter Try.func93, Try.ntmps93
  go_wp2_with fail
  refine (H.out _ _ hb).mono ?_
  rintro e w1 ⟨rfl, h1⟩
  obtain ⟨r0, r1, r2, r3, r4, f0, f1, f2, f33, f4⟩ := tk_cells (t := tk0) h1
  go_wp2_with fail
  have h4 := store5 (t := tk0) h1 u
  refine bodyPost_ret (v := .tuple #[tkV u, .int .i64 c]) ?_ rfl ⟨rfl, h4.tail.tail⟩
  exact results_row_tmp Try.results93 _ _ (w.heap.size + 1) _ _ _ _ _ rfl rfl h4.get_blk Try.underlying43 rfl Try.sizeTk

theorem ticket_Cancel (t : TicketM) (w : World) (F : List HProp) (hw : holds w F) :
    Calls Try.prog 94 #[tkV t] w fun e w' => e = .returned (tkR (Ticket.turn t 3)) ∧ holds w' F := by
  have hb := (hw.alloc (.cells (tkCells t) 43 (0, 0))).alloc (.cells (tkCells tk0) 43 (0, 0))
  rw [World.size_alloc] at hb
  have H := Lib.hid (fun w F h => ticket_turn t 3 (by decide) w F h)
  generalize Ticket.turn t 3 = r at H ⊢
  obtain ⟨u, c⟩ := r
  unfold tkR at *
  simp only at *
  unfold tkV tkCells tk0 at *
  go_enter Try.func94, Try.ntmps94
  go_wp2_with fail
  refine (H.out _ _ hb).mono ?_
  rintro e w1 ⟨rfl, h1⟩
  obtain ⟨r0, r1, r2, r3, r4, f0, f1, f2, f33, f4⟩ := tk_cells (t := tk0) h1
  go_wp2_with fail
  have h4 := store5 (t := tk0) h1 u
  refine bodyPost_ret (v := .tuple #[tkV u, .int .i64 c]) ?_ rfl ⟨rfl, h4.tail.tail⟩
  exact results_row_tmp Try.results94 _ _ (w.heap.size + 1) _ _ _ _ _ rfl rfl h4.get_blk Try.underlying43 rfl Try.sizeTk

theorem ticket_New (i c n : Int) (w : World) (F : List HProp) (hw : holds w F) :
    Calls Try.prog 91 #[.int .i64 i, .int .i64 c, .int .i64 n] w fun e w' => e = .returned (tkR (Ticket.new i c n)) ∧ holds w' F := by
  have hb2 := (hw.alloc (.cells (tkCells tk0) 43 (0, 0))).alloc (.cells #[.int .i64 i, .int .i64 c, .int .i64 n, .int .i64 1, .int .i64 0] 43 (0, 0))
  rw [World.size_alloc] at hb2
  have H : Hid (∀ w F, holds w F → Calls Try.prog 141 #[.agg #[.int .i64 i, .int .i64 c, .int .i64 n, .int .i64 1, .int .i64 0]] w fun e w' => e = .returned (.bool (Ticket.right ⟨i, c, n, 1, 0⟩)) ∧ holds w' F) := Lib.hid (fun w F h => ticket_Right ⟨i, c, n, 1, 0⟩ w F h)
  unfold Ticket.new
  cases hr : Ticket.right ⟨i, c, n, 1, 0⟩ with
  | false =>
    rw [if_neg (by simp)]
    simp only [hr] at H
    clear hr
    unfold tkCells tk0 at *
    go_enter Try.func91, Try.ntmps91
    go_wp2_with fail
    refine (H.out _ _ hb2).mono ?_
    rintro e w1 ⟨rfl, h1⟩
    obtain ⟨r0, r1, r2, r3, r4, f0, f1, f2, f33, f4⟩ := tk_cells (t := tk0) h1.tail
    go_wp2_with fail
    have h4 := store5 (t := tk0) h1.tail tk0
    refine bodyPost_ret (v := tkR (tk0, 2)) ?_ rfl ⟨rfl, h4.tail⟩
    exact results_row_tmp Try.results91 _ _ w.heap.size _ _ _ _ _ rfl rfl h4.get_blk Try.underlying43 rfl Try.sizeTk
  | true =>
    rw [if_pos rfl]
    simp only [hr] at H
    clear hr
    unfold tkCells tk0 at *
    go_enter Try.func91, Try.ntmps91
    go_wp2_with fail
    refine (H.out _ _ hb2).mono ?_
    rintro e w1 ⟨rfl, h1⟩
    obtain ⟨b0, b1, b2, b3, b4, fb0, fb1, fb2, fb3, fb4⟩ := tk_cells (t := ⟨i, c, n, 1, 0⟩) h1
    simp only at b0 b1 b2 b3 b4
    obtain ⟨r0, r1, r2, r3, r4, f0, f1, f2, f33, f4⟩ := tk_cells (t := tk0) h1.tail
    go_wp2_with fail
    have h4 := store5 (t := tk0) h1.tail ⟨i, c, n, 1, 0⟩
    refine bodyPost_ret (v := tkR (⟨i, c, n, 1, 0⟩, 0)) ?_ rfl ⟨rfl, h4.tail⟩
    exact results_row_tmp Try.results91 _ _ w.heap.size _ _ _ _ _ rfl rfl h4.get_blk Try.underlying43 rfl Try.sizeTk

theorem ticket_Pass (t : TicketM) (w : World) (F : List HProp) (hw : holds w F) :
    Calls Try.prog 99 #[tkV t] w fun e w' => e = .returned (tkR (Ticket.turn t 1)) ∧ holds w' F := by
  have hb := (hw.alloc (.cells (tkCells t) 43 (0, 0))).alloc (.cells (tkCells tk0) 43 (0, 0))
  rw [World.size_alloc] at hb
  have H := Lib.hid (fun w F h => ticket_check t w F h)
  unfold Ticket.turn
  rw [if_pos rfl]
  have HC := Lib.hid (Ticket.check_passed (t := t))
  obtain ⟨c, hc⟩ : ∃ c, Ticket.check t = c := ⟨_, rfl⟩
  simp only [hc] at H HC ⊢
  clear hc
  by_cases h0 : c = 0
  · subst h0
    rw [if_pos rfl]
    by_cases ho : 1099511627776 ≤ t.passed
    · rw [if_pos ho]
      unfold tkV tkCells tk0 at *
      go_enter Try.func99, Try.ntmps99
      go_wp2_with fail
      refine (H.out _ _ hb).mono ?_
      rintro e w1 ⟨rfl, h1⟩
      obtain ⟨b0, b1, b2, b3, b4, fb0, fb1, fb2, fb3, fb4⟩ := tk_cells (t := t) (h1.pick 1)
      obtain ⟨r0, r1, r2, r3, r4, f0, f1, f2, f33, f4⟩ := tk_cells (t := tk0) h1
      go_wp2_with fail
      have h4 := store5 (t := tk0) h1 tk0
      refine bodyPost_ret (v := tkR (tk0, 6)) ?_ rfl ⟨rfl, h4.tail.tail⟩
      exact results_row_tmp Try.results99 _ _ (w.heap.size + 1) _ _ _ _ _ rfl rfl h4.get_blk Try.underlying43 rfl Try.sizeTk
    · rw [if_neg ho]
      have hmin : 0 ≤ t.passed := HC.out rfl
      · unfold tkV tkCells tk0 at *
        go_enter Try.func99, Try.ntmps99
        go_wp2_with fail
        refine (H.out _ _ hb).mono ?_
        rintro e w1 ⟨rfl, h1⟩
        obtain ⟨b0, b1, b2, b3, b4, fb0, fb1, fb2, fb3, fb4⟩ := tk_cells (t := t) (h1.pick 1)
        obtain ⟨r0, r1, r2, r3, r4, f0, f1, f2, f33, f4⟩ := tk_cells (t := tk0) h1
        have wr : IntKind.i64.wrap (t.passed + 1) = t.passed + 1 := IntWalk.i64_in _ (by omega)
        go_wp2_with fail
        have h3 := ((h1.pick 1).setCell 4 (.int .i64 (t.passed + 1)))
        have h4 := store5 (t := tk0) (h3.pick 1) { t with passed := t.passed + 1 }
        refine bodyPost_ret (v := tkR ({ t with passed := t.passed + 1 }, 0)) ?_ rfl ⟨rfl, h4.tail.tail⟩
        exact results_row_tmp Try.results99 _ _ (w.heap.size + 1) _ _ _ _ _ rfl rfl h4.get_blk Try.underlying43 rfl Try.sizeTk
  · rw [if_neg h0]
    unfold tkV tkCells tk0 at *
    go_enter Try.func99, Try.ntmps99
    go_wp2_with fail
    refine (H.out _ _ hb).mono ?_
    rintro e w1 ⟨rfl, h1⟩
    obtain ⟨r0, r1, r2, r3, r4, f0, f1, f2, f33, f4⟩ := tk_cells (t := tk0) h1
    go_wp2_with fail
    have h4 := store5 (t := tk0) h1 tk0
    refine bodyPost_ret (v := tkR (tk0, c)) ?_ rfl ⟨rfl, h4.tail.tail⟩
    exact results_row_tmp Try.results99 _ _ (w.heap.size + 1) _ _ _ _ _ rfl rfl h4.get_blk Try.underlying43 rfl Try.sizeTk
end Go.Proofs.Ytdcekeclemgkcaa
