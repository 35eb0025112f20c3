/- The reference's Turn. -/
import Derived.Test.YtdcekeclemgkcaaRef31
namespace Go.Proofs.Ytdcekeclemgkcaa
open Go Go.RowKit Go.MapKept
set_option maxRecDepth 100000
set_option linter.unusedVariables false
set_option maxHeartbeats 1000000

theorem ref31_Turn (t : TicketM) (s : Int) (w : World) (F : List HProp) (hw : holds w F) :
    Calls Try.prog 98 #[tkV t, .int .i64 s] w fun e w' => e = .returned (tkR (Ticket.turn t s)) ∧ holds w' F := by
  have hb := (hw.alloc (.cells (tkCells t) 43 (0, 0))).alloc (.cells (tkCells tk0) 43 (0, 0))
  rw [World.size_alloc] at hb
  have H := Lib.hid (fun w F h => ref31_Right t w F h)
  cases hr : Ticket.right t with
  | false =>
    have e : Ticket.turn t s = (tk0, 2) := by simp [Ticket.turn, Ticket.check, hr]
    rw [e]
    simp only [hr] at H
    clear hr e
    unfold tkV tkCells tk0 at *
    go_enter Try.func98, Try.ntmps98
    go_wp2_with fail
    refine (H.out _ _ hb).mono ?_
    rintro e w1 ⟨rfl, h1⟩
    obtain ⟨b0, b1, b2, b3, b4, fb0, fb1, fb2, fb3, fb4⟩ := tk_cells (t := t) (h1.pick 1)
    obtain ⟨r0, r1, r2, r3, r4, f0, f1, f2, f33, f4⟩ := tk_cells (t := tk0) h1
    go_wp2_with fail
    have h4 := store5 (t := tk0) h1 tk0
    refine bodyPost_ret (v := tkR (tk0, 2)) ?_ rfl ⟨rfl, h4.tail.tail⟩
    exact results_row_tmp Try.results98 _ _ (w.heap.size + 1) _ _ _ _ _ rfl rfl h4.get_blk Try.underlying43 rfl Try.sizeTk
  | true =>
    have hp : 0 ≤ t.passed := by
      have hr2 := hr
      simp [Ticket.right, Ticket.win] at hr2
      omega
    simp only [hr] at H
    by_cases hs : t.state = 1
    · by_cases h1 : s = 1
      · subst h1
        by_cases ho : 1099511627776 ≤ t.passed
        · have e : Ticket.turn t 1 = (tk0, 6) := by simp [Ticket.turn, Ticket.check, hr, hs, ho]
          rw [e]
          have HS := Lib.hid hs
          clear hr e hs
          unfold tkV tkCells tk0 at *
          go_enter Try.func98, Try.ntmps98
          go_wp2_with fail
          refine (H.out _ _ hb).mono ?_
          rintro e w1 ⟨rfl, h1⟩
          obtain ⟨b0, b1, b2, b3, b4, fb0, fb1, fb2, fb3, fb4⟩ := tk_cells (t := t) (h1.pick 1)
          obtain ⟨r0, r1, r2, r3, r4, f0, f1, f2, f33, f4⟩ := tk_cells (t := tk0) h1
          rw [HS.out] at b3
          go_wp2_with fail
          have h4 := store5 (t := tk0) h1 tk0
          refine bodyPost_ret (v := tkR (tk0, 6)) ?_ rfl ⟨rfl, h4.tail.tail⟩
          exact results_row_tmp Try.results98 _ _ (w.heap.size + 1) _ _ _ _ _ rfl rfl h4.get_blk Try.underlying43 rfl Try.sizeTk
        · have e : Ticket.turn t 1 = ({ t with passed := t.passed + 1 }, 0) := by simp [Ticket.turn, Ticket.check, hr, hs, ho]
          rw [e]
          have wr : IntKind.i64.wrap (t.passed + 1) = t.passed + 1 := IntWalk.i64_in _ (by omega)
          have HS := Lib.hid hs
          clear hr e hs
          unfold tkV tkCells tk0 at *
          go_enter Try.func98, Try.ntmps98
          go_wp2_with fail
          refine (H.out _ _ hb).mono ?_
          rintro e w1 ⟨rfl, h1⟩
          obtain ⟨b0, b1, b2, b3, b4, fb0, fb1, fb2, fb3, fb4⟩ := tk_cells (t := t) (h1.pick 1)
          obtain ⟨r0, r1, r2, r3, r4, f0, f1, f2, f33, f4⟩ := tk_cells (t := tk0) h1
          rw [HS.out] at b3
          go_wp2_with fail
          have h4 := store5 (t := tk0) h1 { t with state := 1, passed := t.passed + 1 }
          refine bodyPost_ret (v := tkR ({ t with state := 1, passed := t.passed + 1 }, 0)) ?_ rfl ⟨by rw [show ({ t with passed := t.passed + 1 } : TicketM) = { t with state := 1, passed := t.passed + 1 } by rw [← HS.out]], h4.tail.tail⟩
          exact results_row_tmp Try.results98 _ _ (w.heap.size + 1) _ _ _ _ _ rfl rfl h4.get_blk Try.underlying43 rfl Try.sizeTk
      · have e : Ticket.turn t s = ({ t with state := s }, 0) := by simp [Ticket.turn, Ticket.check, hr, hs, h1]
        rw [e]
        have hb2 : (s == 1) = false := by simpa using h1
        have HS := Lib.hid hs
        clear hr e hs h1
        unfold tkV tkCells tk0 at *
        go_enter Try.func98, Try.ntmps98
        go_wp2_with fail
        refine (H.out _ _ hb).mono ?_
        rintro e w1 ⟨rfl, h1⟩
        obtain ⟨b0, b1, b2, b3, b4, fb0, fb1, fb2, fb3, fb4⟩ := tk_cells (t := t) (h1.pick 1)
        obtain ⟨r0, r1, r2, r3, r4, f0, f1, f2, f33, f4⟩ := tk_cells (t := tk0) h1
        rw [HS.out] at b3
        go_wp2_with fail
        have h4 := store5 (t := tk0) h1 { t with state := s }
        refine bodyPost_ret (v := tkR ({ t with state := s }, 0)) ?_ rfl ⟨rfl, h4.tail.tail⟩
        exact results_row_tmp Try.results98 _ _ (w.heap.size + 1) _ _ _ _ _ rfl rfl h4.get_blk Try.underlying43 rfl Try.sizeTk
    · have e : Ticket.turn t s = (tk0, 13) := by simp [Ticket.turn, Ticket.check, hr, hs]
      rw [e]
      have HS := Lib.hid hs
      clear hr e hs
      unfold tkV tkCells tk0 at *
      go_enter Try.func98, Try.ntmps98
      go_wp2_with fail
      refine (H.out _ _ hb).mono ?_
      rintro e w1 ⟨rfl, h1⟩
      obtain ⟨b0, b1, b2, b3, b4, fb0, fb1, fb2, fb3, fb4⟩ := tk_cells (t := t) (h1.pick 1)
      obtain ⟨r0, r1, r2, r3, r4, f0, f1, f2, f33, f4⟩ := tk_cells (t := tk0) h1
      have hs := HS.out
      have hb2 : (t.state != 1) = true := by simpa using hs
      go_wp2_with fail
      have h4 := store5 (t := tk0) h1 tk0
      refine bodyPost_ret (v := tkR (tk0, 13)) ?_ rfl ⟨rfl, h4.tail.tail⟩
      exact results_row_tmp Try.results98 _ _ (w.heap.size + 1) _ _ _ _ _ rfl rfl h4.get_blk Try.underlying43 rfl Try.sizeTk
end Go.Proofs.Ytdcekeclemgkcaa
