/- Contracts of the reference of chapter 31. -/
import Derived.Test.YtdcekeclemgkcaaTicketB
namespace Go.Proofs.Ytdcekeclemgkcaa
open Go Go.RowKit Go.MapKept
set_option maxRecDepth 100000
set_option linter.unusedVariables false
set_option maxHeartbeats 1000000

theorem ref31_Right (t : TicketM) (w : World) (F : List HProp) (hw : holds w F) :
    Calls Try.prog 146 #[tkV t] w fun e w' => e = .returned (.bool (Ticket.right t)) ∧ holds w' F := by
  obtain ⟨r, hr⟩ : ∃ r, Ticket.right t = r := ⟨_, rfl⟩
  rw [hr]
  obtain ⟨i, c, n, s, p⟩ := t
  unfold tkV tkCells
  simp only
  have HR := Lib.hid hr
  clear hr
  go_enter Try.func146, Try.ntmps146
  go_wp2_with fail
  all_goals
    go_ret
    refine ⟨?_, (hw.alloc _).tail⟩
    rw [← HR.out]
    refine congrArg (fun b => Ending.returned (Value.bool b)) (?_ : (_ : Bool) = Ticket.right _)
    rw [Bool.eq_iff_iff]
    simp [Ticket.right, Ticket.win]
    try omega

theorem ref31_New (i c n : Int) (w : World) (F : List HProp) (hw : holds w F) :
    Calls Try.prog 97 #[.int .i64 i, .int .i64 c, .int .i64 n] w fun e w' => e = .returned (tkR (Ticket.new i c n)) ∧ holds w' F := by
  have hb := hw.alloc (.cells (tkCells tk0) 43 (0, 0))
  obtain ⟨r0, r1, r2, r3, r4, f0, f1, f2, f33, f4⟩ := tk_cells (t := tk0) hb
  have hh : ∀ t : TicketM, (Ticket.right t = true ↔ 1 ≤ t.id ∧ 0 ≤ t.passed ∧ 0 ≤ t.client ∧ t.client < 64 ∧ 1 ≤ t.count ∧ t.count ≤ 1048576 ∧ 1 ≤ t.state ∧ t.state ≤ 3) := fun t => by
    simp [Ticket.right, Ticket.win]; omega
  have HH := Lib.hid (hh ⟨i, c, n, 1, 0⟩)
  clear hh
  unfold Ticket.new
  by_cases g1 : i < 1
  · rw [if_neg (fun h => by have := HH.out.1 h; simp at this; omega)]
    unfold tkCells tk0 at *
    go_enter Try.func97, Try.ntmps97
    go_wp2_with fail
    refine bodyPost_ret (v := tkR (tk0, 2)) ?_ rfl ⟨rfl, hb.tail⟩
    exact results_row_tmp Try.results97 _ _ w.heap.size _ _ _ _ _ rfl rfl hb.get_blk Try.underlying43 rfl Try.sizeTk
  by_cases g2 : c < 0
  · rw [if_neg (fun h => by have := HH.out.1 h; simp at this; omega)]
    unfold tkCells tk0 at *
    go_enter Try.func97, Try.ntmps97
    go_wp2_with fail
    refine bodyPost_ret (v := tkR (tk0, 2)) ?_ rfl ⟨rfl, hb.tail⟩
    exact results_row_tmp Try.results97 _ _ w.heap.size _ _ _ _ _ rfl rfl hb.get_blk Try.underlying43 rfl Try.sizeTk
  by_cases g3 : 64 ≤ c
  · rw [if_neg (fun h => by have := HH.out.1 h; simp at this; omega)]
    unfold tkCells tk0 at *
    go_enter Try.func97, Try.ntmps97
    go_wp2_with fail
    refine bodyPost_ret (v := tkR (tk0, 2)) ?_ rfl ⟨rfl, hb.tail⟩
    exact results_row_tmp Try.results97 _ _ w.heap.size _ _ _ _ _ rfl rfl hb.get_blk Try.underlying43 rfl Try.sizeTk
  by_cases g4 : n < 1
  · rw [if_neg (fun h => by have := HH.out.1 h; simp at this; omega)]
    unfold tkCells tk0 at *
    go_enter Try.func97, Try.ntmps97
    go_wp2_with fail
    refine bodyPost_ret (v := tkR (tk0, 2)) ?_ rfl ⟨rfl, hb.tail⟩
    exact results_row_tmp Try.results97 _ _ w.heap.size _ _ _ _ _ rfl rfl hb.get_blk Try.underlying43 rfl Try.sizeTk
  by_cases g5 : 1048576 < n
  · rw [if_neg (fun h => by have := HH.out.1 h; simp at this; omega)]
    unfold tkCells tk0 at *
    go_enter Try.func97, Try.ntmps97
    go_wp2_with fail
    refine bodyPost_ret (v := tkR (tk0, 2)) ?_ rfl ⟨rfl, hb.tail⟩
    exact results_row_tmp Try.results97 _ _ w.heap.size _ _ _ _ _ rfl rfl hb.get_blk Try.underlying43 rfl Try.sizeTk
  rw [if_pos (HH.out.2 ⟨by simp; omega, by simp, by simp; omega, by simp; omega, by simp; omega, by simp; omega, by simp, by simp⟩)]
  have h4 := hw.alloc (.cells (tkCells ⟨i, c, n, 1, 0⟩) 43 (0, 0))
  unfold tkCells tk0 at *
  simp only at h4
  go_enter Try.func97, Try.ntmps97
  go_wp2_with fail
  refine bodyPost_ret (v := tkR (⟨i, c, n, 1, 0⟩, 0)) ?_ rfl ⟨rfl, h4.tail⟩
  exact results_row_tmp Try.results97 _ _ w.heap.size _ _ _ _ _ rfl rfl h4.get_blk Try.underlying43 rfl Try.sizeTk
end Go.Proofs.Ytdcekeclemgkcaa
