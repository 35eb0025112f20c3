/- Contracts of package tickets at a book that New did not give. -/
import Derived.Test.YtdcekeclemgkcaaBookC
import Derived.Test.YtdcekeclemgkcaaBookD
namespace Go.Proofs.Ytdcekeclemgkcaa
open Go Go.RowKit Go.MapKept
set_option maxRecDepth 100000
set_option linter.unusedVariables false
set_option maxHeartbeats 1000000

/-- nil, or a Book that is zero. -/
def NoBook (v : Value) (F : List HProp) : Prop := v = .pointer none ∨ ∃ b, v = .pointer (some ⟨b, 0, none⟩) ∧ ∀ w, holds w F → w.cell? ⟨b, 0, none⟩ = some (.slice none 0 0) ∧ w.cell? ⟨b, 1, none⟩ = some (.map none)
theorem NoBook.cons {v : Value} {F : List HProp} (h : NoBook v F) (A : HProp) : NoBook v (A :: F) := by
  rcases h with h | ⟨b, h, h2⟩
  · exact .inl h
  · exact .inr ⟨b, h, fun w hw => h2 w hw.tail⟩

theorem nobook_is (w : World) (v : Value) (F : List HProp) (hz : NoBook v F) (hw : holds w F) :
    Calls Try.prog 90 #[v] w fun e w' => e = .returned (.bool false) ∧ holds w' F := by
  rcases hz with rfl | ⟨b, rfl, h⟩
  · go_enter Try.func90, Try.ntmps90
    go_wp2
    go_ret
    exact ⟨rfl, hw⟩
  · obtain ⟨_, c1⟩ := h w hw
    have qT : ∀ (w : World) (r : Option Nat), (binOp .neq 60 (.map r) (.map none)).run Try.prog w = .ok (.bool (!r.isNone)) w := fun w r => run_neq_map_nil w _ _ _ r Try.underlying60
    go_enter Try.func90, Try.ntmps90
    go_wp2
    go_ret
    exact ⟨rfl, hw⟩
theorem nobook_Issue (w : World) (v : Value) (c n : Int) (F : List HProp) (hz : NoBook v F) (hw : holds w F) :
    Calls Try.prog 24 #[v, .int .i64 c, .int .i64 n] w fun e w' => e = .returned (.tuple #[.int .i64 0, .int .i64 16]) ∧ holds w' F := by
  have H := Lib.hid (fun w h => nobook_is w v F hz h)
  clear hz
  go_enter Try.func24, Try.ntmps24
  go_wp2_with fail
  refine (H.out _ hw).mono ?_
  rintro e w1 ⟨rfl, h1⟩
  go_wp2_with fail
  go_ret2
  exact ⟨rfl, h1⟩
theorem nobook_Get (w : World) (v : Value) (id : Int) (F : List HProp) (hz : NoBook v F) (hw : holds w F) :
    Calls Try.prog 29 #[v, .int .i64 id] w fun e w' => e = .returned (tkR (tk0, 16)) ∧ holds w' F := by
  have hb := hw.alloc (.cells (tkCells tk0) 43 (0, 0))
  have H := Lib.hid (nobook_is _ v _ (hz.cons _) hb)
  clear hz
  unfold tkCells tk0 at *
  go_enter Try.func29, Try.ntmps29
  go_wp2_with fail
  refine H.out.mono ?_
  rintro e w1 ⟨rfl, h1⟩
  obtain ⟨r0, r1, r2, r3, r4, f0, f1, f2, f33, f4⟩ := tk_cells (t := tk0) h1
  go_wp2_with fail
  have h4 := store5 (t := tk0) h1 tk0
  refine bodyPost_ret (v := tkR (tk0, 16)) ?_ rfl ⟨rfl, h4.tail⟩
  exact results_row_tmp Try.results29 _ _ w.heap.size _ _ _ _ _ rfl rfl h4.get_blk Try.underlying43 rfl Try.sizeTk
theorem nobook_do (w : World) (v fv : Value) (id : Int) (F : List HProp) (hz : NoBook v F) (hw : holds w F) :
    Calls Try.prog 92 #[v, .int .i64 id, .agg #[fv]] w fun e w' => e = .returned (.int .i64 16) ∧ holds w' F := by
  have hb := hw.alloc (.cells #[fv] 170 (0, 0))
  have H := Lib.hid (nobook_Get _ v id _ (hz.cons _) hb)
  clear hz
  unfold tkR tkV tkCells tk0 at H
  go_enter Try.func92, Try.ntmps92
  go_wp2_with fail
  refine H.out.mono ?_
  rintro e w1 ⟨rfl, h1⟩
  have h2 := (h1.alloc (.cells (tkCells tk0) 43 (0, 0))).tail
  unfold tkCells tk0 at h2
  go_wp2_with fail
  go_ret
  exact ⟨rfl, h2.tail⟩
theorem nobook_Grant (w : World) (v : Value) (id : Int) (F : List HProp) (hz : NoBook v F) (hw : holds w F) :
    Calls Try.prog 25 #[v, .int .i64 id] w fun e w' => e = .returned (.int .i64 16) ∧ holds w' F := by
  have H := Lib.hid (fun fv => nobook_do w v fv id F hz hw)
  clear hz
  go_enter Try.func25, Try.ntmps25
  go_wp2_with fail
  refine (H.out _).mono ?_
  rintro e w1 ⟨rfl, h1⟩
  go_wp2_with fail
  go_ret
  exact ⟨rfl, h1⟩
theorem nobook_Pass (w : World) (v : Value) (id : Int) (F : List HProp) (hz : NoBook v F) (hw : holds w F) :
    Calls Try.prog 33 #[v, .int .i64 id] w fun e w' => e = .returned (.int .i64 16) ∧ holds w' F := by
  have H := Lib.hid (fun fv => nobook_do w v fv id F hz hw)
  clear hz
  go_enter Try.func33, Try.ntmps33
  go_wp2_with fail
  refine (H.out _).mono ?_
  rintro e w1 ⟨rfl, h1⟩
  go_wp2_with fail
  go_ret
  exact ⟨rfl, h1⟩
theorem nobook_Pending (w : World) (v : Value) (F : List HProp) (hz : NoBook v F) (hw : holds w F) :
    Calls Try.prog 30 #[v] w fun e w' => e = .returned (.slice none 0 0) ∧ holds w' F := by
  have H := Lib.hid (nobook_is w v F hz hw)
  clear hz
  go_enter Try.func30, Try.ntmps30
  go_wp2_with fail
  refine H.out.mono ?_
  rintro e w1 ⟨rfl, h1⟩
  go_wp2_with fail
  go_ret
  exact ⟨rfl, h1⟩
theorem nobook_Of (w : World) (v : Value) (cl : Int) (F : List HProp) (hz : NoBook v F) (hw : holds w F) :
    Calls Try.prog 27 #[v, .int .i64 cl] w fun e w' => e = .returned (.slice none 0 0) ∧ holds w' F := by
  have H := Lib.hid (nobook_Pending w v F hz hw)
  clear hz
  go_enter Try.func27, Try.ntmps27
  go_wp2_with fail
  refine H.out.mono ?_
  rintro e w1 ⟨rfl, h1⟩
  go_wp2_with fail
  go_loopw [5, 11] (fun out i wr => out = .slice none 0 0 ∧ i = .int .i64 0 ∧ holds wr F) (fun _ i _ => 0)
  case atStart => exact ⟨rfl, rfl, h1⟩
  case round =>
    obtain ⟨rfl, rfl, h2⟩ := hrel
    go_wp2_with fail
    go_ret
    exact ⟨rfl, h2⟩
theorem nobook_Waits (w : World) (v : Value) (cl : Int) (F : List HProp) (hz : NoBook v F) (hw : holds w F) :
    Calls Try.prog 28 #[v, .int .i64 cl] w fun e w' => e = .returned (.bool false) ∧ holds w' F := by
  have H := Lib.hid (nobook_Of w v cl F hz hw)
  clear hz
  go_enter Try.func28, Try.ntmps28
  go_wp2_with fail
  refine H.out.mono ?_
  rintro e w1 ⟨rfl, h1⟩
  go_wp2_with fail
  go_ret
  exact ⟨rfl, h1⟩
theorem nobook_Len (w : World) (v : Value) (F : List HProp) (hz : NoBook v F) (hw : holds w F) :
    Calls Try.prog 35 #[v] w fun e w' => e = .returned (.int .i64 0) ∧ holds w' F := by
  rcases hz with rfl | ⟨b, rfl, h⟩
  · go_enter Try.func35, Try.ntmps35
    go_wp2
    go_ret
    exact ⟨rfl, hw⟩
  · obtain ⟨c0, _⟩ := h w hw
    go_enter Try.func35, Try.ntmps35
    go_wp2
    go_ret
    exact ⟨rfl, hw⟩
end Go.Proofs.Ytdcekeclemgkcaa
