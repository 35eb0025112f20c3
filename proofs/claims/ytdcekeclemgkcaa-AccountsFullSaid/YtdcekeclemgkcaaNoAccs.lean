/- Contracts of package accounts at accounts that New did not give. -/
import Derived.Test.YtdcekeclemgkcaaAcctsC
namespace Go.Proofs.Ytdcekeclemgkcaa
open Go Go.RowKit Go.MapKept
set_option maxRecDepth 100000
set_option linter.unusedVariables false
set_option maxHeartbeats 1000000

/-- nil, or Accounts that are zero. -/
def NoAccs (v : Value) (F : List HProp) : Prop := v = .pointer none ∨ ∃ b, v = .pointer (some ⟨b, 0, none⟩) ∧ ∀ w, holds w F → w.cell? ⟨b, 1, none⟩ = some (.map none)
theorem NoAccs.cons {v : Value} {F : List HProp} (h : NoAccs v F) (A : HProp) : NoAccs v (A :: F) := by
  rcases h with h | ⟨b, h, h2⟩
  · exact .inl h
  · exact .inr ⟨b, h, fun w hw => h2 w hw.tail⟩
theorem noaccs_is (w : World) (v : Value) (F : List HProp) (hz : NoAccs v F) (hw : holds w F) :
    Calls Try.prog 105 #[v] w fun e w' => e = .returned (.bool false) ∧ holds w' F := by
  rcases hz with rfl | ⟨b, rfl, h⟩
  · go_enter Try.func105, Try.ntmps105
    go_wp2_with fail
    go_ret
    exact ⟨rfl, hw⟩
  · have c1 := h w hw
    have qT : ∀ (w : World) (r : Option Nat), (binOp .neq 97 (.map r) (.map none)).run Try.prog w = .ok (.bool (!r.isNone)) w := fun w r => run_neq_map_nil w _ _ _ r Try.underlying97
    go_enter Try.func105, Try.ntmps105
    go_wp2_with fail
    go_ret
    exact ⟨rfl, hw⟩
theorem noaccs_Open (w : World) (v : Value) (c : Int) (F : List HProp) (hz : NoAccs v F) (hw : holds w F) :
    Calls Try.prog 44 #[v, .int .i64 c] w fun e w' => e = .returned (.tuple #[.int .i64 0, .int .i64 0, .int .i64 16]) ∧ holds w' F := by
  have H := Lib.hid (noaccs_is w v F hz hw)
  clear hz
  go_enter Try.func44, Try.ntmps44
  go_wp2_with fail
  refine H.out.mono ?_
  rintro e w1 ⟨rfl, h1⟩
  go_wp2_with fail
  go_ret3
  exact ⟨rfl, h1⟩
theorem noaccs_Get (w : World) (v : Value) (p g : Int) (F : List HProp) (hz : NoAccs v F) (hw : holds w F) :
    Calls Try.prog 50 #[v, .int .i64 p, .int .i64 g] w fun e w' => e = .returned (acR (ac0, 16)) ∧ holds w' F := by
  have hb := hw.alloc (.cells (acCells ac0) 86 (0, 0))
  have H := Lib.hid (noaccs_is _ v _ (hz.cons _) hb)
  clear hz
  unfold acCells ac0 at *
  go_enter Try.func50, Try.ntmps50
  go_wp2_with fail
  refine H.out.mono ?_
  rintro e w1 ⟨rfl, h1⟩
  obtain ⟨r0, r1, r2, f0, f1, f2⟩ := ac_cells (a := ac0) h1
  go_wp2_with fail
  have h4 := storeAc (a := ac0) h1 ac0
  refine bodyPost_ret (v := acR (ac0, 16)) ?_ rfl ⟨rfl, h4.tail⟩
  exact results_row_tmp Try.results50 _ _ w.heap.size _ _ _ _ _ rfl rfl h4.get_blk Try.underlying86 rfl Try.sizeAc
theorem noaccs_Close (w : World) (v : Value) (p g : Int) (F : List HProp) (hz : NoAccs v F) (hw : holds w F) :
    Calls Try.prog 46 #[v, .int .i64 p, .int .i64 g] w fun e w' => e = .returned (.int .i64 16) ∧ holds w' F := by
  have H := Lib.hid (noaccs_Get w v p g F hz hw)
  clear hz
  unfold acR acV acCells ac0 at H
  go_enter Try.func46, Try.ntmps46
  go_wp2_with fail
  refine H.out.mono ?_
  rintro e w1 ⟨rfl, h1⟩
  have h2 := (h1.alloc (.cells (acCells ac0) 86 (0, 0))).tail
  unfold acCells ac0 at h2
  go_wp2_with fail
  go_ret
  exact ⟨rfl, h2⟩
theorem noaccs_Do (w : World) (v : Value) (c p g n : Int) (F : List HProp) (hz : NoAccs v F) (hw : holds w F) :
    Calls Try.prog 48 #[v, .int .i64 c, .int .i64 p, .int .i64 g, .int .i64 n] w fun e w' => e = .returned (.int .i64 16) ∧ holds w' F := by
  have H := Lib.hid (fun A w h => noaccs_is w v (A :: F) (hz.cons A) h)
  have HG := Lib.hid (fun A w h => noaccs_Get w v p g (A :: F) (hz.cons A) h)
  clear hz
  unfold acR acV acCells ac0 at HG
  go_enter Try.func48, Try.ntmps48
  go_wp2_with fail
  refine (accs_calls _ _ hw).mono ?_
  rintro e1 w1 ⟨rfl, h1⟩
  have h2 := h1.alloc (.cells #[.nilFunc, .nilFunc, .nilFunc, .nilFunc, .nilFunc] 190 (0, 0))
  clear h1
  go_wp2_with (refine wpList_store_sl rfl rfl _ _ _ rfl (off := 0) (.agg callsArr) rfl rfl Try.size190 (by simp [callsArr, Value.cells, Value.oneCell']) h2 (by simp [callsArr, Value.cells]) ?_; intro w3 h3)
  refine (H.out _ _ h3).mono ?_
  rintro e4 w4 ⟨rfl, h4⟩
  clear h2 h3
  go_wp2_with fail
  refine (HG.out _ _ h4).mono ?_
  rintro e5 w5 ⟨rfl, h5⟩
  have h6 := (h5.alloc (.cells (acCells ac0) 86 (0, 0))).tail
  unfold acCells ac0 at h6
  go_wp2_with fail
  go_ret
  exact ⟨rfl, h6.tail⟩
theorem noaccs_Members (w : World) (v : Value) (F : List HProp) (hz : NoAccs v F) (hw : holds w F) :
    Calls Try.prog 54 #[v] w fun e w' => e = .returned (.slice none 0 0) ∧ holds w' F := by
  have H := Lib.hid (noaccs_is w v F hz hw)
  clear hz
  go_enter Try.func54, Try.ntmps54
  go_wp2_with fail
  refine H.out.mono ?_
  rintro e w1 ⟨rfl, h1⟩
  go_wp2_with fail
  go_ret
  exact ⟨rfl, h1⟩
theorem noaccs_Held (w : World) (v : Value) (F : List HProp) (hz : NoAccs v F) (hw : holds w F) :
    Calls Try.prog 51 #[v] w fun e w' => e = .returned (.int .i64 0) ∧ holds w' F := by
  have H := Lib.hid (noaccs_Members w v F hz hw)
  clear hz
  go_enter Try.func51, Try.ntmps51
  go_wp2_with fail
  refine H.out.mono ?_
  rintro e w1 ⟨rfl, h1⟩
  go_wp2_with fail
  go_loopw [3, 9] (fun out i wr => out = .int .i64 0 ∧ i = .int .i64 0 ∧ holds wr F) (fun _ i _ => 0)
  case atStart => exact ⟨rfl, rfl, h1⟩
  case round =>
    obtain ⟨rfl, rfl, h2⟩ := hrel
    go_wp2_with fail
    go_ret
    exact ⟨rfl, h2⟩
end Go.Proofs.Ytdcekeclemgkcaa
