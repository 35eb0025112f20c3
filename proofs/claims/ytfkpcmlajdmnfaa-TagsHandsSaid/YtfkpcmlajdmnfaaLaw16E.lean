/- Tags that New did not give. -/
import Derived.Test.YtfkpcmlajdmnfaaLaw16A
import Derived.Test.YtfkpcmlajdmnfaaLaw21C
namespace Go.Proofs.Ytfkpcmlajdmnfaa
open Go Go.RowKit Go.MapKept
set_option maxRecDepth 100000
set_option linter.unusedVariables false

def ztag (b : Nat) : HProp := blk b (.cells #[.slice none 0 0, .map none] 71 (0, 0))
theorem ztag_cells {w : World} {b : Nat} {F : List HProp} (h : holds w (ztag b :: F)) : w.cell? ⟨b, 0, none⟩ = some (.slice none 0 0) ∧ w.cell? ⟨b, 1, none⟩ = some (.map none) := by
  have h : holds w (blk b _ :: F) := h
  exact ⟨cellAt h.get_blk 0, cellAt h.get_blk 1⟩
theorem nilLookupI (w : World) : (Instr.lookup 69 (.map none) (.int .i64 1) false).run Try.prog w = .ok (.int .i64 0) w :=
  Maps.look_nil (z := .int .i64 0) false (Maps.int_keyed Try.underlying3) Try.underlying69 (by kernel_rfl) (Maps.keyOf_int_mk Try.underlying3 (a := 1) (by rfl))

theorem ntags_Own (w : World) (i o : Int) (F : List HProp) (hw : holds w F) :
    Calls Try.prog 38 #[.pointer none, .int .i64 i, .int .i64 o] w fun e w' => e = .returned (.int .i64 16) ∧ holds w' F := by
  go_enter Try.func38, Try.ntmps38
  go_wp2
  go_ret
  exact ⟨rfl, hw⟩
theorem ntags_Raise (w : World) (i : Int) (F : List HProp) (hw : holds w F) :
    Calls Try.prog 42 #[.pointer none, .int .i64 i] w fun e w' => e = .returned (.int .i64 16) ∧ holds w' F := by
  go_enter Try.func42, Try.ntmps42
  go_wp2
  go_ret
  exact ⟨rfl, hw⟩
theorem ntags_Owner (w : World) (i : Int) (F : List HProp) (hw : holds w F) :
    Calls Try.prog 43 #[.pointer none, .int .i64 i] w fun e w' => e = .returned (.int .i64 0) ∧ holds w' F := by
  go_enter Try.func43, Try.ntmps43
  go_wp2
  go_ret
  exact ⟨rfl, hw⟩
theorem ntags_Gen (w : World) (i : Int) (F : List HProp) (hw : holds w F) :
    Calls Try.prog 44 #[.pointer none, .int .i64 i] w fun e w' => e = .returned (.int .i64 (-1)) ∧ holds w' F := by
  go_enter Try.func44, Try.ntmps44
  go_wp2
  go_ret
  exact ⟨rfl, hw⟩
theorem ntags_Count (w : World) (i : Int) (F : List HProp) (hw : holds w F) :
    Calls Try.prog 45 #[.pointer none, .int .i64 i] w fun e w' => e = .returned (.int .i64 0) ∧ holds w' F := by
  go_enter Try.func45, Try.ntmps45
  go_wp2
  go_ret
  exact ⟨rfl, hw⟩
theorem ntags_Of (w : World) (i : Int) (F : List HProp) (hw : holds w F) :
    Calls Try.prog 47 #[.pointer none, .int .i64 i] w fun e w' => e = .returned (.slice none 0 0) ∧ holds w' F := by
  go_enter Try.func47, Try.ntmps47
  go_wp2_with fail
  refine (ntags_Count _ i _ hw).mono ?_
  rintro e w1 ⟨rfl, h1⟩
  go_wp2_with fail
  go_ret
  exact ⟨rfl, h1⟩
theorem qTI (w : World) (r : Option Nat) : (binOp .eql 69 (.map r) (.map none)).run Try.prog w = .ok (.bool r.isNone) w := run_eql_map_nil w _ _ _ r Try.underlying69
theorem ztags_Leave (w : World) (b : Nat) (F : List HProp) (hw : holds w (ztag b :: F)) :
    Calls Try.prog 40 #[.pointer (some ⟨b, 0, none⟩), .int .i64 0] w fun e w' => e = .returned (.int .i64 16) ∧ holds w' (ztag b :: F) := by
  obtain ⟨c0, c1⟩ := ztag_cells hw
  have qT := qTI
  go_enter Try.func40, Try.ntmps40
  go_wp2
  go_ret
  exact ⟨rfl, hw⟩
theorem ztags_Owner (w : World) (b : Nat) (F : List HProp) (hw : holds w (ztag b :: F)) :
    Calls Try.prog 43 #[.pointer (some ⟨b, 0, none⟩), .int .i64 0] w fun e w' => e = .returned (.int .i64 0) ∧ holds w' (ztag b :: F) := by
  obtain ⟨c0, c1⟩ := ztag_cells hw
  go_enter Try.func43, Try.ntmps43
  go_wp2
  go_ret
  exact ⟨rfl, hw⟩
theorem ztags_Gen (w : World) (b : Nat) (F : List HProp) (hw : holds w (ztag b :: F)) :
    Calls Try.prog 44 #[.pointer (some ⟨b, 0, none⟩), .int .i64 0] w fun e w' => e = .returned (.int .i64 (-1)) ∧ holds w' (ztag b :: F) := by
  obtain ⟨c0, c1⟩ := ztag_cells hw
  go_enter Try.func44, Try.ntmps44
  go_wp2
  go_ret
  exact ⟨rfl, hw⟩
theorem ztags_Count (w : World) (b : Nat) (F : List HProp) (hw : holds w (ztag b :: F)) :
    Calls Try.prog 45 #[.pointer (some ⟨b, 0, none⟩), .int .i64 1] w fun e w' => e = .returned (.int .i64 0) ∧ holds w' (ztag b :: F) := by
  obtain ⟨c0, c1⟩ := ztag_cells hw
  have hlk := nilLookupI w
  go_enter Try.func45, Try.ntmps45
  go_wp2
  go_ret
  exact ⟨rfl, hw⟩
theorem ztags_Of (w : World) (b : Nat) (F : List HProp) (hw : holds w (ztag b :: F)) :
    Calls Try.prog 47 #[.pointer (some ⟨b, 0, none⟩), .int .i64 1] w fun e w' => e = .returned (.slice none 0 0) ∧ holds w' (ztag b :: F) := by
  go_enter Try.func47, Try.ntmps47
  go_wp2_with fail
  refine (ztags_Count _ _ _ hw).mono ?_
  rintro e w1 ⟨rfl, h1⟩
  go_wp2_with fail
  go_ret
  exact ⟨rfl, h1⟩
end Go.Proofs.Ytfkpcmlajdmnfaa
