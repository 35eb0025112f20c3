/- Slots that New did not give. -/
import Derived.Test.YtfkpcmlajdmnfaaSlotsC
import Derived.Test.YtfkpcmlajdmnfaaLoose
namespace Go.Proofs.Ytfkpcmlajdmnfaa
open Go Go.RowKit Go.MapKept
set_option maxRecDepth 100000
set_option linter.unusedVariables false

def zslot (b : Nat) : HProp := blk b (.cells #[.slice none 0 0, .map none, .slice none 0 0, .int .i64 0] 111 (0, 0))
theorem zslot_cells {w : World} {b : Nat} {F : List HProp} (h : holds w (zslot b :: F)) : w.cell? ⟨b, 0, none⟩ = some (.slice none 0 0) ∧ w.cell? ⟨b, 1, none⟩ = some (.map none) ∧ w.cell? ⟨b, 2, none⟩ = some (.slice none 0 0) ∧ w.cell? ⟨b, 3, none⟩ = some (.int .i64 0) := by
  have h : holds w (blk b _ :: F) := h
  exact ⟨cellAt h.get_blk 0, cellAt h.get_blk 1, cellAt h.get_blk 2, cellAt h.get_blk 3⟩

theorem nslots_Len (w : World) (F : List HProp) (hw : holds w F) :
    Calls Try.prog 76 #[.pointer none] w fun e w' => e = .returned (.int .i64 0) ∧ holds w' F := by
  go_enter Try.func76, Try.ntmps76
  go_wp2_with fail
  go_ret
  exact ⟨rfl, hw⟩
theorem zslots_Len (w : World) (b : Nat) (F : List HProp) (hw : holds w (zslot b :: F)) :
    Calls Try.prog 76 #[.pointer (some ⟨b, 0, none⟩)] w fun e w' => e = .returned (.int .i64 0) ∧ holds w' (zslot b :: F) := by
  obtain ⟨c0, c1, c2, c3⟩ := zslot_cells hw
  go_enter Try.func76, Try.ntmps76
  go_wp2_with fail
  go_ret
  exact ⟨rfl, hw⟩
theorem nslots_Gen (w : World) (p : Int) (F : List HProp) (hw : holds w F) :
    Calls Try.prog 75 #[.pointer none, .int .i64 p] w fun e w' => e = .returned (.int .i64 (-1)) ∧ holds w' F := by
  go_enter Try.func75, Try.ntmps75
  go_wp2_with fail
  go_ret
  exact ⟨rfl, hw⟩
theorem zslots_Gen (w : World) (b : Nat) (F : List HProp) (hw : holds w (zslot b :: F)) :
    Calls Try.prog 75 #[.pointer (some ⟨b, 0, none⟩), .int .i64 0] w fun e w' => e = .returned (.int .i64 (-1)) ∧ holds w' (zslot b :: F) := by
  obtain ⟨c0, c1, c2, c3⟩ := zslot_cells hw
  go_enter Try.func75, Try.ntmps75
  go_wp2_with fail
  go_ret
  exact ⟨rfl, hw⟩
theorem nslots_Right (w : World) (p g : Int) (F : List HProp) (hw : holds w F) :
    Calls Try.prog 69 #[.pointer none, .int .i64 p, .int .i64 g] w fun e w' => e = .returned (.bool false) ∧ holds w' F := by
  go_enter Try.func69, Try.ntmps69
  go_wp2_with fail
  go_ret
  exact ⟨rfl, hw⟩
theorem nilLookup (w : World) : (Instr.lookup 109 (.map none) (.int .i64 0) false).run Try.prog w = .ok (.bool false) w :=
  Maps.look_nil (z := .bool false) false (Maps.int_keyed Try.underlying3) Try.underlying109 (by kernel_rfl) (Maps.keyOf_int_mk Try.underlying3 (a := 0) (by rfl))
theorem zslots_Right (w : World) (b : Nat) (F : List HProp) (hw : holds w (zslot b :: F)) :
    Calls Try.prog 69 #[.pointer (some ⟨b, 0, none⟩), .int .i64 0, .int .i64 0] w fun e w' => e = .returned (.bool false) ∧ holds w' (zslot b :: F) := by
  obtain ⟨c0, c1, c2, c3⟩ := zslot_cells hw
  have hlk := nilLookup w
  go_enter Try.func69, Try.ntmps69
  go_wp2_with fail
  go_ret
  exact ⟨rfl, hw⟩
theorem nslots_Close (w : World) (p g : Int) (F : List HProp) (hw : holds w F) :
    Calls Try.prog 72 #[.pointer none, .int .i64 p, .int .i64 g] w fun e w' => e = .returned (.bool false) ∧ holds w' F := by
  go_enter Try.func72, Try.ntmps72
  go_wp2_with fail
  refine (nslots_Right _ p g _ hw).mono ?_
  rintro e w1 ⟨rfl, h1⟩
  go_wp2_with fail
  go_ret
  exact ⟨rfl, h1⟩
theorem zslots_Close (w : World) (b : Nat) (F : List HProp) (hw : holds w (zslot b :: F)) :
    Calls Try.prog 72 #[.pointer (some ⟨b, 0, none⟩), .int .i64 0, .int .i64 0] w fun e w' => e = .returned (.bool false) ∧ holds w' (zslot b :: F) := by
  go_enter Try.func72, Try.ntmps72
  go_wp2_with fail
  refine (zslots_Right _ b _ hw).mono ?_
  rintro e w1 ⟨rfl, h1⟩
  go_wp2_with fail
  go_ret
  exact ⟨rfl, h1⟩
theorem nslots_Open (w : World) (F : List HProp) (hw : holds w F) :
    Calls Try.prog 74 #[.pointer none] w fun e w' => e = .returned (.tuple #[.int .i64 0, .int .i64 0, .bool false]) ∧ holds w' F := by
  go_enter Try.func74, Try.ntmps74
  go_wp2_with fail
  go_ret3
  exact ⟨rfl, hw⟩
theorem zslots_pick (w : World) (b : Nat) (F : List HProp) (hw : holds w (zslot b :: F)) :
    Calls Try.prog 100 #[.pointer (some ⟨b, 0, none⟩)] w fun e w' => e = .returned (.tuple #[.int .i64 0, .bool false]) ∧ holds w' (zslot b :: F) := by
  obtain ⟨c0, c1, c2, c3⟩ := zslot_cells hw
  go_enter Try.func100, Try.ntmps100
  go_wp2_with fail
  go_quiet (fail)
  go_wp2_with fail
  go_ret2
  exact ⟨rfl, hw.drewN _⟩
theorem zslots_Open (w : World) (b : Nat) (F : List HProp) (hw : holds w (zslot b :: F)) :
    Calls Try.prog 74 #[.pointer (some ⟨b, 0, none⟩)] w fun e w' => e = .returned (.tuple #[.int .i64 0, .int .i64 0, .bool false]) ∧ holds w' (zslot b :: F) := by
  go_enter Try.func74, Try.ntmps74
  go_wp2_with fail
  refine (zslots_pick _ b _ hw).mono ?_
  rintro e w1 ⟨rfl, h1⟩
  go_wp2_with fail
  go_ret3
  exact ⟨rfl, h1⟩
theorem nslots_Places (w : World) (F : List HProp) (hw : holds w F) :
    Calls Try.prog 78 #[.pointer none] w fun e w' => e = .returned (.slice none 0 0) ∧ holds w' F := by
  go_enter Try.func78, Try.ntmps78
  go_wp2_with fail
  go_ret
  exact ⟨rfl, hw⟩
end Go.Proofs.Ytfkpcmlajdmnfaa
