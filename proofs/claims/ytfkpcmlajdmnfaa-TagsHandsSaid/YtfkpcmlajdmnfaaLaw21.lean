/- The example of chapter 21. -/
import Derived.Test.YtfkpcmlajdmnfaaWaitsC
namespace Go.Proofs.Ytfkpcmlajdmnfaa
open Go Go.RowKit Go.MapKept
set_option maxRecDepth 100000
set_option linter.unusedVariables false

set_option maxHeartbeats 2000000 in
theorem law21_works (w : World) (F : List HProp) (hw : holds w F) :
    Calls Try.prog 48 #[] w fun e w' => e = .returned (.bool true) ∧ holds w' F := by
  have S1 := Lib.hid (show Waits.put 4 [] 3 = (0, [3]) from by decide)
  have S2 := Lib.hid (show Waits.put 4 [3] 1 = (0, [3, 1]) from by decide)
  have S3 := Lib.hid (show Waits.put 4 [3, 1] 3 = (19, [3, 1]) from by decide)
  have S4 := Lib.hid (show placeOf [3, 1] 1 = 1 from by decide)
  have S5 := Lib.hid (show ringGet [3, 1] 0 = (3, true) from by decide)
  have S6 := Lib.hid (show placeOf [1] 1 = 0 from by decide)
  go_enter Try.func48, Try.ntmps48
  go_wp2_with fail
  refine (waits_New _ 4 _ (by decide) hw).mono ?_
  rintro e w1 ⟨b, rfl, h1⟩
  go_wp2_with fail
  have o := waits_Put _ _ _ _ _ 3 _ (by decide) h1
  rw [S1.out] at o
  refine o.mono ?_
  clear o
  rintro e w2 ⟨rfl, h2⟩
  have h2 : holds w2 (waitsAt (.pointer (some ⟨b, 0, none⟩)) 4 [3] 1 :: F) := h2
  go_wp2_with fail
  have o := waits_Put _ _ _ _ _ 1 _ (by decide) h2
  rw [S2.out] at o
  refine o.mono ?_
  clear o
  rintro e w3 ⟨rfl, h3⟩
  have h3 : holds w3 (waitsAt (.pointer (some ⟨b, 0, none⟩)) 4 [3, 1] 2 :: F) := h3
  go_wp2_with fail
  have o := waits_Put _ _ _ _ _ 3 _ (by decide) h3
  rw [S3.out] at o
  refine o.mono ?_
  clear o
  rintro e w4 ⟨rfl, h4⟩
  have h4 : holds w4 (waitsAt (.pointer (some ⟨b, 0, none⟩)) 4 [3, 1] 2 :: F) := h4
  go_wp2_with fail
  have o := waits_Ahead _ _ _ _ _ 1 _ (by decide) h4
  rw [S4.out] at o
  refine o.mono ?_
  clear o
  rintro e w5 ⟨rfl, h5⟩
  go_wp2_with fail
  have o := waits_Take _ _ _ _ _ _ (by decide) h5
  rw [S5.out] at o
  refine o.mono ?_
  clear o
  rintro e w6 ⟨rfl, h6⟩
  have h6 : holds w6 (waitsAt (.pointer (some ⟨b, 0, none⟩)) 4 [1] 2 :: F) := h6
  go_wp2_with fail
  have o := waits_Ahead _ _ _ _ _ 1 _ (by decide) h6
  rw [S6.out] at o
  refine o.mono ?_
  clear o
  rintro e w7 ⟨rfl, h7⟩
  go_wp2_with fail
  refine (waits_Count _ _ _ _ _ _ h7).mono ?_
  rintro e w8 ⟨rfl, h8⟩
  have h9 : holds w8 F := h8.sel 1 []
  clear h1 h2 h3 h4 h5 h6 h7 h8
  go_wp2_with fail
  go_ret
  exact ⟨rfl, h9⟩
end Go.Proofs.Ytfkpcmlajdmnfaa
