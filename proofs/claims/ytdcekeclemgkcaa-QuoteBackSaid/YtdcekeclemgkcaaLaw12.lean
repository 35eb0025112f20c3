/- The laws QuoteTells, QuoteBack. -/
import Derived.Test.YtdcekeclemgkcaaQuoteB
namespace Go.Proofs.Ytdcekeclemgkcaa
open Go Go.RowKit Go.MapKept
set_option maxRecDepth 100000
set_option linter.unusedVariables false
attribute [local go_sem] exactUpon looseUpon

theorem law12_works (w : World) (F : List HProp) (hw : holds w F) : Calls Try.prog 15 #[] w fun e w' => e = .returned (.bool true) ∧ holds w' F := by
  have H1 := Lib.hid (quote_Text w [10] (by simp) F hw)
  have e1 : quoted [10] = [34, 92, 120, 48, 97, 34] := by decide +kernel
  have e2 : wholeOf [34, 92, 120, 48, 97, 34] = some [10] := by decide +kernel
  have e3 : wholeOf [34, 97] = none := by decide +kernel
  rw [e1] at H1
  have E2 := Lib.hid e2
  have E3 := Lib.hid e3
  clear e1 e2 e3
  have q6 : (bs [34, 92, 120, 48, 97, 34]).size = 6 := rfl
  go_enter Try.func15, Try.ntmps15
  go_wp2_with fail
  refine H1.out.mono ?_
  rintro e w1 ⟨rfl, h1⟩
  clear H1
  go_wp2_with fail
  refine (quote_Whole _ [34, 92, 120, 48, 97, 34] F (by simp) h1).mono ?_
  rintro e w2 ⟨rfl, h2⟩
  rw [E2.out]
  unfold wholeV
  go_wp2_with fail
  refine (quote_Whole _ [34, 97] F (by simp) h2).mono ?_
  rintro e w3 ⟨rfl, h3⟩
  rw [E3.out]
  unfold wholeV
  have tl := bs_toList
  have t1 : (ByteArray.mk #[34, 92, 120, 48, 97, 34]).toList = [34, 92, 120, 48, 97, 34] := bs_toList _
  have t2 : (ByteArray.mk #[10]).toList = [10] := bs_toList _
  go_wp2_with fail
  go_ret
  exact ⟨rfl, h3⟩

theorem law_QuoteTells (s : ByteArray) (hs : s.size ≤ maxLen) (at_ : Int) (a0 : -9223372036854775808 ≤ at_) (a1 : at_ ≤ 9223372036854775807) (w : World) (F : List HProp) (hw : holds w F) :
    Calls Try.prog 3 #[.string s, .int .i64 at_] w fun e w' => e = .returned (.bool true) ∧ holds w' F := by
  obtain ⟨l, rfl⟩ : ∃ l, s = bs l := ⟨s.data.toList, (bs_list s).symm⟩
  have q3 := bs_size l
  by_cases h200 : l.length ≤ 200
  · have hl : l.length ≤ 1000000 := by omega
    have o1 := fun w hw => quote_Read w l at_ F hl hw
    have o2 := fun w hw => ref12_Read w l at_ F hl hw
    have o3 := fun w hw => quote_Whole w l F hl hw
    have o4 := fun w hw => ref12_Whole w l F hl hw
    have o5 := fun w hw => quote_Text w l hl F hw
    have o6 := fun w hw => ref12_Text w l hl F hw
    obtain ⟨x, y, z, hv⟩ : ∃ (x : List UInt8) (y : Int) (z : Bool), readV (readAt l at_) = .tuple #[.string (bs x), .int .i64 y, .bool z] := by
      cases readAt l at_ with
      | none => exact ⟨_, _, _, rfl⟩
      | some p => exact ⟨_, _, _, rfl⟩
    obtain ⟨x2, z2, hv2⟩ : ∃ (x : List UInt8) (z : Bool), wholeV (wholeOf l) = .tuple #[.string (bs x), .bool z] := by
      cases wholeOf l with
      | none => exact ⟨_, _, rfl⟩
      | some p => exact ⟨_, _, rfl⟩
    simp only [hv] at o1 o2
    simp only [hv2] at o3 o4
    generalize quoted l = q at o5 o6
    have O1 := Lib.hid o1
    have O2 := Lib.hid o2
    have O3 := Lib.hid o3
    have O4 := Lib.hid o4
    have O5 := Lib.hid o5
    have O6 := Lib.hid o6
    clear o1 o2 o3 o4 o5 o6 hv hv2
    have zz : (z == z) = true := by simp
    have zz2 : (z2 == z2) = true := by simp
    go_enter Try.func3, Try.ntmps3
    go_wp2_with fail
    refine (O1.out _ hw).mono ?_
    rintro e w1 ⟨rfl, h1⟩
    go_wp2_with fail
    refine (O2.out _ h1).mono ?_
    rintro e w2 ⟨rfl, h2⟩
    go_wp2_with fail
    refine (O3.out _ h2).mono ?_
    rintro e w3 ⟨rfl, h3⟩
    go_wp2_with fail
    refine (O4.out _ h3).mono ?_
    rintro e w4 ⟨rfl, h4⟩
    go_wp2_with fail
    refine (O5.out _ h4).mono ?_
    rintro e w5 ⟨rfl, h5⟩
    go_wp2_with fail
    refine (O6.out _ h5).mono ?_
    rintro e w6 ⟨rfl, h6⟩
    go_wp2_with fail
    refine (law12_works _ _ h6).mono ?_
    rintro e w7 ⟨rfl, h7⟩
    go_wp2_with fail
    go_ret
    exact ⟨rfl, h7⟩
  · go_enter Try.func3, Try.ntmps3
    go_wp2_with fail
    refine (law12_works _ _ hw).mono ?_
    rintro e w2 ⟨rfl, h2⟩
    go_wp2_with fail
    go_ret
    exact ⟨rfl, h2⟩

end Go.Proofs.Ytdcekeclemgkcaa
