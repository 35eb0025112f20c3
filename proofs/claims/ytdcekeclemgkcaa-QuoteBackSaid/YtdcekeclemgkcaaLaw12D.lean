/- The law QuoteBack. -/
import Derived.Test.YtdcekeclemgkcaaLaw12C
namespace Go.Proofs.Ytdcekeclemgkcaa
open Go Go.RowKit Go.MapKept
set_option maxRecDepth 100000
set_option linter.unusedVariables false
attribute [local go_sem] exactUpon looseUpon

theorem law_QuoteBack (s : ByteArray) (hs : s.size ≤ maxLen) (s2 : ByteArray) (hs2 : s2.size ≤ maxLen) (w : World) (F : List HProp) (hw : holds w F) :
    Calls Try.prog 4 #[.string s, .string s2] w fun e w' => e = .returned (.bool true) ∧ holds w' F := by
  obtain ⟨l, rfl⟩ : ∃ l, s = bs l := ⟨s.data.toList, (bs_list s).symm⟩
  obtain ⟨b, rfl⟩ : ∃ l, s2 = bs l := ⟨s2.data.toList, (bs_list s2).symm⟩
  have q3 := bs_size l
  have q4 := bs_size b
  by_cases h200 : l.length ≤ 200
  · by_cases h100 : b.length ≤ 100
    · cases hr : readAt l 0 with
      | none => exact law_QuoteBack_none l b h200 h100 hr w F hw
      | some p => exact law_QuoteBack_some l b h200 h100 p.1 p.2 hr w F hw
    · have d1 : decide ((200 : Int) < l.length) = false := by simp; omega
      have d2 : decide ((100 : Int) < b.length) = true := by simp; omega
      go_enter Try.func4, Try.ntmps4
      go_wp2_with fail
      refine (law12_works _ _ hw).mono ?_
      rintro e w2 ⟨rfl, h2⟩
      go_wp2_with fail
      go_ret
      exact ⟨rfl, h2⟩
  · have d1 : decide ((200 : Int) < l.length) = true := by simp; omega
    go_enter Try.func4, Try.ntmps4
    go_wp2_with fail
    refine (law12_works _ _ hw).mono ?_
    rintro e w2 ⟨rfl, h2⟩
    go_wp2_with fail
    go_ret
    exact ⟨rfl, h2⟩
end Go.Proofs.Ytdcekeclemgkcaa

