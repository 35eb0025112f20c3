/- Closing, by the reference of chapter 6. -/
import Derived.Test.YtfiggkbclldccaaRef06C
namespace Go.Proofs.Ytfiggkbclldccaa
open Go Go.RowKit Go.MapKept
set_option maxRecDepth 100000
set_option linter.unusedVariables false
set_option linter.unusedSimpArgs false
attribute [local go_sem] exactUpon looseUpon

theorem holds.intBlk2 {w : World} {F : List HProp} {a : Option Addr} {n c : Nat} {l : List Int} (h : holds w (ownInts (.slice a n c) l :: F)) (h0 : 0 < l.length) : ∃ g, a = some ⟨g, 0, none⟩ := by
  obtain ⟨g', cap, hv, _⟩ := h.intAt 0 h0
  exact ⟨g', by injection hv⟩
end Go.Proofs.Ytfiggkbclldccaa
