/- Contracts of the reference of chapter 6. -/
import Derived.Test.YtfiggkbclldccaaBools
import Derived.Test.YtfiggkbclldccaaSlotsP
import Derived.Test.YtfiggkbclldccaaBase
namespace Go.Proofs.Ytfiggkbclldccaa
open Go Go.RowKit Go.MapKept
set_option maxRecDepth 100000
set_option linter.unusedVariables false
attribute [local go_sem] exactUpon looseUpon


theorem store4 {w : World} {n : Nat} {T : TypeId} {x0 x1 x2 x3 : Value} {F : List HProp} (h : holds w (blk n (.cells #[x0, x1, x2, x3] T (0, 0)) :: F)) (y0 y1 y2 y3 : Value) :
    holds ((((w.setCell ⟨n, 0, none⟩ y0).setCell ⟨n, 1, none⟩ y1).setCell ⟨n, 2, none⟩ y2).setCell ⟨n, 3, none⟩ y3) (blk n (.cells #[y0, y1, y2, y3] T (0, 0)) :: F) := (((h.setCell 0 y0).setCell 1 y1).setCell 2 y2).setCell 3 y3
theorem holds.emptyIntsAt {w : World} {F : List HProp} {n : Nat} (hw : holds w F) (hn : w.heap.size = n) : holds (w.alloc (.cells #[] 3)) (ownInts (.slice (some ⟨n, 0, none⟩) 0 0) [] :: F) := by subst hn; exact hw.emptyInts

end Go.Proofs.Ytfiggkbclldccaa
