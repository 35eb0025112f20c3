/- What the listed variables give the walks of digits to the base 16. -/
import Derived.Test.YtoafajooffhimaaDoorHxY
import Derived.Test.YtoafajooffhimaaDoorCardKit
namespace Go.Proofs.YtoafajooffhimaaDoor
open Go Go.RowKit Go.MapKept
set_option linter.unusedVariables false
set_option maxRecDepth 100000
namespace Hx
def deb : List Int := [0, 1, 56, 2, 57, 49, 28, 3, 61, 58, 42, 50, 38, 29, 17, 4, 62, 47, 59, 36, 45, 43, 51, 22, 53, 39, 33, 30, 24, 18, 12, 5, 63, 55, 48, 27, 60, 41, 37, 16, 46, 35, 44, 21, 52, 32, 23, 11, 54, 26, 40, 15, 34, 20, 31, 10, 25, 14, 19, 9, 13, 8, 7, 6]
end Hx
theorem libH_of_laidH {W : World} (h : laidMetH Tryd.prog theLaid W) (hs : W.ShapedOpen Tryd.prog) : LibH W := by
  have hl := libW_of_laidH h hs
  rw [MakeChecks.laidMetH_plain _ _ _ (by kernel_rfl)] at h
  have hT : laidMet Tryd.prog (("math/bits.deBruijn64tab", Lib.tabData .u8 Hx.deb) :: [("internal/strconv.uint64pow10", Rows.laid_internal_strconv_uint64pow10), ("unicode/utf8.acceptRanges", Rows.laid_unicode_utf8_acceptRanges), ("strconv.ErrRange", Rows.laid_strconv_ErrRange), ("strconv.ErrSyntax", Rows.laid_strconv_ErrSyntax), ("unicode/utf8.first", Rows.laid_unicode_utf8_first)]) W := h.tail
  have hc := (Lib.tabIs_of_head (g := 7) (by kernel_rfl) (by kernel_rfl) Tryd.underlying112 Tryd.underlying5 (by kernel_rfl) (by kernel_rfl) hT).cell (g := 7) (by kernel_rfl) 15 (by decide)
  exact ⟨hl, hc⟩
end Go.Proofs.YtoafajooffhimaaDoor
