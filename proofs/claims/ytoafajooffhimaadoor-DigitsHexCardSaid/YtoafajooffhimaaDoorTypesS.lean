/- Which types are strings. Printed by gentypes.py. -/
import Derived.Test.YtoafajooffhimaaDoorGoStr
import Derived.Test.YtoafajooffhimaaDoorTypes
namespace Go.Proofs.YtoafajooffhimaaDoor
open Go Go.RowKit
set_option maxRecDepth 100000
instance : StrT Tryd.prog 9 := ⟨by kernel_rfl⟩
end Go.Proofs.YtoafajooffhimaaDoor
