/- Which types are strings. Printed by gentypes.py. -/
import Derived.Test.YtpkohkkkbnfigaaDoorGoStr
import Derived.Test.YtpkohkkkbnfigaaDoorTypes
namespace Go.Proofs.YtpkohkkkbnfigaaDoor
open Go Go.RowKit
set_option maxRecDepth 100000
instance : StrT Tryd.prog 9 := ⟨by kernel_rfl⟩
end Go.Proofs.YtpkohkkkbnfigaaDoor
