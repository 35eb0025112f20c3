import Derived.Test.YtipkgamiejenaaaGreatSepD
/- Contracts of package copyholdbase. -/
namespace Go.Proofs.YtipkgamiejenaaaGreat
open Go Go.RowKit Go.MapKept
set_option maxRecDepth 100000

end Go.Proofs.YtipkgamiejenaaaGreat
