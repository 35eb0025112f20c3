/- Contracts of package copyholdbase. -/
import Derived.Test.YtfiggkbclldccaaGreatSepD
namespace Go.Proofs.YtfiggkbclldccaaGreat
open Go Go.RowKit Go.MapKept
set_option maxRecDepth 100000

end Go.Proofs.YtfiggkbclldccaaGreat
