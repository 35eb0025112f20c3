import Derived.Test.YtfiggkbclldccaaMg0
/- Contracts of package copyholdbase. -/
namespace Go.Proofs.Ytfiggkbclldccaa
open Go Go.RowKit Go.MapKept
set_option maxRecDepth 100000

end Go.Proofs.Ytfiggkbclldccaa
