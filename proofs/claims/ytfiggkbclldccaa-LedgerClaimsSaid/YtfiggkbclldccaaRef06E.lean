/- Opening, by the reference of chapter 6. -/
import Derived.Test.YtfiggkbclldccaaRef06D
import Derived.Deep.RegionHeld3
namespace Go.Proofs.Ytfiggkbclldccaa
open Go Go.RowKit Go.MapKept
set_option maxRecDepth 100000
set_option linter.unusedVariables false
set_option linter.unusedSimpArgs false



end Go.Proofs.Ytfiggkbclldccaa
