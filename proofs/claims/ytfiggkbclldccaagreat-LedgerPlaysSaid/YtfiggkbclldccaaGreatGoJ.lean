/- Where paths meet again: what is behind is walked once. -/
import Derived.Test.YtfiggkbclldccaaGreatGoLH
import Derived.Scope
namespace Go.Proofs.YtfiggkbclldccaaGreat
open Go Go.RowKit Go.MapKept
set_option linter.unusedVariables false
section
variable {P : Program} {n : Nat} {Q Q' : Exit → Act → World → Prop} {env : Env} {F : List HProp}
theorem G.label {l : Nat} (h : GE n .normal Q env F) : G P n (.label l) Q env F := .mk fun a w hf hw => wp_label (h a w hf hw)
end
end Go.Proofs.YtfiggkbclldccaaGreat
