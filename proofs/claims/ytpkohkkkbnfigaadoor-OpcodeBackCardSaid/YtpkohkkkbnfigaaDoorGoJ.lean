/- Where paths meet again: what is behind is walked once. -/
import Derived.Test.YtpkohkkkbnfigaaDoorGoLH
namespace Go.Proofs.YtpkohkkkbnfigaaDoor
open Go Go.RowKit Go.MapKept
set_option linter.unusedVariables false
section
variable {P : Program} {n : Nat} {Q Q' : Exit → Act → World → Prop} {env : Env} {F : List HProp}
theorem G.join {c c' : Code} (e : Env) (F' : List HProp) (k : G P n c' Q' e F' → G P n c Q env F) (h : G P n c' Q' e F') : G P n c Q env F := k h
end
end Go.Proofs.YtpkohkkkbnfigaaDoor
