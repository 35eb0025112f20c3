/- Where paths meet again: what is behind is walked once. -/
import Derived.Test.YtoafajooffhimaaDoorGoLH
import Derived.Scope
namespace Go.Proofs.YtoafajooffhimaaDoor
open Go Go.RowKit Go.MapKept
set_option linter.unusedVariables false
section
variable {P : Program} {n : Nat} {Q Q' : Exit → Act → World → Prop} {env : Env} {F : List HProp}
theorem G.join {c c' : Code} (e : Env) (F' : List HProp) (k : G P n c' Q' e F' → G P n c Q env F) (h : G P n c' Q' e F') : G P n c Q env F := k h
theorem G.scope {c : Code} (h : G P n c (Exit.noGoto Q) env F) : G P n (.scope c) Q env F := .mk fun a w hf hw => wp_scope_straight (h a w hf hw)
theorem G.label {l : Nat} (h : GE n .normal Q env F) : G P n (.label l) Q env F := .mk fun a w hf hw => wp_label (h a w hf hw)
theorem GE.nogN (h : GE n .normal Q env F) : GE n .normal (Exit.noGoto Q) env F := .mk fun a w hf hw => h a w hf hw
theorem GE.nogE {id : Nat} (h : GE n (.exit id) Q env F) : GE n (.exit id) (Exit.noGoto Q) env F := .mk fun a w hf hw => h a w hf hw
theorem GE.nogR (h : GE n .ret Q env F) : GE n .ret (Exit.noGoto Q) env F := .mk fun a w hf hw => h a w hf hw
end
end Go.Proofs.YtoafajooffhimaaDoor
