/- '==' and '!=' of bools. -/
import Derived.Test.YtfiggkbclldccaaGoLH
namespace Go.Proofs.Ytfiggkbclldccaa
open Go Go.RowKit Go.MapKept
set_option linter.unusedVariables false
section
variable {P : Program} {n : Nat} {env : Env} {F : List HProp} {x y : Operand} {xT yT : TypeId}
class BoT (P : Program) (t : TypeId) : Prop where
  ok : P.underlying t = some .bool
theorem run_eq_bo {t : TypeId} (hm : P.underlying t = some .bool) (a b : Bool) (w : World) (d : Nat) : (Op.equalIn (d + 1) t (.bool a) (.bool b)).run P w = .ok (a == b) w := by
  simp [Op.equalIn, run_underlying hm, Result.andThen]
theorem Runs.eqBl [ht : BoT P xT] {a b : Bool} (hx : opnd env x = some (.bool a)) (hy : opnd env y = some (.bool b)) : Runs P n env F (.binOp .eql xT x y yT) (.bool (decide (a = b))) := .mk fun ac w ty pos aft g d hf hw => by
  have e2 : (Op.equal xT (.bool a) (.bool b)).run P w = .ok (a == b) w := run_eq_bo ht.ok a b w 9999
  simp [execOp, hf.eval hx, hf.eval hy, eqGuard, binOp, e2, Result.andThen]
  cases a <;> cases b <;> rfl
theorem Runs.neBl [ht : BoT P xT] {a b : Bool} (hx : opnd env x = some (.bool a)) (hy : opnd env y = some (.bool b)) : Runs P n env F (.binOp .neq xT x y yT) (.bool (decide (a ≠ b))) := .mk fun ac w ty pos aft g d hf hw => by
  have e2 : (Op.equal xT (.bool a) (.bool b)).run P w = .ok (a == b) w := run_eq_bo ht.ok a b w 9999
  simp [execOp, hf.eval hx, hf.eval hy, eqGuard, binOp, e2, Result.andThen]
  cases a <;> cases b <;> rfl
end
instance : BoT Try.prog 4 := ⟨by kernel_rfl⟩
end Go.Proofs.Ytfiggkbclldccaa
