/- More of numbers without a sign: shifts by any count, and-not, and. -/
import Derived.Test.YtoafajooffhimaaDoorGoU
namespace Go.Proofs.YtoafajooffhimaaDoor
open Go Go.RowKit Go.MapKept
set_option linter.unusedVariables false
set_option linter.unusedSimpArgs false
def andNotI (i j : Int) : Int := ((BitVec.ofInt 64 i &&& ~~~BitVec.ofInt 64 j).toNat : Nat)
section
variable {P : Program} {n : Nat} {env : Env} {F : List HProp} {xT yT : TypeId} {x y : Operand} {i j s c : Int} {k : IntKind}
theorem Runs.andNotU (hx : opnd env x = some (.int .u64 i)) (hy : opnd env y = some (.int .u64 j)) : Runs P n env F (.binOp .andNot xT x y yT) (.int .u64 (andNotI i j)) := .mk fun a w ty pos aft g d hf hw => by
  have e : Op.intBits .andNot .u64 i j = pure (.int .u64 (IntKind.u64.wrap (andNotI i j))) := rfl
  simp only [execOp, hf.eval hx, hf.eval hy]
  have e2 : eqGuard .andNot xT x y (.int .u64 i) (.int .u64 j) = pure () := rfl
  have e3 : binOp .andNot xT (.int .u64 i) (.int .u64 j) = Op.intBits .andNot .u64 i j := rfl
  have h := natBV_lt (BitVec.ofInt 64 i &&& ~~~BitVec.ofInt 64 j)
  have h : 0 ≤ andNotI i j ∧ andNotI i j ≤ 18446744073709551615 := h
  rw [e2, e3, e, wrapU, Int.emod_eq_of_lt h.1 (by omega)]
  simp [Result.andThen]
theorem Runs.shrC (hx : opnd env x = some (.int .u64 i)) (hy : opnd env y = some (.int k c)) (h : 0 ≤ c ∧ c ≤ 64) : Runs P n env F (.binOp .shr xT x y yT) (.int .u64 (i / (2 ^ c.toNat : Int))) := .mk fun a w ty pos aft g d hf hw => by
  have hc : ¬ c < 0 := by omega
  have hm : min c.toNat 64 = c.toNat := by omega
  have h2 := Int.fdiv_eq_ediv_of_nonneg i (b := (2 ^ c.toNat : Int)) (Int.pow_nonneg (by omega))
  simp [execOp, hf.eval hx, hf.eval hy, eqGuard, binOp, Op.shift, IntKind.bits, hc, hm, h2, Result.andThen]
theorem Runs.shlC (hx : opnd env x = some (.int .u64 1)) (hy : opnd env y = some (.int k c)) (h : 0 ≤ c ∧ c < 64) : Runs P n env F (.binOp .shl xT x y yT) (.int .u64 ((2 ^ c.toNat : Nat) : Int)) := .mk fun a w ty pos aft g d hf hw => by
  have hc : ¬ c < 0 := by omega
  have hm : min c.toNat 64 = c.toNat := by omega
  have h3 : (2 ^ c.toNat : Nat) < 2 ^ 64 := Nat.pow_lt_pow_right (by omega) (by omega)
  have h4 : ((2 ^ c.toNat : Nat) : Int) % 18446744073709551616 = ((2 ^ c.toNat : Nat) : Int) := Int.emod_eq_of_lt (Int.natCast_nonneg _) (by have h5 : ((2 ^ c.toNat : Nat) : Int) < ((2 ^ 64 : Nat) : Int) := Int.ofNat_lt.2 h3; exact h5)
  rw [Int.natCast_pow] at h4
  simp [execOp, hf.eval hx, hf.eval hy, eqGuard, binOp, Op.shift, IntKind.bits, hc, hm, wrapU, Result.andThen]
  exact h4
theorem Runs.and127 (hx : opnd env x = some (.int .i64 i)) (hy : opnd env y = some (.int .i64 127)) : Runs P n env F (.binOp .and xT x y yT) (.int .i64 (i % 128)) := .mk fun a w ty pos aft g d hf hw => by
  have e3 : binOp .and xT (.int .i64 i) (.int .i64 127) = Op.intBits .and .i64 i 127 := rfl
  have e2 : eqGuard .and xT x y (.int .i64 i) (.int .i64 127) = pure () := rfl
  have e : Op.intBits .and .i64 i 127 = pure (.int .i64 (IntKind.i64.wrap (((BitVec.ofInt 64 i &&& BitVec.ofInt 64 127).toNat : Nat) : Int))) := rfl
  have h : (BitVec.ofInt 64 i &&& BitVec.ofInt 64 127).toNat = (BitVec.ofInt 64 i).toNat % 128 := by
    rw [BitVec.toNat_and]
    have : (BitVec.ofInt 64 127).toNat = 2 ^ 7 - 1 := rfl
    rw [this, Nat.and_two_pow_sub_one_eq_mod]
  have h2 : (((BitVec.ofInt 64 i).toNat % 128 : Nat) : Int) = i % 128 := by
    rw [BitVec.toNat_ofInt]; omega
  simp only [execOp, hf.eval hx, hf.eval hy]
  rw [e2, e3, e, h, h2, IntWalk.i64_in _ (by omega)]
  simp [Result.andThen]
theorem Runs.notB {t : TypeId} {x : Operand} {b : Bool} {v : Value} (hx : opnd env x = some (.bool b)) (hv : v = .bool !b) : Runs P n env F (.unOp .not t x) v := hv ▸ Runs.not hx
end
end Go.Proofs.YtoafajooffhimaaDoor
