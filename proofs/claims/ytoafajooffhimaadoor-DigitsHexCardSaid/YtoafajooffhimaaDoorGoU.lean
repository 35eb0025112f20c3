/- Numbers without a sign in the new road: shifts, bits, wrapping, conversions. -/
import Derived.Test.YtoafajooffhimaaDoorGoLH
namespace Go.Proofs.YtoafajooffhimaaDoor
open Go Go.RowKit Go.MapKept
set_option linter.unusedVariables false
set_option linter.unusedSimpArgs false
theorem wrapU (n : Int) : IntKind.u64.wrap n = n % 18446744073709551616 := by simp [IntKind.wrap, IntKind.bits, IntKind.signed]
theorem wrapB (n : Int) : IntKind.u8.wrap n = n % 256 := by simp [IntKind.wrap, IntKind.bits, IntKind.signed]
def xorI (i j : Int) : Int := ((BitVec.ofInt 64 i ^^^ BitVec.ofInt 64 j).toNat : Nat)
def orI (i j : Int) : Int := ((BitVec.ofInt 64 i ||| BitVec.ofInt 64 j).toNat : Nat)
def andI (i j : Int) : Int := ((BitVec.ofInt 64 i &&& BitVec.ofInt 64 j).toNat : Nat)
theorem natBV_lt (v : BitVec 64) : 0 ≤ ((v.toNat : Nat) : Int) ∧ ((v.toNat : Nat) : Int) ≤ 18446744073709551615 := by have := v.isLt; omega
theorem xorI_in (i j : Int) : 0 ≤ xorI i j ∧ xorI i j ≤ 18446744073709551615 := natBV_lt _
theorem orI_in (i j : Int) : 0 ≤ orI i j ∧ orI i j ≤ 18446744073709551615 := natBV_lt _
theorem andI_in (i j : Int) : 0 ≤ andI i j ∧ andI i j ≤ 18446744073709551615 := natBV_lt _
theorem nat_or_eq : ∀ (a b : Nat), a ||| b = (a ^^^ b) + (a &&& b) := by
  intro a
  induction a using Nat.strongRecOn with
  | ind a ih =>
    intro b
    by_cases h : a = 0
    · subst h; simp
    · have h1 := ih (a / 2) (by omega) (b / 2)
      have e1 : (a ||| b) = 2 * (a / 2 ||| b / 2) + (a ||| b) % 2 := by rw [← Nat.or_div_two]; omega
      have e2 : (a ^^^ b) = 2 * (a / 2 ^^^ b / 2) + (a ^^^ b) % 2 := by rw [← Nat.xor_div_two]; omega
      have e3 : (a &&& b) = 2 * (a / 2 &&& b / 2) + (a &&& b) % 2 := by rw [← Nat.and_div_two]; omega
      have t1 : (a ||| b) % 2 = (a ^^^ b) % 2 + (a &&& b) % 2 := by
        have q1 : (a ||| b) % 2 = 1 ↔ a % 2 = 1 ∨ b % 2 = 1 := Nat.or_mod_two_eq_one
        have q2 : (a ^^^ b) % 2 = 1 ↔ ¬ (a % 2 = 1 ↔ b % 2 = 1) := Nat.xor_mod_two_eq_one
        have q3 : (a &&& b) % 2 = 1 ↔ a % 2 = 1 ∧ b % 2 = 1 := Nat.and_mod_two_eq_one
        omega
      omega
theorem xor_or_and (i j : Int) : (orI i j - andI i j) % 18446744073709551616 = xorI i j := by
  have h := nat_or_eq (BitVec.ofInt 64 i).toNat (BitVec.ofInt 64 j).toNat
  have h2 := xorI_in i j
  unfold orI andI xorI at *
  rw [BitVec.toNat_or, BitVec.toNat_and, BitVec.toNat_xor] at *
  omega
section
variable {P : Program} {n : Nat} {env : Env} {F : List HProp} {xT yT : TypeId} {x y : Operand} {i j s c : Int} {k : IntKind}
theorem Runs.xorU (hx : opnd env x = some (.int .u64 i)) (hy : opnd env y = some (.int .u64 j)) : Runs P n env F (.binOp .xor xT x y yT) (.int .u64 (xorI i j)) := .mk fun a w ty pos aft g d hf hw => by
  have e : Op.intBits .xor .u64 i j = pure (.int .u64 (IntKind.u64.wrap (xorI i j))) := rfl
  simp only [execOp, hf.eval hx, hf.eval hy]
  have e2 : eqGuard .xor xT x y (.int .u64 i) (.int .u64 j) = pure () := rfl
  have e3 : binOp .xor xT (.int .u64 i) (.int .u64 j) = Op.intBits .xor .u64 i j := rfl
  have h := xorI_in i j
  rw [e2, e3, e, wrapU, Int.emod_eq_of_lt h.1 (by omega)]
  simp [Result.andThen]
theorem Runs.orU (hx : opnd env x = some (.int .u64 i)) (hy : opnd env y = some (.int .u64 j)) : Runs P n env F (.binOp .or xT x y yT) (.int .u64 (orI i j)) := .mk fun a w ty pos aft g d hf hw => by
  have e : Op.intBits .or .u64 i j = pure (.int .u64 (IntKind.u64.wrap (orI i j))) := rfl
  simp only [execOp, hf.eval hx, hf.eval hy]
  have e2 : eqGuard .or xT x y (.int .u64 i) (.int .u64 j) = pure () := rfl
  have e3 : binOp .or xT (.int .u64 i) (.int .u64 j) = Op.intBits .or .u64 i j := rfl
  have h := orI_in i j
  rw [e2, e3, e, wrapU, Int.emod_eq_of_lt h.1 (by omega)]
  simp [Result.andThen]
theorem Runs.andU (hx : opnd env x = some (.int .u64 i)) (hy : opnd env y = some (.int .u64 j)) : Runs P n env F (.binOp .and xT x y yT) (.int .u64 (andI i j)) := .mk fun a w ty pos aft g d hf hw => by
  have e : Op.intBits .and .u64 i j = pure (.int .u64 (IntKind.u64.wrap (andI i j))) := rfl
  simp only [execOp, hf.eval hx, hf.eval hy]
  have e2 : eqGuard .and xT x y (.int .u64 i) (.int .u64 j) = pure () := rfl
  have e3 : binOp .and xT (.int .u64 i) (.int .u64 j) = Op.intBits .and .u64 i j := rfl
  have h := andI_in i j
  rw [e2, e3, e, wrapU, Int.emod_eq_of_lt h.1 (by omega)]
  simp [Result.andThen]
theorem Runs.mulK (hx : opnd env x = some (.int k i)) (hy : opnd env y = some (.int k j)) : Runs P n env F (.binOp .mul xT x y yT) (.int k (k.wrap (i * j))) := .mk fun a w ty pos aft g d hf hw => by
  simp only [execOp, hf.eval hx, hf.eval hy]
  have e2 : eqGuard .mul xT x y (.int k i) (.int k j) = pure () := rfl
  have e3 : binOp .mul xT (.int k i) (.int k j) = Op.intArith .mul k i j := by simp [binOp]
  rw [e2, e3]
  simp [Op.intArith, Result.andThen]
theorem Runs.subK (hx : opnd env x = some (.int k i)) (hy : opnd env y = some (.int k j)) : Runs P n env F (.binOp .sub xT x y yT) (.int k (k.wrap (i - j))) := .mk fun a w ty pos aft g d hf hw => by
  simp only [execOp, hf.eval hx, hf.eval hy]
  have e2 : eqGuard .sub xT x y (.int k i) (.int k j) = pure () := rfl
  have e3 : binOp .sub xT (.int k i) (.int k j) = Op.intArith .sub k i j := by simp [binOp]
  rw [e2, e3]
  simp [Op.intArith, Result.andThen]
theorem Runs.addK (hx : opnd env x = some (.int k i)) (hy : opnd env y = some (.int k j)) : Runs P n env F (.binOp .add xT x y yT) (.int k (k.wrap (i + j))) := .mk fun a w ty pos aft g d hf hw => by
  simp only [execOp, hf.eval hx, hf.eval hy]
  have e2 : eqGuard .add xT x y (.int k i) (.int k j) = pure () := rfl
  have e3 : binOp .add xT (.int k i) (.int k j) = Op.intArith .add k i j := by simp [binOp]
  rw [e2, e3]
  simp [Op.intArith, Result.andThen]
/-- Quotient and remainder of numbers from 0 on. -/
theorem Runs.quoU (hx : opnd env x = some (.int .u64 i)) (hy : opnd env y = some (.int .u64 j)) (h : 0 ≤ i ∧ i ≤ 18446744073709551615 ∧ 1 ≤ j) : Runs P n env F (.binOp .quo xT x y yT) (.int .u64 (i / j)) := .mk fun a w ty pos aft g d hf hw => by
  simp only [execOp, hf.eval hx, hf.eval hy]
  have e2 : eqGuard .quo xT x y (.int .u64 i) (.int .u64 j) = pure () := rfl
  have e3 : binOp .quo xT (.int .u64 i) (.int .u64 j) = Op.intDiv .quo .u64 i j := by simp [binOp]
  have h1 : i.tdiv j = i / j := Int.tdiv_eq_ediv_of_nonneg h.1
  have h2 : 0 ≤ i / j := Int.ediv_nonneg h.1 (by omega)
  have h3 : i / j ≤ i := Int.ediv_le_self _ h.1
  have h4 : j ≠ 0 := by omega
  have h5 : i / j % 18446744073709551616 = i / j := Int.emod_eq_of_lt h2 (by omega)
  rw [e2, e3]
  simp [Op.intDiv, Result.andThen, h1, h4, wrapU, h5]
theorem Runs.remU (hx : opnd env x = some (.int .u64 i)) (hy : opnd env y = some (.int .u64 j)) (h : 0 ≤ i ∧ i ≤ 18446744073709551615 ∧ 1 ≤ j) : Runs P n env F (.binOp .rem xT x y yT) (.int .u64 (i % j)) := .mk fun a w ty pos aft g d hf hw => by
  simp only [execOp, hf.eval hx, hf.eval hy]
  have e2 : eqGuard .rem xT x y (.int .u64 i) (.int .u64 j) = pure () := rfl
  have e3 : binOp .rem xT (.int .u64 i) (.int .u64 j) = Op.intDiv .rem .u64 i j := by simp [binOp]
  have h1 : i.tmod j = i % j := Int.tmod_eq_emod_of_nonneg h.1
  have h2 : 0 ≤ i % j := Int.emod_nonneg _ (by omega)
  have h3 : i % j ≤ i := by
    have e1 := Int.emod_add_mul_ediv i j
    have e2 := Int.mul_nonneg (show (0 : Int) ≤ j by omega) (Int.ediv_nonneg h.1 (show (0 : Int) ≤ j by omega))
    omega
  have h4 : j ≠ 0 := by omega
  have h5 : i % j % 18446744073709551616 = i % j := Int.emod_eq_of_lt h2 (by omega)
  rw [e2, e3]
  simp [Op.intDiv, Result.andThen, h1, h4, wrapU, h5]
theorem Runs.remUE (hx : opnd env x = some (.int .u64 i)) (hy : opnd env y = some (.int .u64 j)) (h : 0 ≤ i ∧ i ≤ 18446744073709551615 ∧ 1 ≤ j) (hs : i % j = s) : Runs P n env F (.binOp .rem xT x y yT) (.int .u64 s) := hs ▸ Runs.remU hx hy h
theorem Runs.shrV (hx : opnd env x = some (.int .i64 i)) (hy : opnd env y = some (.int .i64 c)) (h : 0 ≤ c ∧ c ≤ 64) : Runs P n env F (.binOp .shr xT x y yT) (.int .i64 (i / (2 ^ c.toNat : Int))) := .mk fun a w ty pos aft g d hf hw => by
  have hc : ¬ c < 0 := by omega
  have hm : min c.toNat 64 = c.toNat := by omega
  have h2 := Int.fdiv_eq_ediv_of_nonneg i (b := (2 ^ c.toNat : Int)) (Int.pow_nonneg (by omega))
  simp [execOp, hf.eval hx, hf.eval hy, eqGuard, binOp, Op.shift, IntKind.bits, hc, hm, h2, Result.andThen]
theorem Runs.shlU (hx : opnd env x = some (.int .u64 i)) (hy : opnd env y = some (.int .u64 1)) : Runs P n env F (.binOp .shl xT x y yT) (.int .u64 (i * 2 % 18446744073709551616)) := .mk fun a w ty pos aft g d hf hw => by
  simp [execOp, hf.eval hx, hf.eval hy, eqGuard, binOp, Op.shift, IntKind.bits, wrapU, Result.andThen]
theorem Runs.convW {t u : TypeId} {j k : IntKind} [ht : IntT P t j] [hu : IntT P u k] (hx : opnd env x = some (.int j i)) : Runs P n env F (.convert t u x) (.int k (k.wrap i)) := .mk fun a w ty pos aft g d hf hw => by
  simp [execOp, hf.eval hx, convert, run_underlying ht.ok, run_underlying hu.ok, Conv.intToInt, Result.andThen]
end
end Go.Proofs.YtoafajooffhimaaDoor
