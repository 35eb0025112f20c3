import Derived.Test.YtipkgamiejenaaaGreatMg7

import Derived.Test.YtipkgamiejenaaaGreatTypes
/- More of numbers without a sign: shifts by any count, and-not, and. -/
namespace Go.Proofs.YtipkgamiejenaaaGreat
open Go Go.RowKit Go.MapKept
set_option linter.unusedVariables false
set_option linter.unusedSimpArgs false
def andNotI (i j : Int) : Int := ((BitVec.ofInt 64 i &&& ~~~BitVec.ofInt 64 j).toNat : Nat)
section
variable {P : Program} {n : Nat} {env : Env} {F : List HProp} {xT yT : TypeId} {x y : Operand} {i j s c : Int} {k : IntKind}
theorem Runs.andNotU (hx : opnd env x = some (.int .u64 i)) (hy : opnd env y = some (.int .u64 j)) : Runs P n env F (.binOp .andNot xT x y yT) (.int .u64 (andNotI i j)) := .mk fun a w ty pos aft g d hf hw => by
  have e : Op.intBits .andNot .u64 i j = pure (.int .u64 (IntKind.u64.wrap (andNotI i j))) := rfl
  simp only [execOp, hf.eval hx, hf.eval hy]
  have e2 : eqGuard .andNot xT x y (.int .u64 i) (.int .u64 j) = pure () := rfl
  have e3 : binOp .andNot xT (.int .u64 i) (.int .u64 j) = Op.intBits .andNot .u64 i j := rfl
  have h := natBV_lt (BitVec.ofInt 64 i &&& ~~~BitVec.ofInt 64 j)
  have h : 0 ≤ andNotI i j ∧ andNotI i j ≤ 18446744073709551615 := h
  rw [e2, e3, e, wrapU, Int.emod_eq_of_lt h.1 (by omega)]
  simp [Result.andThen]
theorem Runs.shrC (hx : opnd env x = some (.int .u64 i)) (hy : opnd env y = some (.int k c)) (h : 0 ≤ c ∧ c ≤ 64) : Runs P n env F (.binOp .shr xT x y yT) (.int .u64 (i / (2 ^ c.toNat : Int))) := .mk fun a w ty pos aft g d hf hw => by
  have hc : ¬ c < 0 := by omega
  have hm : min c.toNat 64 = c.toNat := by omega
  have h2 := Int.fdiv_eq_ediv_of_nonneg i (b := (2 ^ c.toNat : Int)) (Int.pow_nonneg (by omega))
  simp [execOp, hf.eval hx, hf.eval hy, eqGuard, binOp, Op.shift, IntKind.bits, hc, hm, h2, Result.andThen]
theorem Runs.shlC (hx : opnd env x = some (.int .u64 1)) (hy : opnd env y = some (.int k c)) (h : 0 ≤ c ∧ c < 64) : Runs P n env F (.binOp .shl xT x y yT) (.int .u64 ((2 ^ c.toNat : Nat) : Int)) := .mk fun a w ty pos aft g d hf hw => by
  have hc : ¬ c < 0 := by omega
  have hm : min c.toNat 64 = c.toNat := by omega
  have h3 : (2 ^ c.toNat : Nat) < 2 ^ 64 := Nat.pow_lt_pow_right (by omega) (by omega)
  have h4 : ((2 ^ c.toNat : Nat) : Int) % 18446744073709551616 = ((2 ^ c.toNat : Nat) : Int) := Int.emod_eq_of_lt (Int.natCast_nonneg _) (by have h5 : ((2 ^ c.toNat : Nat) : Int) < ((2 ^ 64 : Nat) : Int) := Int.ofNat_lt.2 h3; exact h5)
  rw [Int.natCast_pow] at h4
  simp [execOp, hf.eval hx, hf.eval hy, eqGuard, binOp, Op.shift, IntKind.bits, hc, hm, wrapU, Result.andThen]
  exact h4
theorem Runs.and127 (hx : opnd env x = some (.int .i64 i)) (hy : opnd env y = some (.int .i64 127)) : Runs P n env F (.binOp .and xT x y yT) (.int .i64 (i % 128)) := .mk fun a w ty pos aft g d hf hw => by
  have e3 : binOp .and xT (.int .i64 i) (.int .i64 127) = Op.intBits .and .i64 i 127 := rfl
  have e2 : eqGuard .and xT x y (.int .i64 i) (.int .i64 127) = pure () := rfl
  have e : Op.intBits .and .i64 i 127 = pure (.int .i64 (IntKind.i64.wrap (((BitVec.ofInt 64 i &&& BitVec.ofInt 64 127).toNat : Nat) : Int))) := rfl
  have h : (BitVec.ofInt 64 i &&& BitVec.ofInt 64 127).toNat = (BitVec.ofInt 64 i).toNat % 128 := by
    rw [BitVec.toNat_and]
    have : (BitVec.ofInt 64 127).toNat = 2 ^ 7 - 1 := rfl
    rw [this, Nat.and_two_pow_sub_one_eq_mod]
  have h2 : (((BitVec.ofInt 64 i).toNat % 128 : Nat) : Int) = i % 128 := by
    rw [BitVec.toNat_ofInt]; omega
  simp only [execOp, hf.eval hx, hf.eval hy]
  rw [e2, e3, e, h, h2, IntWalk.i64_in _ (by omega)]
  simp [Result.andThen]
end
end Go.Proofs.YtipkgamiejenaaaGreat

/- Sets of numbers in words: what is plain. -/
namespace Go.Proofs.YtipkgamiejenaaaGreat
open Go Go.RowKit Go.MapKept
set_option linter.unusedVariables false
set_option linter.unusedSimpArgs false
namespace Bt
def bit (w : Int) (k : Nat) : Bool := w.toNat.testBit k
theorem ofNat_eq (a : Nat) : BitVec.ofInt 64 (a : Int) = BitVec.ofNat 64 a := by simp
theorem or_bit (w : Int) (h : 0 ≤ w ∧ w < 18446744073709551616) (k j : Nat) (hk : k < 64) : bit (orI w (2 ^ k : Nat)) j = (bit w j || decide (j = k)) := by
  obtain ⟨n, rfl⟩ : ∃ n : Nat, w = n := ⟨w.toNat, by omega⟩
  unfold bit orI
  rw [ofNat_eq, ofNat_eq, BitVec.toNat_or, BitVec.toNat_ofNat, BitVec.toNat_ofNat, Int.toNat_natCast, Int.toNat_natCast, Nat.mod_eq_of_lt (by omega), Nat.mod_eq_of_lt (Nat.pow_lt_pow_right (by omega) hk), Nat.testBit_or, Nat.testBit_two_pow]
  congr 1
  rw [decide_eq_decide]; omega
theorem andNot_bit (w : Int) (h : 0 ≤ w ∧ w < 18446744073709551616) (k j : Nat) (hk : k < 64) : bit (andNotI w (2 ^ k : Nat)) j = (bit w j && !decide (j = k)) := by
  obtain ⟨n, rfl⟩ : ∃ n : Nat, w = n := ⟨w.toNat, by omega⟩
  unfold bit andNotI
  rw [ofNat_eq, ofNat_eq, Int.toNat_natCast, Int.toNat_natCast, ← BitVec.getLsbD, BitVec.getLsbD_and, BitVec.getLsbD_not, BitVec.getLsbD_ofNat, BitVec.getLsbD_ofNat, Nat.testBit_two_pow]
  by_cases hj : j < 64
  · simp [hj]
    congr 2
    rw [decide_eq_decide]; exact eq_comm
  · have : n.testBit j = false := Nat.testBit_lt_two_pow (Nat.lt_of_lt_of_le (by omega : n < 2 ^ 64) (Nat.pow_le_pow_right (by omega) (by omega)))
    simp [hj, this]
theorem andNotI_in (i j : Int) : 0 ≤ andNotI i j ∧ andNotI i j < 18446744073709551616 := by have := (BitVec.ofInt 64 i &&& ~~~BitVec.ofInt 64 j).isLt; unfold andNotI; omega
theorem orI_in' (i j : Int) : 0 ≤ orI i j ∧ orI i j < 18446744073709551616 := by have := (BitVec.ofInt 64 i ||| BitVec.ofInt 64 j).isLt; unfold orI; omega
/-- The lowest bit of what is shifted down. -/
theorem shr_bit (w : Int) (h : 0 ≤ w ∧ w < 18446744073709551616) (k : Nat) : andI (w / (2 ^ k : Int)) 1 = if bit w k then 1 else 0 := by
  obtain ⟨n, rfl⟩ : ∃ n : Nat, w = n := ⟨w.toNat, by omega⟩
  unfold bit andI
  have e : ((n : Int) / (2 ^ k : Int)) = ((n / 2 ^ k : Nat) : Int) := by simp
  have e2 : n / 2 ^ k ≤ n := Nat.div_le_self _ _
  rw [e, ofNat_eq, show (1 : Int) = ((1 : Nat) : Int) from rfl, ofNat_eq, BitVec.toNat_and, BitVec.toNat_ofNat, BitVec.toNat_ofNat, Int.toNat_natCast, Nat.mod_eq_of_lt (by omega), Nat.mod_eq_of_lt (by omega), Nat.and_one_is_mod, Nat.testBit, Nat.shiftRight_eq_div_pow]
  by_cases h2 : n / 2 ^ k % 2 = 1
  · simp [h2]
  · have : n / 2 ^ k % 2 = 0 := by omega
    simp [this]
/-- What words stand for which numbers below n. -/
structure Spec (n : Nat) (ws : List Int) (p : Nat → Bool) : Prop where
  len : ws.length = (n + 63) / 64
  inn : ∀ (i : Nat) (h : i < ws.length), 0 ≤ ws[i] ∧ ws[i] < 18446744073709551616
  at_ : ∀ (i : Nat) (h : i < ws.length) (j : Nat), j < 64 → bit ws[i] j = p (64 * i + j)
theorem Spec.new (n : Nat) : Spec n (List.replicate ((n + 63) / 64) 0) (fun _ => false) := by
  refine ⟨by simp, fun i h => by simp, fun i h j _ => ?_⟩
  simp [bit]
theorem Spec.has {n : Nat} {ws : List Int} {p : Nat → Bool} (h : Spec n ws p) (i : Nat) (hi : i < n) : ∃ hl : i / 64 < ws.length, bit ws[i / 64] (i % 64) = p i := by
  have hl : i / 64 < ws.length := by rw [h.len]; omega
  refine ⟨hl, ?_⟩
  rw [h.at_ _ hl _ (by omega)]
  congr 1; omega
theorem Spec.put {n : Nat} {ws : List Int} {p : Nat → Bool} (h : Spec n ws p) (i : Nat) (hi : i < n) (hl : i / 64 < ws.length) : Spec n (ws.set (i / 64) (orI ws[i / 64] (2 ^ (i % 64) : Nat))) (fun k => p k || decide (k = i)) := by
  refine ⟨by simpa using h.len, fun k hk => ?_, fun k hk j hj => ?_⟩
  · rw [List.getElem_set]; split
    · exact orI_in' _ _
    · exact h.inn k (by simpa using hk)
  · rw [List.length_set] at hk
    rw [List.getElem_set]; split
    · rename_i e
      rw [or_bit _ (h.inn _ hl) _ _ (by omega), h.at_ _ hl _ hj]
      subst e
      congr 1
      rw [decide_eq_decide]; omega
    · rename_i e
      rw [h.at_ _ hk _ hj]
      have : ¬ (64 * k + j = i) := by omega
      simp [this]
theorem Spec.drop {n : Nat} {ws : List Int} {p : Nat → Bool} (h : Spec n ws p) (i : Nat) (hi : i < n) (hl : i / 64 < ws.length) : Spec n (ws.set (i / 64) (andNotI ws[i / 64] (2 ^ (i % 64) : Nat))) (fun k => p k && !decide (k = i)) := by
  refine ⟨by simpa using h.len, fun k hk => ?_, fun k hk j hj => ?_⟩
  · rw [List.getElem_set]; split
    · exact andNotI_in _ _
    · exact h.inn k (by simpa using hk)
  · rw [List.length_set] at hk
    rw [List.getElem_set]; split
    · rename_i e
      rw [andNot_bit _ (h.inn _ hl) _ _ (by omega), h.at_ _ hl _ hj]
      subst e
      congr 2
      rw [decide_eq_decide]; omega
    · rename_i e
      rw [h.at_ _ hk _ hj]
      have : ¬ (64 * k + j = i) := by omega
      simp [this]
end Bt
end Go.Proofs.YtipkgamiejenaaaGreat

/- Package bits: a set in words; the walks. -/
namespace Go.Proofs.YtipkgamiejenaaaGreat
open Go Go.RowKit Go.MapKept
set_option linter.unusedVariables false
set_option linter.unusedSimpArgs false
set_option maxRecDepth 100000
set_option maxHeartbeats 1000000
@[reducible] def encU (x : Int) : List Value := [.int .u64 x]
instance : Enc encU 1 := ⟨fun _ => rfl, fun _ => by simp [encU, Value.oneCell'], by omega⟩
section
variable (b n : Nat) (wv : Value) (rest : List Value) (ws : List Int) (p : Nat → Bool)
theorem bits_within (i : Int) (w : World) (F : List HProp) [SeesBlk F b (wv :: .int .i64 (n : Nat) :: rest).toArray] (hw : holds w F) :
    Ct Tryz.prog 196 #[.pointer (some ⟨b, 0, none⟩), .int .i64 i] w fun e w' => e = .returned (.bool (decide (0 ≤ i ∧ i < n))) ∧ holds w' F := by
  refine Ct.go (args := [.pointer (some ⟨b, 0, none⟩), .int .i64 i]) Tryz.func196 rfl rfl rfl hw ?_
  repeat' (first | (apply GL.isAny; first | refine GL.runA rfl ?_ | (apply GL.isStore; first | refine GL.storeBlk rfl rfl rfl rfl rfl ?_ | refine GL.storeWhole rfl rfl rfl rfl rfl ?_ | refine GL.storeBlkA rfl rfl rfl rfl rfl ?_) | refine GL.guardY rfl rfl ?_ | refine GL.guardN rfl rfl rfl ?_ | refine GL.guardU rfl rfl rfl ?_ | (apply GL.isBox; first | refine GL.boxA rfl rfl (fun _ => ?_) | refine GL.box1 rfl rfl rfl (fun _ => ?_) | refine GL.box rfl rfl (fun _ => ?_)) | (apply GL.isBuildS; first | refine GL.buildSlice1A rfl rfl rfl rfl rfl (fun _ => ?_) | refine GL.buildSlice1 rfl rfl rfl rfl rfl (fun _ => ?_)) | (apply GL.isCall; refine GL.append1 _ rfl rfl rfl rfl (by rfl) (by omega) (by omega) rfl (fun _ => ?_)) | (apply GL.isAlloc; refine GL.alloc rfl (fun _ => ?_))) | apply GL.nil | first | apply G.seq | apply G.region | apply G.block | apply G.skip | apply G.exit | apply G.ret | (apply G.isCond; first | refine G.condT rfl ?_ | refine G.condF rfl ?_) | refine G.draw (by kernel_rfl) (by kernel_rfl) ?_ | (apply GE.isAny; first | apply GE.again | apply GE.thenG | apply GE.blockN | apply GE.blockE | apply GE.thenE | apply GE.thenR | apply GE.blockR | refine GE.blockO rfl ?_ | apply GE.only) | (apply GD.isAny; first | refine GD.runA rfl ?_ | refine GD.guardY rfl rfl ?_ | refine GD.guardN rfl rfl rfl ?_ | refine GD.guardU rfl rfl rfl ?_) | apply GD.nilE | apply GD.nilL | (apply GT.isAny; refine GT.runA rfl rfl ?_) | ((first | (apply GL.isAny; refine GL.guard rfl rfl (fun hc => ?_) (fun hc => ?_)) | (apply G.isCond; refine G.cond rfl (fun hc => ?_) (fun hc => ?_)) | (apply GD.isAny; refine GD.guard rfl rfl (fun hc => ?_) (fun hc => ?_))) <;> ((try simp only [decide_eq_true_eq, decide_eq_false_iff_not, Bool.not_true, Bool.not_false, ne_eq, Classical.not_not, Int.not_lt, Int.not_le] at hc); (try (exfalso; first | omega | exact hc trivial | exact hc rfl)))))
  all_goals (first | (exfalso; omega) | (refine GE.resOne rfl (by (repeat (first | apply Res.nil | (apply Res.tmp; rfl) | (refine Res.cellA rfl rfl rfl ?_) | (refine Res.cell1 rfl rfl ?_)))) (fun w h => ?_); exact ⟨by congr 2; (first | rfl | (rw [decide_eq_decide]; omega) | (symm; rw [decide_eq_false_iff_not]; omega) | (symm; rw [decide_eq_true_eq]; omega)), h⟩))
theorem bits_Has (hn : n ≤ 1048576) (hs : Bt.Spec n ws p) (i : Int) (w : World) (F : List HProp) [SeesBlk F b (wv :: .int .i64 (n : Nat) :: rest).toArray] [Reads F wv encU 1 ws] (hw : holds w F) :
    Ct Tryz.prog 197 #[.pointer (some ⟨b, 0, none⟩), .int .i64 i] w fun e w' => e = .returned (.bool (decide (0 ≤ i ∧ i < n) && p i.toNat)) ∧ holds w' F := by
  refine Ct.go (args := [.pointer (some ⟨b, 0, none⟩), .int .i64 i]) Tryz.func197 rfl rfl rfl hw ?_
  by_cases hi : 0 ≤ i ∧ i < n
  · obtain ⟨k, rfl⟩ : ∃ k : Nat, i = k := ⟨i.toNat, by omega⟩
    obtain ⟨hl, hb⟩ := hs.has k (by omega)
    have hin := hs.inn _ hl
    have hsb := Bt.shr_bit ws[k / 64] hin (k % 64)
    have e1 : ((k : Int) % 64).toNat = k % 64 := by omega
    rw [hb] at hsb
    rw [decide_eq_true hi, Bool.true_and, Int.toNat_natCast]
    repeat' (first | (first | first | (apply GL.isCall; refine GL.call1 rfl rfl (fun w h => bits_within b n wv rest k w _ h) ?_) | (apply GD.isAny; refine GD.call rfl rfl (fun w F' h => bits_within b n wv rest k w _ h) ?_) | (apply GL.isAny; refine GL.run (by apply Runs.isIndexA; exact Runs.indexAddr (k := k / 64) rfl rfl rfl (by omega) hl) rfl ?_) | (apply GL.isAny; refine GL.run (Runs.shrC rfl rfl (by omega)) rfl ?_) | (apply GL.isAny; refine GL.run (Runs.andU rfl rfl) rfl ?_)) | first | (apply GL.isAny; first | refine GL.runA rfl ?_ | (apply GL.isStore; first | refine GL.storeBlk rfl rfl rfl rfl rfl ?_ | refine GL.storeWhole rfl rfl rfl rfl rfl ?_ | refine GL.storeBlkA rfl rfl rfl rfl rfl ?_) | refine GL.guardY rfl rfl ?_ | refine GL.guardN rfl rfl rfl ?_ | refine GL.guardU rfl rfl rfl ?_ | (apply GL.isBox; first | refine GL.boxA rfl rfl (fun _ => ?_) | refine GL.box1 rfl rfl rfl (fun _ => ?_) | refine GL.box rfl rfl (fun _ => ?_)) | (apply GL.isBuildS; first | refine GL.buildSlice1A rfl rfl rfl rfl rfl (fun _ => ?_) | refine GL.buildSlice1 rfl rfl rfl rfl rfl (fun _ => ?_)) | (apply GL.isCall; refine GL.append1 _ rfl rfl rfl rfl (by rfl) (by omega) (by omega) rfl (fun _ => ?_)) | (apply GL.isAlloc; refine GL.alloc rfl (fun _ => ?_))) | apply GL.nil | first | apply G.seq | apply G.region | apply G.block | apply G.skip | apply G.exit | apply G.ret | (apply G.isCond; first | refine G.condT rfl ?_ | refine G.condF rfl ?_) | refine G.draw (by kernel_rfl) (by kernel_rfl) ?_ | (apply GE.isAny; first | apply GE.again | apply GE.thenG | apply GE.blockN | apply GE.blockE | apply GE.thenE | apply GE.thenR | apply GE.blockR | refine GE.blockO rfl ?_ | apply GE.only) | (apply GD.isAny; first | refine GD.runA rfl ?_ | refine GD.guardY rfl rfl ?_ | refine GD.guardN rfl rfl rfl ?_ | refine GD.guardU rfl rfl rfl ?_) | apply GD.nilE | apply GD.nilL | (apply GT.isAny; refine GT.runA rfl rfl ?_) | ((first | (apply GL.isAny; refine GL.guard rfl rfl (fun hc => ?_) (fun hc => ?_)) | (apply G.isCond; refine G.cond rfl (fun hc => ?_) (fun hc => ?_)) | (apply GD.isAny; refine GD.guard rfl rfl (fun hc => ?_) (fun hc => ?_))) <;> ((try simp only [decide_eq_true_eq, decide_eq_false_iff_not, Bool.not_true, Bool.not_false, ne_eq, Classical.not_not, Int.not_lt, Int.not_le] at hc); (try (exfalso; first | omega | exact hc trivial | exact hc rfl)))))
    all_goals (first | (exfalso; omega) | (refine GE.resOne rfl (by (repeat (first | apply Res.nil | (apply Res.tmp; rfl) | (refine Res.cellA rfl rfl rfl ?_) | (refine Res.cell1 rfl rfl ?_)))) (fun w h => ?_); exact ⟨by rw [e1, hsb]; cases p k <;> rfl, h.sub⟩))
  · rw [decide_eq_false hi, Bool.false_and]
    repeat' (first | (first | (apply GL.isCall; refine GL.call1 rfl rfl (fun w h => bits_within b n wv rest i w _ h) ?_) | (apply GD.isAny; refine GD.call rfl rfl (fun w F' h => bits_within b n wv rest i w _ h) ?_)) | first | (apply GL.isAny; first | refine GL.runA rfl ?_ | (apply GL.isStore; first | refine GL.storeBlk rfl rfl rfl rfl rfl ?_ | refine GL.storeWhole rfl rfl rfl rfl rfl ?_ | refine GL.storeBlkA rfl rfl rfl rfl rfl ?_) | refine GL.guardY rfl rfl ?_ | refine GL.guardN rfl rfl rfl ?_ | refine GL.guardU rfl rfl rfl ?_ | (apply GL.isBox; first | refine GL.boxA rfl rfl (fun _ => ?_) | refine GL.box1 rfl rfl rfl (fun _ => ?_) | refine GL.box rfl rfl (fun _ => ?_)) | (apply GL.isBuildS; first | refine GL.buildSlice1A rfl rfl rfl rfl rfl (fun _ => ?_) | refine GL.buildSlice1 rfl rfl rfl rfl rfl (fun _ => ?_)) | (apply GL.isCall; refine GL.append1 _ rfl rfl rfl rfl (by rfl) (by omega) (by omega) rfl (fun _ => ?_)) | (apply GL.isAlloc; refine GL.alloc rfl (fun _ => ?_))) | apply GL.nil | first | apply G.seq | apply G.region | apply G.block | apply G.skip | apply G.exit | apply G.ret | (apply G.isCond; first | refine G.condT rfl ?_ | refine G.condF rfl ?_) | refine G.draw (by kernel_rfl) (by kernel_rfl) ?_ | (apply GE.isAny; first | apply GE.again | apply GE.thenG | apply GE.blockN | apply GE.blockE | apply GE.thenE | apply GE.thenR | apply GE.blockR | refine GE.blockO rfl ?_ | apply GE.only) | (apply GD.isAny; first | refine GD.runA rfl ?_ | refine GD.guardY rfl rfl ?_ | refine GD.guardN rfl rfl rfl ?_ | refine GD.guardU rfl rfl rfl ?_) | apply GD.nilE | apply GD.nilL | (apply GT.isAny; refine GT.runA rfl rfl ?_) | ((first | (apply GL.isAny; refine GL.guard rfl rfl (fun hc => ?_) (fun hc => ?_)) | (apply G.isCond; refine G.cond rfl (fun hc => ?_) (fun hc => ?_)) | (apply GD.isAny; refine GD.guard rfl rfl (fun hc => ?_) (fun hc => ?_))) <;> ((try simp only [decide_eq_true_eq, decide_eq_false_iff_not, Bool.not_true, Bool.not_false, ne_eq, Classical.not_not, Int.not_lt, Int.not_le] at hc); (try (exfalso; first | omega | exact hc trivial | exact hc rfl)))))
    all_goals (first | (exfalso; omega) | (refine GE.resOne rfl (by (repeat (first | apply Res.nil | (apply Res.tmp; rfl) | (refine Res.cellA rfl rfl rfl ?_) | (refine Res.cell1 rfl rfl ?_)))) (fun w h => ?_); exact ⟨rfl, h.sub⟩))
/-- A number is put in. -/
theorem bits_Put (hn : n ≤ 1048576) (hs : Bt.Spec n ws p) (k : Nat) (hk : k < n) (hp : p k = false) (w : World) (F : List HProp) (hw : holds w (owns 265 encU 1 wv ws :: blk b (.cells (wv :: .int .i64 (n : Nat) :: rest).toArray 271 (0, 0)) :: F)) :
    Ct Tryz.prog 140 #[.pointer (some ⟨b, 0, none⟩), .int .i64 (k : Nat)] w fun e w' => ∃ ws' : {l : List Int // Bt.Spec n l (fun j => p j || decide (j = k))}, e = .returned (.bool true) ∧ holds w' (owns 265 encU 1 wv ws'.1 :: blk b (.cells (wv :: .int .i64 (n : Nat) :: rest).toArray 271 (0, 0)) :: F) := by
  refine Ct.go (args := [.pointer (some ⟨b, 0, none⟩), .int .i64 (k : Nat)]) Tryz.func140 rfl rfl rfl hw ?_
  obtain ⟨hl, hb⟩ := hs.has k hk
  have e1 : ((k : Int) % 64).toNat = k % 64 := by omega
  have ed : (decide (0 ≤ (k : Int) ∧ (k : Int) < n)) = true := by rw [decide_eq_true_eq]; omega
  have ed2 : (decide (0 ≤ (k : Int) ∧ (k : Int) < n) && p (k : Int).toNat) = false := by rw [Int.toNat_natCast, hp, Bool.and_false]
  have hW := fun w F [SeesBlk F b (wv :: .int .i64 (n : Nat) :: rest).toArray] h => bits_within b n wv rest k w F h
  have hH := fun w F [SeesBlk F b (wv :: .int .i64 (n : Nat) :: rest).toArray] [Reads F wv encU 1 ws] h => bits_Has b n wv rest ws p hn hs k w F h
  rw [ed] at hW
  rw [ed2] at hH
  repeat' (first | (first | first | (apply GL.isCall; refine GL.call1 rfl rfl (fun w h => hW w _ h) ?_) | (apply GD.isAny; refine GD.call rfl rfl (fun w F' h => hW w _ h) ?_) | first | (apply GL.isCall; refine GL.call1 rfl rfl (fun w h => hH w _ h) ?_) | (apply GD.isAny; refine GD.call rfl rfl (fun w F' h => hH w _ h) ?_) | refine G.drawTail 13 (by kernel_rfl) (by simp only [List.take_succ_cons, List.take_zero]; rfl) (by simp only [List.drop_succ_cons, List.drop_zero]; rfl) (by kernel_rfl) ?_ | (apply GD.isAny; refine GD.run (by apply Runs.isIndexA; exact Runs.indexAddr (k := k / 64) rfl rfl rfl (by omega) hl) rfl ?_) | (apply GD.isAny; refine GD.run (Runs.shlC rfl rfl (by omega)) rfl ?_) | (apply GD.isAny; refine GD.run (Runs.orU rfl rfl) rfl ?_) | (apply GL.isStore; refine GL.storeElem (f := 0) _ rfl rfl hl rfl rfl rfl rfl ?_)) | first | (apply GL.isAny; first | refine GL.runA rfl ?_ | (apply GL.isStore; first | refine GL.storeBlk rfl rfl rfl rfl rfl ?_ | refine GL.storeWhole rfl rfl rfl rfl rfl ?_ | refine GL.storeBlkA rfl rfl rfl rfl rfl ?_) | refine GL.guardY rfl rfl ?_ | refine GL.guardN rfl rfl rfl ?_ | refine GL.guardU rfl rfl rfl ?_ | (apply GL.isBox; first | refine GL.boxA rfl rfl (fun _ => ?_) | refine GL.box1 rfl rfl rfl (fun _ => ?_) | refine GL.box rfl rfl (fun _ => ?_)) | (apply GL.isBuildS; first | refine GL.buildSlice1A rfl rfl rfl rfl rfl (fun _ => ?_) | refine GL.buildSlice1 rfl rfl rfl rfl rfl (fun _ => ?_)) | (apply GL.isCall; refine GL.append1 _ rfl rfl rfl rfl (by rfl) (by omega) (by omega) rfl (fun _ => ?_)) | (apply GL.isAlloc; refine GL.alloc rfl (fun _ => ?_))) | apply GL.nil | first | apply G.seq | apply G.region | apply G.block | apply G.skip | apply G.exit | apply G.ret | (apply G.isCond; first | refine G.condT rfl ?_ | refine G.condF rfl ?_) | refine G.draw (by kernel_rfl) (by kernel_rfl) ?_ | (apply GE.isAny; first | apply GE.again | apply GE.thenG | apply GE.blockN | apply GE.blockE | apply GE.thenE | apply GE.thenR | apply GE.blockR | refine GE.blockO rfl ?_ | apply GE.only) | (apply GD.isAny; first | refine GD.runA rfl ?_ | refine GD.guardY rfl rfl ?_ | refine GD.guardN rfl rfl rfl ?_ | refine GD.guardU rfl rfl rfl ?_) | apply GD.nilE | apply GD.nilL | (apply GT.isAny; refine GT.runA rfl rfl ?_) | ((first | (apply GL.isAny; refine GL.guard rfl rfl (fun hc => ?_) (fun hc => ?_)) | (apply G.isCond; refine G.cond rfl (fun hc => ?_) (fun hc => ?_)) | (apply GD.isAny; refine GD.guard rfl rfl (fun hc => ?_) (fun hc => ?_))) <;> ((try simp only [decide_eq_true_eq, decide_eq_false_iff_not, Bool.not_true, Bool.not_false, ne_eq, Classical.not_not, Int.not_lt, Int.not_le] at hc); (try (exfalso; first | omega | exact hc trivial | exact hc rfl)))))
  refine GE.resOne rfl (by (repeat (first | apply Res.nil | (apply Res.tmp; rfl) | (refine Res.cellA rfl rfl rfl ?_) | (refine Res.cell1 rfl rfl ?_)))) (fun w h => ?_)
  rw [e1] at h
  exact ⟨⟨_, hs.put k hk hl⟩, rfl, h.sub⟩
theorem bits_Drop (hn : n ≤ 1048576) (hs : Bt.Spec n ws p) (k : Nat) (hk : k < n) (hp : p k = true) (w : World) (F : List HProp) (hw : holds w (owns 265 encU 1 wv ws :: blk b (.cells (wv :: .int .i64 (n : Nat) :: rest).toArray 271 (0, 0)) :: F)) :
    Ct Tryz.prog 201 #[.pointer (some ⟨b, 0, none⟩), .int .i64 (k : Nat)] w fun e w' => ∃ ws' : {l : List Int // Bt.Spec n l (fun j => p j && !decide (j = k))}, e = .returned (.bool true) ∧ holds w' (owns 265 encU 1 wv ws'.1 :: blk b (.cells (wv :: .int .i64 (n : Nat) :: rest).toArray 271 (0, 0)) :: F) := by
  refine Ct.go (args := [.pointer (some ⟨b, 0, none⟩), .int .i64 (k : Nat)]) Tryz.func201 rfl rfl rfl hw ?_
  obtain ⟨hl, hb⟩ := hs.has k hk
  have e1 : ((k : Int) % 64).toNat = k % 64 := by omega
  have ed2 : (decide (0 ≤ (k : Int) ∧ (k : Int) < n) && p (k : Int).toNat) = true := by rw [Int.toNat_natCast, hp, Bool.and_true, decide_eq_true_eq]; omega
  have hH := fun w F [SeesBlk F b (wv :: .int .i64 (n : Nat) :: rest).toArray] [Reads F wv encU 1 ws] h => bits_Has b n wv rest ws p hn hs k w F h
  rw [ed2] at hH
  repeat' (first | (first | first | (apply GL.isCall; refine GL.call1 rfl rfl (fun w h => hH w _ h) ?_) | (apply GD.isAny; refine GD.call rfl rfl (fun w F' h => hH w _ h) ?_) | refine G.drawTail 13 (by kernel_rfl) (by simp only [List.take_succ_cons, List.take_zero]; rfl) (by simp only [List.drop_succ_cons, List.drop_zero]; rfl) (by kernel_rfl) ?_ | (apply GD.isAny; refine GD.run (by apply Runs.isIndexA; exact Runs.indexAddr (k := k / 64) rfl rfl rfl (by omega) hl) rfl ?_) | (apply GD.isAny; refine GD.run (Runs.shlC rfl rfl (by omega)) rfl ?_) | (apply GD.isAny; refine GD.run (Runs.andNotU rfl rfl) rfl ?_) | (apply GL.isStore; refine GL.storeElem (f := 0) _ rfl rfl hl rfl rfl rfl rfl ?_)) | first | (apply GL.isAny; first | refine GL.runA rfl ?_ | (apply GL.isStore; first | refine GL.storeBlk rfl rfl rfl rfl rfl ?_ | refine GL.storeWhole rfl rfl rfl rfl rfl ?_ | refine GL.storeBlkA rfl rfl rfl rfl rfl ?_) | refine GL.guardY rfl rfl ?_ | refine GL.guardN rfl rfl rfl ?_ | refine GL.guardU rfl rfl rfl ?_ | (apply GL.isBox; first | refine GL.boxA rfl rfl (fun _ => ?_) | refine GL.box1 rfl rfl rfl (fun _ => ?_) | refine GL.box rfl rfl (fun _ => ?_)) | (apply GL.isBuildS; first | refine GL.buildSlice1A rfl rfl rfl rfl rfl (fun _ => ?_) | refine GL.buildSlice1 rfl rfl rfl rfl rfl (fun _ => ?_)) | (apply GL.isCall; refine GL.append1 _ rfl rfl rfl rfl (by rfl) (by omega) (by omega) rfl (fun _ => ?_)) | (apply GL.isAlloc; refine GL.alloc rfl (fun _ => ?_))) | apply GL.nil | first | apply G.seq | apply G.region | apply G.block | apply G.skip | apply G.exit | apply G.ret | (apply G.isCond; first | refine G.condT rfl ?_ | refine G.condF rfl ?_) | refine G.draw (by kernel_rfl) (by kernel_rfl) ?_ | (apply GE.isAny; first | apply GE.again | apply GE.thenG | apply GE.blockN | apply GE.blockE | apply GE.thenE | apply GE.thenR | apply GE.blockR | refine GE.blockO rfl ?_ | apply GE.only) | (apply GD.isAny; first | refine GD.runA rfl ?_ | refine GD.guardY rfl rfl ?_ | refine GD.guardN rfl rfl rfl ?_ | refine GD.guardU rfl rfl rfl ?_) | apply GD.nilE | apply GD.nilL | (apply GT.isAny; refine GT.runA rfl rfl ?_) | ((first | (apply GL.isAny; refine GL.guard rfl rfl (fun hc => ?_) (fun hc => ?_)) | (apply G.isCond; refine G.cond rfl (fun hc => ?_) (fun hc => ?_)) | (apply GD.isAny; refine GD.guard rfl rfl (fun hc => ?_) (fun hc => ?_))) <;> ((try simp only [decide_eq_true_eq, decide_eq_false_iff_not, Bool.not_true, Bool.not_false, ne_eq, Classical.not_not, Int.not_lt, Int.not_le] at hc); (try (exfalso; first | omega | exact hc trivial | exact hc rfl)))))
  refine GE.resOne rfl (by (repeat (first | apply Res.nil | (apply Res.tmp; rfl) | (refine Res.cellA rfl rfl rfl ?_) | (refine Res.cell1 rfl rfl ?_)))) (fun w h => ?_)
  rw [e1] at h
  exact ⟨⟨_, hs.drop k hk hl⟩, rfl, h.sub⟩
end
/-- What lies behind a set's words and size. -/
def btRest : List Value := .int .u32 0 :: .int .i32 0 :: .int .u32 0 :: List.replicate 256 (.int .u8 0)
theorem bits_New (n : Nat) (hn : n ≤ 1048576) (w : World) (F : List HProp) (hw : holds w F) :
    Ct Tryz.prog 138 #[.int .i64 (n : Nat)] w fun e w' => ∃ x : Nat × Nat, e = .returned (.pointer (some ⟨x.1, 0, none⟩)) ∧ holds w' (owns 265 encU 1 (.slice (some ⟨x.2, 0, none⟩) ((n + 63) / 64) ((n + 63) / 64)) (List.replicate ((n + 63) / 64) 0) :: blk x.1 (.cells (.slice (some ⟨x.2, 0, none⟩) ((n + 63) / 64) ((n + 63) / 64) :: .int .i64 (n : Nat) :: btRest).toArray 271 (0, 0)) :: F) := by
  refine Ct.go (args := [.int .i64 (n : Nat)]) Tryz.func138 rfl rfl rfl hw ?_
  repeat' (first | (first | (apply GL.isAny; refine GL.makeSl encU 0 ((n + 63) / 64) ((n + 63) / 64) rfl rfl rfl (by omega) (by omega) (by omega) (by omega) (by unfold maxLen; omega) rfl (fun g => ?_)) | (apply GL.isBox; refine GL.boxA (cs := (.slice (some ⟨g, 0, none⟩) ((n + 63) / 64) ((n + 63) / 64) :: .int .i64 (n : Nat) :: btRest).toArray) rfl rfl (fun bb => ?_))) | first | (apply GL.isAny; first | refine GL.runA rfl ?_ | (apply GL.isStore; first | refine GL.storeBlk rfl rfl rfl rfl rfl ?_ | refine GL.storeWhole rfl rfl rfl rfl rfl ?_ | refine GL.storeBlkA rfl rfl rfl rfl rfl ?_) | refine GL.guardY rfl rfl ?_ | refine GL.guardN rfl rfl rfl ?_ | refine GL.guardU rfl rfl rfl ?_ | (apply GL.isBox; first | refine GL.boxA rfl rfl (fun _ => ?_) | refine GL.box1 rfl rfl rfl (fun _ => ?_) | refine GL.box rfl rfl (fun _ => ?_)) | (apply GL.isBuildS; first | refine GL.buildSlice1A rfl rfl rfl rfl rfl (fun _ => ?_) | refine GL.buildSlice1 rfl rfl rfl rfl rfl (fun _ => ?_)) | (apply GL.isCall; refine GL.append1 _ rfl rfl rfl rfl (by rfl) (by omega) (by omega) rfl (fun _ => ?_)) | (apply GL.isAlloc; refine GL.alloc rfl (fun _ => ?_))) | apply GL.nil | first | apply G.seq | apply G.region | apply G.block | apply G.skip | apply G.exit | apply G.ret | (apply G.isCond; first | refine G.condT rfl ?_ | refine G.condF rfl ?_) | refine G.draw (by kernel_rfl) (by kernel_rfl) ?_ | (apply GE.isAny; first | apply GE.again | apply GE.thenG | apply GE.blockN | apply GE.blockE | apply GE.thenE | apply GE.thenR | apply GE.blockR | refine GE.blockO rfl ?_ | apply GE.only) | (apply GD.isAny; first | refine GD.runA rfl ?_ | refine GD.guardY rfl rfl ?_ | refine GD.guardN rfl rfl rfl ?_ | refine GD.guardU rfl rfl rfl ?_) | apply GD.nilE | apply GD.nilL | (apply GT.isAny; refine GT.runA rfl rfl ?_) | ((first | (apply GL.isAny; refine GL.guard rfl rfl (fun hc => ?_) (fun hc => ?_)) | (apply G.isCond; refine G.cond rfl (fun hc => ?_) (fun hc => ?_)) | (apply GD.isAny; refine GD.guard rfl rfl (fun hc => ?_) (fun hc => ?_))) <;> ((try simp only [decide_eq_true_eq, decide_eq_false_iff_not, Bool.not_true, Bool.not_false, ne_eq, Classical.not_not, Int.not_lt, Int.not_le] at hc); (try (exfalso; first | omega | exact hc trivial | exact hc rfl)))))
  all_goals (first | (exfalso; omega) | skip)
  refine GE.resOne rfl (by (repeat (first | apply Res.nil | (apply Res.tmp; rfl) | (refine Res.cellA rfl rfl rfl ?_) | (refine Res.cell1 rfl rfl ?_)))) (fun w h => ?_)
  exact ⟨⟨bb, g⟩, rfl, h.sub⟩
end Go.Proofs.YtipkgamiejenaaaGreat
