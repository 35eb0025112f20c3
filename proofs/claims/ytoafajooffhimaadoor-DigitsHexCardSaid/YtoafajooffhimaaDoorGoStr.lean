/- Strings by laws: joined, compared, cut, gone through rune by rune. -/
import Derived.Test.YtoafajooffhimaaDoorStrT
import Derived.Test.YtoafajooffhimaaDoorGoLH
import Derived.Lib.OthersKept
import Derived.Laws.RangeString
import Derived.RangeFuncRecord
import Derived.RangeFuncBox
namespace Go.Proofs.YtoafajooffhimaaDoor
open Go Go.RowKit Go.MapKept
set_option linter.unusedVariables false
set_option linter.unusedSectionVars false
set_option linter.unusedSimpArgs false

theorem holds.putIter {w : World} {l : List HProp} {b : Nat} {o : Obj} (o' : Obj) (h : holds w (blk b o :: l)) : holds (w.putObj b o') (blk b o' :: l) := h.turn (grownBy_putObj' w b o') (World.putObj_heap_same h.lt)
class StrT (P : Program) (t : TypeId) : Prop where
  ok : P.underlying t = some .string
section
variable {P : Program} {n : Nat} {Q : Exit → Act → World → Prop} {env : Env} {F : List HProp} {ops : Array Oper} {rest : List Oper} {d : Tmp} {ty xT yT : TypeId} {pos : String} {aft : Array Edge} {x y : Operand} {l m : List UInt8}
theorem bs_data (l : List UInt8) : (bs l).data.toList = l := by simp [bs]
theorem Runs.strAdd (hx : opnd env x = some (.string (bs l))) (hy : opnd env y = some (.string (bs m))) (h : l.length + m.length ≤ 9223372036854775807) : Runs P n env F (.binOp .add xT x y yT) (.string (bs (l ++ m))) := .mk fun a w ty pos aft g d hf hw => by
  have h1 : ¬ ((((bs l).size + (bs m).size : Nat) : Int) > IntKind.i64.max) := by rw [bs_size, bs_size, show IntKind.i64.max = 9223372036854775807 from rfl]; omega
  simp [execOp, hf.eval hx, hf.eval hy, eqGuard, binOp, Op.stringOp, Result.andThen]
  rw [if_neg (by simpa using h1)]
  simp [bs_append]
theorem Runs.strEq (hx : opnd env x = some (.string (bs l))) (hy : opnd env y = some (.string (bs m))) : Runs P n env F (.binOp .eql xT x y yT) (.bool (decide (l = m))) := .mk fun a w ty pos aft g d hf hw => by
  simp [execOp, hf.eval hx, hf.eval hy, eqGuard, binOp, Op.stringOp, Result.andThen, bs_toList]
  rw [Bool.eq_iff_iff]; simp
theorem Runs.strNe (hx : opnd env x = some (.string (bs l))) (hy : opnd env y = some (.string (bs m))) : Runs P n env F (.binOp .neq xT x y yT) (.bool (decide (l ≠ m))) := .mk fun a w ty pos aft g d hf hw => by
  simp [execOp, hf.eval hx, hf.eval hy, eqGuard, binOp, Op.stringOp, Result.andThen, bs_toList]
  rw [Bool.eq_iff_iff]; simp
theorem Runs.strLen {t : TypeId} [ht : StrT P t] (hx : opnd env x = some (.string (bs l))) : Runs P n env F (.call { callee := .builtin .len, args := #[x], argTypes := #[t] }) (.int .i64 l.length) := .mk fun a w ty pos aft g d hf hw => by
  simp [execOp, resolve, invoke, builtin, hf.eval hx, Builtin.len_, run_underlying ht.ok, Result.andThen, bs_size, goInt]
theorem Runs.strAt [ht : StrT P xT] {i : Int} {k : Nat} {kk : IntKind} (hx : opnd env x = some (.string (bs l))) (hy : opnd env y = some (.int kk i)) (hi : i = (k : Int)) (hk : k < l.length) : Runs P n env F (.index xT x y) (.int .u8 (l[k].toNat : Int)) := .mk fun a w ty pos aft g d hf hw => by
  subst hi
  have h1 : (bs l)[k]? = some l[k] := by
    have h2 : k < (bs l).size := by rw [bs_size]; exact hk
    rw [getElem?_pos (bs l) k h2, bs_at]
  simp [execOp, hf.eval hx, hf.eval hy, Instr.index, asIntOf, run_underlying ht.ok, Result.andThen, h1]
theorem bs_extract (l : List UInt8) (a b : Nat) : (bs l).extract a b = bs ((l.drop a).take (b - a)) := by
  apply ByteArray.ext
  simp [bs, ByteArray.data_extract, List.extract_eq_take_drop]
theorem Runs.strCut [ht : StrT P xT] {i j : Int} {a b : Nat} {lo hi : Operand} (hx : opnd env x = some (.string (bs l))) (hlo : opnd env lo = some (.int .i64 i)) (hhi : opnd env hi = some (.int .i64 j)) (hi' : i = (a : Int)) (hj : j = (b : Int)) (hab : a ≤ b) (hb : b ≤ l.length) :
    Runs P n env F (.slice xT x (some lo) (some hi) none) (.string (bs ((l.drop a).take (b - a)))) := .mk fun ac w ty pos aft g d hf hw => by
  subst hi' hj
  simp [execOp, hf.eval hx, hf.eval hlo, hf.eval hhi, Instr.sliceAt, Instr.slice, Instr.sliceBounds, Instr.sliceBound, asIntOf, run_underlying ht.ok, Result.andThen, bs_size, hb, hab, bs_extract]
theorem Runs.strFrom [ht : StrT P xT] {i : Int} {a : Nat} {lo : Operand} (hx : opnd env x = some (.string (bs l))) (hlo : opnd env lo = some (.int .i64 i)) (hi' : i = (a : Int)) (ha : a ≤ l.length) :
    Runs P n env F (.slice xT x (some lo) none none) (.string (bs (l.drop a))) := .mk fun ac w ty pos aft g d hf hw => by
  subst hi'
  have e : (l.drop a).take (l.length - a) = l.drop a := List.take_of_length_le (by simp)
  simp [execOp, hf.eval hx, hf.eval hlo, Instr.sliceAt, Instr.slice, Instr.sliceBounds, Instr.sliceBound, asIntOf, run_underlying ht.ok, Result.andThen, bs_size, ha, bs_extract, e]
theorem Runs.strUpto [ht : StrT P xT] {j : Int} {b : Nat} {hi : Operand} (hx : opnd env x = some (.string (bs l))) (hhi : opnd env hi = some (.int .i64 j)) (hj : j = (b : Int)) (hb : b ≤ l.length) :
    Runs P n env F (.slice xT x none (some hi) none) (.string (bs (l.take b))) := .mk fun ac w ty pos aft g d hf hw => by
  subst hj
  simp [execOp, hf.eval hx, hf.eval hhi, Instr.sliceAt, Instr.slice, Instr.sliceBounds, Instr.sliceBound, asIntOf, run_underlying ht.ok, Result.andThen, bs_size, hb, bs_extract]
/-- A string's runes. -/
theorem GL.rangeStr {t : TypeId} [ht : StrT P t] (hx : opnd env x = some (.string (bs l))) (hd : Nat.blt d n = true) (h : ∀ b, GL P n ops Q rest ((d, .pointer (some ⟨b, 0, none⟩)) :: env) (blk b (.stringIter (bs l) 0) :: F)) :
    GL P n ops Q (⟨some d, .range t x, ty, pos, aft, none⟩ :: rest) env F := .mk fun a w hf hw => by
  refine wpList_plain rfl fun K hK => ?_
  unfold Oper.wp
  have hr : (execOp a.eval ⟨some d, .range t x, ty, pos, aft, none⟩).run P w = .ok (.value (.pointer (some ⟨w.heap.size, 0, none⟩))) (w.alloc (.stringIter (bs l) 0)) := by
    simp [execOp, hf.eval hx, Instr.range, run_underlying ht.ok, Result.andThen, run_newObj]
  rw [hr]
  exact hK _ _ (h _ _ _ (hf.put hd _) (hw.alloc _))
theorem decode_big (l : List UInt8) (k : Nat) (hk : k < l.length) (h : 128 ≤ l[k].toNat) : 128 ≤ (Utf8.decode (bs l) k).1 ∧ 1 ≤ (Utf8.decode (bs l) k).2 := by
  have hg : ((bs l).get! (k + 0)).toNat = l[k].toNat := by
    have h2 : k < (bs l).size := by rw [bs_size]; exact hk
    have : (bs l).get! k = l[k] := by
      show l.toArray[k]! = l[k]
      rw [getElem!_pos l.toArray k (by simpa using hk)]; exact List.getElem_toArray _
    rw [Nat.add_zero]; exact congrArg UInt8.toNat this
  unfold Utf8.decode
  simp only [hg, Utf8.runeError]
  rw [if_neg (by omega)]
  repeat' split
  all_goals (try (rename_i hh; simp only [Bool.and_eq_true, decide_eq_true_eq, ge_iff_le] at hh))
  all_goals (simp only; omega)
theorem decode_small (l : List UInt8) (k : Nat) (hk : k < l.length) (h : l[k].toNat < 128) : Utf8.decode (bs l) k = (l[k].toNat, 1) := by
  have h2 : k < (bs l).size := by rw [bs_size]; exact hk
  have := decode_ascii (bs l) k h2 (by rw [bs_at]; exact h)
  rw [bs_at] at this; exact this
/-- The next one is ASCII. -/
theorem GL.nextA {b k : Nat} {F' : List HProp} [hp : Has F (blk b (.stringIter (bs l) k)) F'] (hx : opnd env x = some (.pointer (some ⟨b, 0, none⟩))) (hd : Nat.blt d n = true) (hk : k < l.length) (ha : l[k].toNat < 128)
    (h : GL P n ops Q rest ((d, .tuple #[.bool true, .int .i64 k, .int .i32 (l[k].toNat : Int)]) :: env) (blk b (.stringIter (bs l) (k + 1)) :: F')) :
    GL P n ops Q (⟨some d, .next x true, ty, pos, aft, none⟩ :: rest) env F := .mk fun a w hf hw => by
  refine wpList_plain rfl fun K hK => ?_
  unfold Oper.wp
  have hw1 := hw.perm hp.perm
  have h2 : k < (bs l).size := by rw [bs_size]; exact hk
  have hr : (execOp a.eval ⟨some d, .next x true, ty, pos, aft, none⟩).run P w = .ok (.value (.tuple #[.bool true, .int .i64 k, .int .i32 (l[k].toNat : Int)])) (w.putObj b (.stringIter (bs l) (k + 1))) := by
    have h3 := Lib.run_next_any_at (P := P) w b (bs l) k ty hw1.get_blk h2
    rw [decode_small l k hk ha] at h3
    simp only [execOp, hf.eval hx, Sem.run_bind, Sem.run_pure, h3, Result.andThen_ok]
    rfl
  rw [hr]
  exact hK _ _ (h _ _ (hf.put hd _) (holds.putIter _ hw1))
/-- The next one is not. -/
theorem GL.nextB {b k : Nat} {F' : List HProp} [hp : Has F (blk b (.stringIter (bs l) k)) F'] (hx : opnd env x = some (.pointer (some ⟨b, 0, none⟩))) (hd : Nat.blt d n = true) (hk : k < l.length) (ha : 128 ≤ l[k].toNat)
    (h : ∀ c j : Nat, 128 ≤ c → 1 ≤ j → GL P n ops Q rest ((d, .tuple #[.bool true, .int .i64 k, .int .i32 (c : Int)]) :: env) (blk b (.stringIter (bs l) (k + j)) :: F')) :
    GL P n ops Q (⟨some d, .next x true, ty, pos, aft, none⟩ :: rest) env F := .mk fun a w hf hw => by
  refine wpList_plain rfl fun K hK => ?_
  unfold Oper.wp
  have hw1 := hw.perm hp.perm
  have h2 : k < (bs l).size := by rw [bs_size]; exact hk
  have hbig := decode_big l k hk ha
  have hr : (execOp a.eval ⟨some d, .next x true, ty, pos, aft, none⟩).run P w = .ok (.value (.tuple #[.bool true, .int .i64 k, .int .i32 ((Utf8.decode (bs l) k).1 : Int)])) (w.putObj b (.stringIter (bs l) (k + (Utf8.decode (bs l) k).2))) := by
    have h3 := Lib.run_next_any_at (P := P) w b (bs l) k ty hw1.get_blk h2
    simp only [execOp, hf.eval hx, Sem.run_bind, Sem.run_pure, h3, Result.andThen_ok]
    rfl
  rw [hr]
  exact hK _ _ (h _ _ hbig.1 hbig.2 _ _ (hf.put hd _) (holds.putIter _ hw1))
/-- There is none. -/
theorem GL.nextE {b k : Nat} {F' : List HProp} [hp : Has F (blk b (.stringIter (bs l) k)) F'] (hx : opnd env x = some (.pointer (some ⟨b, 0, none⟩))) (hd : Nat.blt d n = true) (hk : l.length ≤ k)
    (h : GL P n ops Q rest ((d, .tuple #[.bool false]) :: env) F) :
    GL P n ops Q (⟨some d, .next x true, ty, pos, aft, none⟩ :: rest) env F := .mk fun a w hf hw => by
  refine wpList_plain rfl fun K hK => ?_
  unfold Oper.wp
  have hw1 := hw.perm hp.perm
  have h2 : ¬ k < (bs l).size := by rw [bs_size]; omega
  have hr : (execOp a.eval ⟨some d, .next x true, ty, pos, aft, none⟩).run P w = .ok (.value (.tuple #[.bool false])) w := by
    have h3 := Lib.run_next_end_at (P := P) w b (bs l) k ty hw1.get_blk h2
    simp only [execOp, hf.eval hx, Sem.run_bind, Sem.run_pure, h3, Result.andThen_ok]
  rw [hr]
  exact hK _ _ (h _ _ (hf.put hd _) hw)
end
end Go.Proofs.YtoafajooffhimaaDoor
