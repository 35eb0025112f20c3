/- Laws of walking: a struct inside an element of a row. -/
import Derived.Test.YtpkohkkkbnfigaaDoorGoHof
namespace Go.Proofs.YtpkohkkkbnfigaaDoor
open Go Go.RowKit Go.MapKept
set_option linter.unusedVariables false
set_option linter.unusedSectionVars false
set_option linter.unusedSimpArgs false

section
variable {P : Program} {n : Nat} {Q : Exit → Act → World → Prop} {env : Env} {F : List HProp} {ops : Array Oper} {rest : List Oper} {d : Tmp} {ty : TypeId} {pos : String} {aft : Array Edge}
theorem Runs.loadRowA {α : Type} {t : TypeId} {x : Operand} {v : Value} {enc : α → List Value} {m i f size : Nat} {l : List α} {vs : List Value} [AggT P t size] [he : Enc enc m] (hx : opnd env x = some (.pointer (some ⟨rowB v, rowO v + i * m + f, none⟩))) [hr : Reads F v enc m l] (hi : i < l.length) (hu : ((enc l[i]).drop f).take size = vs) (hl : Nat.beq vs.length size = true) :
    Runs P n env F (.load t x) (.agg vs.toArray) := .mk fun a w ty pos aft g d hf hw => by
  have hl : vs.length = size := Nat.eq_of_beq_eq_true hl
  have := run_loadAgg (P := P) (t := t) (b := rowB v) (off := rowO v + i * m + f) (w := w) (vs := vs) hl fun j hj => by
    have hj' : j < vs.length := by rw [hl]; exact hj
    rw [List.getElem?_eq_getElem hj']
    have hu' : (enc l[i])[f + j]? = some vs[j] := by
      rw [← List.getElem?_eq_getElem hj', ← hu, List.getElem?_take, if_pos hj, List.getElem?_drop]
    have := reads.cellAt (hr.at_ w hw) hi hu'
    rw [← Nat.add_assoc] at this
    exact this
  simp [execOp, hf.eval hx, Instr.loadAt, Instr.sureAddr, this, Result.andThen]
/-- A call that takes the piece X, wherever it stands. -/
theorem GL.callH {f : FuncId} {xs : List Operand} {ts : Array TypeId} {vs : List Value} {α : Sort _} {v : α → Value} {F0 : List HProp} {F' : α → List HProp} (X : HProp) [hX : Has F X F0] [ho : Own P f] (hx : opnds env xs = some vs) (hd : Nat.blt d n = true)
    (hc : ∀ w, holds w (X :: F0) → Ct P f vs.toArray w fun e w' => ∃ x, e = .returned (v x) ∧ holds w' (F' x)) (h : ∀ x, GL P n ops Q rest ((d, v x) :: env) (F' x)) :
    GL P n ops Q (⟨some d, .call { callee := .value (.func f), args := xs.toArray, argTypes := ts }, ty, pos, aft, none⟩ :: rest) env F :=
  GL.call hx hd (fun w hw => hc w (hw.perm hX.perm)) h
theorem GL.callH1 {f : FuncId} {xs : List Operand} {ts : Array TypeId} {vs : List Value} {v : Value} {F0 F' : List HProp} (X : HProp) [hX : Has F X F0] [ho : Own P f] (hx : opnds env xs = some vs) (hd : Nat.blt d n = true)
    (hc : ∀ w, holds w (X :: F0) → Ct P f vs.toArray w fun e w' => e = .returned v ∧ holds w' F') (h : GL P n ops Q rest ((d, v) :: env) F') :
    GL P n ops Q (⟨some d, .call { callee := .value (.func f), args := xs.toArray, argTypes := ts }, ty, pos, aft, none⟩ :: rest) env F :=
  GL.call1 hx hd (fun w hw => hc w (hw.perm hX.perm)) h
end
end Go.Proofs.YtpkohkkkbnfigaaDoor
