/- Drawn regions told state by state: guards that are known, calls. -/
import Derived.Test.YtlniadnlomnlaaaGoWr
import Derived.Test.YtlniadnlomnlaaaGoRow
namespace Go.Proofs.Ytlniadnlomnlaaa
open Go Go.RowKit Go.MapKept
set_option linter.unusedVariables false
set_option linter.unusedSectionVars false
set_option linter.unusedSimpArgs false

section
variable {P : Program} {n : Nat} {ops : Array Oper} {Q : Exit → Act → World → Prop} {env : Env} {F : List HProp} {Z : Act → Prop} {k : Nat} {rest : List Oper} {d : Tmp} {ty : TypeId} {pos : String} {aft : Array Edge} {E : List Wff} {V : List (Nat × List Nat)}
theorem GW.guardY {op : Op} {dst : Option Tmp} {j : Nat} {want : Bool} {dj : Tmp} (hj : (ops[j]?).bind (·.dst) = some dj) (hb : look env dj = some (.bool want)) (h : GW P n ops E V F Z k (⟨dst, op, ty, pos, aft, none⟩ :: rest) env) :
    GW P n ops E V F Z k (⟨dst, op, ty, pos, aft, some (j, want)⟩ :: rest) env := ⟨fun a hf => by
  have h1 := h.out a hf
  have hyl : yielded ops a.tmps j = some want := by
    have := hf.at_ _ _ hb
    unfold yielded; rw [hj, Option.bind_some, this]
  unfold wpTok at h1 ⊢
  simp only [Region.wanted, hyl, beq_self_eq_true, if_true] at h1 ⊢
  exact h1⟩
theorem Runs.eqlRefl {xT yT : TypeId} {x y : Operand} {i : Int} {kk : IntKind} (hx : opnd env x = some (.int kk i)) (hy : opnd env y = some (.int kk i)) : Runs P n env F (.binOp .eql xT x y yT) (.bool true) := by
  have := Runs.eql (P := P) (n := n) (F := F) (xT := xT) (yT := yT) hx hy
  rw [decide_eq_true rfl] at this
  exact this
/-- A call that makes a row. -/
theorem DoesW.callRow {α : Type} {T' : TypeId} {enc : α → List Value} {m : Nat} {l : List α} {f : FuncId} {xs : List Operand} {ts : Array TypeId} {vs : List Value} [ho : Own P f] (hx : opnds env xs = some vs)
    (hc : ∀ w F', holds w (F ++ F') → Ct P f vs.toArray w fun e w' => ∃ u, e = .returned u ∧ holds w' (owns T' enc m u l :: (F ++ F'))) :
    DoesW P n env F [] [] (.call { callee := .value (.func f), args := xs.toArray, argTypes := ts }) NU (fun u => owns T' enc m u l) := ⟨fun a w F' ty pos aft g d hf hw => by
  have hr : (execOp a.eval ⟨d, .call { callee := .value (.func f), args := xs.toArray, argTypes := ts }, ty, pos, aft, g⟩).run P w = .ok (.enter f vs.toArray) w := by
    simp [execOp, resolve, Act.eval, Deferred.ofValue, invoke, hf.evals hx, Result.andThen]
    exact ho.run _ _
  rw [hr]
  refine (hc w F' (by simpa using hw)).out.mono fun e w' ⟨u, he, hh⟩ => ⟨u, he, owns_form hh, ?_⟩
  simpa using hh⟩
/-- A call of one value that keeps what it sees. -/
theorem DoesW.callK {L : List HProp} {f : FuncId} {xs : List Operand} {ts : Array TypeId} {vs : List Value} {v : Value} [ho : Own P f] (hx : opnds env xs = some vs)
    (hc : ∀ w F', holds w (L ++ (F ++ F')) → Ct P f vs.toArray w fun e w' => e = .returned v ∧ holds w' (L ++ (F ++ F'))) :
    DoesW P n env F [] L (.call { callee := .value (.func f), args := xs.toArray, argTypes := ts }) (fun u => u = v) (fun _ _ => True) := ⟨fun a w F' ty pos aft g d hf hw => by
  have hr : (execOp a.eval ⟨d, .call { callee := .value (.func f), args := xs.toArray, argTypes := ts }, ty, pos, aft, g⟩).run P w = .ok (.enter f vs.toArray) w := by
    simp [execOp, resolve, Act.eval, Deferred.ofValue, invoke, hf.evals hx, Result.andThen]
    exact ho.run _ _
  rw [hr]
  refine (hc w F' (by simpa using hw)).out.mono fun e w' ⟨he, hh⟩ => ⟨v, he, rfl, ?_⟩
  have h1 := (holds_sep (l := []) (m := L ++ (F ++ F'))).2 hh
  exact h1.mono (B := fun _ => True) fun _ _ => trivial⟩
/-- A slice of one, built there. -/
theorem DoesW.build1 {α : Type} {t e : TypeId} {size bytes m : Nat} {z v : Value} {x : Operand} {enc : α → List Value} (y : α) [ht : SliceT P t e size] [hz : ZeroT P e z size bytes] [he : Enc enc m] (hm : m = size) (hsz : size ≤ 16777216) (hx : opnd env x = some v) (hv : v.cells.toList = enc y) :
    DoesW P n env F [] [] (.buildSlice t 1 #[(0, x)]) NU (fun u => owns e enc m u [y]) := ⟨fun a w F' ty pos aft g d hf hw => by
  have h1 := (Does.build1 (P := P) (n := n) (env := env) (F := F) (enc := enc) (m := m) (t := t) (x := x) y hm hsz hx hv).out a w F' ty pos aft g d hf hw
  exact h1⟩
end
end Go.Proofs.Ytlniadnlomnlaaa
