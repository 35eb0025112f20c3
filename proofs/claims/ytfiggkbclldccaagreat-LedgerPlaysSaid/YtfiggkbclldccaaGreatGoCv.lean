/- A call through a function value that takes a piece wherever it stands. -/
import Derived.Test.YtfiggkbclldccaaGreatGoLH
import Derived.Test.YtfiggkbclldccaaGreatGoDraw
namespace Go.Proofs.YtfiggkbclldccaaGreat
open Go Go.RowKit Go.MapKept
section
variable {P : Program} {n d : Nat} {Q : Exit → Act → World → Prop} {env : Env} {F : List HProp} {ops : Array Oper} {rest : List Oper} {ty : TypeId} {pos : String} {aft : Array Edge}
theorem GL.callVH1 {x : Operand} {f : FuncId} {first captured : List Value} {xs : List Operand} {ts : Array TypeId} {vs : List Value} {v : Value} {F0 F' : List HProp} (X : HProp) [hX : Has F X F0] [ho : Own P f] (hf : opnd env x = some (.func (.func f) first.toArray captured.toArray)) (hx : opnds env xs = some vs) (hd : Nat.blt d n = true)
    (hc : ∀ w, holds w (X :: F0) → Ct P f (first ++ vs ++ captured).toArray w fun e w' => e = .returned v ∧ holds w' F') (h : GL P n ops Q rest ((d, v) :: env) F') :
    GL P n ops Q (⟨some d, .call { callee := .value x, args := xs.toArray, argTypes := ts }, ty, pos, aft, none⟩ :: rest) env F :=
  GL.callV1 hf hx hd (fun w hw => hc w (hw.perm hX.perm)) h
/-- Where paths meet again, in a state that is told by more than its values. -/
theorem G.joinX {Q' : Exit → Act → World → Prop} {c c' : Code} {α : Type} (e : α → Env) (F' : α → List HProp) (I : α → Prop) (k : (∀ x, I x → G P n c' Q' (e x) (F' x)) → G P n c Q env F) (h : ∀ x, I x → G P n c' Q' (e x) (F' x)) : G P n c Q env F := k h
end
end Go.Proofs.YtfiggkbclldccaaGreat
