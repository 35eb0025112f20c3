/- Loops: the slots that stay are told by their numbers alone. -/
import Derived.Test.YtpkohkkkbnfigaaDoorGoRow
namespace Go.Proofs.YtpkohkkkbnfigaaDoor
open Go Go.RowKit Go.MapKept
set_option linter.unusedVariables false
set_option linter.unusedSectionVars false
set_option linter.unusedSimpArgs false

/-- Search alone: what a slot holds. -/
class LookE (env : Env) (k : Nat) (v : outParam Value) : Prop where
  ok : True
instance (priority := 1000) LookE.here {k : Nat} {v : Value} {e : Env} : LookE ((k, v) :: e) k v := ⟨trivial⟩
instance (priority := 500) LookE.there {k j : Nat} {u v : Value} {e : Env} [LookE e k v] : LookE ((j, u) :: e) k v := ⟨trivial⟩
instance (priority := 1000) LookE.env0h {k : Nat} {v : Value} {l : List Value} : LookE (env0 k (v :: l)) k v := ⟨trivial⟩
instance (priority := 500) LookE.env0t {k j : Nat} {u v : Value} {l : List Value} [LookE (env0 (k + 1) l) j u] : LookE (env0 k (v :: l)) j u := ⟨trivial⟩
instance (priority := 400) LookE.appC {k : Nat} {v : Value} {x : Nat × Value} {l e : Env} [LookE (x :: (l ++ e)) k v] : LookE ((x :: l) ++ e) k v := ⟨trivial⟩
instance (priority := 400) LookE.appN {k : Nat} {v : Value} {e : Env} [LookE e k v] : LookE ([] ++ e) k v := ⟨trivial⟩
class PickE (l : List Nat) (env : Env) (K : outParam Env) : Prop where
  ok : True
instance PickE.nil {env : Env} : PickE [] env [] := ⟨trivial⟩
instance PickE.cons {env K : Env} {k : Nat} {l : List Nat} {v : Value} [LookE env k v] [PickE l env K] : PickE (k :: l) env ((k, v) :: K) := ⟨trivial⟩
section
variable {P : Program} {n : Nat} {Q : Exit → Act → World → Prop} {env : Env} {F : List HProp}
theorem G.loopK {c : Code} (l : List Nat) {K : Env} [PickE l env K] (α : Type) (U : α → Env) (Kp : α → List HProp) (I : α → Prop) (μ : α → Nat) (x0 : α) (hI : I x0) (hE : Sub (U x0 ++ K) env) (hK : ∀ w, holds w F → holds w (Kp x0))
    (round : ∀ x, I x → G P n c (Exit.then (fun a w => ∃ y, I y ∧ Fits n a (U y ++ K) ∧ holds w (Kp y) ∧ μ y < μ x) Q) (U x ++ K) (Kp x)) : G P n (.loop c) Q env F :=
  G.loop (fun x => U x ++ K) Kp I μ x0 hI hE hK round
end
end Go.Proofs.YtpkohkkkbnfigaaDoor
