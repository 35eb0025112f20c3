/- Drawn regions that append and store: slices whose form is told. -/
import Derived.Test.YtlniadnlomnlaaaGoWc
import Derived.Test.YtlniadnlomnlaaaGoWm
namespace Go.Proofs.Ytlniadnlomnlaaa
open Go Go.RowKit Go.MapKept
set_option linter.unusedVariables false
set_option linter.unusedSectionVars false
set_option linter.unusedSimpArgs false

def IsSlc (u : Value) : Prop := ∃ a k c, u = .slice a k c
theorem IsSlc.defd {u : Value} (h : IsSlc u) : isUndef u = false := by obtain ⟨_, _, _, rfl⟩ := h; rfl
theorem owns_isSlc {α : Type} {T : TypeId} {enc : α → List Value} {m : Nat} {v : Value} {l : List α} {w : World} {G : List HProp} (h : holds w (owns T enc m v l :: G)) : IsSlc v := by
  rcases (holds.open_own h).2 with ⟨rfl, _⟩ | ⟨g, cap, cur, rfl, _⟩ <;> exact ⟨_, _, _, rfl⟩
structure SlV where
  a : Option Addr
  n : Nat
  c : Nat
@[reducible] def SlV.v (s : SlV) : Value := .slice s.a s.n s.c
theorem owns_SlV {α : Type} {T : TypeId} {enc : α → List Value} {m : Nat} {v : Value} {l : List α} {w : World} {G : List HProp} (h : holds w (owns T enc m v l :: G)) : ∃ s : SlV, v = s.v := by
  obtain ⟨a, k, c, rfl⟩ := owns_isSlc h
  exact ⟨⟨a, k, c⟩, rfl⟩
section
variable {P : Program} {n : Nat} {env : Env} {F T L : List HProp} {op : Op}
theorem DoesW.ofDoes {piece : Value → HProp} (h : Does P n env (L ++ F) T op piece) (hp : ∀ u w G, holds w (piece u :: G) → IsSlc u) : DoesW P n env F T L op IsSlc piece := ⟨fun a w F' ty pos aft g d hf hw => by
  have h1 := h.out a w F' ty pos aft g d hf (by simpa using hw)
  revert h1
  generalize (execOp a.eval ⟨d, op, ty, pos, aft, g⟩).run P w = r
  intro h1
  cases r with
  | halt x w1 => exact h1
  | ok x w1 =>
    cases x with
    | value u => exact ⟨hp _ _ _ h1.2, by simpa using h1.2⟩
    | skip => exact ⟨hp _ _ _ h1.2, by simpa using h1.2⟩
    | enter f args => exact h1.mono fun e w2 ⟨u, he, h2⟩ => ⟨u, he, hp _ _ _ h2.2, by simpa using h2.2⟩
    | _ => exact h1⟩
theorem DoesW.append {α : Type} {t e : TypeId} {size bytes m : Nat} {z v u : Value} {x y : Operand} {enc : α → List Value} {l ys : List α} [ht : SliceT P t e size] [hz : ZeroT P e z size bytes] [he : Enc enc m] (hm : m = size) (hx : opnd env x = some v) (hy : opnd env y = some u)
    (hlen : (l.length + ys.length) * bytes ≤ 140737488355328) (hl63 : l.length + ys.length ≤ 140737488355328) :
    DoesW P n env F [owns e enc m v l, owns e enc m u ys] L (.call { callee := .builtin .append, args := #[x, y], argTypes := #[t, t] }) IsSlc (fun r => owns e enc m r (l ++ ys)) :=
  .ofDoes (Does.append hm hx hy hlen hl63) fun u w G h => owns_isSlc h
theorem DoesW.buildOne {α : Type} {t e : TypeId} {size bytes m : Nat} {z v : Value} {x : Operand} {enc : α → List Value} (y : α) [ht : SliceT P t e size] [hz : ZeroT P e z size bytes] [he : Enc enc m] (hm : m = size) (hsz : size ≤ 16777216) (hx : opnd env x = some v) (hv : v.cells.toList = enc y) :
    DoesW P n env F [] L (.buildSlice t 1 #[(0, x)]) IsSlc (fun u => owns e enc m u [y]) :=
  .ofDoes (Does.build1 y hm hsz hx hv) fun u w G h => owns_isSlc h
end
end Go.Proofs.Ytlniadnlomnlaaa
