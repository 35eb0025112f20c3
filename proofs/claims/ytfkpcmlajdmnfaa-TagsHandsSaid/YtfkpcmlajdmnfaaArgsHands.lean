/- Slices of arrays of two ints as a law's argument. -/
import Derived.Test.YtfkpcmlajdmnfaaArgs
import Derived.Test.YtfkpcmlajdmnfaaPairs
import Derived.OpenShut
namespace Go.Proofs.Ytfkpcmlajdmnfaa
open Go Go.RowKit Go.MapKept Go.ChangeShapes Go.WideShapes Go.Deep Go.Joins
set_option maxRecDepth 100000

theorem Try.cellsHands : Try.prog.cellsOf 116 = 2 := by kernel_rfl
theorem Try.cellsIntH : Try.prog.cellsOf 3 = 1 := by kernel_rfl

section
variable {H : Type} {enc0 : TypeId × Value → H} {W : World} {r : Reach} {b0 : Nat} {sp : Nat → Bool} {held : Bool}
theorem trod_hands (n : Nat) (cs : List Value) (x : DataW H × List MemPlace) (h : DataW.trod enc0 Try.prog W 0 sp held n 116 cs = some x) : ∃ c, pairWf c ∧ cs = pairCells c := by
  obtain ⟨xs, m, _, _, hl, hx, hf⟩ := DataW.trod_array Try.underlying116 h
  rw [Try.cellsHands] at hl
  rw [Try.cellsIntH] at hf
  match cs, hl, xs, hx with
  | [x, y], _, [p, q], _ =>
    obtain ⟨a0, e0, _, w0⟩ := DataW.trod_int Try.underlying3 (by simpa using hf 0 (by omega))
    obtain ⟨a1, e1, _, w1⟩ := DataW.trod_int Try.underlying3 (by simpa using hf 1 (by omega))
    simp only [List.cons.injEq, and_true] at e0 e1
    subst e0 e1
    exact ⟨⟨a0, a1⟩, ⟨w0, w1⟩, rfl⟩

theorem arg_hands {v : Value} {d : DataW H} {p : List MemPlace} (hv : Value.okWide Try.prog W r b0 113 v) (h : DataW.Trod enc0 Try.prog W 0 sp held 113 v d p) :
    ∃ l : List (Int × Int), (∀ c ∈ l, pairWf c) ∧ l.length ≤ maxLen ∧ ∀ (w : World) (F : List HProp), holds w (allOf W :: F) → holds w (roPairs v l :: allOf W :: F) :=
  arg_slice pairCells 2 pairWf (by omega) (fun _ => rfl) Try.underlying113 Try.cellsHands hv h trod_hands
end
end Go.Proofs.Ytfkpcmlajdmnfaa
