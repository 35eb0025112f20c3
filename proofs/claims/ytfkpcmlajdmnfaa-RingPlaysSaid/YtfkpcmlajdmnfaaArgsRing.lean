/- The calls of a ring as a law's argument. -/
import Derived.Test.YtfkpcmlajdmnfaaArgs
import Derived.Test.YtfkpcmlajdmnfaaPairs
namespace Go.Proofs.Ytfkpcmlajdmnfaa
open Go Go.RowKit Go.MapKept Go.ChangeShapes Go.WideShapes Go.Deep Go.Joins
set_option maxRecDepth 100000

theorem Try.cellsRAct : Try.prog.cellsOf 32 = 2 := by kernel_rfl

section
variable {H : Type} {enc0 : TypeId × Value → H} {W : World} {r : Reach} {b0 : Nat} {sp : Nat → Bool} {held : Bool}
theorem trod_ract (n : Nat) (cs : List Value) (x : DataW H × List MemPlace) (h : DataW.trod enc0 Try.prog W 0 sp held n 32 cs = some x) : ∃ c, pairWf c ∧ cs = pairCells c := by
  obtain ⟨hl, hf⟩ := trod_fields Try.underlying32 (by kernel_rfl) Try.cellsRAct h
  obtain ⟨n0, u0, y0, c0, t0⟩ := hf 0 _ rfl
  obtain ⟨n1, u1, y1, c1, t1⟩ := hf 1 _ rfl
  obtain ⟨a0, e0, _, w0⟩ := DataW.trod_int Try.underlying3 t0
  obtain ⟨a1, e1, _, w1⟩ := DataW.trod_int Try.underlying3 t1
  simp only [List.cons.injEq, and_true] at e0 e1
  subst e0 e1
  refine ⟨⟨a0, a1⟩, ⟨w0, w1⟩, ?_⟩
  match cs, hl with
  | [x, y], _ =>
    simp at c0 c1
    subst c0 c1
    rfl

theorem arg_racts {v : Value} {d : DataW H} {p : List MemPlace} (hv : Value.okWide Try.prog W r b0 27 v) (h : DataW.Trod enc0 Try.prog W 0 sp held 27 v d p) :
    ∃ l : List (Int × Int), (∀ c ∈ l, pairWf c) ∧ l.length ≤ maxLen ∧ ∀ (w : World) (F : List HProp), holds w (allOf W :: F) → holds w (roPairs v l :: allOf W :: F) :=
  arg_slice pairCells 2 pairWf (by omega) (fun _ => rfl) Try.underlying27 Try.cellsRAct hv h trod_ract
end
end Go.Proofs.Ytfkpcmlajdmnfaa
