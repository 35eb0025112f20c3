/- Quadruples as a law's arguments. -/
import Derived.Test.YtdcekeclemgkcaaArgs
import Derived.Test.YtdcekeclemgkcaaQuad
namespace Go.Proofs.Ytdcekeclemgkcaa
open Go Go.RowKit Go.MapKept Go.ChangeShapes Go.WideShapes Go.Deep Go.Joins

set_option maxRecDepth 100000

def quadWf (c : QuadM) : Prop := (Lit.int .i64 c.a).wf = true ∧ (Lit.int .i64 c.b).wf = true ∧ (Lit.int .i64 c.c).wf = true ∧ (Lit.int .i64 c.d).wf = true
theorem Try.cellsAct : Try.prog.cellsOf 75 = 4 := by kernel_rfl

section
variable {H : Type} {enc0 : TypeId × Value → H} {W : World} {r : Reach} {b0 : Nat} {sp : Nat → Bool} {held : Bool}
theorem trod_act (n : Nat) (cs : List Value) (x : DataW H × List MemPlace) (h : DataW.trod enc0 Try.prog W 0 sp held n 75 cs = some x) : ∃ c, quadWf c ∧ cs = quadL c := by
  obtain ⟨hl, hf⟩ := trod_fields Try.underlying75 (by kernel_rfl) Try.cellsAct h
  obtain ⟨n0, u0, y0, c0, t0⟩ := hf 0 _ rfl
  obtain ⟨n1, u1, y1, c1, t1⟩ := hf 1 _ rfl
  obtain ⟨n2, u2, y2, c2, t2⟩ := hf 2 _ rfl
  obtain ⟨n3, u3, y3, c3, t3⟩ := hf 3 _ rfl
  obtain ⟨a0, e0, _, w0⟩ := DataW.trod_int Try.underlying3 t0
  obtain ⟨a1, e1, _, w1⟩ := DataW.trod_int Try.underlying3 t1
  obtain ⟨a2, e2, _, w2⟩ := DataW.trod_int Try.underlying3 t2
  obtain ⟨a3, e3, _, w3⟩ := DataW.trod_int Try.underlying3 t3
  simp only [List.cons.injEq, and_true] at e0 e1 e2 e3
  subst e0 e1 e2 e3
  refine ⟨⟨a0, a1, a2, a3⟩, ⟨w0, w1, w2, w3⟩, ?_⟩
  match cs, hl with
  | [x, y, z, u], _ =>
    simp at c0 c1 c2 c3
    subst c0 c1 c2 c3
    rfl

theorem arg_acts {v : Value} {d : DataW H} {p : List MemPlace} (hv : Value.okWide Try.prog W r b0 64 v) (h : DataW.Trod enc0 Try.prog W 0 sp held 64 v d p) :
    ∃ l : List QuadM, (∀ c ∈ l, quadWf c) ∧ l.length ≤ maxLen ∧ ∀ (w : World) (F : List HProp), holds w (allOf W :: F) → holds w (roQuad v l :: allOf W :: F) :=
  arg_slice quadL 4 quadWf (by omega) (fun _ => rfl) Try.underlying64 Try.cellsAct hv h trod_act
end
end Go.Proofs.Ytdcekeclemgkcaa
