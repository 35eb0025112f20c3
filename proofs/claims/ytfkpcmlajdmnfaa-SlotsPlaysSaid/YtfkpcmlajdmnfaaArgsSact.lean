/- The calls of slots as a law's argument: whether it closes, a place and a generation. -/
import Derived.Test.YtfkpcmlajdmnfaaArgs
import Derived.Test.YtfkpcmlajdmnfaaInts
namespace Go.Proofs.Ytfkpcmlajdmnfaa
open Go Go.RowKit Go.MapKept Go.ChangeShapes Go.WideShapes Go.Deep Go.Joins
set_option maxRecDepth 100000

def sactCells (c : Bool × Int × Int) : List Value := [.bool c.1, .int .i64 c.2.1, .int .i64 c.2.2]
def roSacts (v : Value) (l : List (Bool × Int × Int)) : HProp := roRow 3 v l.length (l.flatMap sactCells)
def sactWf (c : Bool × Int × Int) : Prop := (Lit.int .i64 c.2.1).wf = true ∧ (Lit.int .i64 c.2.2).wf = true
theorem flatSact : ∀ (l : List (Bool × Int × Int)) (i : Nat) (hi : i < l.length), (l.flatMap sactCells)[i * 3]? = some (.bool l[i].1) ∧ (l.flatMap sactCells)[i * 3 + 1]? = some (.int .i64 l[i].2.1) ∧ (l.flatMap sactCells)[i * 3 + 2]? = some (.int .i64 l[i].2.2)
  | c :: l, 0, _ => by simp [sactCells]
  | c :: l, i + 1, hi => by
    have ih := flatSact l i (by simpa using hi)
    have e : ∀ j, (sactCells c ++ l.flatMap sactCells)[(i + 1) * 3 + j]? = (l.flatMap sactCells)[i * 3 + j]? := fun j => by
      rw [List.getElem?_append_right (by simp [sactCells]; omega)]
      congr 1
      simp [sactCells]; omega
    have e0 := e 0
    simp only [Nat.add_zero] at e0
    simp only [List.flatMap_cons, List.getElem_cons_succ, e0, e 1, e 2]
    exact ih
  | [], i, hi => by simp at hi
theorem roSacts_form {w : World} {F : List HProp} {v : Value} {l : List (Bool × Int × Int)} (h : holds w (roSacts v l :: F)) : ∃ a cap, v = .slice a l.length cap ∧ l.length ≤ cap := (holds.roReads h).form
theorem holds.sactAt {w : World} {F : List HProp} {v : Value} {l : List (Bool × Int × Int)} (h : holds w (roSacts v l :: F)) (h0 : 0 < l.length) :
    ∃ g off cap, v = .slice (some ⟨g, off, none⟩) l.length cap ∧ l.length ≤ cap ∧ ∀ (i : Nat) (hi : i < l.length), w.cell? ⟨g, off + i * 3, none⟩ = some (.bool l[i].1) ∧ w.cell? ⟨g, off + i * 3 + 1, none⟩ = some (.int .i64 l[i].2.1) ∧ w.cell? ⟨g, off + i * 3 + 2, none⟩ = some (.int .i64 l[i].2.2) := by
  obtain ⟨b, off, cap, h1, h2, h3⟩ := (holds.roReads h).cells (by omega)
  refine ⟨b, off, cap, h1, h2, fun i hi => ?_⟩
  obtain ⟨f0, f1, f2⟩ := flatSact l i hi
  rw [h3 (i * 3) (by omega), Nat.add_assoc, h3 (i * 3 + 1) (by omega), Nat.add_assoc, h3 (i * 3 + 2) (by omega)]
  exact ⟨f0, f1, f2⟩

theorem Try.cellsSAct : Try.prog.cellsOf 100 = 3 := by kernel_rfl

section
variable {H : Type} {enc0 : TypeId × Value → H} {W : World} {r : Reach} {b0 : Nat} {sp : Nat → Bool} {held : Bool}
theorem trod_sact (n : Nat) (cs : List Value) (x : DataW H × List MemPlace) (h : DataW.trod enc0 Try.prog W 0 sp held n 100 cs = some x) : ∃ c, sactWf c ∧ cs = sactCells c := by
  obtain ⟨hl, hf⟩ := trod_fields Try.underlying100 (by kernel_rfl) Try.cellsSAct h
  obtain ⟨n0, u0, y0, c0, t0⟩ := hf 0 _ rfl
  obtain ⟨n1, u1, y1, c1, t1⟩ := hf 1 _ rfl
  obtain ⟨n2, u2, y2, c2, t2⟩ := hf 2 _ rfl
  obtain ⟨a0, e0, _⟩ := DataW.trod_bool Try.underlying4 t0
  obtain ⟨a1, e1, _, w1⟩ := DataW.trod_int Try.underlying3 t1
  obtain ⟨a2, e2, _, w2⟩ := DataW.trod_int Try.underlying3 t2
  simp only [List.cons.injEq, and_true] at e0 e1 e2
  subst e0 e1 e2
  refine ⟨⟨a0, a1, a2⟩, ⟨w1, w2⟩, ?_⟩
  match cs, hl with
  | [x, y, z], _ =>
    simp at c0 c1 c2
    subst c0 c1 c2
    rfl

theorem arg_sacts {v : Value} {d : DataW H} {p : List MemPlace} (hv : Value.okWide Try.prog W r b0 92 v) (h : DataW.Trod enc0 Try.prog W 0 sp held 92 v d p) :
    ∃ l : List (Bool × Int × Int), (∀ c ∈ l, sactWf c) ∧ l.length ≤ maxLen ∧ ∀ (w : World) (F : List HProp), holds w (allOf W :: F) → holds w (roSacts v l :: allOf W :: F) :=
  arg_slice sactCells 3 sactWf (by omega) (fun _ => rfl) Try.underlying92 Try.cellsSAct hv h trod_sact
end
end Go.Proofs.Ytfkpcmlajdmnfaa
