/- Slices of structs of two ints, for reading. -/
import Derived.Test.YtfkpcmlajdmnfaaArgs
import Derived.Test.YtfkpcmlajdmnfaaInts
namespace Go.Proofs.Ytfkpcmlajdmnfaa
open Go Go.RowKit Go.MapKept
set_option maxRecDepth 100000

def pairCells (p : Int × Int) : List Value := [.int .i64 p.1, .int .i64 p.2]
def roPairs (v : Value) (l : List (Int × Int)) : HProp := roRow 2 v l.length (l.flatMap pairCells)
def pairWf (p : Int × Int) : Prop := (Lit.int .i64 p.1).wf = true ∧ (Lit.int .i64 p.2).wf = true
theorem flat2 : ∀ (l : List (Int × Int)) (i : Nat) (hi : i < l.length), (l.flatMap pairCells)[i * 2]? = some (.int .i64 l[i].1) ∧ (l.flatMap pairCells)[i * 2 + 1]? = some (.int .i64 l[i].2)
  | p :: l, 0, _ => by simp [pairCells]
  | p :: l, i + 1, hi => by
    have ih := flat2 l i (by simpa using hi)
    have e : ∀ j, (pairCells p ++ l.flatMap pairCells)[(i + 1) * 2 + j]? = (l.flatMap pairCells)[i * 2 + j]? := fun j => by
      rw [List.getElem?_append_right (by simp [pairCells]; omega)]
      congr 1
      simp [pairCells]; omega
    have e0 := e 0
    simp only [Nat.add_zero] at e0
    simp only [List.flatMap_cons, List.getElem_cons_succ, e0, e 1]
    exact ih
  | [], i, hi => by simp at hi
theorem roPairs_form {w : World} {F : List HProp} {v : Value} {l : List (Int × Int)} (h : holds w (roPairs v l :: F)) : ∃ a cap, v = .slice a l.length cap ∧ l.length ≤ cap := (holds.roReads h).form
theorem holds.pairAt {w : World} {F : List HProp} {v : Value} {l : List (Int × Int)} (h : holds w (roPairs v l :: F)) (h0 : 0 < l.length) :
    ∃ g off cap, v = .slice (some ⟨g, off, none⟩) l.length cap ∧ l.length ≤ cap ∧ ∀ (i : Nat) (hi : i < l.length), w.cell? ⟨g, off + i * 2, none⟩ = some (.int .i64 l[i].1) ∧ w.cell? ⟨g, off + i * 2 + 1, none⟩ = some (.int .i64 l[i].2) := by
  obtain ⟨b, off, cap, h1, h2, h3⟩ := (holds.roReads h).cells (by omega)
  refine ⟨b, off, cap, h1, h2, fun i hi => ?_⟩
  obtain ⟨f0, f1⟩ := flat2 l i hi
  rw [h3 (i * 2) (by omega), Nat.add_assoc, h3 (i * 2 + 1) (by omega)]
  exact ⟨f0, f1⟩
end Go.Proofs.Ytfkpcmlajdmnfaa
