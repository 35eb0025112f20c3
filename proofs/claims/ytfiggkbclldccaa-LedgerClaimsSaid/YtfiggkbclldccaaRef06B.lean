/- More contracts of the reference of chapter 6. -/
import Derived.Test.YtfiggkbclldccaaRef06
namespace Go.Proofs.Ytfiggkbclldccaa
open Go Go.RowKit Go.MapKept
set_option maxRecDepth 100000
set_option linter.unusedVariables false
set_option linter.unusedSimpArgs false
attribute [local go_sem] exactUpon looseUpon

def sRight (O : List Bool) (G : List Int) (p g : Int) : Bool := decide (0 ≤ p ∧ p < O.length) && (O.getD p.toNat false && G.getD p.toNat 0 == g)


/-- The places that are open, rising. -/
def openTo (O : List Bool) (k : Nat) : List Int := ((List.range k).filter fun i => O.getD i false).map fun (i : Nat) => (i : Int)
theorem openTo_succ (O : List Bool) (k : Nat) : openTo O (k + 1) = openTo O k ++ (if O.getD k false then [(k : Int)] else []) := by
  unfold openTo
  rw [List.range_succ, List.filter_append, List.map_append]
  congr 1
  cases h : O.getD k false
  · rw [List.filter_cons_of_neg (by simp only [h]; decide)]; rfl
  · rw [List.filter_cons_of_pos (by simp only [h])]; rfl
theorem openTo_len (O : List Bool) (k : Nat) : (openTo O k).length ≤ k := by
  unfold openTo
  rw [List.length_map]
  exact Nat.le_trans (List.length_filter_le _ _) (by simp)

end Go.Proofs.Ytfiggkbclldccaa
