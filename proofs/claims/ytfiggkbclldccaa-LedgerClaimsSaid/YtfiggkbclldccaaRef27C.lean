/- Contracts of the reference of chapter 27: Close, Do. -/
import Derived.Test.YtfiggkbclldccaaRef27B
namespace Go.Proofs.Ytfiggkbclldccaa
open Go Go.RowKit Go.MapKept
set_option maxRecDepth 100000
set_option linter.unusedVariables false
set_option maxHeartbeats 1000000
attribute [local go_sem] exactUpon looseUpon

theorem Accs.get_ok {s : SlotsM} {A : List AcM} {p g : Int} (hok : s.ok) (hA : A.length = s.gens.length) (h : (Accs.get s A p g).2 = 0) : s.right p g = true ∧ ∃ (q : Nat) (hq : q < A.length), p = q ∧ (Accs.get s A p g).1 = A[q] := by
  unfold Accs.get at *
  split at h
  · rename_i hr
    obtain ⟨_, p0, p1, _⟩ := SlotsM.right_open hok hr
    rw [if_pos hr]
    have hq : p.toNat < A.length := by omega
    exact ⟨hr, p.toNat, hq, by omega, by simp [hq]⟩
  · cases h


end Go.Proofs.Ytfiggkbclldccaa
