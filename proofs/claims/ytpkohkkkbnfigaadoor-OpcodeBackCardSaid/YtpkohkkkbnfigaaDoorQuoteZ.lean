/- What is told in quotes is read, and what is read is told so: plain laws (as in the text Law12B). -/
import Derived.Test.YtpkohkkkbnfigaaDoorQuoteR
namespace Go.Proofs.YtpkohkkkbnfigaaDoor
open Go Go.RowKit Go.MapKept
set_option maxRecDepth 100000
set_option linter.unusedVariables false

theorem readAt_quoted (l b r : List UInt8) : readAt (b ++ (quoted l ++ r)) b.length = some (l, b.length + (quoted l).length) := by
  unfold readAt quoted
  have h1 : (b ++ (34 :: (l.flatMap one ++ [34]) ++ r))[b.length]? = some 34 := by simp
  have h2 : (b ++ (34 :: (l.flatMap one ++ [34]) ++ r)).drop (b.length + 1) = l.flatMap one ++ 34 :: r := by
    rw [List.drop_append]
    simp
  rw [Int.toNat_natCast, if_pos ⟨by omega, by simp; omega, h1⟩, h2, rd_told]
  simp
  omega
theorem wholeOf_quoted (l : List UInt8) : wholeOf (quoted l) = some l := by
  unfold wholeOf
  have := readAt_quoted l [] []
  simp only [List.nil_append, List.append_nil, List.length_nil, Nat.zero_add] at this
  rw [show ((0 : Int)) = ((([] : List UInt8).length : Nat) : Int) from rfl]
  simp only [List.length_nil]
  rw [this]
  simp
theorem readAt_back {l : List UInt8} {o : List UInt8} {m : Nat} (h : readAt l 0 = some (o, m)) : 2 ≤ m ∧ m ≤ l.length ∧ quoted o = l.take m ∧ o.length ≤ l.length := by
  unfold readAt at h
  split at h
  · rename_i hc
    obtain ⟨_, h1, h2⟩ := hc
    cases l with
    | nil => simp at h1
    | cons a t =>
      simp at h2
      subst h2
      cases hr : rd t with
      | none => simp [hr] at h
      | some p =>
        obtain ⟨o', e⟩ := p
        simp [hr] at h
        obtain ⟨rfl, rfl⟩ := h
        obtain ⟨g1, g2, g3, g4⟩ := rd_back t.length t o' e (Nat.le_refl _) hr
        refine ⟨by omega, by simp; omega, ?_, by simp; omega⟩
        unfold quoted
        rw [g1, Nat.add_comm, List.take_succ_cons]
  · cases h
theorem quoted_len (l : List UInt8) : (quoted l).length ≤ 4 * l.length + 2 := by
  have := ones_le l
  unfold quoted
  simp only [List.length_cons, List.length_append, List.length_nil]
  omega
end Go.Proofs.YtpkohkkkbnfigaaDoor
