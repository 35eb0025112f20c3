/- Slices of strings as arguments. -/
import Derived.Test.YtpkohkkkbnfigaaDoorArgsG
import Derived.Test.YtpkohkkkbnfigaaDoorDgL
namespace Go.Proofs.YtpkohkkkbnfigaaDoor
open Go Go.RowKit Go.MapKept Go.ChangeShapes Go.WideShapes Go.Deep Go.Joins
set_option linter.unusedVariables false
set_option maxRecDepth 100000
section
variable {H : Type} {enc0 : TypeId × Value → H} {W : World} {sp : Nat → Bool} {held : Bool}
theorem el_str (n : Nat) (cs : List Value) (x : DataW H × List MemPlace) (h : DataW.trod enc0 Tryd.prog W 0 sp held n 9 cs = some x) : ∃ a : List UInt8, True ∧ cs = encS a := by
  obtain ⟨v1, c1, rfl, ⟨s, rfl, _⟩, rfl⟩ := ckind_ok 5 _ [.str] (by kernel_rfl) n cs x h
  exact ⟨s.data.toList, trivial, by unfold encS; rw [bs_back]⟩
end
end Go.Proofs.YtpkohkkkbnfigaaDoor
