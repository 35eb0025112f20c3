/- Arguments of chapter 41's laws. -/
import Derived.Test.YtlniadnlomnlaaaArgsG
import Derived.Test.YtlniadnlomnlaaaLvL
namespace Go.Proofs.Ytlniadnlomnlaaa
open Go Go.RowKit Go.MapKept Go.ChangeShapes Go.WideShapes Go.Deep Go.Joins
set_option linter.unusedVariables false
set_option maxRecDepth 100000

section
variable {H : Type} {enc0 : TypeId × Value → H} {W : World} {sp : Nat → Bool} {held : Bool}
theorem el_lact (n : Nat) (cs : List Value) (x : DataW H × List MemPlace) (h : DataW.trod enc0 Try.prog W 0 sp held n 30 cs = some x) : ∃ a : LActM, True ∧ cs = encLAct a := by
  obtain ⟨v0, c0, rfl, ⟨a0, rfl⟩, v1, c1, rfl, ⟨a1, rfl, _⟩, v2, c2, rfl, ⟨a2, rfl, _⟩, v3, c3, rfl, ⟨a3, rfl, _⟩, v4, c4, rfl, ⟨a4, rfl, _⟩, v5, c5, rfl, ⟨a5, rfl, _⟩, rfl⟩ := ckind_ok 5 _ [.bool, .int .i64, .int .i64, .int .i64, .int .i64, .int .i64] (by kernel_rfl) n cs x h
  exact ⟨⟨a0, a1, a2, a3, a4, a5⟩, trivial, rfl⟩
theorem el_laid (n : Nat) (cs : List Value) (x : DataW H × List MemPlace) (h : DataW.trod enc0 Try.prog W 0 sp held n 28 cs = some x) : ∃ a : LaidM, True ∧ cs = encLaid a := by
  obtain ⟨v1, c1, rfl, ⟨a1, rfl, _⟩, v2, c2, rfl, ⟨a2, rfl, _⟩, v3, c3, rfl, ⟨a3, rfl, _⟩, v4, c4, rfl, ⟨a4, rfl, _⟩, v5, c5, rfl, ⟨a5, rfl, _⟩, rfl⟩ := ckind_ok 5 _ [.int .i64, .int .i64, .int .i64, .int .i64, .int .i64] (by kernel_rfl) n cs x h
  exact ⟨⟨a1, a2, a3, a4, a5⟩, trivial, rfl⟩
end
end Go.Proofs.Ytlniadnlomnlaaa
