/- Calls of a ledger: how they lie. Arguments of chapter 30's laws: calls of a ledger. -/
import Derived.Test.YtfiggkbclldccaaGreatGoLH
import Derived.Test.YtfiggkbclldccaaGreatArgsG
section
namespace Go.Proofs.YtfiggkbclldccaaGreat
open Go Go.RowKit Go.MapKept
structure LgA where
  call : Int
  who : Int
  n : Int
def encLgA (a : LgA) : List Value := [.int .i64 a.call, .int .i64 a.who, .int .i64 a.n]
instance : Enc encLgA 3 := ⟨fun _ => rfl, fun _ => by simp [encLgA, Value.oneCell'], by omega⟩
end Go.Proofs.YtfiggkbclldccaaGreat
end
section
namespace Go.Proofs.YtfiggkbclldccaaGreat
open Go Go.RowKit Go.MapKept Go.ChangeShapes Go.WideShapes Go.Deep Go.Joins
set_option linter.unusedVariables false
set_option maxRecDepth 100000
section
variable {H : Type} {enc0 : TypeId × Value → H} {W : World} {sp : Nat → Bool} {held : Bool}
theorem el_lga (n : Nat) (cs : List Value) (x : DataW H × List MemPlace) (h : DataW.trod enc0 Tryz.prog W 0 sp held n 38 cs = some x) : ∃ a : LgA, (a.who < 9223372036854775808) ∧ cs = encLgA a := by
  obtain ⟨v1, c1, rfl, ⟨a1, rfl, w1⟩, v2, c2, rfl, ⟨a2, rfl, w2⟩, v3, c3, rfl, ⟨a3, rfl, w3⟩, rfl⟩ := ckind_ok 5 _ [.int .i64, .int .i64, .int .i64] (by kernel_rfl) n cs x h
  exact ⟨⟨a1, a2, a3⟩, (wf_i64 w2).2, rfl⟩
end
end Go.Proofs.YtfiggkbclldccaaGreat
end
