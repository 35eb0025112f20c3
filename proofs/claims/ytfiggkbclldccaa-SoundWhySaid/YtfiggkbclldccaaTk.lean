/- How a ticket lies in cells. -/
import Derived.Test.YtfiggkbclldccaaFrPl
import Derived.Test.YtfiggkbclldccaaGoMem
namespace Go.Proofs.Ytfiggkbclldccaa
open Go Go.RowKit Go.MapKept
set_option linter.unusedSimpArgs false
@[reducible] def encTk (t : TickM) : List Value := [.int .i64 t.id, .int .i64 t.client, .int .i64 t.count, .int .i64 t.state, .int .i64 t.passed]
instance : Enc encTk 5 := ⟨fun _ => rfl, fun _ => by simp [encTk, Value.oneCell'], by omega⟩
end Go.Proofs.Ytfiggkbclldccaa
