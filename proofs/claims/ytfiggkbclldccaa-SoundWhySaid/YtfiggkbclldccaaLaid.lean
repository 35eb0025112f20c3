/- How a laid piece lies in cells. -/
import Derived.Test.YtfiggkbclldccaaGoLH
namespace Go.Proofs.Ytfiggkbclldccaa
open Go Go.RowKit Go.MapKept
set_option linter.unusedSimpArgs false
structure LaidM where
  chunk : Int
  gen : Int
  region : Int
  pos : Int
  len : Int
deriving DecidableEq
def encLaid (l : LaidM) : List Value := [.int .i64 l.chunk, .int .i64 l.gen, .int .i64 l.region, .int .i64 l.pos, .int .i64 l.len]
instance {l : LaidM} : IntsL (encLaid l) [l.chunk, l.gen, l.region, l.pos, l.len] := ⟨rfl⟩
instance : Enc encLaid 5 := ⟨fun _ => rfl, fun _ => by simp [encLaid, Value.oneCell'], by omega⟩
end Go.Proofs.Ytfiggkbclldccaa
