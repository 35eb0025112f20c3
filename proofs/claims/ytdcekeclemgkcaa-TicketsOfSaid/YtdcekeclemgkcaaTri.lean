/- Rows of structs of three ints, for reading. -/
import Derived.Test.YtdcekeclemgkcaaElems
namespace Go.Proofs.Ytdcekeclemgkcaa
open Go Go.RowKit Go.MapKept
set_option maxRecDepth 100000

structure TriM where
  a : Int
  b : Int
  c : Int
def triL (t : TriM) : List Value := [.int .i64 t.a, .int .i64 t.b, .int .i64 t.c]
def triV (t : TriM) : Value := .agg #[.int .i64 t.a, .int .i64 t.b, .int .i64 t.c]
theorem triL_len : ∀ t, (triL t).length = 3 := fun _ => rfl
def roTri (v : Value) (l : List TriM) : HProp := roRow 3 v l.length (l.flatMap triL)
theorem roTri_form {w : World} {F : List HProp} {v : Value} {l : List TriM} (h : holds w (roTri v l :: F)) : ∃ a cap, v = .slice a l.length cap ∧ l.length ≤ cap := (holds.roReads h).form
theorem holds.triAt {w : World} {F : List HProp} {v : Value} {l : List TriM} (hw : holds w (roTri v l :: F)) (h0 : 0 < l.length) :
    ∃ g off cap, v = .slice (some ⟨g, off, none⟩) l.length cap ∧ l.length ≤ cap ∧ ∀ (i : Nat) (hi : i < l.length), w.cell? ⟨g, off + i * 3, none⟩ = some (.int .i64 l[i].a) ∧ w.cell? ⟨g, off + i * 3 + 1, none⟩ = some (.int .i64 l[i].b) ∧ w.cell? ⟨g, off + i * 3 + 2, none⟩ = some (.int .i64 l[i].c) := by
  obtain ⟨g, off, cap, h1, h2, h4⟩ := holds.roElemAt triL_len hw h0 (by omega)
  exact ⟨g, off, cap, h1, h2, fun i hi => ⟨h4 i hi 0 (by omega), h4 i hi 1 (by omega), h4 i hi 2 (by omega)⟩⟩
end Go.Proofs.Ytdcekeclemgkcaa
