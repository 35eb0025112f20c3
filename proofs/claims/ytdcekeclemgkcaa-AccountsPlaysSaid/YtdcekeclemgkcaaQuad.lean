/- Rows of structs of four ints, for reading. -/
import Derived.Test.YtdcekeclemgkcaaElems
namespace Go.Proofs.Ytdcekeclemgkcaa
open Go Go.RowKit Go.MapKept
set_option maxRecDepth 100000

structure QuadM where
  a : Int
  b : Int
  c : Int
  d : Int
def quadL (t : QuadM) : List Value := [.int .i64 t.a, .int .i64 t.b, .int .i64 t.c, .int .i64 t.d]
def quadV (t : QuadM) : Value := .agg #[.int .i64 t.a, .int .i64 t.b, .int .i64 t.c, .int .i64 t.d]
theorem quadL_len : ∀ t, (quadL t).length = 4 := fun _ => rfl
def roQuad (v : Value) (l : List QuadM) : HProp := roRow 4 v l.length (l.flatMap quadL)
theorem roQuad_form {w : World} {F : List HProp} {v : Value} {l : List QuadM} (h : holds w (roQuad v l :: F)) : ∃ a cap, v = .slice a l.length cap ∧ l.length ≤ cap := (holds.roReads h).form
theorem holds.quadAt {w : World} {F : List HProp} {v : Value} {l : List QuadM} (hw : holds w (roQuad v l :: F)) (h0 : 0 < l.length) :
    ∃ g off cap, v = .slice (some ⟨g, off, none⟩) l.length cap ∧ l.length ≤ cap ∧ ∀ (i : Nat) (hi : i < l.length), w.cell? ⟨g, off + i * 4, none⟩ = some (.int .i64 l[i].a) ∧ w.cell? ⟨g, off + i * 4 + 1, none⟩ = some (.int .i64 l[i].b) ∧ w.cell? ⟨g, off + i * 4 + 2, none⟩ = some (.int .i64 l[i].c) ∧ w.cell? ⟨g, off + i * 4 + 3, none⟩ = some (.int .i64 l[i].d) := by
  obtain ⟨g, off, cap, h1, h2, h4⟩ := holds.roElemAt quadL_len hw h0 (by omega)
  exact ⟨g, off, cap, h1, h2, fun i hi => ⟨h4 i hi 0 (by omega), h4 i hi 1 (by omega), h4 i hi 2 (by omega), h4 i hi 3 (by omega)⟩⟩
end Go.Proofs.Ytdcekeclemgkcaa
