/- Chunks as a law's arguments. -/
import Derived.Test.YtfiggkbclldccaaArgs
import Derived.Test.YtfiggkbclldccaaAuditB
namespace Go.Proofs.Ytfiggkbclldccaa
open Go Go.RowKit Go.MapKept Go.ChangeShapes Go.WideShapes Go.Deep Go.Joins

set_option maxRecDepth 100000

def chunkWf (c : ChunkM) : Prop := (Lit.int .i64 c.phase).wf = true ∧ (Lit.int .i64 c.owner).wf = true ∧ (Lit.int .i64 c.gen).wf = true
theorem Try.cellsChunk : Try.prog.cellsOf 69 = 3 := by kernel_rfl

section
variable {H : Type} {enc0 : TypeId × Value → H} {W : World} {r : Reach} {b0 : Nat} {sp : Nat → Bool} {held : Bool}
theorem trod_chunk (n : Nat) (cs : List Value) (x : DataW H × List MemPlace) (h : DataW.trod enc0 Try.prog W 0 sp held n 69 cs = some x) : ∃ c, chunkWf c ∧ cs = chunkCells c := by
  obtain ⟨hl, hf⟩ := trod_fields Try.underlying69 (by kernel_rfl) Try.cellsChunk h
  obtain ⟨n0, u0, y0, c0, t0⟩ := hf 0 _ rfl
  obtain ⟨n1, u1, y1, c1, t1⟩ := hf 1 _ rfl
  obtain ⟨n2, u2, y2, c2, t2⟩ := hf 2 _ rfl
  obtain ⟨a0, e0, _, w0⟩ := DataW.trod_int Try.underlying3 t0
  obtain ⟨a1, e1, _, w1⟩ := DataW.trod_int Try.underlying3 t1
  obtain ⟨a2, e2, _, w2⟩ := DataW.trod_int Try.underlying3 t2
  simp only [List.cons.injEq, and_true] at e0 e1 e2
  subst e0 e1 e2
  refine ⟨⟨a0, a1, a2⟩, ⟨w0, w1, w2⟩, ?_⟩
  match cs, hl with
  | [x, y, z], _ =>
    simp at c0 c1 c2
    subst c0 c1 c2
    rfl

theorem arg_chunk {v : Value} {d : DataW H} {p : List MemPlace} (hv : Value.okWide Try.prog W r b0 69 v) (h : DataW.Trod enc0 Try.prog W 0 sp held 69 v d p) : ∃ c, chunkWf c ∧ v = chunkV c := by
  obtain ⟨cs, rfl, hsz⟩ := okWide_struct Try.underlying69 hv
  obtain ⟨fuel, hf⟩ := h
  obtain ⟨c, hc, hcs⟩ := trod_chunk _ _ _ hf
  refine ⟨c, hc, ?_⟩
  have : cs.toList = chunkCells c := hcs
  unfold chunkV
  congr 1
  apply Array.ext'
  exact this

theorem arg_chunks {v : Value} {d : DataW H} {p : List MemPlace} (hv : Value.okWide Try.prog W r b0 24 v) (h : DataW.Trod enc0 Try.prog W 0 sp held 24 v d p) :
    ∃ l : List ChunkM, (∀ c ∈ l, chunkWf c) ∧ l.length ≤ maxLen ∧ ∀ (w : World) (F : List HProp), holds w (allOf W :: F) → holds w (roChunks v l :: allOf W :: F) :=
  arg_slice chunkCells 3 chunkWf (by omega) (fun _ => rfl) Try.underlying24 Try.cellsChunk hv h trod_chunk
end
end Go.Proofs.Ytfiggkbclldccaa
