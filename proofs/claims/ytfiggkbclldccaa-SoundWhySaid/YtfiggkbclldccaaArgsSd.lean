/- Arguments of chapter 49's laws: states. -/
import Derived.Test.YtfiggkbclldccaaArgsG
import Derived.Test.YtfiggkbclldccaaArgsChunk
import Derived.Test.YtfiggkbclldccaaSdP
namespace Go.Proofs.Ytfiggkbclldccaa
open Go Go.RowKit Go.MapKept Go.ChangeShapes Go.WideShapes Go.Deep Go.Joins
set_option linter.unusedVariables false
set_option maxRecDepth 100000

section
variable {H : Type} {enc0 : TypeId × Value → H} {W : World} {r : Reach} {b0 : Nat} {sp : Nat → Bool} {held : Bool}
theorem wf_R64 {a : Int} (h : (Lit.int .i64 a).wf = true) : R64 a := by
  have h1 := wf_i64 h
  exact ⟨h1.1, by omega⟩
theorem el_ticket (n : Nat) (cs : List Value) (x : DataW H × List MemPlace) (h : DataW.trod enc0 Try.prog W 0 sp held n 88 cs = some x) : ∃ a : TickM, (Lit.int .i64 a.id).wf = true ∧ cs = encTk a := by
  obtain ⟨v1, c1, rfl, ⟨a1, rfl, w1⟩, v2, c2, rfl, ⟨a2, rfl, _⟩, v3, c3, rfl, ⟨a3, rfl, _⟩, v4, c4, rfl, ⟨a4, rfl, _⟩, v5, c5, rfl, ⟨a5, rfl, _⟩, rfl⟩ := ckind_ok 5 _ [.int .i64, .int .i64, .int .i64, .int .i64, .int .i64] (by kernel_rfl) n cs x h
  exact ⟨⟨a1, a2, a3, a4, a5⟩, w1, rfl⟩
theorem el_member (n : Nat) (cs : List Value) (x : DataW H × List MemPlace) (h : DataW.trod enc0 Try.prog W 0 sp held n 57 cs = some x) : ∃ a : MbM, a.acc.Fits ∧ cs = encMb a := by
  obtain ⟨v1, c1, rfl, ⟨a1, rfl, _⟩, v2, c2, rfl, ⟨a2, rfl, w2⟩, v3, c3, rfl, ⟨a3, rfl, w3⟩, v4, c4, rfl, ⟨a4, rfl, w4⟩, rfl⟩ := ckind_ok 5 _ [.int .i64, .int .i64, .int .i64, .int .i64] (by kernel_rfl) n cs x h
  exact ⟨⟨a1, ⟨a2, a3, a4⟩⟩, ⟨wf_R64 w2, wf_R64 w3, wf_R64 w4⟩, rfl⟩
theorem el_int1 (n : Nat) (cs : List Value) (x : DataW H × List MemPlace) (h : DataW.trod enc0 Try.prog W 0 sp held n 3 cs = some x) : ∃ a : Int, True ∧ cs = encI1 a := by
  obtain ⟨v1, c1, rfl, ⟨a1, rfl, _⟩, rfl⟩ := ckind_ok 5 _ [.int .i64] (by kernel_rfl) n cs x h
  exact ⟨a1, trivial, rfl⟩
theorem el_laid (n : Nat) (cs : List Value) (x : DataW H × List MemPlace) (h : DataW.trod enc0 Try.prog W 0 sp held n 71 cs = some x) : ∃ a : LaidM, True ∧ cs = encLaid a := by
  obtain ⟨v1, c1, rfl, ⟨a1, rfl, w1⟩, v2, c2, rfl, ⟨a2, rfl, _⟩, v3, c3, rfl, ⟨a3, rfl, _⟩, v4, c4, rfl, ⟨a4, rfl, _⟩, v5, c5, rfl, ⟨a5, rfl, _⟩, rfl⟩ := ckind_ok 5 _ [.int .i64, .int .i64, .int .i64, .int .i64, .int .i64] (by kernel_rfl) n cs x h
  exact ⟨⟨a1, a2, a3, a4, a5⟩, trivial, rfl⟩
theorem arg_slcv {P : Program} {t e : TypeId} {v : Value} {n : Nat} {x : DataW H × List MemPlace} (ht : P.underlying t = some (.slice e)) (h : DataW.trod enc0 P W 0 sp held n t [v] = some x) : ∃ a k c, v = .slice a k c := by
  rcases open_slice ht h with ⟨hcs, _⟩ | ⟨a, len, cap, m, k, D, Pl, hcs, _⟩
  · cases hcs; exact ⟨none, 0, 0, rfl⟩
  · cases hcs; exact ⟨some a, len, cap, rfl⟩
/-- A state that is a parameter. -/
theorem arg_state {v : Value} {d : DataW H} {p : List MemPlace} (hv : Value.okWide Try.prog W r b0 30 v) (h : DataW.Trod enc0 Try.prog W 0 sp held 30 v d p) :
    ∃ (tk : Int) (ac aw am ap al : Option Addr) (kc kw km kp kl cc cw cm cp cl : Nat) (C : List ChunkM) (Q : List Int) (M : List MbM) (T : List TickM) (L : List LaidM),
      v = .agg (st5 tk ac aw am ap al kc kw km kp kl cc cw cm cp cl) ∧ (∀ c ∈ C, (Lit.int .i64 c.owner).wf = true) ∧ (∀ m ∈ M, m.acc.Fits) ∧
      (∀ (F : List HProp) [SeesAll W F], Reads F (.slice ac kc cc) chunkCells 3 C) ∧ (∀ (F : List HProp) [SeesAll W F], Reads F (.slice aw kw cw) encI1 1 Q) ∧ (∀ (F : List HProp) [SeesAll W F], Reads F (.slice am km cm) encMb 4 M) ∧ (∀ (F : List HProp) [SeesAll W F], Reads F (.slice ap kp cp) encTk 5 T) ∧ (∀ (F : List HProp) [SeesAll W F], Reads F (.slice al kl cl) encLaid 5 L) := by
  obtain ⟨cs, rfl, ok⟩ := arg_struct Try.underlying30 (k := 7) (ks := [.int .i64, .slice 24, .slice 25, .slice 26, .slice 27, .slice 28]) (by kernel_rfl) hv h
  obtain ⟨_, _, rfl, ⟨tk, rfl, _⟩, _, _, rfl, ⟨n1, x1, t1⟩, _, _, rfl, ⟨n2, x2, t2⟩, _, _, rfl, ⟨n3, x3, t3⟩, _, _, rfl, ⟨n4, x4, t4⟩, _, _, rfl, ⟨n5, x5, t5⟩, rfl⟩ := ok
  obtain ⟨ac, kc, cc, rfl⟩ := arg_slcv Try.underlying24 t1
  obtain ⟨aw, kw, cw, rfl⟩ := arg_slcv Try.underlying25 t2
  obtain ⟨am, km, cm, rfl⟩ := arg_slcv Try.underlying26 t3
  obtain ⟨ap, kp, cp, rfl⟩ := arg_slcv Try.underlying27 t4
  obtain ⟨al, kl, cl, rfl⟩ := arg_slcv Try.underlying28 t5
  obtain ⟨C, g1, _, i1⟩ := arg_row (enc := chunkCells) chunkWf Try.underlying24 (by kernel_rfl) t1 trod_chunk
  obtain ⟨Q, _, _, i2⟩ := arg_row (enc := encI1) (fun _ => True) Try.underlying25 (by kernel_rfl) t2 el_int1
  obtain ⟨M, g3, _, i3⟩ := arg_row (enc := encMb) (fun a => a.acc.Fits) Try.underlying26 (by kernel_rfl) t3 el_member
  obtain ⟨T, _, _, i4⟩ := arg_row (enc := encTk) (fun a => (Lit.int .i64 a.id).wf = true) Try.underlying27 (by kernel_rfl) t4 el_ticket
  obtain ⟨L, _, _, i5⟩ := arg_row (enc := encLaid) (fun _ => True) Try.underlying28 (by kernel_rfl) t5 el_laid
  exact ⟨tk, ac, aw, am, ap, al, kc, kw, km, kp, kl, cc, cw, cm, cp, cl, C, Q, M, T, L, rfl, fun c hc => (g1 c hc).2.1, g3, i1, i2, i3, i4, i5⟩
end
end Go.Proofs.Ytfiggkbclldccaa
