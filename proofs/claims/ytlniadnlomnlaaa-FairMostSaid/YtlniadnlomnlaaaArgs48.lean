/- Arguments of chapter 48's laws: shots, and slices of shots. -/
import Derived.Test.YtlniadnlomnlaaaArgsG
import Derived.Test.YtlniadnlomnlaaaFrX
namespace Go.Proofs.Ytlniadnlomnlaaa
open Go Go.RowKit Go.MapKept Go.ChangeShapes Go.WideShapes Go.Deep Go.Joins
set_option linter.unusedVariables false
set_option maxRecDepth 100000

section
variable {H : Type} {enc0 : TypeId × Value → H} {W : World} {sp : Nat → Bool} {held : Bool}
def OkTk (a : TickM) : Prop := (Lit.int .i64 a.id).wf = true
theorem el_tick (n : Nat) (cs : List Value) (x : DataW H × List MemPlace) (h : DataW.trod enc0 Try.prog W 0 sp held n 72 cs = some x) : ∃ a : TickM, OkTk a ∧ cs = encTk a := by
  obtain ⟨v1, c1, rfl, ⟨a1, rfl, w1⟩, v2, c2, rfl, ⟨a2, rfl, _⟩, v3, c3, rfl, ⟨a3, rfl, _⟩, v4, c4, rfl, ⟨a4, rfl, _⟩, v5, c5, rfl, ⟨a5, rfl, _⟩, rfl⟩ := ckind_ok 5 _ [.int .i64, .int .i64, .int .i64, .int .i64, .int .i64] (by kernel_rfl) n cs x h
  exact ⟨⟨a1, a2, a3, a4, a5⟩, w1, rfl⟩
theorem el_memb (n : Nat) (cs : List Value) (x : DataW H × List MemPlace) (h : DataW.trod enc0 Try.prog W 0 sp held n 119 cs = some x) : ∃ a : MbM, True ∧ cs = encMb a := by
  obtain ⟨v1, c1, rfl, ⟨a1, rfl, _⟩, v2, c2, rfl, ⟨a2, rfl, _⟩, v3, c3, rfl, ⟨a3, rfl, _⟩, v4, c4, rfl, ⟨a4, rfl, _⟩, rfl⟩ := ckind_ok 5 _ [.int .i64, .int .i64, .int .i64, .int .i64] (by kernel_rfl) n cs x h
  exact ⟨⟨a1, ⟨a2, a3, a4⟩⟩, trivial, rfl⟩
theorem el_int (n : Nat) (cs : List Value) (x : DataW H × List MemPlace) (h : DataW.trod enc0 Try.prog W 0 sp held n 3 cs = some x) : ∃ a : Int, True ∧ cs = encI1 a := by
  obtain ⟨v1, c1, rfl, ⟨a1, rfl, _⟩, rfl⟩ := ckind_ok 5 _ [.int .i64] (by kernel_rfl) n cs x h
  exact ⟨a1, trivial, rfl⟩
theorem arg_slv {P : Program} {t e : TypeId} {v : Value} {n : Nat} {x : DataW H × List MemPlace} (ht : P.underlying t = some (.slice e)) (h : DataW.trod enc0 P W 0 sp held n t [v] = some x) : ∃ s : SlV, v = s.v := by
  rcases open_slice ht h with ⟨hcs, _⟩ | ⟨a, len, cap, m, k, D, Pl, hcs, _⟩
  · cases hcs; exact ⟨⟨none, 0, 0⟩, rfl⟩
  · cases hcs; exact ⟨⟨some a, len, cap⟩, rfl⟩
/-- What a shot's slices hold in the first world. -/
def OkSh (W : World) (a : ShV) : Prop := ∃ m : ShM, (∀ (F : List HProp) [SeesAll W F], Reads F a.p.v encTk 5 m.pend) ∧ (∀ (F : List HProp) [SeesAll W F], Reads F a.m.v encMb 4 m.ms) ∧ (∀ (F : List HProp) [SeesAll W F], Reads F a.g.v encI1 1 m.g) ∧ ∀ t ∈ m.pend, OkTk t
theorem el_shot (n : Nat) (cs : List Value) (x : DataW H × List MemPlace) (h : DataW.trod enc0 Try.prog W 0 sp held n 68 cs = some x) : ∃ a : ShV, OkSh W a ∧ cs = encSh a := by
  obtain ⟨v1, c1, rfl, ⟨n1, x1, t1⟩, v2, c2, rfl, ⟨a2, rfl, _⟩, v3, c3, rfl, ⟨a3, rfl, _⟩, v4, c4, rfl, ⟨n4, x4, t4⟩, v5, c5, rfl, ⟨n5, x5, t5⟩, rfl⟩ := ckind_ok 7 _ [.slice 64, .int .i64, .int .i64, .slice 65, .slice 66] (by kernel_rfl) n cs x h
  obtain ⟨s1, rfl⟩ := arg_slv Try.underlying64 t1
  obtain ⟨s4, rfl⟩ := arg_slv Try.underlying65 t4
  obtain ⟨s5, rfl⟩ := arg_slv Try.underlying66 t5
  obtain ⟨l1, g1, _, i1⟩ := arg_row (enc := encTk) OkTk Try.underlying64 (by kernel_rfl) t1 el_tick
  obtain ⟨l4, _, _, i4⟩ := arg_row (enc := encMb) (fun _ => True) Try.underlying65 (by kernel_rfl) t4 el_memb
  obtain ⟨l5, _, _, i5⟩ := arg_row (enc := encI1) (fun _ => True) Try.underlying66 (by kernel_rfl) t5 el_int
  exact ⟨⟨s1, a2, a3, s4, s5⟩, ⟨⟨l1, l4, l5⟩, i1, i4, i5, g1⟩, rfl⟩
theorem shots_of : ∀ (L : List ShV), (∀ a ∈ L, OkSh W a) → ∃ M : List ShM, (∀ s ∈ M, ∀ t ∈ s.pend, OkTk t) ∧ ∀ (F : List HProp) [SeesAll W F], ShR F L M
  | [], _ => ⟨[], by simp, fun F _ => ⟨rfl, fun i h => absurd h (Nat.not_lt_zero i), fun i h => absurd h (Nat.not_lt_zero i), fun i h => absurd h (Nat.not_lt_zero i)⟩⟩
  | a :: L, h => by
    obtain ⟨M, h1, h2⟩ := shots_of L fun b hb => h b (by simp [hb])
    obtain ⟨m, a1, a2, a3, a4⟩ := h a (by simp)
    refine ⟨m :: M, fun s hs => ?_, fun F hF => ⟨by simp [(h2 F).len], fun i b c => ?_, fun i b c => ?_, fun i b c => ?_⟩⟩
    · rcases List.mem_cons.1 hs with rfl | hs
      · exact a4
      · exact h1 s hs
    · cases i with
      | zero => exact a1 F
      | succ i => exact (h2 F).pend i (by simpa using b) (by simpa using c)
    · cases i with
      | zero => exact a2 F
      | succ i => exact (h2 F).ms i (by simpa using b) (by simpa using c)
    · cases i with
      | zero => exact a3 F
      | succ i => exact (h2 F).g i (by simpa using b) (by simpa using c)
end
end Go.Proofs.Ytlniadnlomnlaaa
