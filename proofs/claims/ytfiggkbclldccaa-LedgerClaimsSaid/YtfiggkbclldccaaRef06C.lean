/- The last contracts of the reference of chapter 6. -/
import Derived.Test.YtfiggkbclldccaaRef06B
namespace Go.Proofs.Ytfiggkbclldccaa
open Go Go.RowKit Go.MapKept
set_option maxRecDepth 100000
set_option linter.unusedVariables false
set_option linter.unusedSimpArgs false
attribute [local go_sem] exactUpon looseUpon

theorem results_cell_row_tmp06 {P : Program} {fn : Func} {p u : Tmp} {ty : TypeId} (h : fn.results = #[.cell p ty, .tmp u]) (tmps : Array Value) (w : World) (g : Nat) (t : TypeId) (cs : Array Value) (fr : Nat × Nat) (d : TypeDesc) (e : Value)
    (hp : tmps.getD p undef = .pointer (some ⟨g, 0, none⟩)) (he : tmps.getD u undef = e) (hg : w.heap[g]? = some (.cells cs t fr))
    (hu : P.underlying ty = some d) (hd : (match d with | .struct _ | .array _ _ => true | _ => false) = true) (hi : (P.info? ty).map (·.size) = some cs.size) :
    (results fn tmps).run P w = .ok (.tuple #[.agg cs, e]) w := by
  have hp' : tmps[p]?.getD undef = .pointer (some ⟨g, 0, none⟩) := by simpa using hp
  have he' : tmps[u]?.getD undef = e := by simpa using he
  simp [results, h, hp', he', asAddr, run_loadVar_row w g t ty cs fr d hg hu hd hi]
theorem results_cell_row_tmp3 {P : Program} {fn : Func} {p u1 u2 u3 : Tmp} {ty : TypeId} (h : fn.results = #[.cell p ty, .tmp u1, .tmp u2, .tmp u3]) (tmps : Array Value) (w : World) (g : Nat) (t : TypeId) (cs : Array Value) (fr : Nat × Nat) (d : TypeDesc) (e1 e2 e3 : Value)
    (hp : tmps.getD p undef = .pointer (some ⟨g, 0, none⟩)) (he1 : tmps.getD u1 undef = e1) (he2 : tmps.getD u2 undef = e2) (he3 : tmps.getD u3 undef = e3) (hg : w.heap[g]? = some (.cells cs t fr))
    (hu : P.underlying ty = some d) (hd : (match d with | .struct _ | .array _ _ => true | _ => false) = true) (hi : (P.info? ty).map (·.size) = some cs.size) :
    (results fn tmps).run P w = .ok (.tuple #[.agg cs, e1, e2, e3]) w := by
  have hp' : tmps[p]?.getD undef = .pointer (some ⟨g, 0, none⟩) := by simpa using hp
  have he1' : tmps[u1]?.getD undef = e1 := by simpa using he1
  have he2' : tmps[u2]?.getD undef = e2 := by simpa using he2
  have he3' : tmps[u3]?.getD undef = e3 := by simpa using he3
  simp [results, h, hp', he1', he2', he3', asAddr, run_loadVar_row w g t ty cs fr d hg hu hd hi]


/-- A prefix of a row for reading. -/
theorem holds.takeInts {w : World} {F : List HProp} {a : Option Addr} {n c : Nat} {l : List Int} (h : holds w (roInts (.slice a n c) l :: F)) (k : Nat) (hk : k ≤ l.length) : holds w (roInts (.slice a k c) (l.take k) :: F) := by
  refine h.mono fun f ⟨hl, a', cap, e, hc, hx⟩ => ?_
  cases e
  refine ⟨by simp [ints], a, c, by rw [List.length_take, Nat.min_eq_left hk], by rw [List.length_take]; omega, ?_⟩
  rcases hx with h0 | ⟨g, off, cur, et, fz, e, hget, hsz, hcur⟩
  · left; rw [List.length_take]; omega
  · refine .inr ⟨g, off, cur, et, fz, e, hget, by rw [List.length_take]; omega, ?_⟩
    have := congrArg (List.take k) hcur
    rw [List.take_take] at this
    rw [List.length_take, show min k l.length * 1 = min k (l.length * 1) by omega, this]
    simp [ints, List.map_take]

end Go.Proofs.Ytfiggkbclldccaa
