/- The last contracts of the reference of chapter 6. -/
import Derived.Test.YtfiggkbclldccaaGreatRef06B
namespace Go.Proofs.YtfiggkbclldccaaGreat
open Go Go.RowKit Go.MapKept
set_option maxRecDepth 100000
set_option linter.unusedVariables false
set_option linter.unusedSimpArgs false
attribute [local go_sem] exactUpon looseUpon

theorem results_cell_row_tmp06 {P : Program} {fn : Func} {p u : Tmp} {ty : TypeId} (h : fn.results = #[.cell p ty, .tmp u]) (tmps : Array Value) (w : World) (g : Nat) (t : TypeId) (cs : Array Value) (fr : Nat × Nat) (d : TypeDesc) (e : Value)
    (hp : tmps.getD p undef = .pointer (some ⟨g, 0, none⟩)) (he : tmps.getD u undef = e) (hg : w.heap[g]? = some (.cells cs t fr))
    (hu : P.underlying ty = some d) (hd : (match d with | .struct _ | .array _ _ => true | _ => false) = true) (hi : (P.info? ty).map (·.size) = some cs.size) :
    (results fn tmps).run P w = .ok (.tuple #[.agg cs, e]) w := by
  have hp' : tmps[p]?.getD undef = .pointer (some ⟨g, 0, none⟩) := by simpa using hp
  have he' : tmps[u]?.getD undef = e := by simpa using he
  simp [results, h, hp', he', asAddr, run_loadVar_row w g t ty cs fr d hg hu hd hi]
theorem results_cell_row_tmp3 {P : Program} {fn : Func} {p u1 u2 u3 : Tmp} {ty : TypeId} (h : fn.results = #[.cell p ty, .tmp u1, .tmp u2, .tmp u3]) (tmps : Array Value) (w : World) (g : Nat) (t : TypeId) (cs : Array Value) (fr : Nat × Nat) (d : TypeDesc) (e1 e2 e3 : Value)
    (hp : tmps.getD p undef = .pointer (some ⟨g, 0, none⟩)) (he1 : tmps.getD u1 undef = e1) (he2 : tmps.getD u2 undef = e2) (he3 : tmps.getD u3 undef = e3) (hg : w.heap[g]? = some (.cells cs t fr))
    (hu : P.underlying ty = some d) (hd : (match d with | .struct _ | .array _ _ => true | _ => false) = true) (hi : (P.info? ty).map (·.size) = some cs.size) :
    (results fn tmps).run P w = .ok (.tuple #[.agg cs, e1, e2, e3]) w := by
  have hp' : tmps[p]?.getD undef = .pointer (some ⟨g, 0, none⟩) := by simpa using hp
  have he1' : tmps[u1]?.getD undef = e1 := by simpa using he1
  have he2' : tmps[u2]?.getD undef = e2 := by simpa using he2
  have he3' : tmps[u3]?.getD undef = e3 := by simpa using he3
  simp [results, h, hp', he1', he2', he3', asAddr, run_loadVar_row w g t ty cs fr d hg hu hd hi]

theorem ref06_New (w : World) (n : Nat) (F : List HProp) (hn : n ≤ 1048576) (hw : holds w F) :
    Calls Tryz.prog 177 #[.int .i64 n] w fun e w' => ∃ vo vg, e = .returned (.agg #[vo, vg, .slice none 0 0, .int .i64 0]) ∧ holds w' (roBools vo (List.replicate n false) :: roInts vg (List.replicate n 0) :: F) := by
  obtain ⟨i0, hi, hz0, hz1, hz2⟩ := info_parts Tryz.infoInt
  obtain ⟨j0, ji, jz0, jz1, jz2⟩ := info_parts Tryz.infoBool
  have hm1 : ∀ w : World, (Instr.makeSlice 28 (.int .i64 n) (.int .i64 n)).run Tryz.prog w = .ok (.slice (some ⟨w.heap.size, 0, none⟩) n n) (w.alloc (.cells (madeCells #[.int .i64 0] n) 3)) := fun w => by
    have h := (run_make_sl (w := w) (l := []) (P := Tryz.prog) (t := 28) Tryz.underlying28 hi hz0 hz1 (holds.start w).tail .i64 .i64 (x := n) (c := n) (by omega) (by omega) (by rw [hz2]; omega) (by omega)).1
    have e : (Value.int .i64 0).cells = #[.int .i64 0] := rfl
    simpa [e] using h
  have hm2 : ∀ w : World, (Instr.makeSlice 27 (.int .i64 n) (.int .i64 n)).run Tryz.prog w = .ok (.slice (some ⟨w.heap.size, 0, none⟩) n n) (w.alloc (.cells (madeCells #[.bool false] n) 4)) := fun w => by
    have h := (run_make_sl (w := w) (l := []) (P := Tryz.prog) (t := 27) Tryz.underlying27 ji jz0 jz1 (holds.start w).tail .i64 .i64 (x := n) (c := n) (by omega) (by omega) (by rw [jz2]; omega) (by omega)).1
    have e : (Value.bool false).cells = #[.bool false] := rfl
    simpa [e] using h
  clear hi hz0 hz1 hz2 ji jz0 jz1 jz2
  have H1 := fun (w : World) (G : List HProp) (h : holds w G) => h.madeInts n (by unfold maxLen; omega)
  have H2 := fun (w : World) (G : List HProp) (h : holds w G) => h.madeBools n (by unfold maxLen; omega)
  go_enter Tryz.func177, Tryz.ntmps177
  go_wp2
  go_region
  all_goals go_wp2
  · have q := (H1 _ _ (H2 _ _ (hw.alloc (.cells #[.slice (some ⟨w.heap.size + 1, 0, none⟩) n n, .slice (some ⟨w.heap.size + 1 + 1, 0, none⟩) n n, .slice none 0 0, .int .i64 0] 30 (0, 0))))).drew
    simp only [World.size_alloc] at q
    have q : holds _ (blk w.heap.size (.cells #[.slice (some ⟨w.heap.size + 1, 0, none⟩) n n, .slice (some ⟨w.heap.size + 1 + 1, 0, none⟩) n n, .slice none 0 0, .int .i64 0] 30 (0, 0)) :: ownBools (.slice (some ⟨w.heap.size + 1, 0, none⟩) n n) (List.replicate n false) :: ownInts (.slice (some ⟨w.heap.size + 1 + 1, 0, none⟩) n n) (List.replicate n 0) :: F) := q.sel 3 [2, 1, 0]
    refine bodyPost_ret (v := .agg #[.slice (some ⟨w.heap.size + 1, 0, none⟩) n n, .slice (some ⟨w.heap.size + 1 + 1, 0, none⟩) n n, .slice none 0 0, .int .i64 0]) ?_ rfl ⟨_, _, rfl, ?_⟩
    · exact results_cell_row Tryz.results177 _ _ w.heap.size _ _ _ _ rfl q.get_blk Tryz.underlying30 rfl Tryz.size06
    · have r : holds _ (_ :: _ :: F) := q.tail.shareBools.sel 2 [1, 0]
      exact r.shareInts.sel 2 [1, 0]
  · have q := (H2 _ _ (H1 _ _ (hw.alloc (.cells #[.slice (some ⟨w.heap.size + 1 + 1, 0, none⟩) n n, .slice (some ⟨w.heap.size + 1, 0, none⟩) n n, .slice none 0 0, .int .i64 0] 30 (0, 0))))).drew
    simp only [World.size_alloc] at q
    have q : holds _ (blk w.heap.size (.cells #[.slice (some ⟨w.heap.size + 1 + 1, 0, none⟩) n n, .slice (some ⟨w.heap.size + 1, 0, none⟩) n n, .slice none 0 0, .int .i64 0] 30 (0, 0)) :: ownBools (.slice (some ⟨w.heap.size + 1 + 1, 0, none⟩) n n) (List.replicate n false) :: ownInts (.slice (some ⟨w.heap.size + 1, 0, none⟩) n n) (List.replicate n 0) :: F) := q.sel 3 [2, 0, 1]
    refine bodyPost_ret (v := .agg #[.slice (some ⟨w.heap.size + 1 + 1, 0, none⟩) n n, .slice (some ⟨w.heap.size + 1, 0, none⟩) n n, .slice none 0 0, .int .i64 0]) ?_ rfl ⟨_, _, rfl, ?_⟩
    · exact results_cell_row Tryz.results177 _ _ w.heap.size _ _ _ _ rfl q.get_blk Tryz.underlying30 rfl Tryz.size06
    · have r : holds _ (_ :: _ :: F) := q.tail.shareBools.sel 2 [1, 0]
      exact r.shareInts.sel 2 [1, 0]

/-- A prefix of a row for reading. -/
theorem holds.takeInts {w : World} {F : List HProp} {a : Option Addr} {n c : Nat} {l : List Int} (h : holds w (roInts (.slice a n c) l :: F)) (k : Nat) (hk : k ≤ l.length) : holds w (roInts (.slice a k c) (l.take k) :: F) := by
  refine h.mono fun f ⟨hl, a', cap, e, hc, hx⟩ => ?_
  cases e
  refine ⟨by simp [ints], a, c, by rw [List.length_take, Nat.min_eq_left hk], by rw [List.length_take]; omega, ?_⟩
  rcases hx with h0 | ⟨g, off, cur, et, fz, e, hget, hsz, hcur⟩
  · left; rw [List.length_take]; omega
  · refine .inr ⟨g, off, cur, et, fz, e, hget, by rw [List.length_take]; omega, ?_⟩
    have := congrArg (List.take k) hcur
    rw [List.take_take] at this
    rw [List.length_take, show min k l.length * 1 = min k (l.length * 1) by omega, this]
    simp [ints, List.map_take]

theorem ref06_Close_no (w : World) (vo vg : Value) (a4 : Option Addr) (n4 c4 : Nat) (O : List Bool) (G : List Int) (fr : Int) (p g : Int) (F : List HProp) (hO : O.length ≤ 1048576) (hOG : O.length = G.length) (hr : sRight O G p g = false) (hw : holds w (roBools vo O :: roInts vg G :: F)) :
    Calls Tryz.prog 188 #[.agg #[vo, vg, .slice a4 n4 c4, .int .i64 fr], .int .i64 p, .int .i64 g] w fun e w' => e = .returned (.tuple #[.agg #[vo, vg, .slice a4 n4 c4, .int .i64 fr], .bool false]) ∧ holds w' (roBools vo O :: roInts vg G :: F) := by
  obtain ⟨a, cap, rfl, hcap⟩ := roBools_form hw
  obtain ⟨a2, cap2, rfl, hcap2⟩ := roInts_form (hw.pick 1)
  have hb := (hw.alloc (.cells #[.slice a O.length cap, .slice a2 G.length cap2, .slice a4 n4 c4, .int .i64 fr] 30 (0, 0))).alloc (.cells #[.slice none 0 0, .slice none 0 0, .slice none 0 0, .int .i64 0] 30 (0, 0))
  rw [World.size_alloc] at hb
  have H := Lib.hid (fun w F h => ref06_Right w (.slice a O.length cap) (.slice a2 G.length cap2) a4 n4 c4 O G fr p g F hO hOG h)
  have HR := Lib.hid hr
  clear hr hOG
  go_enter Tryz.func188, Tryz.ntmps188
  go_wp2_with fail
  refine (H.out _ _ (hb.sel 4 [2, 3, 0, 1])).mono ?_
  rw [HR.out]
  rintro e w1 ⟨rfl, h1⟩
  have h2 : holds w1 (blk (w.heap.size + 1) (.cells #[.slice none 0 0, .slice none 0 0, .slice none 0 0, .int .i64 0] 30 (0, 0)) :: blk w.heap.size (.cells #[.slice a O.length cap, .slice a2 G.length cap2, .slice a4 n4 c4, .int .i64 fr] 30 (0, 0)) :: roBools (.slice a O.length cap) O :: roInts (.slice a2 G.length cap2) G :: F) := h1.sel 4 [2, 3, 0, 1]
  clear h1
  have b := (h2.pick 1).get_blk
  have b0 := cellAt b 0
  have b1 := cellAt b 1
  have b2 := cellAt b 2
  have b3 := cellAt b 3
  have r := h2.get_blk
  have r0 := cellAt r 0
  have r1 := cellAt r 1
  have r2 := cellAt r 2
  have r3 := cellAt r 3
  have f0 := frozen_of_row w1 (w.heap.size + 1) 0 _ _ r
  have f1 := frozen_of_row w1 (w.heap.size + 1) 1 _ _ r
  have f2 := frozen_of_row w1 (w.heap.size + 1) 2 _ _ r
  have f3 := frozen_of_row w1 (w.heap.size + 1) 3 _ _ r
  clear b r
  simp only [List.getElem?_toArray, List.getElem?_cons_succ, List.getElem?_cons_zero] at b0 b1 b2 b3 r0 r1 r2 r3
  go_wp2_with fail
  have h9 : holds _ (blk (w.heap.size + 1) (.cells #[.slice a O.length cap, .slice a2 G.length cap2, .slice a4 n4 c4, .int .i64 fr] 30 (0, 0)) :: roBools (.slice a O.length cap) O :: roInts (.slice a2 G.length cap2) G :: F) := store4 (h2.sel 4 [0, 2, 3]) (.slice a O.length cap) (.slice a2 G.length cap2) (.slice a4 n4 c4) (.int .i64 fr)
  refine bodyPost_ret (v := .tuple #[.agg #[.slice a O.length cap, .slice a2 G.length cap2, .slice a4 n4 c4, .int .i64 fr], .bool false]) ?_ rfl ⟨rfl, h9.tail⟩
  exact results_cell_row_tmp06 Tryz.results188 _ _ (w.heap.size + 1) _ _ _ _ _ rfl rfl h9.get_blk Tryz.underlying30 rfl Tryz.size06
end Go.Proofs.YtfiggkbclldccaaGreat
