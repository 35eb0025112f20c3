/- Contracts of the reference of chapter 27: Close, Do. -/
import Derived.Test.YtfiggkbclldccaaGreatRef27B
namespace Go.Proofs.YtfiggkbclldccaaGreat
open Go Go.RowKit Go.MapKept
set_option maxRecDepth 100000
set_option linter.unusedVariables false
set_option maxHeartbeats 1000000
attribute [local go_sem] exactUpon looseUpon

theorem Accs.get_ok {s : SlotsM} {A : List AcM} {p g : Int} (hok : s.ok) (hA : A.length = s.gens.length) (h : (Accs.get s A p g).2 = 0) : s.right p g = true ∧ ∃ (q : Nat) (hq : q < A.length), p = q ∧ (Accs.get s A p g).1 = A[q] := by
  unfold Accs.get at *
  split at h
  · rename_i hr
    obtain ⟨_, p0, p1, _⟩ := SlotsM.right_open hok hr
    rw [if_pos hr]
    have hq : p.toNat < A.length := by omega
    exact ⟨hr, p.toNat, hq, by omega, by simp [hq]⟩
  · cases h

theorem ref27_Close (w : World) (vo vg vc vA : Value) (s : SlotsM) (k : Nat) (A : List AcM) (p g : Int) (F : List HProp) (hgd : s.Good k) (hk : k ≤ 1000) (hA : A.length = s.gens.length) (hl : A.length ≤ 1048576) (hw : holds w (roBools vo (openBools s) :: roInts vg s.gens :: roInts vc s.closed :: roAc vA A :: F)) :
    Calls Tryz.prog 92 #[tV vo vg vc s.fresh vA, .int .i64 p, .int .i64 g] w fun e w' => ∃ vo' vg' vc' vA', e = .returned (.tuple #[tV vo' vg' vc' (Accs.close ⟨s, A⟩ p g).1.s.fresh vA', .int .i64 (Accs.close ⟨s, A⟩ p g).2]) ∧
      holds w' (roBools vo' (openBools (Accs.close ⟨s, A⟩ p g).1.s) :: roInts vg' (Accs.close ⟨s, A⟩ p g).1.s.gens :: roInts vc' (Accs.close ⟨s, A⟩ p g).1.s.closed :: roAc vA' (Accs.close ⟨s, A⟩ p g).1.A :: F) := by
  obtain ⟨a1, c1, rfl, _⟩ := roBools_form hw
  obtain ⟨a2, c2, rfl, _⟩ := roInts_form (hw.pick 1)
  obtain ⟨a3, c3, rfl, _⟩ := roInts_form (hw.pick 2)
  obtain ⟨a4, c4, rfl, _⟩ := roAc_form (hw.pick 3)
  have h1 : holds _ (roBools (.slice a1 (openBools s).length c1) (openBools s) :: roInts (.slice a2 s.gens.length c2) s.gens :: roInts (.slice a3 s.closed.length c3) s.closed :: roAc (.slice a4 A.length c4) A :: blk (w.heap.size + 1) (.cells #[.slice none 0 0, .slice none 0 0, .slice none 0 0, .int .i64 0, .slice none 0 0] 33 (0, 0)) :: blk w.heap.size (.cells #[.slice a1 (openBools s).length c1, .slice a2 s.gens.length c2, .slice a3 s.closed.length c3, .int .i64 s.fresh, .slice a4 A.length c4] 33 (0, 0)) :: F) := (hw.alloc2 (.cells #[.slice a1 (openBools s).length c1, .slice a2 s.gens.length c2, .slice a3 s.closed.length c3, .int .i64 s.fresh, .slice a4 A.length c4] 33 (0, 0)) (.cells #[.slice none 0 0, .slice none 0 0, .slice none 0 0, .int .i64 0, .slice none 0 0] 33 (0, 0))).order [2, 3, 4, 5, 0, 1]
  have H := Lib.hid (ref27_Get _ _ _ _ _ s A p g _ hgd.ok hA hl h1)
  have HG := Lib.hid (fun h => Accs.get_ok (p := p) (g := g) hgd.ok hA h)
  have tc := cells5 (h1.pick 5)
  unfold Accs.close
  simp only
  generalize Accs.get s A p g = r at H HG ⊢
  obtain ⟨x, e⟩ := r
  unfold acR acV acCells tV at H
  simp only at H HG ⊢
  by_cases h0 : e ≠ 0
  · rw [if_pos h0]
    have hb2 : (e != 0) = true := by simpa using h0
    clear h0 hA HG hgd
    obtain ⟨t0, t1, t2, t3, t4, -⟩ := tc
    unfold tV
    go_enter Tryz.func92, Tryz.ntmps92
    go_wp2_with fail
    refine H.out.mono ?_
    rintro e1 w1 ⟨rfl, h2⟩
    clear t0 t1 t2 t3 t4
    have h3 : holds _ (blk (w.heap.size + 1) (.cells #[.slice none 0 0, .slice none 0 0, .slice none 0 0, .int .i64 0, .slice none 0 0] 33 (0, 0)) :: blk w.heap.size (.cells #[.slice a1 (openBools s).length c1, .slice a2 s.gens.length c2, .slice a3 s.closed.length c3, .int .i64 s.fresh, .slice a4 A.length c4] 33 (0, 0)) :: roBools (.slice a1 (openBools s).length c1) (openBools s) :: roInts (.slice a2 s.gens.length c2) s.gens :: roInts (.slice a3 s.closed.length c3) s.closed :: roAc (.slice a4 A.length c4) A :: F) := (h2.alloc (.cells (acCells x) 162 (0, 0))).tail.order [4, 5, 0, 1, 2, 3]
    unfold acCells at h3
    obtain ⟨t0, t1, t2, t3, t4, -⟩ := cells5 (h3.pick 1)
    obtain ⟨r0, r1, r2, r3, r4, f0, f1, f2, f3, f4⟩ := cells5 h3
    go_wp2_with fail
    have h9 := storeT5 h3 (.slice a1 (openBools s).length c1) (.slice a2 s.gens.length c2) (.slice a3 s.closed.length c3) (.int .i64 s.fresh) (.slice a4 A.length c4)
    refine bodyPost_ret (v := .tuple #[tV (.slice a1 (openBools s).length c1) (.slice a2 s.gens.length c2) (.slice a3 s.closed.length c3) s.fresh (.slice a4 A.length c4), .int .i64 e]) ?_ rfl ⟨_, _, _, _, rfl, h9.sel 2 []⟩
    exact results_row_tmp Tryz.results92 _ _ (w.heap.size + 1) _ _ _ _ _ rfl rfl h9.get_blk Tryz.underlying33 rfl Tryz.sizeT27
  · rw [if_neg h0]
    obtain rfl : e = 0 := by simpa using h0
    obtain ⟨hr, q, hq, rfl, hx⟩ := HG.out rfl
    clear h0 HG hx
    by_cases hb : 0 < x.held ∨ 0 < x.credits
    · rw [if_pos hb]
      clear hA hgd hr
      obtain ⟨t0, t1, t2, t3, t4, -⟩ := tc
      unfold tV
      have HB := Lib.hid hb
      clear hb
      go_enter Tryz.func92, Tryz.ntmps92
      go_wp2_with fail
      refine H.out.mono ?_
      rintro e1 w1 ⟨rfl, h2⟩
      clear t0 t1 t2 t3 t4
      have h3 : holds _ (blk (w.heap.size + 1) (.cells #[.slice none 0 0, .slice none 0 0, .slice none 0 0, .int .i64 0, .slice none 0 0] 33 (0, 0)) :: blk w.heap.size (.cells #[.slice a1 (openBools s).length c1, .slice a2 s.gens.length c2, .slice a3 s.closed.length c3, .int .i64 s.fresh, .slice a4 A.length c4] 33 (0, 0)) :: blk w1.heap.size (.cells (acCells x) 162 (0, 0)) :: roBools (.slice a1 (openBools s).length c1) (openBools s) :: roInts (.slice a2 s.gens.length c2) s.gens :: roInts (.slice a3 s.closed.length c3) s.closed :: roAc (.slice a4 A.length c4) A :: F) := (h2.alloc (.cells (acCells x) 162 (0, 0))).order [5, 6, 0, 1, 2, 3, 4]
      unfold acCells at h3
      obtain ⟨x0, x1, x2, -⟩ := ac_cells (a := x) (h3.pick 2)
      by_cases hh : 0 < x.held
      · have hgt : (x.held > 0) := hh
        clear HB
        obtain ⟨t0, t1, t2, t3, t4, -⟩ := cells5 (h3.pick 1)
        obtain ⟨r0, r1, r2, r3, r4, f0, f1, f2, f3, f4⟩ := cells5 h3
        go_wp2_with fail
        have h9 := storeT5 h3 (.slice a1 (openBools s).length c1) (.slice a2 s.gens.length c2) (.slice a3 s.closed.length c3) (.int .i64 s.fresh) (.slice a4 A.length c4)
        refine bodyPost_ret (v := .tuple #[tV (.slice a1 (openBools s).length c1) (.slice a2 s.gens.length c2) (.slice a3 s.closed.length c3) s.fresh (.slice a4 A.length c4), .int .i64 11]) ?_ rfl ⟨_, _, _, _, rfl, h9.sel 3 []⟩
        exact results_row_tmp Tryz.results92 _ _ (w.heap.size + 1) _ _ _ _ _ rfl rfl h9.get_blk Tryz.underlying33 rfl Tryz.sizeT27
      · have hcr : 0 < x.credits := by have := HB.out; omega
        clear HB
        obtain ⟨t0, t1, t2, t3, t4, -⟩ := cells5 (h3.pick 1)
        obtain ⟨r0, r1, r2, r3, r4, f0, f1, f2, f3, f4⟩ := cells5 h3
        go_wp2_with fail
        have h9 := storeT5 h3 (.slice a1 (openBools s).length c1) (.slice a2 s.gens.length c2) (.slice a3 s.closed.length c3) (.int .i64 s.fresh) (.slice a4 A.length c4)
        refine bodyPost_ret (v := .tuple #[tV (.slice a1 (openBools s).length c1) (.slice a2 s.gens.length c2) (.slice a3 s.closed.length c3) s.fresh (.slice a4 A.length c4), .int .i64 11]) ?_ rfl ⟨_, _, _, _, rfl, h9.sel 3 []⟩
        exact results_row_tmp Tryz.results92 _ _ (w.heap.size + 1) _ _ _ _ _ rfl rfl h9.get_blk Tryz.underlying33 rfl Tryz.sizeT27
    · rw [if_neg hb]
      have hh : ¬ 0 < x.held := fun h => hb (.inl h)
      have hcr : ¬ 0 < x.credits := fun h => hb (.inr h)
      have H2 := Lib.hid (fun w F h => rs_Close w (.slice a1 (openBools s).length c1) (.slice a2 s.gens.length c2) (.slice a3 s.closed.length c3) s k q g F hgd hk h)
      rw [hr] at H2
      simp only [if_true] at H2
      rw [Int.toNat_natCast]
      clear hb hA hgd hr
      generalize hS : s.closeAt q = s' at H2 ⊢
      clear hS
      obtain ⟨t0, t1, t2, t3, t4, -⟩ := tc
      unfold tV
      go_enter Tryz.func92, Tryz.ntmps92
      go_wp2_with fail
      refine H.out.mono ?_
      rintro e1 w1 ⟨rfl, h2⟩
      clear t0 t1 t2 t3 t4
      have h3 : holds _ (roBools (.slice a1 (openBools s).length c1) (openBools s) :: roInts (.slice a2 s.gens.length c2) s.gens :: roInts (.slice a3 s.closed.length c3) s.closed :: blk w1.heap.size (.cells (acCells x) 162 (0, 0)) :: blk (w.heap.size + 1) (.cells #[.slice none 0 0, .slice none 0 0, .slice none 0 0, .int .i64 0, .slice none 0 0] 33 (0, 0)) :: blk w.heap.size (.cells #[.slice a1 (openBools s).length c1, .slice a2 s.gens.length c2, .slice a3 s.closed.length c3, .int .i64 s.fresh, .slice a4 A.length c4] 33 (0, 0)) :: roAc (.slice a4 A.length c4) A :: F) := (h2.alloc (.cells (acCells x) 162 (0, 0))).order [1, 2, 3, 0, 5, 6, 4]
      unfold acCells at h3
      obtain ⟨x0, x1, x2, -⟩ := ac_cells (a := x) (h3.pick 3)
      obtain ⟨t0, t1, t2, t3, t4, -⟩ := cells5 (h3.pick 5)
      go_wp2_with fail
      refine (H2.out _ _ h3).mono ?_
      rintro e2 w2 ⟨vo, vg, vc, rfl, h4⟩
      obtain ⟨b1, d1, rfl, _⟩ := roBools_form h4
      obtain ⟨b2, d2, rfl, _⟩ := roInts_form (h4.pick 1)
      obtain ⟨b3, d3, rfl, _⟩ := roInts_form (h4.pick 2)
      have h6 := h4.pick 5
      clear t0 t1 t2 t3 t4 x0 x1 x2 h2 h3
      go_wp2_with (refine wpList_store_sl rfl rfl _ _ _ rfl (off := 0) (.agg #[.slice b1 (openBools s').length d1, .slice b2 s'.gens.length d2, .slice b3 s'.closed.length d3, .int .i64 s'.fresh]) rfl rfl Tryz.size06 (by simp [Value.cells, Value.oneCell']) h6 (by simp [Value.cells]) ?_; intro w4 h7; have h7 : holds w4 (blk w.heap.size (.cells #[.slice b1 (openBools s').length d1, .slice b2 s'.gens.length d2, .slice b3 s'.closed.length d3, .int .i64 s'.fresh, .slice a4 A.length c4] 33 (0, 0)) :: roBools (.slice b1 (openBools s').length d1) (openBools s') :: roInts (.slice b2 s'.gens.length d2) s'.gens :: roInts (.slice b3 s'.closed.length d3) s'.closed :: blk w1.heap.size _ :: blk (w.heap.size + 1) (.cells #[.slice none 0 0, .slice none 0 0, .slice none 0 0, .int .i64 0, .slice none 0 0] 33 (0, 0)) :: roAc (.slice a4 A.length c4) A :: F) := h7; obtain ⟨t0, t1, t2, t3, t4, -⟩ := cells5 h7; have h7 : holds w4 (roAc (.slice a4 A.length c4) A :: blk (w.heap.size + 1) (.cells #[.slice none 0 0, .slice none 0 0, .slice none 0 0, .int .i64 0, .slice none 0 0] 33 (0, 0)) :: roBools (.slice b1 (openBools s').length d1) (openBools s') :: roInts (.slice b2 s'.gens.length d2) s'.gens :: roInts (.slice b3 s'.closed.length d3) s'.closed :: F) := h7.sel 7 [6, 5, 1, 2, 3])
      refine (ref27_put _ b1 b2 b3 _ d1 _ d2 _ d3 s'.fresh _ A q ac0 _ hl hq h7).mono ?_
      rintro e3 w3 ⟨vA, rfl, h8⟩
      obtain ⟨b4, d4, rfl, _⟩ := roAc_form h8
      simp only [List.length_set] at h8 ⊢
      unfold tV
      obtain ⟨r0, r1, r2, r3, r4, f0, f1, f2, f3, f4⟩ := cells5 (h8.pick 1)
      go_wp2_with fail
      have h9 := storeT5 (h8.pick 1) (.slice b1 (openBools s').length d1) (.slice b2 s'.gens.length d2) (.slice b3 s'.closed.length d3) (.int .i64 s'.fresh) (.slice b4 A.length d4)
      have h10 : holds _ (blk _ _ :: roAc _ (A.set q ac0) :: roBools (.slice b1 (openBools s').length d1) (openBools s') :: roInts (.slice b2 s'.gens.length d2) s'.gens :: roInts (.slice b3 s'.closed.length d3) s'.closed :: F) := h9
      refine bodyPost_ret (v := .tuple #[tV (.slice b1 (openBools s').length d1) (.slice b2 s'.gens.length d2) (.slice b3 s'.closed.length d3) s'.fresh (.slice b4 A.length d4), .int .i64 0]) ?_ rfl ⟨_, _, _, _, rfl, h10.sel 5 [2, 3, 4, 1]⟩
      exact results_row_tmp Tryz.results92 _ _ (w.heap.size + 1) _ _ _ _ _ rfl rfl h9.get_blk Tryz.underlying33 rfl Tryz.sizeT27

theorem ref27_Do (w : World) (vo vg vc vA : Value) (s : SlotsM) (A : List AcM) (c p g n : Int) (F : List HProp) (hok : s.ok) (hA : A.length = s.gens.length) (hl : A.length ≤ 1048576) (hbd : ∀ a ∈ A, acBd2 a) (hw : holds w (roBools vo (openBools s) :: roInts vg s.gens :: roInts vc s.closed :: roAc vA A :: F)) :
    Calls Tryz.prog 93 #[tV vo vg vc s.fresh vA, .int .i64 c, .int .i64 p, .int .i64 g, .int .i64 n] w fun e w' => ∃ vA', e = .returned (.tuple #[tV vo vg vc s.fresh vA', .int .i64 (Accs.act ⟨s, A⟩ c p g n).2]) ∧
      holds w' (roBools vo (openBools s) :: roInts vg s.gens :: roInts vc s.closed :: roAc vA' (Accs.act ⟨s, A⟩ c p g n).1.A :: F) := by
  obtain ⟨a1, c1, rfl, _⟩ := roBools_form hw
  obtain ⟨a2, c2, rfl, _⟩ := roInts_form (hw.pick 1)
  obtain ⟨a3, c3, rfl, _⟩ := roInts_form (hw.pick 2)
  obtain ⟨a4, c4, rfl, _⟩ := roAc_form (hw.pick 3)
  have h1 : holds _ (roBools (.slice a1 (openBools s).length c1) (openBools s) :: roInts (.slice a2 s.gens.length c2) s.gens :: roInts (.slice a3 s.closed.length c3) s.closed :: roAc (.slice a4 A.length c4) A :: blk (w.heap.size + 1) (.cells #[.slice none 0 0, .slice none 0 0, .slice none 0 0, .int .i64 0, .slice none 0 0] 33 (0, 0)) :: blk w.heap.size (.cells #[.slice a1 (openBools s).length c1, .slice a2 s.gens.length c2, .slice a3 s.closed.length c3, .int .i64 s.fresh, .slice a4 A.length c4] 33 (0, 0)) :: F) := (hw.alloc2 (.cells #[.slice a1 (openBools s).length c1, .slice a2 s.gens.length c2, .slice a3 s.closed.length c3, .int .i64 s.fresh, .slice a4 A.length c4] 33 (0, 0)) (.cells #[.slice none 0 0, .slice none 0 0, .slice none 0 0, .int .i64 0, .slice none 0 0] 33 (0, 0))).order [2, 3, 4, 5, 0, 1]
  have H := Lib.hid (ref27_Get _ _ _ _ _ s A p g _ hok hA hl h1)
  have HG := Lib.hid (fun h => Accs.get_ok (p := p) (g := g) hok hA h)
  have HBD := Lib.hid hbd
  clear hok hA hbd
  have tc := cells5 (h1.pick 5)
  unfold Accs.act
  simp only
  by_cases hc : c < 1 ∨ 4 < c
  · rw [if_pos hc]
    clear H HG HBD
    have h3 : holds _ (blk (w.heap.size + 1) (.cells #[.slice none 0 0, .slice none 0 0, .slice none 0 0, .int .i64 0, .slice none 0 0] 33 (0, 0)) :: blk w.heap.size (.cells #[.slice a1 (openBools s).length c1, .slice a2 s.gens.length c2, .slice a3 s.closed.length c3, .int .i64 s.fresh, .slice a4 A.length c4] 33 (0, 0)) :: roBools (.slice a1 (openBools s).length c1) (openBools s) :: roInts (.slice a2 s.gens.length c2) s.gens :: roInts (.slice a3 s.closed.length c3) s.closed :: roAc (.slice a4 A.length c4) A :: F) := h1.order [4, 5, 0, 1, 2, 3]
    have HC := Lib.hid hc
    clear hc tc h1
    have h4 := (hw.alloc2 (.cells #[.slice a1 (openBools s).length c1, .slice a2 s.gens.length c2, .slice a3 s.closed.length c3, .int .i64 s.fresh, .slice a4 A.length c4] 33 (0, 0)) (.cells #[.slice a1 (openBools s).length c1, .slice a2 s.gens.length c2, .slice a3 s.closed.length c3, .int .i64 s.fresh, .slice a4 A.length c4] 33 (0, 0))).tail.tail
    have h5 := hw.alloc2 (.cells #[.slice a1 (openBools s).length c1, .slice a2 s.gens.length c2, .slice a3 s.closed.length c3, .int .i64 s.fresh, .slice a4 A.length c4] 33 (0, 0)) (.cells #[.slice a1 (openBools s).length c1, .slice a2 s.gens.length c2, .slice a3 s.closed.length c3, .int .i64 s.fresh, .slice a4 A.length c4] 33 (0, 0))
    by_cases cc1 : c < 1
    · unfold tV
      go_enter Tryz.func93, Tryz.ntmps93
      go_wp2_with fail
      refine bodyPost_ret (v := .tuple #[tV (.slice a1 (openBools s).length c1) (.slice a2 s.gens.length c2) (.slice a3 s.closed.length c3) s.fresh (.slice a4 A.length c4), .int .i64 2]) ?_ rfl ⟨_, rfl, h4⟩
      exact results_row_tmp Tryz.results93 _ _ (w.heap.size + 1) _ _ _ _ _ rfl rfl h5.get_blk Tryz.underlying33 rfl Tryz.sizeT27
    · have cc2 : 4 < c := by have := HC.out; omega
      unfold tV
      go_enter Tryz.func93, Tryz.ntmps93
      go_wp2_with fail
      refine bodyPost_ret (v := .tuple #[tV (.slice a1 (openBools s).length c1) (.slice a2 s.gens.length c2) (.slice a3 s.closed.length c3) s.fresh (.slice a4 A.length c4), .int .i64 2]) ?_ rfl ⟨_, rfl, h4⟩
      exact results_row_tmp Tryz.results93 _ _ (w.heap.size + 1) _ _ _ _ _ rfl rfl h5.get_blk Tryz.underlying33 rfl Tryz.sizeT27
  rw [if_neg hc]
  have cl : ¬ c < 1 := fun h => hc (.inl h)
  have ch : ¬ 4 < c := fun h => hc (.inr h)
  clear hc
  generalize Accs.get s A p g = r at H HG ⊢
  obtain ⟨x, e⟩ := r
  unfold acR acV acCells tV at H
  simp only at H HG ⊢
  by_cases h0 : e ≠ 0
  · rw [if_pos h0]
    have hb2 : (e != 0) = true := by simpa using h0
    clear h0 HG HBD
    obtain ⟨t0, t1, t2, t3, t4, -⟩ := tc
    unfold tV
    go_enter Tryz.func93, Tryz.ntmps93
    go_wp2_with fail
    refine H.out.mono ?_
    rintro e1 w1 ⟨rfl, h2⟩
    clear t0 t1 t2 t3 t4
    have h3 : holds _ (blk (w.heap.size + 1) (.cells #[.slice none 0 0, .slice none 0 0, .slice none 0 0, .int .i64 0, .slice none 0 0] 33 (0, 0)) :: blk w.heap.size (.cells #[.slice a1 (openBools s).length c1, .slice a2 s.gens.length c2, .slice a3 s.closed.length c3, .int .i64 s.fresh, .slice a4 A.length c4] 33 (0, 0)) :: roBools (.slice a1 (openBools s).length c1) (openBools s) :: roInts (.slice a2 s.gens.length c2) s.gens :: roInts (.slice a3 s.closed.length c3) s.closed :: roAc (.slice a4 A.length c4) A :: F) := (h2.alloc (.cells (acCells x) 162 (0, 0))).tail.order [4, 5, 0, 1, 2, 3]
    unfold acCells at h3
    obtain ⟨t0, t1, t2, t3, t4, -⟩ := cells5 (h3.pick 1)
    obtain ⟨r0, r1, r2, r3, r4, f0, f1, f2, f3, f4⟩ := cells5 h3
    go_wp2_with fail
    have h9 := storeT5 h3 (.slice a1 (openBools s).length c1) (.slice a2 s.gens.length c2) (.slice a3 s.closed.length c3) (.int .i64 s.fresh) (.slice a4 A.length c4)
    refine bodyPost_ret (v := .tuple #[tV (.slice a1 (openBools s).length c1) (.slice a2 s.gens.length c2) (.slice a3 s.closed.length c3) s.fresh (.slice a4 A.length c4), .int .i64 e]) ?_ rfl ⟨_, rfl, h9.sel 2 []⟩
    exact results_row_tmp Tryz.results93 _ _ (w.heap.size + 1) _ _ _ _ _ rfl rfl h9.get_blk Tryz.underlying33 rfl Tryz.sizeT27
  · rw [if_neg h0]
    obtain rfl : e = 0 := by simpa using h0
    obtain ⟨hr, q, hq, rfl, hx⟩ := HG.out rfl
    have hbx : acBd2 x := by rw [hx]; exact HBD.out _ (List.getElem_mem hq)
    clear h0 HG hx hr HBD
    have H2 := Lib.hid (fun w F h => ref26_Do c (by omega) (by omega) x hbx n w F h)
    clear hbx
    generalize Acct.act c x n = r at H2 ⊢
    obtain ⟨y, e⟩ := r
    unfold acR acV acCells at H2
    simp only at H2 ⊢
    by_cases h0 : e ≠ 0
    · rw [if_pos h0]
      have hb2 : (e != 0) = true := by simpa using h0
      clear h0
      obtain ⟨t0, t1, t2, t3, t4, -⟩ := tc
      unfold tV
      go_enter Tryz.func93, Tryz.ntmps93
      go_wp2_with fail
      refine H.out.mono ?_
      rintro e1 w1 ⟨rfl, h2⟩
      clear t0 t1 t2 t3 t4
      have h3 := (h2.alloc (.cells (acCells x) 162 (0, 0))).tail
      unfold acCells at h3
      go_wp2_with fail
      refine (H2.out _ _ h3).mono ?_
      rintro e2 w2 ⟨rfl, h4⟩
      have h3 : holds _ (blk (w.heap.size + 1) (.cells #[.slice none 0 0, .slice none 0 0, .slice none 0 0, .int .i64 0, .slice none 0 0] 33 (0, 0)) :: blk w.heap.size (.cells #[.slice a1 (openBools s).length c1, .slice a2 s.gens.length c2, .slice a3 s.closed.length c3, .int .i64 s.fresh, .slice a4 A.length c4] 33 (0, 0)) :: roBools (.slice a1 (openBools s).length c1) (openBools s) :: roInts (.slice a2 s.gens.length c2) s.gens :: roInts (.slice a3 s.closed.length c3) s.closed :: roAc (.slice a4 A.length c4) A :: F) := (h4.alloc (.cells (acCells y) 162 (0, 0))).tail.order [4, 5, 0, 1, 2, 3]
      unfold acCells at h3
      obtain ⟨t0, t1, t2, t3, t4, -⟩ := cells5 (h3.pick 1)
      obtain ⟨r0, r1, r2, r3, r4, f0, f1, f2, f3, f4⟩ := cells5 h3
      go_wp2_with fail
      have h9 := storeT5 h3 (.slice a1 (openBools s).length c1) (.slice a2 s.gens.length c2) (.slice a3 s.closed.length c3) (.int .i64 s.fresh) (.slice a4 A.length c4)
      refine bodyPost_ret (v := .tuple #[tV (.slice a1 (openBools s).length c1) (.slice a2 s.gens.length c2) (.slice a3 s.closed.length c3) s.fresh (.slice a4 A.length c4), .int .i64 e]) ?_ rfl ⟨_, rfl, h9.sel 2 []⟩
      exact results_row_tmp Tryz.results93 _ _ (w.heap.size + 1) _ _ _ _ _ rfl rfl h9.get_blk Tryz.underlying33 rfl Tryz.sizeT27
    · rw [if_neg h0]
      obtain rfl : e = 0 := by simpa using h0
      rw [Int.toNat_natCast]
      clear h0
      obtain ⟨t0, t1, t2, t3, t4, -⟩ := tc
      unfold tV
      go_enter Tryz.func93, Tryz.ntmps93
      go_wp2_with fail
      refine H.out.mono ?_
      rintro e1 w1 ⟨rfl, h2⟩
      clear t0 t1 t2 t3 t4
      have h3 := (h2.alloc (.cells (acCells x) 162 (0, 0))).tail
      unfold acCells at h3
      go_wp2_with fail
      refine (H2.out _ _ h3).mono ?_
      rintro e2 w2 ⟨rfl, h4⟩
      have h5 : holds _ (blk w.heap.size (.cells #[.slice a1 (openBools s).length c1, .slice a2 s.gens.length c2, .slice a3 s.closed.length c3, .int .i64 s.fresh, .slice a4 A.length c4] 33 (0, 0)) :: roAc (.slice a4 A.length c4) A :: blk (w.heap.size + 1) (.cells #[.slice none 0 0, .slice none 0 0, .slice none 0 0, .int .i64 0, .slice none 0 0] 33 (0, 0)) :: roBools (.slice a1 (openBools s).length c1) (openBools s) :: roInts (.slice a2 s.gens.length c2) s.gens :: roInts (.slice a3 s.closed.length c3) s.closed :: F) := (h4.alloc (.cells (acCells y) 162 (0, 0))).tail.order [5, 3, 4, 0, 1, 2]
      unfold acCells at h5
      obtain ⟨t0, t1, t2, t3, t4, -⟩ := cells5 h5
      go_wp2_with fail
      refine (ref27_put _ a1 a2 a3 _ c1 _ c2 _ c3 s.fresh _ A q y _ hl hq h5.tail).mono ?_
      rintro e3 w3 ⟨vA, rfl, h8⟩
      obtain ⟨b4, d4, rfl, _⟩ := roAc_form h8
      simp only [List.length_set] at h8 ⊢
      unfold tV
      obtain ⟨r0, r1, r2, r3, r4, f0, f1, f2, f3, f4⟩ := cells5 (h8.pick 1)
      clear t0 t1 t2 t3 t4
      go_wp2_with fail
      have h9 := storeT5 (h8.pick 1) (.slice a1 (openBools s).length c1) (.slice a2 s.gens.length c2) (.slice a3 s.closed.length c3) (.int .i64 s.fresh) (.slice b4 A.length d4)
      have h10 : holds _ (blk _ _ :: roAc _ (A.set q y) :: roBools (.slice a1 (openBools s).length c1) (openBools s) :: roInts (.slice a2 s.gens.length c2) s.gens :: roInts (.slice a3 s.closed.length c3) s.closed :: F) := h9
      refine bodyPost_ret (v := .tuple #[tV (.slice a1 (openBools s).length c1) (.slice a2 s.gens.length c2) (.slice a3 s.closed.length c3) s.fresh (.slice b4 A.length d4), .int .i64 0]) ?_ rfl ⟨_, rfl, h10.sel 5 [2, 3, 4, 1]⟩
      exact results_row_tmp Tryz.results93 _ _ (w.heap.size + 1) _ _ _ _ _ rfl rfl h9.get_blk Tryz.underlying33 rfl Tryz.sizeT27
end Go.Proofs.YtfiggkbclldccaaGreat
