/- Contracts of the reference of chapter 27: Open, Close, Do. -/
import Derived.Test.YtfiggkbclldccaaGreatRef27
namespace Go.Proofs.YtfiggkbclldccaaGreat
open Go Go.RowKit Go.MapKept
set_option maxRecDepth 100000
set_option linter.unusedVariables false
set_option maxHeartbeats 1000000
attribute [local go_sem] exactUpon looseUpon

theorem dupRS {w : World} {F : List HProp} {vo vg vc : Value} {O : List Bool} {G C : List Int} (h : holds w (roBools vo O :: roInts vg G :: roInts vc C :: F)) : holds w (roBools vo O :: roInts vg G :: roInts vc C :: roBools vo O :: roInts vg G :: roInts vc C :: F) := by
  have h1 : holds w (roBools vo O :: roBools vo O :: roInts vg G :: roInts vc C :: F) := holds.dupRow h
  have h2 : holds w (roInts vg G :: roInts vg G :: roBools vo O :: roBools vo O :: roInts vc C :: F) := holds.dupInts (h1.order [2, 0, 1])
  have h3 : holds w (roInts vc C :: roInts vc C :: roInts vg G :: roInts vg G :: roBools vo O :: roBools vo O :: F) := holds.dupInts (h2.order [4, 0, 1, 2, 3])
  exact h3.order [4, 2, 0, 5, 3, 1]
structure AccsM where
  s : SlotsM
  A : List AcM
def Accs.open (t : AccsM) (claim : Int) : AccsM × Int × Int × Int :=
  if (Acct.new claim).2 ≠ 0 then (t, 0, 0, (Acct.new claim).2) else if t.s.told.2.2 then (⟨t.s.opened, t.A.set t.s.told.1.toNat (Acct.new claim).1⟩, t.s.told.1, t.s.told.2.1, 0) else (t, 0, 0, 10)
def Accs.close (t : AccsM) (p g : Int) : AccsM × Int :=
  if (Accs.get t.s t.A p g).2 ≠ 0 then (t, (Accs.get t.s t.A p g).2) else if 0 < (Accs.get t.s t.A p g).1.held ∨ 0 < (Accs.get t.s t.A p g).1.credits then (t, 11) else (⟨t.s.closeAt p, t.A.set p.toNat ac0⟩, 0)
def Accs.act (t : AccsM) (c p g n : Int) : AccsM × Int :=
  if c < 1 ∨ 4 < c then (t, 2) else if (Accs.get t.s t.A p g).2 ≠ 0 then (t, (Accs.get t.s t.A p g).2)
  else if (Acct.act c (Accs.get t.s t.A p g).1 n).2 ≠ 0 then (t, (Acct.act c (Accs.get t.s t.A p g).1 n).2) else (⟨t.s, t.A.set p.toNat (Acct.act c (Accs.get t.s t.A p g).1 n).1⟩, 0)

theorem ref27_Open (w : World) (vo vg vc vA : Value) (s : SlotsM) (k : Nat) (A : List AcM) (claim : Int) (F : List HProp) (hgd : s.Good k) (hk : k ≤ 1000) (hA : A.length = s.gens.length) (hl : A.length ≤ 1048576) (hw : holds w (roBools vo (openBools s) :: roInts vg s.gens :: roInts vc s.closed :: roAc vA A :: F)) :
    Calls Tryz.prog 85 #[tV vo vg vc s.fresh vA, .int .i64 claim] w fun e w' => ∃ vo' vg' vc' vA', e = .returned (.tuple #[tV vo' vg' vc' (Accs.open ⟨s, A⟩ claim).1.s.fresh vA', .int .i64 (Accs.open ⟨s, A⟩ claim).2.1, .int .i64 (Accs.open ⟨s, A⟩ claim).2.2.1, .int .i64 (Accs.open ⟨s, A⟩ claim).2.2.2]) ∧
      holds w' (roBools vo' (openBools (Accs.open ⟨s, A⟩ claim).1.s) :: roInts vg' (Accs.open ⟨s, A⟩ claim).1.s.gens :: roInts vc' (Accs.open ⟨s, A⟩ claim).1.s.closed :: roAc vA' (Accs.open ⟨s, A⟩ claim).1.A :: F) := by
  obtain ⟨a1, c1, rfl, _⟩ := roBools_form hw
  obtain ⟨a2, c2, rfl, _⟩ := roInts_form (hw.pick 1)
  obtain ⟨a3, c3, rfl, _⟩ := roInts_form (hw.pick 2)
  obtain ⟨a4, c4, rfl, _⟩ := roAc_form (hw.pick 3)
  have h1 := hw.alloc2 (.cells #[.slice a1 (openBools s).length c1, .slice a2 s.gens.length c2, .slice a3 s.closed.length c3, .int .i64 s.fresh, .slice a4 A.length c4] 33 (0, 0)) (.cells #[.slice none 0 0, .slice none 0 0, .slice none 0 0, .int .i64 0, .slice none 0 0] 33 (0, 0))
  have H := Lib.hid (ref26_New claim _ _ h1)
  have HO := Lib.hid hgd.opens.1
  unfold Accs.open
  simp only
  generalize Acct.new claim = r at H ⊢
  obtain ⟨x, e⟩ := r
  unfold acR acV acCells at H
  simp only at H ⊢
  by_cases h0 : e ≠ 0
  · rw [if_pos h0]
    have hb2 : (e != 0) = true := by simpa using h0
    clear h0 hA HO hgd
    unfold tV
    go_enter Tryz.func85, Tryz.ntmps85
    go_wp2_with fail
    refine H.out.mono ?_
    rintro e1 w1 ⟨rfl, h2⟩
    have h3 : holds _ (blk (w.heap.size + 1) (.cells #[.slice none 0 0, .slice none 0 0, .slice none 0 0, .int .i64 0, .slice none 0 0] 33 (0, 0)) :: blk w.heap.size (.cells #[.slice a1 (openBools s).length c1, .slice a2 s.gens.length c2, .slice a3 s.closed.length c3, .int .i64 s.fresh, .slice a4 A.length c4] 33 (0, 0)) :: roBools (.slice a1 (openBools s).length c1) (openBools s) :: roInts (.slice a2 s.gens.length c2) s.gens :: roInts (.slice a3 s.closed.length c3) s.closed :: roAc (.slice a4 A.length c4) A :: F) := (h2.alloc (.cells (acCells x) 162 (0, 0))).tail
    unfold acCells at h3
    obtain ⟨t0, t1, t2, t3, t4, -⟩ := cells5 (h3.pick 1)
    obtain ⟨r0, r1, r2, r3, r4, f0, f1, f2, f3, f4⟩ := cells5 h3
    go_wp2_with fail
    have h5 := storeT5 h3 (.slice a1 (openBools s).length c1) (.slice a2 s.gens.length c2) (.slice a3 s.closed.length c3) (.int .i64 s.fresh) (.slice a4 A.length c4)
    refine bodyPost_ret (v := .tuple #[tV (.slice a1 (openBools s).length c1) (.slice a2 s.gens.length c2) (.slice a3 s.closed.length c3) s.fresh (.slice a4 A.length c4), .int .i64 0, .int .i64 0, .int .i64 e]) ?_ rfl ⟨_, _, _, _, rfl, h5.sel 2 []⟩
    exact results_cell_row_tmp3 Tryz.results85 _ _ (w.heap.size + 1) _ _ _ _ _ _ _ rfl rfl rfl rfl h5.get_blk Tryz.underlying33 rfl Tryz.sizeT27
  · rw [if_neg h0]
    obtain rfl : e = 0 := by simpa using h0
    clear h0
    have H2 := Lib.hid (fun w F h => rs_Open w (.slice a1 (openBools s).length c1) (.slice a2 s.gens.length c2) (.slice a3 s.closed.length c3) s k F hgd hk h)
    clear hgd
    cases ht : s.told.2.2 with
    | false =>
      rw [if_neg (by simp)]
      have HN := Lib.hid (HO.out.no ht)
      have HT := Lib.hid ht
      clear ht HO hA
      unfold tV
      go_enter Tryz.func85, Tryz.ntmps85
      go_wp2_with fail
      refine H.out.mono ?_
      rintro e1 w1 ⟨rfl, h2⟩
      have h3 : holds _ (roBools (.slice a1 (openBools s).length c1) (openBools s) :: roInts (.slice a2 s.gens.length c2) s.gens :: roInts (.slice a3 s.closed.length c3) s.closed :: blk (w.heap.size + 1) (.cells #[.slice none 0 0, .slice none 0 0, .slice none 0 0, .int .i64 0, .slice none 0 0] 33 (0, 0)) :: blk w.heap.size (.cells #[.slice a1 (openBools s).length c1, .slice a2 s.gens.length c2, .slice a3 s.closed.length c3, .int .i64 s.fresh, .slice a4 A.length c4] 33 (0, 0)) :: roAc (.slice a4 A.length c4) A :: F) := (h2.alloc (.cells (acCells x) 162 (0, 0))).sel 7 [3, 4, 5, 1, 2, 6]
      unfold acCells at h3
      obtain ⟨t0, t1, t2, t3, t4, -⟩ := cells5 (h3.pick 4)
      go_wp2_with fail
      refine (H2.out _ _ (dupRS h3)).mono ?_
      rw [HN.out, HT.out]
      rintro e2 w2 ⟨vo, vg, vc, rfl, h4⟩
      obtain ⟨b1, d1, rfl, _⟩ := roBools_form h4
      obtain ⟨b2, d2, rfl, _⟩ := roInts_form (h4.pick 1)
      obtain ⟨b3, d3, rfl, _⟩ := roInts_form (h4.pick 2)
      have h5 : holds _ (blk (w.heap.size + 1) (.cells #[.slice none 0 0, .slice none 0 0, .slice none 0 0, .int .i64 0, .slice none 0 0] 33 (0, 0)) :: blk w.heap.size (.cells #[.slice a1 (openBools s).length c1, .slice a2 s.gens.length c2, .slice a3 s.closed.length c3, .int .i64 s.fresh, .slice a4 A.length c4] 33 (0, 0)) :: roBools (.slice a1 (openBools s).length c1) (openBools s) :: roInts (.slice a2 s.gens.length c2) s.gens :: roInts (.slice a3 s.closed.length c3) s.closed :: roAc (.slice a4 A.length c4) A :: F) := (h4.alloc (.cells #[.slice b1 (openBools s).length d1, .slice b2 s.gens.length d2, .slice b3 s.closed.length d3, .int .i64 s.fresh] 30 (0, 0))).sel 10 [7, 8, 4, 5, 6, 9]
      clear t0 t1 t2 t3 t4 h2 h3 h4
      obtain ⟨t0, t1, t2, t3, t4, -⟩ := cells5 (h5.pick 1)
      obtain ⟨r0, r1, r2, r3, r4, f0, f1, f2, f3, f4⟩ := cells5 h5
      go_wp2_with fail
      have h6 := storeT5 h5 (.slice a1 (openBools s).length c1) (.slice a2 s.gens.length c2) (.slice a3 s.closed.length c3) (.int .i64 s.fresh) (.slice a4 A.length c4)
      refine bodyPost_ret (v := .tuple #[tV (.slice a1 (openBools s).length c1) (.slice a2 s.gens.length c2) (.slice a3 s.closed.length c3) s.fresh (.slice a4 A.length c4), .int .i64 0, .int .i64 0, .int .i64 10]) ?_ rfl ⟨_, _, _, _, rfl, h6.sel 2 []⟩
      exact results_cell_row_tmp3 Tryz.results85 _ _ (w.heap.size + 1) _ _ _ _ _ _ _ rfl rfl rfl rfl h6.get_blk Tryz.underlying33 rfl Tryz.sizeT27
    | true =>
      rw [if_pos rfl]
      obtain ⟨p0, p1, -⟩ := HO.out.yes ht
      have hgl := HO.out.gens
      obtain ⟨p, hp⟩ := Int.eq_ofNat_of_zero_le p0
      rw [hp] at p1
      have hpA : p < A.length := by omega
      generalize hS : s.opened = s' at H2 hgl ⊢
      generalize hT : s.told = told at H2 hp ht ⊢
      obtain ⟨pl, gn, ok⟩ := told
      simp only at hp ht H2 ⊢
      subst hp ht
      rw [Int.toNat_natCast]
      clear hS hT HO p0 p1 hA hgl
      unfold tV
      go_enter Tryz.func85, Tryz.ntmps85
      go_wp2_with fail
      refine H.out.mono ?_
      rintro e1 w1 ⟨rfl, h2⟩
      have h3 : holds _ (roBools (.slice a1 (openBools s).length c1) (openBools s) :: roInts (.slice a2 s.gens.length c2) s.gens :: roInts (.slice a3 s.closed.length c3) s.closed :: blk w1.heap.size (.cells (acCells x) 162 (0, 0)) :: blk (w.heap.size + 1) (.cells #[.slice none 0 0, .slice none 0 0, .slice none 0 0, .int .i64 0, .slice none 0 0] 33 (0, 0)) :: blk w.heap.size (.cells #[.slice a1 (openBools s).length c1, .slice a2 s.gens.length c2, .slice a3 s.closed.length c3, .int .i64 s.fresh, .slice a4 A.length c4] 33 (0, 0)) :: roAc (.slice a4 A.length c4) A :: F) := (h2.alloc (.cells (acCells x) 162 (0, 0))).order [3, 4, 5, 0, 1, 2]
      unfold acCells at h3
      obtain ⟨t0, t1, t2, t3, t4, -⟩ := cells5 (h3.pick 5)
      go_wp2_with fail
      refine (H2.out _ _ h3).mono ?_
      rintro e2 w2 ⟨vo, vg, vc, rfl, h4⟩
      obtain ⟨b1, d1, rfl, _⟩ := roBools_form h4
      obtain ⟨b2, d2, rfl, _⟩ := roInts_form (h4.pick 1)
      obtain ⟨b3, d3, rfl, _⟩ := roInts_form (h4.pick 2)
      have h5 := h4.alloc (.cells #[.slice b1 (openBools s').length d1, .slice b2 s'.gens.length d2, .slice b3 s'.closed.length d3, .int .i64 s'.fresh] 30 (0, 0))
      clear t0 t1 t2 t3 t4 h2 h3 h4
      have n0 := cellAt h5.get_blk 0
      have n1 := cellAt h5.get_blk 1
      have n2 := cellAt h5.get_blk 2
      have n3 := cellAt h5.get_blk 3
      simp only [List.getElem?_toArray, List.getElem?_cons_succ, List.getElem?_cons_zero] at n0 n1 n2 n3
      have h6 := h5.pick 6
      go_wp2_with (refine wpList_store_sl rfl rfl _ _ _ rfl (off := 0) (.agg #[.slice b1 (openBools s').length d1, .slice b2 s'.gens.length d2, .slice b3 s'.closed.length d3, .int .i64 s'.fresh]) rfl rfl Tryz.size06 (by simp [Value.cells, Value.oneCell']) h6 (by simp [Value.cells]) ?_; clear n0 n1 n2 n3; intro w4 h7; have h7 : holds w4 (blk w.heap.size (.cells #[.slice b1 (openBools s').length d1, .slice b2 s'.gens.length d2, .slice b3 s'.closed.length d3, .int .i64 s'.fresh, .slice a4 A.length c4] 33 (0, 0)) :: blk w2.heap.size _ :: roBools (.slice b1 (openBools s').length d1) (openBools s') :: roInts (.slice b2 s'.gens.length d2) s'.gens :: roInts (.slice b3 s'.closed.length d3) s'.closed :: blk w1.heap.size _ :: blk (w.heap.size + 1) (.cells #[.slice none 0 0, .slice none 0 0, .slice none 0 0, .int .i64 0, .slice none 0 0] 33 (0, 0)) :: roAc (.slice a4 A.length c4) A :: F) := h7; obtain ⟨t0, t1, t2, t3, t4, -⟩ := cells5 h7; obtain ⟨x0, x1, x2, -⟩ := ac_cells (a := x) (h7.pick 5); have h7 : holds w4 (roAc (.slice a4 A.length c4) A :: blk (w.heap.size + 1) (.cells #[.slice none 0 0, .slice none 0 0, .slice none 0 0, .int .i64 0, .slice none 0 0] 33 (0, 0)) :: roBools (.slice b1 (openBools s').length d1) (openBools s') :: roInts (.slice b2 s'.gens.length d2) s'.gens :: roInts (.slice b3 s'.closed.length d3) s'.closed :: F) := h7.sel 8 [7, 6, 2, 3, 4])
      refine (ref27_put _ b1 b2 b3 _ d1 _ d2 _ d3 s'.fresh _ A p x _ hl hpA h7).mono ?_
      rintro e3 w3 ⟨vA, rfl, h8⟩
      obtain ⟨b4, d4, rfl, _⟩ := roAc_form h8
      simp only [List.length_set] at h8 ⊢
      unfold tV
      obtain ⟨r0, r1, r2, r3, r4, f0, f1, f2, f3, f4⟩ := cells5 (h8.pick 1)
      go_wp2_with fail
      have h9 := storeT5 (h8.pick 1) (.slice b1 (openBools s').length d1) (.slice b2 s'.gens.length d2) (.slice b3 s'.closed.length d3) (.int .i64 s'.fresh) (.slice b4 A.length d4)
      have h10 : holds _ (blk _ _ :: roAc _ (A.set p x) :: roBools (.slice b1 (openBools s').length d1) (openBools s') :: roInts (.slice b2 s'.gens.length d2) s'.gens :: roInts (.slice b3 s'.closed.length d3) s'.closed :: F) := h9
      refine bodyPost_ret (v := .tuple #[tV (.slice b1 (openBools s').length d1) (.slice b2 s'.gens.length d2) (.slice b3 s'.closed.length d3) s'.fresh (.slice b4 A.length d4), .int .i64 p, .int .i64 gn, .int .i64 0]) ?_ rfl ⟨_, _, _, _, rfl, h10.sel 5 [2, 3, 4, 1]⟩
      exact results_cell_row_tmp3 Tryz.results85 _ _ (w.heap.size + 1) _ _ _ _ _ _ _ rfl rfl rfl rfl h9.get_blk Tryz.underlying33 rfl Tryz.sizeT27
end Go.Proofs.YtfiggkbclldccaaGreat
