/- Closing, by the reference of chapter 6. -/
import Derived.Test.YtfiggkbclldccaaGreatRef06C
namespace Go.Proofs.YtfiggkbclldccaaGreat
open Go Go.RowKit Go.MapKept
set_option maxRecDepth 100000
set_option linter.unusedVariables false
set_option linter.unusedSimpArgs false
attribute [local go_sem] exactUpon looseUpon

theorem holds.intBlk2 {w : World} {F : List HProp} {a : Option Addr} {n c : Nat} {l : List Int} (h : holds w (ownInts (.slice a n c) l :: F)) (h0 : 0 < l.length) : ∃ g, a = some ⟨g, 0, none⟩ := by
  obtain ⟨g', cap, hv, _⟩ := h.intAt 0 h0
  exact ⟨g', by injection hv⟩
theorem ref06_Close_yes (w : World) (vo vg vc : Value) (O : List Bool) (G C : List Int) (fr : Int) (p : Nat) (g : Int) (F : List HProp) (hO : O.length ≤ 1048576) (hOG : O.length = G.length) (hC : C.length ≤ 1048576) (hp : p < O.length) (hg : 0 ≤ g ∧ g ≤ 1000000000) (hr : sRight O G p g = true) (hw : holds w (roBools vo O :: roInts vg G :: roInts vc C :: F)) :
    Calls Tryz.prog 188 #[.agg #[vo, vg, vc, .int .i64 fr], .int .i64 p, .int .i64 g] w fun e w' => ∃ vo' vg' vc', e = .returned (.tuple #[.agg #[vo', vg', vc', .int .i64 fr], .bool true]) ∧ holds w' (roBools vo' (O.set p false) :: roInts vg' (G.set p (g + 1)) :: roInts vc' (C ++ [(p : Int)]) :: F) := by
  obtain ⟨a, cap, rfl, hcap⟩ := roBools_form hw
  obtain ⟨a2, cap2, rfl, hcap2⟩ := roInts_form (hw.pick 1)
  obtain ⟨a4, c4, rfl, hcap4⟩ := roInts_form (hw.pick 2)
  have hb := (hw.alloc (.cells #[.slice a O.length cap, .slice a2 G.length cap2, .slice a4 C.length c4, .int .i64 fr] 30 (0, 0))).alloc (.cells #[.slice none 0 0, .slice none 0 0, .slice none 0 0, .int .i64 0] 30 (0, 0))
  rw [World.size_alloc] at hb
  have H := Lib.hid (fun w F h => ref06_Right w (.slice a O.length cap) (.slice a2 G.length cap2) a4 C.length c4 O G fr p g F hO hOG h)
  have HW := Lib.hid (fun w F h => ref06_with w (.slice a O.length cap) (.slice a2 G.length cap2) a4 C.length c4 O G fr p false F hO (by omega) hp h)
  have HR := Lib.hid hr
  have hpg : p < G.length := by omega
  have e1 : IntKind.i64.wrap (g + 1) = g + 1 := IntWalk.i64_in _ (by omega)
  clear hr hOG
  go_enter Tryz.func188, Tryz.ntmps188
  go_wp2_with fail
  refine (H.out _ _ (hb.sel 5 [2, 3, 0, 1, 4])).mono ?_
  rw [HR.out]
  rintro e w1 ⟨rfl, h1⟩
  have b := (h1.pick 3).get_blk
  have b0 := cellAt b 0
  have b1 := cellAt b 1
  have b2 := cellAt b 2
  have b3 := cellAt b 3
  clear b
  simp only [List.getElem?_toArray, List.getElem?_cons_succ, List.getElem?_cons_zero] at b0 b1 b2 b3
  go_wp2_with fail
  refine (HW.out _ _ h1).mono ?_
  rintro e w2 ⟨vo', vg', rfl, h2⟩
  clear b0 b1 b2 b3
  obtain ⟨a5, c5, rfl⟩ := ownBools_form h2
  obtain ⟨a6, c6, rfl⟩ := ownInts_form (h2.pick 1)
  rw [List.length_set] at h2 ⊢
  obtain ⟨g6, hg6⟩ := (h2.pick 1).intBlk2 (by omega)
  subst hg6
  have h3 : holds _ (ownInts (.slice (some ⟨g6, 0, none⟩) G.length c6) G :: blk w2.heap.size (.cells #[.slice a5 O.length c5, .slice (some ⟨g6, 0, none⟩) G.length c6, .slice a4 C.length c4, .int .i64 fr] 30 (0, 0)) :: blk (w.heap.size + 1) (.cells #[.slice none 0 0, .slice none 0 0, .slice none 0 0, .int .i64 0] 30 (0, 0)) :: blk w.heap.size (.cells #[.slice a O.length cap, .slice a2 G.length cap2, .slice a4 C.length c4, .int .i64 fr] 30 (0, 0)) :: roInts (.slice a4 C.length c4) C :: ownBools (.slice a5 O.length c5) (O.set p false) :: F) := (h2.alloc (.cells #[.slice a5 O.length c5, .slice (some ⟨g6, 0, none⟩) G.length c6, .slice a4 C.length c4, .int .i64 fr] 30 (0, 0))).sel 8 [2, 0, 5, 6, 7, 1]
  clear h1 h2
  go_wp2_with (first
    | (refine wpList_setInt rfl rfl _ _ rfl (i := p) (y := g + 1) rfl rfl h3 hpg ?_
       clear h3
       intro w4 h4
       have h4e := h4.emptyInts
       have hr := holds.roReads (h4e.pick 5)
       have b2 := cellAt (h4e.pick 4).get_blk 2
       simp only [List.getElem?_toArray, List.getElem?_cons_succ, List.getElem?_cons_zero] at b2)
    | (at_builtin
       refine wpList_appendInts (l := []) (m := C) rfl _ _ rfl rfl h4e rfl hr (by simp; omega) ?_
       clear hr b2 h4e h4
       intro v5 w5 h5)
    | (at_builtin
       refine wpList_appendInt (nb := w5.heap.size) rfl _ _ rfl rfl ((h5.alloc (.cells #[.int .i64 p] 3)).order [1, 0]) rfl (cellAt (h5.alloc (.cells #[.int .i64 p] 3)).get_blk 0) (by simp; omega) ?_
       intro v6 w6 h6
       have h6 : holds w6 (ownInts v6 (C ++ [(p : Int)]) :: blk w5.heap.size (.cells #[.int .i64 p] 3) :: ownInts (.slice (some ⟨g6, 0, none⟩) G.length c6) (G.set p (g + 1)) :: blk w2.heap.size (.cells #[.slice a5 O.length c5, .slice (some ⟨g6, 0, none⟩) G.length c6, .slice a4 C.length c4, .int .i64 fr] 30 (0, 0)) :: blk (w.heap.size + 1) (.cells #[.slice none 0 0, .slice none 0 0, .slice none 0 0, .int .i64 0] 30 (0, 0)) :: blk w.heap.size (.cells #[.slice a O.length cap, .slice a2 G.length cap2, .slice a4 C.length c4, .int .i64 fr] 30 (0, 0)) :: roInts (.slice a4 C.length c4) C :: ownBools (.slice a5 O.length c5) (O.set p false) :: F) := h6
       obtain ⟨a7, c7, rfl⟩ := ownInts_form h6
       rw [show (C ++ [(p : Int)]).length = C.length + 1 from by simp] at h6 ⊢
       have f2 := frozen_of_row w6 w2.heap.size 2 _ _ (h6.pick 3).get_blk
       have b2 := cellAt (h6.pick 3).get_blk 2
       simp only [List.getElem?_toArray, List.getElem?_cons_succ, List.getElem?_cons_zero] at b2
       have h7 : holds (w6.setCell ⟨w2.heap.size, 2, none⟩ (.slice a7 (C.length + 1) c7)) (blk w2.heap.size (.cells #[.slice a5 O.length c5, .slice (some ⟨g6, 0, none⟩) G.length c6, .slice a7 (C.length + 1) c7, .int .i64 fr] 30 (0, 0)) :: blk (w.heap.size + 1) (.cells #[.slice none 0 0, .slice none 0 0, .slice none 0 0, .int .i64 0] 30 (0, 0)) :: ownBools (.slice a5 O.length c5) (O.set p false) :: ownInts (.slice (some ⟨g6, 0, none⟩) G.length c6) (G.set p (g + 1)) :: ownInts (.slice a7 (C.length + 1) c7) (C ++ [(p : Int)]) :: F) := ((h6.pick 3).setCell 2 (.slice a7 (C.length + 1) c7)).sel 8 [0, 4, 7, 3, 1]
       clear h5 h6
       have b := h7.get_blk
       have b0 := cellAt b 0
       have b1 := cellAt b 1
       have b2' := cellAt b 2
       have b3 := cellAt b 3
       have r := (h7.pick 1).get_blk
       have r0 := cellAt r 0
       have r1 := cellAt r 1
       have r2 := cellAt r 2
       have r3 := cellAt r 3
       have f0 := frozen_of_row _ (w.heap.size + 1) 0 _ _ r
       have f1 := frozen_of_row _ (w.heap.size + 1) 1 _ _ r
       have f2' := frozen_of_row _ (w.heap.size + 1) 2 _ _ r
       have f3 := frozen_of_row _ (w.heap.size + 1) 3 _ _ r
       clear b r
       simp only [List.getElem?_toArray, List.getElem?_cons_succ, List.getElem?_cons_zero] at b0 b1 b2' b3 r0 r1 r2 r3))
  have h9 : holds _ (blk (w.heap.size + 1) (.cells #[.slice a5 O.length c5, .slice (some ⟨g6, 0, none⟩) G.length c6, .slice a7 (C.length + 1) c7, .int .i64 fr] 30 (0, 0)) :: ownBools (.slice a5 O.length c5) (O.set p false) :: ownInts (.slice (some ⟨g6, 0, none⟩) G.length c6) (G.set p (g + 1)) :: ownInts (.slice a7 (C.length + 1) c7) (C ++ [(p : Int)]) :: F) := store4 (h7.sel 5 [1, 2, 3, 4]) (.slice a5 O.length c5) (.slice (some ⟨g6, 0, none⟩) G.length c6) (.slice a7 (C.length + 1) c7) (.int .i64 fr)
  refine bodyPost_ret (v := .tuple #[.agg #[.slice a5 O.length c5, .slice (some ⟨g6, 0, none⟩) G.length c6, .slice a7 (C.length + 1) c7, .int .i64 fr], .bool true]) ?_ rfl ⟨_, _, _, rfl, ?_⟩
  · exact results_cell_row_tmp06 Tryz.results188 _ _ (w.heap.size + 1) _ _ _ _ _ rfl rfl h9.get_blk Tryz.underlying30 rfl Tryz.size06
  · have t1 : holds _ (_ :: _ :: _ :: F) := h9.tail.shareBools.sel 3 [1, 2, 0]
    have t2 : holds _ (_ :: _ :: _ :: F) := t1.shareInts.sel 3 [1, 2, 0]
    exact t2.shareInts.sel 3 [1, 2, 0]
end Go.Proofs.YtfiggkbclldccaaGreat
