/- Contracts of the reference of chapter 6. -/
import Derived.Test.YtfiggkbclldccaaGreatBools
import Derived.Test.YtfiggkbclldccaaGreatSlotsP
import Derived.Test.YtfiggkbclldccaaGreatBase
namespace Go.Proofs.YtfiggkbclldccaaGreat
open Go Go.RowKit Go.MapKept
set_option maxRecDepth 100000
set_option linter.unusedVariables false
attribute [local go_sem] exactUpon looseUpon

theorem Tryz.size06 : (Tryz.prog.info? 30).map (·.size) = some 4 := by kernel_rfl

theorem store4 {w : World} {n : Nat} {T : TypeId} {x0 x1 x2 x3 : Value} {F : List HProp} (h : holds w (blk n (.cells #[x0, x1, x2, x3] T (0, 0)) :: F)) (y0 y1 y2 y3 : Value) :
    holds ((((w.setCell ⟨n, 0, none⟩ y0).setCell ⟨n, 1, none⟩ y1).setCell ⟨n, 2, none⟩ y2).setCell ⟨n, 3, none⟩ y3) (blk n (.cells #[y0, y1, y2, y3] T (0, 0)) :: F) := (((h.setCell 0 y0).setCell 1 y1).setCell 2 y2).setCell 3 y3
theorem holds.emptyIntsAt {w : World} {F : List HProp} {n : Nat} (hw : holds w F) (hn : w.heap.size = n) : holds (w.alloc (.cells #[] 3)) (ownInts (.slice (some ⟨n, 0, none⟩) 0 0) [] :: F) := by subst hn; exact hw.emptyInts

theorem ref06_with (w : World) (vo vg : Value) (a4 : Option Addr) (n4 c4 : Nat) (O : List Bool) (G : List Int) (fr : Int) (p : Nat) (x : Bool) (F : List HProp) (hO : O.length ≤ 1048576) (hG : G.length ≤ 1048576) (hp : p < O.length) (hw : holds w (roBools vo O :: roInts vg G :: F)) :
    Calls Tryz.prog 247 #[.agg #[vo, vg, .slice a4 n4 c4, .int .i64 fr], .int .i64 p, .bool x] w fun e w' => ∃ vo' vg', e = .returned (.agg #[vo', vg', .slice a4 n4 c4, .int .i64 fr]) ∧ holds w' (ownBools vo' (O.set p x) :: ownInts vg' G :: roBools vo O :: roInts vg G :: F) := by
  obtain ⟨a, cap, rfl, hcap⟩ := roBools_form hw
  obtain ⟨a2, cap2, rfl, hcap2⟩ := roInts_form (hw.pick 1)
  have hb := ((hw.alloc (.cells #[.slice a O.length cap, .slice a2 G.length cap2, .slice a4 n4 c4, .int .i64 fr] 30 (0, 0))).alloc (.cells #[.slice none 0 0, .slice none 0 0, .slice none 0 0, .int .i64 0] 30 (0, 0)))
  rw [World.size_alloc] at hb
  have h2 := hb.emptyBools
  have hr := holds.roReads (h2.pick 3)
  have b0 := cellAt (h2.pick 2).get_blk 0
  simp at b0
  simp only [World.size_alloc] at h2
  have hO1 : (O.set p x).length = O.length := List.length_set
  go_enter Tryz.func247, Tryz.ntmps247
  go_wp2_with (first
    | (at_builtin
       refine wpList_appendBools (l := []) (m := O) rfl _ _ rfl rfl h2 rfl hr (by simp; omega) ?_
       clear hr b0
       intro v3 w3 h3
       obtain ⟨a3, c3, rfl⟩ := ownBools_form h3
       rw [List.nil_append] at h3 ⊢
       have h3 : holds w3 (ownBools (.slice a3 O.length c3) O :: blk (w.heap.size + 1) (.cells #[.slice none 0 0, .slice none 0 0, .slice none 0 0, .int .i64 0] 30 (0, 0)) :: blk w.heap.size (.cells #[.slice a O.length cap, .slice a2 G.length cap2, .slice a4 n4 c4, .int .i64 fr] 30 (0, 0)) :: roBools (.slice a O.length cap) O :: roInts (.slice a2 G.length cap2) G :: F) := h3
       have b0 := cellAt (h3.pick 2).get_blk 0
       have f0 := frozen_of_row w3 w.heap.size 0 _ _ (h3.pick 2).get_blk
       simp at b0
       have h4 : holds (w3.setCell ⟨w.heap.size, 0, none⟩ (.slice a3 O.length c3)) (blk w.heap.size (.cells #[.slice a3 O.length c3, .slice a2 G.length cap2, .slice a4 n4 c4, .int .i64 fr] 30 (0, 0)) :: ownBools (.slice a3 O.length c3) O :: blk (w.heap.size + 1) (.cells #[.slice none 0 0, .slice none 0 0, .slice none 0 0, .int .i64 0] 30 (0, 0)) :: roBools (.slice a O.length cap) O :: roInts (.slice a2 G.length cap2) G :: F) := (h3.pick 2).setCell 0 (.slice a3 O.length c3)
       have h5 := h4.emptyIntsAt (n := w3.heap.size) (by simp)
       have hr := holds.roReads (h5.pick 5)
       have b1 := cellAt (h5.pick 1).get_blk 1
       simp only [List.getElem?_toArray, List.getElem?_cons_succ, List.getElem?_cons_zero] at b1)
    | (at_builtin
       refine wpList_appendInts (l := []) (m := G) rfl _ _ rfl rfl h5 rfl hr (by simp; omega) ?_
       clear hr b0 f0 b1 h3 h4 h5
       intro v6 w6 h6
       obtain ⟨a6, c6, rfl⟩ := ownInts_form h6
       rw [List.nil_append] at h6 ⊢
       have h6 : holds w6 (ownInts (.slice a6 G.length c6) G :: blk w.heap.size (.cells #[.slice a3 O.length c3, .slice a2 G.length cap2, .slice a4 n4 c4, .int .i64 fr] 30 (0, 0)) :: ownBools (.slice a3 O.length c3) O :: blk (w.heap.size + 1) (.cells #[.slice none 0 0, .slice none 0 0, .slice none 0 0, .int .i64 0] 30 (0, 0)) :: roBools (.slice a O.length cap) O :: roInts (.slice a2 G.length cap2) G :: F) := h6
       have b1 := cellAt (h6.pick 1).get_blk 1
       have f1 := frozen_of_row w6 w.heap.size 1 _ _ (h6.pick 1).get_blk
       simp only [List.getElem?_toArray, List.getElem?_cons_succ, List.getElem?_cons_zero] at b1
       have h7 : holds (w6.setCell ⟨w.heap.size, 1, none⟩ (.slice a6 G.length c6)) (blk w.heap.size (.cells #[.slice a3 O.length c3, .slice a6 G.length c6, .slice a4 n4 c4, .int .i64 fr] 30 (0, 0)) :: ownInts (.slice a6 G.length c6) G :: ownBools (.slice a3 O.length c3) O :: blk (w.heap.size + 1) (.cells #[.slice none 0 0, .slice none 0 0, .slice none 0 0, .int .i64 0] 30 (0, 0)) :: roBools (.slice a O.length cap) O :: roInts (.slice a2 G.length cap2) G :: F) := (h6.pick 1).setCell 1 (.slice a6 G.length c6)
       obtain ⟨g3, rfl⟩ := (h7.pick 2).boolBlk (by omega)
       have b0 := cellAt h7.get_blk 0
       simp only [List.getElem?_toArray, List.getElem?_cons_succ, List.getElem?_cons_zero] at b0)
    | (refine wpList_setBool rfl rfl _ _ rfl (i := p) (y := x) rfl rfl (h7.pick 2) hp ?_
       clear b0 b1 f1 h6
       intro w8 h8
       have h8 : holds w8 (ownBools (.slice (some ⟨g3, 0, none⟩) O.length c3) (O.set p x) :: blk w.heap.size (.cells #[.slice (some ⟨g3, 0, none⟩) O.length c3, .slice a6 G.length c6, .slice a4 n4 c4, .int .i64 fr] 30 (0, 0)) :: ownInts (.slice a6 G.length c6) G :: blk (w.heap.size + 1) (.cells #[.slice none 0 0, .slice none 0 0, .slice none 0 0, .int .i64 0] 30 (0, 0)) :: roBools (.slice a O.length cap) O :: roInts (.slice a2 G.length cap2) G :: F) := h8
       have b := (h8.pick 1).get_blk
       have b0 := cellAt b 0
       have b1 := cellAt b 1
       have b2 := cellAt b 2
       have b3 := cellAt b 3
       have r := (h8.pick 3).get_blk
       have r0 := cellAt r 0
       have r1 := cellAt r 1
       have r2 := cellAt r 2
       have r3 := cellAt r 3
       have f0 := frozen_of_row w8 (w.heap.size + 1) 0 _ _ r
       have f1 := frozen_of_row w8 (w.heap.size + 1) 1 _ _ r
       have f2 := frozen_of_row w8 (w.heap.size + 1) 2 _ _ r
       have f3 := frozen_of_row w8 (w.heap.size + 1) 3 _ _ r
       clear b r
       simp only [List.getElem?_toArray, List.getElem?_cons_succ, List.getElem?_cons_zero] at b0 b1 b2 b3 r0 r1 r2 r3))
  have h9 : holds _ (blk (w.heap.size + 1) (.cells #[.slice (some ⟨g3, 0, none⟩) O.length c3, .slice a6 G.length c6, .slice a4 n4 c4, .int .i64 fr] 30 (0, 0)) :: ownBools (.slice (some ⟨g3, 0, none⟩) O.length c3) (O.set p x) :: ownInts (.slice a6 G.length c6) G :: roBools (.slice a O.length cap) O :: roInts (.slice a2 G.length cap2) G :: F) := (store4 ((h8.sel 6 [3, 0, 2, 4, 5])) (.slice (some ⟨g3, 0, none⟩) O.length c3) (.slice a6 G.length c6) (.slice a4 n4 c4) (.int .i64 fr))
  refine bodyPost_ret (v := .agg #[.slice (some ⟨g3, 0, none⟩) O.length c3, .slice a6 G.length c6, .slice a4 n4 c4, .int .i64 fr]) ?_ rfl ⟨_, _, rfl, h9.tail⟩
  exact results_cell_row Tryz.results247 _ _ (w.heap.size + 1) _ _ _ _ rfl h9.get_blk Tryz.underlying30 rfl Tryz.size06
end Go.Proofs.YtfiggkbclldccaaGreat
