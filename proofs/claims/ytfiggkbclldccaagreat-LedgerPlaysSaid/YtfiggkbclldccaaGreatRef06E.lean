/- Opening, by the reference of chapter 6. -/
import Derived.Test.YtfiggkbclldccaaGreatRef06D
import Derived.Deep.RegionHeld3
namespace Go.Proofs.YtfiggkbclldccaaGreat
open Go Go.RowKit Go.MapKept
set_option maxRecDepth 100000
set_option linter.unusedVariables false
set_option linter.unusedSimpArgs false

set_option maxHeartbeats 2000000 in
theorem ref06_Open_closed (w : World) (vo vg vc : Value) (O : List Bool) (G C : List Int) (fr : Int) (p : Nat) (F : List HProp) (hO : O.length ≤ 1048576) (hOG : O.length = G.length) (hC : C.length ≤ 1048576) (hp : p < O.length) (hw : holds w (roBools vo O :: roInts vg G :: roInts vc (C ++ [(p : Int)]) :: F)) :
    Calls Tryz.prog 179 #[.agg #[vo, vg, vc, .int .i64 fr]] w fun e w' => ∃ vo' vg' vc', e = .returned (.tuple #[.agg #[vo', vg', vc', .int .i64 fr], .int .i64 (p : Nat), .int .i64 (G.getD p 0), .bool true]) ∧ holds w' (roBools vo' (O.set p true) :: roInts vg' G :: roInts vc' C :: F) := by
  obtain ⟨a, cap, rfl, hcap⟩ := roBools_form hw
  obtain ⟨a2, cap2, rfl, hcap2⟩ := roInts_form (hw.pick 1)
  obtain ⟨a4, c4, rfl, hcap4⟩ := roInts_form (hw.pick 2)
  rw [show (C ++ [(p : Int)]).length = C.length + 1 from by simp] at hw hcap4 ⊢
  have hpg : p < G.length := by omega
  have hG : G.length ≤ 1048576 := by omega
  have ho1 : O.length ≤ G.length := by omega
  clear hOG
  obtain ⟨g4, off4, cp4, hv4, _, hcs4⟩ := (hw.pick 2).roIntAt (by simp)
  have ha4 : a4 = some ⟨g4, off4, none⟩ := by injection hv4
  subst ha4
  clear hv4 hcs4
  obtain ⟨g2, off2, cp2, hv2, _, _⟩ := (hw.pick 1).roIntAt (by omega)
  have ha2 : a2 = some ⟨g2, off2, none⟩ := by injection hv2
  clear hv2
  subst ha2
  obtain ⟨x, hx⟩ : ∃ x, G[p] = x := ⟨_, rfl⟩
  rw [show G.getD p 0 = x from by rw [← hx]; simp [hpg]]
  have HX := Lib.hid hx
  clear hx
  have hb := ((hw.alloc (.cells #[.slice a O.length cap, .slice (some ⟨g2, off2, none⟩) G.length cap2, .slice (some ⟨g4, off4, none⟩) (C.length + 1) c4, .int .i64 fr] 30 (0, 0))).alloc (.cells #[.slice none 0 0, .slice none 0 0, .slice none 0 0, .int .i64 0] 30 (0, 0)))
  rw [World.size_alloc] at hb
  obtain ⟨g4', off4', cp4, hv4, _, hcs4⟩ := (hb.pick 4).roIntAt (by simp)
  have h4e : (some ⟨g4, off4, none⟩ : Option Addr) = some ⟨g4', off4', none⟩ := by injection hv4
  cases h4e
  clear hv4
  have cx := hcs4 C.length (by simp)
  rw [show (C ++ [(p : Int)])[C.length]'(by simp) = (p : Int) from by simp] at cx
  clear hcs4
  have b := (hb.pick 1).get_blk
  have b2 := cellAt b 2
  have f2 := frozen_of_row _ w.heap.size 2 _ _ b
  simp only [List.getElem?_toArray, List.getElem?_cons_succ, List.getElem?_cons_zero] at b2
  have e1 : IntKind.i64.wrap (((C.length + 1 : Nat) : Int) - 1) = (C.length : Int) := by rw [show ((C.length + 1 : Nat) : Int) - 1 = (C.length : Int) by omega]; exact IntWalk.i64_in _ (by omega)
  have hb2 := ((hw.alloc (.cells #[.slice a O.length cap, .slice (some ⟨g2, off2, none⟩) G.length cap2, .slice (some ⟨g4, off4, none⟩) C.length c4, .int .i64 fr] 30 (0, 0))).alloc (.cells #[.slice none 0 0, .slice none 0 0, .slice none 0 0, .int .i64 0] 30 (0, 0)))
  rw [World.size_alloc] at hb2
  have t1 : holds _ (roInts (.slice (some ⟨g4, off4, none⟩) (C.length + 1) c4) (C ++ [(p : Int)]) :: _ :: _ :: _ :: _ :: F) := hb2.sel 5 [4, 0, 1, 2, 3]
  have t2 := t1.takeInts C.length (by simp)
  rw [show (C ++ [(p : Int)]).take C.length = C from by simp] at t2
  have hB : holds _ (blk (w.heap.size + 1) (.cells #[.slice none 0 0, .slice none 0 0, .slice none 0 0, .int .i64 0] 30 (0, 0)) :: blk w.heap.size (.cells #[.slice a O.length cap, .slice (some ⟨g2, off2, none⟩) G.length cap2, .slice (some ⟨g4, off4, none⟩) C.length c4, .int .i64 fr] 30 (0, 0)) :: roBools (.slice a O.length cap) O :: roInts (.slice (some ⟨g2, off2, none⟩) G.length cap2) G :: roInts (.slice (some ⟨g4, off4, none⟩) C.length c4) C :: F) := t2.sel 5 [1, 2, 3, 4, 0]
  clear t1 t2 hb2
  clear b
  go_enter Tryz.func179, Tryz.ntmps179
  go_wp2_with fail
  have b := (hB.pick 1).get_blk
  have b0 := cellAt b 0
  have b1 := cellAt b 1
  have b2 := cellAt b 2
  have b3 := cellAt b 3
  clear b
  go_wp2_with fail
  generalize (w.alloc _).alloc _ = w1 at hB ⊢
  generalize w.heap.size = n at hB ⊢
  have HW2 := Lib.hid (show ∀ w', holds w' (blk (n + 1) (.cells #[.slice none 0 0, .slice none 0 0, .slice none 0 0, .int .i64 0] 30 (0, 0)) :: blk n (.cells #[.slice a O.length cap, .slice (some ⟨g2, off2, none⟩) G.length cap2, .slice (some ⟨g4, off4, none⟩) C.length c4, .int .i64 fr] 30 (0, 0)) :: roBools (.slice a O.length cap) O :: roInts (.slice (some ⟨g2, off2, none⟩) G.length cap2) G :: roInts (.slice (some ⟨g4, off4, none⟩) C.length c4) C :: F) → Calls Tryz.prog 247 #[.agg #[.slice a O.length cap, .slice (some ⟨g2, off2, none⟩) G.length cap2, .slice (some ⟨g4, off4, none⟩) C.length c4, .int .i64 fr], .int .i64 (p : Nat), .bool true] w' fun e w2 => ∃ (x1 : Option Addr) (y1 : Nat) (x2 : Option Addr) (y2 : Nat), e = Ending.returned (.agg #[.slice x1 O.length y1, .slice x2 G.length y2, .slice (some ⟨g4, off4, none⟩) C.length c4, .int .i64 fr]) ∧ holds w2 (ownBools (.slice x1 O.length y1) (O.set p true) :: ownInts (.slice x2 G.length y2) G :: (blk (n + 1) (.cells #[.slice none 0 0, .slice none 0 0, .slice none 0 0, .int .i64 0] 30 (0, 0)) :: blk n (.cells #[.slice a O.length cap, .slice (some ⟨g2, off2, none⟩) G.length cap2, .slice (some ⟨g4, off4, none⟩) C.length c4, .int .i64 fr] 30 (0, 0)) :: roBools (.slice a O.length cap) O :: roInts (.slice (some ⟨g2, off2, none⟩) G.length cap2) G :: roInts (.slice (some ⟨g4, off4, none⟩) C.length c4) C :: F)) from fun w' h => (ref06_with w' (.slice a O.length cap) (.slice (some ⟨g2, off2, none⟩) G.length cap2) (some ⟨g4, off4, none⟩) C.length c4 O G fr p true _ hO (by omega) hp (h.sel 5 [2, 3, 0, 1, 4])).mono fun e w2 ⟨vo', vg', he, hh⟩ => by
    obtain ⟨x1, y1, rfl⟩ := ownBools_form hh
    obtain ⟨x2, y2, rfl⟩ := ownInts_form (hh.pick 1)
    rw [List.length_set] at he hh
    exact ⟨x1, y1, x2, y2, he, hh.sel 7 [0, 1, 4, 5, 2, 3, 6]⟩)
  have HSE := Lib.hid (show ∀ w' E rs, holds w' (blk (n + 1) (.cells rs 30 (0, 0)) :: blk n (.cells #[.slice a O.length cap, .slice (some ⟨g2, off2, none⟩) G.length cap2, .slice (some ⟨g4, off4, none⟩) C.length c4, .int .i64 fr] 30 (0, 0)) :: roBools (.slice a O.length cap) O :: roInts (.slice (some ⟨g2, off2, none⟩) G.length cap2) G :: E) → w'.cell? ⟨n, 0, none⟩ = some (.slice a O.length cap) ∧ w'.cell? ⟨n, 1, none⟩ = some (.slice (some ⟨g2, off2, none⟩) G.length cap2) ∧ w'.cell? ⟨n, 2, none⟩ = some (.slice (some ⟨g4, off4, none⟩) C.length c4) ∧ w'.cell? ⟨n, 3, none⟩ = some (.int .i64 fr) ∧ w'.cell? ⟨g2, off2 + p, none⟩ = some (.int .i64 x) from fun w' E rs h => by
    have b := (h.pick 1).get_blk
    refine ⟨cellAt b 0, cellAt b 1, cellAt b 2, cellAt b 3, ?_⟩
    obtain ⟨g2', off2', cp2, hv2, _, hcs2⟩ := (h.pick 3).roIntAt (by omega)
    cases hv2
    rw [hcs2 p hpg, HX.out])
  clear b0 b1 b2 b3
  have hB : holds _ (blk (n + 1) (.cells #[.slice none 0 0, .slice none 0 0, .slice none 0 0, .int .i64 0] 30 (0, 0)) :: blk n (.cells #[.slice a O.length cap, .slice (some ⟨g2, off2, none⟩) G.length cap2, .slice (some ⟨g4, off4, none⟩) C.length c4, .int .i64 fr] 30 (0, 0)) :: roBools (.slice a O.length cap) O :: roInts (.slice (some ⟨g2, off2, none⟩) G.length cap2) G :: roInts (.slice (some ⟨g4, off4, none⟩) C.length c4) C :: F) := hB
  obtain ⟨b0, b1, b2, b3, bg⟩ := HSE.out _ _ _ hB
  go_region_held3 (fun w' => w'.cell? ⟨n, 0, none⟩ = some (.slice a O.length cap) ∧ w'.cell? ⟨n, 1, none⟩ = some (.slice (some ⟨g2, off2, none⟩) G.length cap2) ∧ w'.cell? ⟨n, 2, none⟩ = some (.slice (some ⟨g4, off4, none⟩) C.length c4) ∧ w'.cell? ⟨n, 3, none⟩ = some (.int .i64 fr) ∧ w'.cell? ⟨g2, off2 + p, none⟩ = some (.int .i64 x)) (first | exact ⟨b0, b1, b2, b3, bg⟩ | exact ⟨d0, d1, d2, d3, dg⟩ | exact ⟨q0, q1, q2, q3, qg⟩) ((go_simp; go_at_call 247; refine (HW2.out _ hB.drew).mono ?_; rintro e w3 ⟨x1, y1, x2, y2, rfl, h3⟩; have h3 : holds w3 (blk (n + 1) (.cells #[.slice none 0 0, .slice none 0 0, .slice none 0 0, .int .i64 0] 30 (0, 0)) :: blk n (.cells #[.slice a O.length cap, .slice (some ⟨g2, off2, none⟩) G.length cap2, .slice (some ⟨g4, off4, none⟩) C.length c4, .int .i64 fr] 30 (0, 0)) :: roBools (.slice a O.length cap) O :: roInts (.slice (some ⟨g2, off2, none⟩) G.length cap2) G :: ownBools (.slice x1 O.length y1) (O.set p true) :: ownInts (.slice x2 G.length y2) G :: roInts (.slice (some ⟨g4, off4, none⟩) C.length c4) C :: F) := h3.sel 7 [2, 3, 4, 5, 0, 1, 6]; obtain ⟨d0, d1, d2, d3, dg⟩ := HSE.out _ _ _ h3; have r := h3.get_blk; have r0 := cellAt r 0; have r1 := cellAt r 1; have r2 := cellAt r 2; have r3 := cellAt r 3; have f0 := frozen_of_row _ (n + 1) 0 _ _ r; have f1 := frozen_of_row _ (n + 1) 1 _ _ r; have f2 := frozen_of_row _ (n + 1) 2 _ _ r; have f3 := frozen_of_row _ (n + 1) 3 _ _ r; clear r; simp only [List.getElem?_toArray, List.getElem?_cons_succ, List.getElem?_cons_zero] at r0 r1 r2 r3; have hq := store4 h3 (.slice x1 O.length y1) (.slice x2 G.length y2) (.slice (some ⟨g4, off4, none⟩) C.length c4) (.int .i64 fr); obtain ⟨q0, q1, q2, q3, qg⟩ := HSE.out _ _ _ hq))
  go_wp2
  have h9 : holds _ (blk (n + 1) (.cells #[.slice x1 O.length y1, .slice x2 G.length y2, .slice (some ⟨g4, off4, none⟩) C.length c4, .int .i64 fr] 30 (0, 0)) :: ownBools (.slice x1 O.length y1) (O.set p true) :: ownInts (.slice x2 G.length y2) G :: roInts (.slice (some ⟨g4, off4, none⟩) C.length c4) C :: F) := hq.sel 7 [0, 4, 5, 6]
  refine bodyPost_ret (v := .tuple #[.agg #[.slice x1 O.length y1, .slice x2 G.length y2, .slice (some ⟨g4, off4, none⟩) C.length c4, .int .i64 fr], .int .i64 (p : Nat), .int .i64 x, .bool true]) ?_ rfl ⟨_, _, _, rfl, ?_⟩
  · exact results_cell_row_tmp3 Tryz.results179 _ _ (n + 1) _ _ _ _ _ _ _ rfl rfl rfl rfl h9.get_blk Tryz.underlying30 rfl Tryz.size06
  · have t1 : holds _ (_ :: _ :: _ :: F) := h9.tail.shareBools.sel 3 [1, 2, 0]
    exact t1.shareInts.sel 3 [2, 0, 1]

theorem ref06_Open_full (w : World) (vo vg vc : Value) (O : List Bool) (G : List Int) (fr : Int) (F : List HProp) (hO : O.length ≤ 1048576) (hfr : (O.length : Int) ≤ fr) (hw : holds w (roBools vo O :: roInts vg G :: roInts vc [] :: F)) :
    Calls Tryz.prog 179 #[.agg #[vo, vg, vc, .int .i64 fr]] w fun e w' => ∃ vo' vg' vc', e = .returned (.tuple #[.agg #[vo', vg', vc', .int .i64 fr], .int .i64 0, .int .i64 0, .bool false]) ∧ holds w' (roBools vo' O :: roInts vg' G :: roInts vc' [] :: F) := by
  obtain ⟨a, cap, rfl, hcap⟩ := roBools_form hw
  obtain ⟨a2, cap2, rfl, hcap2⟩ := roInts_form (hw.pick 1)
  obtain ⟨a4, c4, rfl, hcap4⟩ := roInts_form (hw.pick 2)
  have hb := ((hw.alloc (.cells #[.slice a O.length cap, .slice a2 G.length cap2, .slice a4 ([] : List Int).length c4, .int .i64 fr] 30 (0, 0))).alloc (.cells #[.slice none 0 0, .slice none 0 0, .slice none 0 0, .int .i64 0] 30 (0, 0)))
  rw [World.size_alloc] at hb
  have b := (hb.pick 1).get_blk
  have b0 := cellAt b 0
  have b1 := cellAt b 1
  have b2 := cellAt b 2
  have b3 := cellAt b 3
  clear b
  simp only [List.length_nil] at hb b0 b1 b2 b3 ⊢
  simp only [List.getElem?_toArray, List.getElem?_cons_succ, List.getElem?_cons_zero] at b0 b1 b2 b3
  have e1 : decide ((O.length : Int) ≤ fr) = true := decide_eq_true hfr
  have e2 : decide (fr < (O.length : Int)) = false := decide_eq_false (by omega)
  go_enter Tryz.func179, Tryz.ntmps179
  go_wp2
  have h9 := ((hw.alloc (.cells #[.slice a O.length cap, .slice a2 G.length cap2, .slice a4 0 c4, .int .i64 fr] 30 (0, 0))).alloc (.cells #[.slice a O.length cap, .slice a2 G.length cap2, .slice a4 0 c4, .int .i64 fr] 30 (0, 0)))
  rw [World.size_alloc] at h9
  refine bodyPost_ret (v := .tuple #[.agg #[.slice a O.length cap, .slice a2 G.length cap2, .slice a4 0 c4, .int .i64 fr], .int .i64 0, .int .i64 0, .bool false]) ?_ rfl ⟨_, _, _, rfl, ?_⟩
  · exact results_cell_row_tmp3 Tryz.results179 _ _ (w.heap.size + 1) _ _ _ _ _ _ _ rfl rfl rfl rfl h9.get_blk Tryz.underlying30 rfl Tryz.size06
  · simp only [List.length_nil] at h9
    exact h9.tail.tail

set_option maxHeartbeats 2000000 in
theorem ref06_Open_fresh (w : World) (vo vg vc : Value) (O : List Bool) (G : List Int) (p : Nat) (F : List HProp) (hO : O.length ≤ 1048576) (hOG : O.length = G.length) (hp : p < O.length) (hw : holds w (roBools vo O :: roInts vg G :: roInts vc [] :: F)) :
    Calls Tryz.prog 179 #[.agg #[vo, vg, vc, .int .i64 (p : Nat)]] w fun e w' => ∃ vo' vg' vc', e = .returned (.tuple #[.agg #[vo', vg', vc', .int .i64 ((p : Nat) + 1 : Int)], .int .i64 (p : Nat), .int .i64 (G.getD p 0), .bool true]) ∧ holds w' (roBools vo' (O.set p true) :: roInts vg' G :: roInts vc' [] :: F) := by
  obtain ⟨a, cap, rfl, hcap⟩ := roBools_form hw
  obtain ⟨a2, cap2, rfl, hcap2⟩ := roInts_form (hw.pick 1)
  obtain ⟨a4, c4, rfl, hcap4⟩ := roInts_form (hw.pick 2)
  have hpg : p < G.length := by omega
  have hG : G.length ≤ 1048576 := by omega
  have ho1 : O.length ≤ G.length := by omega
  clear hOG
  obtain ⟨g2, off2, cp2, hv2, _, _⟩ := (hw.pick 1).roIntAt (by omega)
  have ha2 : a2 = some ⟨g2, off2, none⟩ := by injection hv2
  clear hv2
  subst ha2
  obtain ⟨x, hx⟩ : ∃ x, G[p] = x := ⟨_, rfl⟩
  rw [show G.getD p 0 = x from by rw [← hx]; simp [hpg]]
  have HX := Lib.hid hx
  clear hx
  simp only [List.length_nil] at hw ⊢
  have hb := ((hw.alloc (.cells #[.slice a O.length cap, .slice (some ⟨g2, off2, none⟩) G.length cap2, .slice a4 0 c4, .int .i64 (p : Nat)] 30 (0, 0))).alloc (.cells #[.slice none 0 0, .slice none 0 0, .slice none 0 0, .int .i64 0] 30 (0, 0)))
  rw [World.size_alloc] at hb
  have b := (hb.pick 1).get_blk
  have b0 := cellAt b 0
  have b1 := cellAt b 1
  have b2 := cellAt b 2
  have b3 := cellAt b 3
  have f3 := frozen_of_row _ w.heap.size 3 _ _ b
  clear b
  simp only [List.getElem?_toArray, List.getElem?_cons_succ, List.getElem?_cons_zero] at b0 b1 b2 b3
  have e1 : decide ((O.length : Int) ≤ (p : Nat)) = false := decide_eq_false (by omega)
  have e2 : decide (((p : Nat) : Int) < (O.length : Int)) = true := decide_eq_true (by omega)
  have e3 : IntKind.i64.wrap (((p : Nat) : Int) + 1) = ((p : Nat) + 1 : Int) := IntWalk.i64_in _ (by omega)
  have hB := ((hw.alloc (.cells #[.slice a O.length cap, .slice (some ⟨g2, off2, none⟩) G.length cap2, .slice a4 0 c4, .int .i64 ((p : Nat) + 1 : Int)] 30 (0, 0))).alloc (.cells #[.slice none 0 0, .slice none 0 0, .slice none 0 0, .int .i64 0] 30 (0, 0)))
  rw [World.size_alloc] at hB
  go_enter Tryz.func179, Tryz.ntmps179
  go_wp2_with fail
  clear b0 b1 b2 b3
  have b := (hB.pick 1).get_blk
  have b0 := cellAt b 0
  have b1 := cellAt b 1
  have b2 := cellAt b 2
  have b3 := cellAt b 3
  clear b
  go_wp2_with fail
  generalize (w.alloc _).alloc _ = w1 at hB ⊢
  generalize w.heap.size = n at hB ⊢
  have HW2 := Lib.hid (show ∀ w', holds w' (blk (n + 1) (.cells #[.slice none 0 0, .slice none 0 0, .slice none 0 0, .int .i64 0] 30 (0, 0)) :: blk n (.cells #[.slice a O.length cap, .slice (some ⟨g2, off2, none⟩) G.length cap2, .slice a4 0 c4, .int .i64 ((p : Nat) + 1 : Int)] 30 (0, 0)) :: roBools (.slice a O.length cap) O :: roInts (.slice (some ⟨g2, off2, none⟩) G.length cap2) G :: roInts (.slice a4 0 c4) [] :: F) → Calls Tryz.prog 247 #[.agg #[.slice a O.length cap, .slice (some ⟨g2, off2, none⟩) G.length cap2, .slice a4 0 c4, .int .i64 ((p : Nat) + 1 : Int)], .int .i64 (p : Nat), .bool true] w' fun e w2 => ∃ (x1 : Option Addr) (y1 : Nat) (x2 : Option Addr) (y2 : Nat), e = Ending.returned (.agg #[.slice x1 O.length y1, .slice x2 G.length y2, .slice a4 0 c4, .int .i64 ((p : Nat) + 1 : Int)]) ∧ holds w2 (ownBools (.slice x1 O.length y1) (O.set p true) :: ownInts (.slice x2 G.length y2) G :: (blk (n + 1) (.cells #[.slice none 0 0, .slice none 0 0, .slice none 0 0, .int .i64 0] 30 (0, 0)) :: blk n (.cells #[.slice a O.length cap, .slice (some ⟨g2, off2, none⟩) G.length cap2, .slice a4 0 c4, .int .i64 ((p : Nat) + 1 : Int)] 30 (0, 0)) :: roBools (.slice a O.length cap) O :: roInts (.slice (some ⟨g2, off2, none⟩) G.length cap2) G :: roInts (.slice a4 0 c4) [] :: F)) from fun w' h => (ref06_with w' (.slice a O.length cap) (.slice (some ⟨g2, off2, none⟩) G.length cap2) a4 0 c4 O G ((p : Nat) + 1 : Int) p true _ hO (by omega) hp (h.sel 5 [2, 3, 0, 1, 4])).mono fun e w2 ⟨vo', vg', he, hh⟩ => by
    obtain ⟨x1, y1, rfl⟩ := ownBools_form hh
    obtain ⟨x2, y2, rfl⟩ := ownInts_form (hh.pick 1)
    rw [List.length_set] at he hh
    exact ⟨x1, y1, x2, y2, he, hh.sel 7 [0, 1, 4, 5, 2, 3, 6]⟩)
  have HSE := Lib.hid (show ∀ w' E rs, holds w' (blk (n + 1) (.cells rs 30 (0, 0)) :: blk n (.cells #[.slice a O.length cap, .slice (some ⟨g2, off2, none⟩) G.length cap2, .slice a4 0 c4, .int .i64 ((p : Nat) + 1 : Int)] 30 (0, 0)) :: roBools (.slice a O.length cap) O :: roInts (.slice (some ⟨g2, off2, none⟩) G.length cap2) G :: E) → w'.cell? ⟨n, 0, none⟩ = some (.slice a O.length cap) ∧ w'.cell? ⟨n, 1, none⟩ = some (.slice (some ⟨g2, off2, none⟩) G.length cap2) ∧ w'.cell? ⟨n, 2, none⟩ = some (.slice a4 0 c4) ∧ w'.cell? ⟨n, 3, none⟩ = some (.int .i64 ((p : Nat) + 1 : Int)) ∧ w'.cell? ⟨g2, off2 + p, none⟩ = some (.int .i64 x) from fun w' E rs h => by
    have b := (h.pick 1).get_blk
    refine ⟨cellAt b 0, cellAt b 1, cellAt b 2, cellAt b 3, ?_⟩
    obtain ⟨g2', off2', cp2, hv2, _, hcs2⟩ := (h.pick 3).roIntAt (by omega)
    cases hv2
    rw [hcs2 p hpg, HX.out])
  clear b0 b1 b2 b3
  have hB : holds _ (blk (n + 1) (.cells #[.slice none 0 0, .slice none 0 0, .slice none 0 0, .int .i64 0] 30 (0, 0)) :: blk n (.cells #[.slice a O.length cap, .slice (some ⟨g2, off2, none⟩) G.length cap2, .slice a4 0 c4, .int .i64 ((p : Nat) + 1 : Int)] 30 (0, 0)) :: roBools (.slice a O.length cap) O :: roInts (.slice (some ⟨g2, off2, none⟩) G.length cap2) G :: roInts (.slice a4 0 c4) [] :: F) := hB
  obtain ⟨b0, b1, b2, b3, bg⟩ := HSE.out _ _ _ hB
  go_region_held3 (fun w' => w'.cell? ⟨n, 0, none⟩ = some (.slice a O.length cap) ∧ w'.cell? ⟨n, 1, none⟩ = some (.slice (some ⟨g2, off2, none⟩) G.length cap2) ∧ w'.cell? ⟨n, 2, none⟩ = some (.slice a4 0 c4) ∧ w'.cell? ⟨n, 3, none⟩ = some (.int .i64 ((p : Nat) + 1 : Int)) ∧ w'.cell? ⟨g2, off2 + p, none⟩ = some (.int .i64 x)) (first | exact ⟨b0, b1, b2, b3, bg⟩ | exact ⟨d0, d1, d2, d3, dg⟩ | exact ⟨q0, q1, q2, q3, qg⟩) ((go_simp; go_at_call 247; refine (HW2.out _ hB.drew).mono ?_; rintro e w3 ⟨x1, y1, x2, y2, rfl, h3⟩; have h3 : holds w3 (blk (n + 1) (.cells #[.slice none 0 0, .slice none 0 0, .slice none 0 0, .int .i64 0] 30 (0, 0)) :: blk n (.cells #[.slice a O.length cap, .slice (some ⟨g2, off2, none⟩) G.length cap2, .slice a4 0 c4, .int .i64 ((p : Nat) + 1 : Int)] 30 (0, 0)) :: roBools (.slice a O.length cap) O :: roInts (.slice (some ⟨g2, off2, none⟩) G.length cap2) G :: ownBools (.slice x1 O.length y1) (O.set p true) :: ownInts (.slice x2 G.length y2) G :: roInts (.slice a4 0 c4) [] :: F) := h3.sel 7 [2, 3, 4, 5, 0, 1, 6]; obtain ⟨d0, d1, d2, d3, dg⟩ := HSE.out _ _ _ h3; have r := h3.get_blk; have r0 := cellAt r 0; have r1 := cellAt r 1; have r2 := cellAt r 2; have r3 := cellAt r 3; have f0 := frozen_of_row _ (n + 1) 0 _ _ r; have f1 := frozen_of_row _ (n + 1) 1 _ _ r; have f2 := frozen_of_row _ (n + 1) 2 _ _ r; have f3 := frozen_of_row _ (n + 1) 3 _ _ r; clear r; simp only [List.getElem?_toArray, List.getElem?_cons_succ, List.getElem?_cons_zero] at r0 r1 r2 r3; have hq := store4 h3 (.slice x1 O.length y1) (.slice x2 G.length y2) (.slice a4 0 c4) (.int .i64 ((p : Nat) + 1 : Int)); obtain ⟨q0, q1, q2, q3, qg⟩ := HSE.out _ _ _ hq))
  go_wp2
  have h9 : holds _ (blk (n + 1) (.cells #[.slice x1 O.length y1, .slice x2 G.length y2, .slice a4 0 c4, .int .i64 ((p : Nat) + 1 : Int)] 30 (0, 0)) :: ownBools (.slice x1 O.length y1) (O.set p true) :: ownInts (.slice x2 G.length y2) G :: roInts (.slice a4 0 c4) [] :: F) := hq.sel 7 [0, 4, 5, 6]
  refine bodyPost_ret (v := .tuple #[.agg #[.slice x1 O.length y1, .slice x2 G.length y2, .slice a4 0 c4, .int .i64 ((p : Nat) + 1 : Int)], .int .i64 (p : Nat), .int .i64 x, .bool true]) ?_ rfl ⟨_, _, _, rfl, ?_⟩
  · exact results_cell_row_tmp3 Tryz.results179 _ _ (n + 1) _ _ _ _ _ _ _ rfl rfl rfl rfl h9.get_blk Tryz.underlying30 rfl Tryz.size06
  · have t1 : holds _ (_ :: _ :: _ :: F) := h9.tail.shareBools.sel 3 [1, 2, 0]
    exact t1.shareInts.sel 3 [2, 0, 1]
end Go.Proofs.YtfiggkbclldccaaGreat
