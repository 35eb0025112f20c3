/- The law TicketsPlays. -/
import Derived.Test.YtdcekeclemgkcaaLaw32
import Derived.Test.YtdcekeclemgkcaaTri
namespace Go.Proofs.Ytdcekeclemgkcaa
open Go Go.RowKit Go.MapKept
set_option maxRecDepth 100000
set_option linter.unusedVariables false
set_option maxHeartbeats 4000000
attribute [local go_sem] exactUpon looseUpon

theorem law_TicketsPlays (va : Value) (acts : List TriM) (m0 : acts.length ≤ maxLen) (n : Int) (w : World) (F : List HProp) (hw : holds w (roTri va acts :: F)) :
    Calls Try.prog 6 #[va, .int .i64 n] w fun e w' => e = .returned (.bool true) ∧ holds w' F := by
  obtain ⟨a, cap, rfl, hcap⟩ := roTri_form hw
  by_cases h80 : 80 < acts.length
  · go_enter Try.func6, Try.ntmps6
    go_wp2_with fail
    refine (law32_works _ _ hw.tail).mono ?_
    rintro e w2 ⟨rfl, h2⟩
    go_wp2_with fail
    go_ret
    exact ⟨rfl, h2⟩
  · go_enter Try.func6, Try.ntmps6
    go_wp2_with fail
    refine (book_New _ _ hw).mono ?_
    rintro e w1 ⟨v, rfl, h1⟩
    obtain ⟨b, rfl⟩ : ∃ b, v = .pointer (some ⟨b, 0, none⟩) := by obtain ⟨b, _, _, _, _, e, _⟩ := open_book h1; exact ⟨b, e⟩
    have h2 : holds w1 (roTk (.slice none 0 0) [] :: bookAt _ [] :: roTri _ acts :: F) := holds.shareTk (holds_ownRow_nil h1 43 5)
    have h2 : holds w1 (bookAt _ [] :: roTk (.slice none 0 0) [] :: roTri _ acts :: F) := h2.order [1, 0]
    clear hw h1
    go_wp2_with fail
    go_loopw [6, 7] (fun s6 i wr => ∃ (k : Nat) (l : List TicketM) (a6 : Option Addr) (c6 : Nat), k ≤ acts.length ∧ i = .int .i64 k ∧ TkOk l ∧ l.length ≤ k ∧ s6 = .slice a6 l.length c6 ∧ holds wr (bookAt (.pointer (some ⟨b, 0, none⟩)) l :: roTk (.slice a6 l.length c6) l :: roTri (.slice a acts.length cap) acts :: F)) (fun _ i _ => acts.length - (intOf i).toNat)
    case atStart => exact ⟨0, [], none, 0, Nat.zero_le _, rfl, TkOk.nil, Nat.zero_le _, rfl, h2⟩
    case round =>
      obtain ⟨k, l, a6, c6, hk, rfl, hok, hll, rfl, h2⟩ := hrel
      have HOK := Lib.hid hok
      clear hok
      by_cases hlt : k < acts.length
      · obtain ⟨ga, oa, ca, hv, _, hc⟩ := (h2.pick 2).triAt (by omega)
        cases hv
        obtain ⟨k0, k1, k2⟩ := hc k hlt
        clear hc
        generalize acts[k] = ak at k0 k1 k2
        obtain ⟨call, x, y⟩ := ak
        simp only at k0 k1 k2
        by_cases g0 : call = 0
        · subst g0
          have h3 : holds _ (blk wr.heap.size (.cells #[.int .i64 0, .int .i64 x, .int .i64 y] 34 (0, 0)) :: bookAt (.pointer (some ⟨b, 0, none⟩)) l :: roTk (.slice a6 l.length c6) l :: roTri (.slice (some ⟨ga, oa, none⟩) acts.length cap) acts :: F) := h2.alloc (.cells #[.int .i64 0, .int .i64 x, .int .i64 y] 34 (0, 0))
          clear h2
          have G1 := Lib.hid (fun w F h => ref32_Issue w (.slice a6 l.length c6) l x y F (by omega) h)
          have G2 := Lib.hid (fun w F h => book_Issue w (.pointer (some ⟨b, 0, none⟩)) l x y F (by omega) h)
          have HOL := Lib.hid (Book.issue_ok HOK.out x y)
          have hLl : (Book.issue l x y).1.length ≤ l.length + 1 := by unfold Book.issue; split <;> (try split) <;> simp
          generalize Book.issue l x y = r at G1 G2 HOL hLl
          obtain ⟨L, id0, er⟩ := r
          simp only at G1 G2 HOL hLl
          have c0 := cellAt h3.get_blk 0
          have c1 := cellAt h3.get_blk 1
          have c2 := cellAt h3.get_blk 2
          simp only [List.getElem?_toArray, List.getElem?_cons_succ, List.getElem?_cons_zero] at c0 c1 c2
          go_wp2_with fail
          refine (G1.out _ _ (h3.sel 3 [2, 0, 1])).mono ?_
          rintro e3 w3 ⟨v6, rfl, h4⟩
          obtain ⟨a7, c7, rfl, _⟩ := roTk_form h4
          have c1 := cellAt (h4.pick 2).get_blk 1
          have c2 := cellAt (h4.pick 2).get_blk 2
          simp only [List.getElem?_toArray, List.getElem?_cons_succ, List.getElem?_cons_zero] at c1 c2
          clear c0 h3
          go_wp2_with fail
          refine (G2.out _ _ (h4.sel 4 [3, 0, 2])).mono ?_
          rintro e4 w4 ⟨rfl, h5⟩
          have hT : holds w4 (blk wr.heap.size (.cells #[.int .i64 0, .int .i64 x, .int .i64 y] 34 (0, 0)) :: bookAt (.pointer (some ⟨b, 0, none⟩)) L :: roTk (.slice a7 L.length c7) L :: roTri (.slice (some ⟨ga, oa, none⟩) acts.length cap) acts :: F) := h5.sel 4 [2, 0, 1, 3]
          clear c1 c2 h4 h5 G1 G2
          have H1 := Lib.hid (fun w F h => ref32_Get w (.slice a7 L.length c7) L x F HOL.out (by omega) h)
          have H2 := Lib.hid (fun w F h => book_Get w (.pointer (some ⟨b, 0, none⟩)) L x F (by omega) h)
          have H3 := Lib.hid (fun w F h => book_Len w (.pointer (some ⟨b, 0, none⟩)) L F h)
          have H4 := Lib.hid (fun w F h => book_Waits w (.pointer (some ⟨b, 0, none⟩)) L x F (by omega) h)
          have H5 := Lib.hid (fun w F h => ref32_Of w (.slice a7 L.length c7) L x F (by omega) h)
          generalize Book.of L x = q at H4 H5
          unfold tkR tkV tkCells at H1 H2
          generalize Book.get L x = r at H1 H2
          obtain ⟨t, e⟩ := r
          have c1 := cellAt hT.get_blk 1
          simp only [List.getElem?_toArray, List.getElem?_cons_succ, List.getElem?_cons_zero] at c1
          go_wp2_with fail
          refine (H1.out _ _ (hT.sel 4 [2, 0, 1, 3])).mono ?_
          rintro e5 w5 ⟨rfl, h5⟩
          have h6 : holds _ (bookAt (.pointer (some ⟨b, 0, none⟩)) L :: blk wr.heap.size (.cells #[.int .i64 0, .int .i64 x, .int .i64 y] 34 (0, 0)) :: blk w5.heap.size _ :: roTk (.slice a7 L.length c7) L :: roTri (.slice (some ⟨ga, oa, none⟩) acts.length cap) acts :: F) := (h5.alloc (.cells (tkCells t) 43 (0, 0))).sel 5 [3, 2, 0, 1, 4]
          unfold tkCells at h6
          clear c1 hT h5
          have c1 := cellAt (h6.pick 1).get_blk 1
          simp only [List.getElem?_toArray, List.getElem?_cons_succ, List.getElem?_cons_zero] at c1
          go_wp2_with fail
          refine (H2.out _ _ h6).mono ?_
          rintro e6 w6 ⟨rfl, h7⟩
          have h8 : holds _ (bookAt (.pointer (some ⟨b, 0, none⟩)) L :: roTk (.slice a7 L.length c7) L :: blk wr.heap.size _ :: blk w5.heap.size _ :: blk w6.heap.size _ :: roTri (.slice (some ⟨ga, oa, none⟩) acts.length cap) acts :: F) := (h7.alloc (.cells (tkCells t) 43 (0, 0))).sel 6 [1, 4, 2, 3, 0, 5]
          clear c1 h6 h7
          have HSE := Lib.hid (show ∀ z, holds z (bookAt (.pointer (some ⟨b, 0, none⟩)) L :: roTk (.slice a7 L.length c7) L :: blk wr.heap.size (.cells #[.int .i64 0, .int .i64 x, .int .i64 y] 34 (0, 0)) :: blk w5.heap.size (.cells (tkCells t) 43 (0, 0)) :: blk w6.heap.size (.cells (tkCells t) 43 (0, 0)) :: roTri (.slice (some ⟨ga, oa, none⟩) acts.length cap) acts :: F) → z.cell? ⟨wr.heap.size, 1, none⟩ = some (.int .i64 x) ∧ _ ∧ _ from fun z h => And.intro (cellAt (h.pick 2).get_blk 1) (And.intro (tk_cells (t := t) (h.pick 3)) (tk_cells (t := t) (h.pick 4))))
          have hq := eqTk_run t
          unfold tkV at hq
          unfold tkCells at hq h8
          have hgt : (decide ((0 : Int) < (q.length : Int))) = decide (0 < q.length) := by simp
          generalize hB : decide (0 < q.length) = bq at H4 hgt
          go_wp2_with fail
          refine wp_region_loose (fun k => match k with | 10 => some ⟨fun u => u = .int .i64 L.length, fun _ => []⟩ | 19 => some ⟨fun u => u = .bool bq, fun _ => []⟩ | 23 => some ⟨fun u => ∃ (a : Option Addr) (c : Nat), u = .slice a q.length c, fun _ => []⟩ | _ => none) (bookAt (.pointer (some ⟨b, 0, none⟩)) L :: roTk (.slice a7 L.length c7) L :: blk wr.heap.size (.cells #[.int .i64 0, .int .i64 x, .int .i64 y] 34 (0, 0)) :: blk w5.heap.size (.cells (tkCells t) 43 (0, 0)) :: blk w6.heap.size (.cells (tkCells t) 43 (0, 0)) :: roTri (.slice (some ⟨ga, oa, none⟩) acts.length cap) acts :: F) (by kernel_rfl) (by kernel_rfl) h8 ?_
          refine loose_seal ?_
          iterate 10
            refine sealed_exact rfl (fun K hK => ?_)
            go_simp
            first
              | (intro w hw
                 obtain ⟨c1, ⟨k0, k1, k2, k3, k4, k5, k6, k7, k8, k9⟩, j0, j1, j2, j3, j4, j5, j6, j7, j8, j9⟩ := HSE.out _ hw
                 go_simp
                 refine hK _ ?_
                 clear hK K c1 k0 k1 k2 k3 k4 k5 k6 k7 k8 k9 j0 j1 j2 j3 j4 j5 j6 j7 j8 j9 hw w)
              | (intro w hw
                 refine hK _ ?_
                 clear hK K hw w)
              | (refine hK _ ?_; clear hK K)
          refine sealed_call (k := 10) rfl (by go_simp) (fun w F hw => ?_) (fun u hu => ?_)
          · go_simp
            go_at_call 35
            exact (H3.out _ _ hw).mono fun e w' ⟨he, hh⟩ => ⟨_, he, rfl, hh⟩
          obtain rfl := hu
          iterate 8
            refine sealed_exact rfl (fun K hK => ?_)
            go_simp
            first
              | (intro w hw
                 obtain ⟨c1, ⟨k0, k1, k2, k3, k4, k5, k6, k7, k8, k9⟩, j0, j1, j2, j3, j4, j5, j6, j7, j8, j9⟩ := HSE.out _ hw
                 go_simp
                 refine hK _ ?_
                 clear hK K c1 k0 k1 k2 k3 k4 k5 k6 k7 k8 k9 j0 j1 j2 j3 j4 j5 j6 j7 j8 j9 hw w)
              | (intro w hw
                 refine hK _ ?_
                 clear hK K hw w)
              | (refine hK _ ?_; clear hK K)
          refine sealed_call (k := 19) rfl (by go_simp) (fun w F hw => ?_) (fun u hu => ?_)
          · go_simp
            go_at_call 28
            exact (H4.out _ _ hw).mono fun e w' ⟨he, hh⟩ => ⟨_, he, rfl, hh⟩
          obtain rfl := hu
          iterate 3
            refine sealed_exact rfl (fun K hK => ?_)
            go_simp
            first
              | (intro w hw
                 obtain ⟨c1, ⟨k0, k1, k2, k3, k4, k5, k6, k7, k8, k9⟩, j0, j1, j2, j3, j4, j5, j6, j7, j8, j9⟩ := HSE.out _ hw
                 go_simp
                 refine hK _ ?_
                 clear hK K c1 k0 k1 k2 k3 k4 k5 k6 k7 k8 k9 j0 j1 j2 j3 j4 j5 j6 j7 j8 j9 hw w)
              | (intro w hw
                 refine hK _ ?_
                 clear hK K hw w)
              | (refine hK _ ?_; clear hK K)
          refine sealed_call (k := 23) rfl (by go_simp) (fun w F hw => ?_) (fun u hu => ?_)
          · go_simp
            go_at_call 36
            refine (H5.out _ _ (show holds w (_ :: _ :: _) from hw.order [1, 0])).mono ?_
            rintro e w2 ⟨r, rfl, h2⟩
            obtain ⟨a2, c2, rfl⟩ := ownInts_form h2
            exact ⟨_, rfl, ⟨a2, c2, rfl⟩, (show holds w2 (_ :: _ :: _) from h2.tail).order [1, 0]⟩
          obtain ⟨a9, c9, rfl⟩ := hu
          iterate 4
            refine sealed_exact rfl (fun K hK => ?_)
            go_simp
            first
              | (intro w hw
                 obtain ⟨c1, ⟨k0, k1, k2, k3, k4, k5, k6, k7, k8, k9⟩, j0, j1, j2, j3, j4, j5, j6, j7, j8, j9⟩ := HSE.out _ hw
                 go_simp
                 refine hK _ ?_
                 clear hK K c1 k0 k1 k2 k3 k4 k5 k6 k7 k8 k9 j0 j1 j2 j3 j4 j5 j6 j7 j8 j9 hw w)
              | (intro w hw
                 refine hK _ ?_
                 clear hK K hw w)
              | (refine hK _ ?_; clear hK K)
          refine sealed_nil ?_
          clear h8
          intro wq h8
          go_wp2_with fail
          go_roundw
          case rel => exact ⟨k + 1, L, a7, c7, by omega, by go_num, HOL.out, by omega, rfl, h8.sel 6 [0, 1, 5]⟩
          case measure => simp [intOf]; omega
        by_cases g1 : call = 1
        · subst g1
          have h3 : holds _ (blk wr.heap.size (.cells #[.int .i64 1, .int .i64 x, .int .i64 y] 34 (0, 0)) :: bookAt (.pointer (some ⟨b, 0, none⟩)) l :: roTk (.slice a6 l.length c6) l :: roTri (.slice (some ⟨ga, oa, none⟩) acts.length cap) acts :: F) := h2.alloc (.cells #[.int .i64 1, .int .i64 x, .int .i64 y] 34 (0, 0))
          clear h2
          have G1 := Lib.hid (fun w F h => ref32_Turn w (.slice a6 l.length c6) l x 1 F (by omega) (by omega) HOK.out (by omega) h)
          have G2 := Lib.hid (fun w F h => book_Pass w (.pointer (some ⟨b, 0, none⟩)) l x F (by omega) h)
          have hok2 := Book.turn_ok HOK.out x (s := 1) (by omega) (by omega)
          have HOL := Lib.hid hok2.1
          have hLl : (Book.turn l x 1).1.length ≤ l.length + 1 := by rw [hok2.2]; omega
          clear hok2
          generalize Book.turn l x 1 = r at G1 G2 HOL hLl
          obtain ⟨L, er⟩ := r
          simp only at G1 G2 HOL hLl
          have c0 := cellAt h3.get_blk 0
          have c1 := cellAt h3.get_blk 1
          have c2 := cellAt h3.get_blk 2
          simp only [List.getElem?_toArray, List.getElem?_cons_succ, List.getElem?_cons_zero] at c0 c1 c2
          go_wp2_with fail
          refine (G1.out _ _ (h3.sel 3 [2, 0, 1])).mono ?_
          rintro e3 w3 ⟨v6, rfl, h4⟩
          obtain ⟨a7, c7, rfl, _⟩ := roTk_form h4
          have c1 := cellAt (h4.pick 2).get_blk 1
          have c2 := cellAt (h4.pick 2).get_blk 2
          simp only [List.getElem?_toArray, List.getElem?_cons_succ, List.getElem?_cons_zero] at c1 c2
          clear c0 h3
          go_wp2_with fail
          refine (G2.out _ _ (h4.sel 4 [3, 0, 2])).mono ?_
          rintro e4 w4 ⟨rfl, h5⟩
          have hT : holds w4 (blk wr.heap.size (.cells #[.int .i64 1, .int .i64 x, .int .i64 y] 34 (0, 0)) :: bookAt (.pointer (some ⟨b, 0, none⟩)) L :: roTk (.slice a7 L.length c7) L :: roTri (.slice (some ⟨ga, oa, none⟩) acts.length cap) acts :: F) := h5.sel 4 [2, 0, 1, 3]
          clear c1 c2 h4 h5 G1 G2
          have H1 := Lib.hid (fun w F h => ref32_Get w (.slice a7 L.length c7) L x F HOL.out (by omega) h)
          have H2 := Lib.hid (fun w F h => book_Get w (.pointer (some ⟨b, 0, none⟩)) L x F (by omega) h)
          have H3 := Lib.hid (fun w F h => book_Len w (.pointer (some ⟨b, 0, none⟩)) L F h)
          have H4 := Lib.hid (fun w F h => book_Waits w (.pointer (some ⟨b, 0, none⟩)) L x F (by omega) h)
          have H5 := Lib.hid (fun w F h => ref32_Of w (.slice a7 L.length c7) L x F (by omega) h)
          generalize Book.of L x = q at H4 H5
          unfold tkR tkV tkCells at H1 H2
          generalize Book.get L x = r at H1 H2
          obtain ⟨t, e⟩ := r
          have c1 := cellAt hT.get_blk 1
          simp only [List.getElem?_toArray, List.getElem?_cons_succ, List.getElem?_cons_zero] at c1
          go_wp2_with fail
          refine (H1.out _ _ (hT.sel 4 [2, 0, 1, 3])).mono ?_
          rintro e5 w5 ⟨rfl, h5⟩
          have h6 : holds _ (bookAt (.pointer (some ⟨b, 0, none⟩)) L :: blk wr.heap.size (.cells #[.int .i64 1, .int .i64 x, .int .i64 y] 34 (0, 0)) :: blk w5.heap.size _ :: roTk (.slice a7 L.length c7) L :: roTri (.slice (some ⟨ga, oa, none⟩) acts.length cap) acts :: F) := (h5.alloc (.cells (tkCells t) 43 (0, 0))).sel 5 [3, 2, 0, 1, 4]
          unfold tkCells at h6
          clear c1 hT h5
          have c1 := cellAt (h6.pick 1).get_blk 1
          simp only [List.getElem?_toArray, List.getElem?_cons_succ, List.getElem?_cons_zero] at c1
          go_wp2_with fail
          refine (H2.out _ _ h6).mono ?_
          rintro e6 w6 ⟨rfl, h7⟩
          have h8 : holds _ (bookAt (.pointer (some ⟨b, 0, none⟩)) L :: roTk (.slice a7 L.length c7) L :: blk wr.heap.size _ :: blk w5.heap.size _ :: blk w6.heap.size _ :: roTri (.slice (some ⟨ga, oa, none⟩) acts.length cap) acts :: F) := (h7.alloc (.cells (tkCells t) 43 (0, 0))).sel 6 [1, 4, 2, 3, 0, 5]
          clear c1 h6 h7
          have HSE := Lib.hid (show ∀ z, holds z (bookAt (.pointer (some ⟨b, 0, none⟩)) L :: roTk (.slice a7 L.length c7) L :: blk wr.heap.size (.cells #[.int .i64 1, .int .i64 x, .int .i64 y] 34 (0, 0)) :: blk w5.heap.size (.cells (tkCells t) 43 (0, 0)) :: blk w6.heap.size (.cells (tkCells t) 43 (0, 0)) :: roTri (.slice (some ⟨ga, oa, none⟩) acts.length cap) acts :: F) → z.cell? ⟨wr.heap.size, 1, none⟩ = some (.int .i64 x) ∧ _ ∧ _ from fun z h => And.intro (cellAt (h.pick 2).get_blk 1) (And.intro (tk_cells (t := t) (h.pick 3)) (tk_cells (t := t) (h.pick 4))))
          have hq := eqTk_run t
          unfold tkV at hq
          unfold tkCells at hq h8
          have hgt : (decide ((0 : Int) < (q.length : Int))) = decide (0 < q.length) := by simp
          generalize hB : decide (0 < q.length) = bq at H4 hgt
          go_wp2_with fail
          refine wp_region_loose (fun k => match k with | 10 => some ⟨fun u => u = .int .i64 L.length, fun _ => []⟩ | 19 => some ⟨fun u => u = .bool bq, fun _ => []⟩ | 23 => some ⟨fun u => ∃ (a : Option Addr) (c : Nat), u = .slice a q.length c, fun _ => []⟩ | _ => none) (bookAt (.pointer (some ⟨b, 0, none⟩)) L :: roTk (.slice a7 L.length c7) L :: blk wr.heap.size (.cells #[.int .i64 1, .int .i64 x, .int .i64 y] 34 (0, 0)) :: blk w5.heap.size (.cells (tkCells t) 43 (0, 0)) :: blk w6.heap.size (.cells (tkCells t) 43 (0, 0)) :: roTri (.slice (some ⟨ga, oa, none⟩) acts.length cap) acts :: F) (by kernel_rfl) (by kernel_rfl) h8 ?_
          refine loose_seal ?_
          iterate 10
            refine sealed_exact rfl (fun K hK => ?_)
            go_simp
            first
              | (intro w hw
                 obtain ⟨c1, ⟨k0, k1, k2, k3, k4, k5, k6, k7, k8, k9⟩, j0, j1, j2, j3, j4, j5, j6, j7, j8, j9⟩ := HSE.out _ hw
                 go_simp
                 refine hK _ ?_
                 clear hK K c1 k0 k1 k2 k3 k4 k5 k6 k7 k8 k9 j0 j1 j2 j3 j4 j5 j6 j7 j8 j9 hw w)
              | (intro w hw
                 refine hK _ ?_
                 clear hK K hw w)
              | (refine hK _ ?_; clear hK K)
          refine sealed_call (k := 10) rfl (by go_simp) (fun w F hw => ?_) (fun u hu => ?_)
          · go_simp
            go_at_call 35
            exact (H3.out _ _ hw).mono fun e w' ⟨he, hh⟩ => ⟨_, he, rfl, hh⟩
          obtain rfl := hu
          iterate 8
            refine sealed_exact rfl (fun K hK => ?_)
            go_simp
            first
              | (intro w hw
                 obtain ⟨c1, ⟨k0, k1, k2, k3, k4, k5, k6, k7, k8, k9⟩, j0, j1, j2, j3, j4, j5, j6, j7, j8, j9⟩ := HSE.out _ hw
                 go_simp
                 refine hK _ ?_
                 clear hK K c1 k0 k1 k2 k3 k4 k5 k6 k7 k8 k9 j0 j1 j2 j3 j4 j5 j6 j7 j8 j9 hw w)
              | (intro w hw
                 refine hK _ ?_
                 clear hK K hw w)
              | (refine hK _ ?_; clear hK K)
          refine sealed_call (k := 19) rfl (by go_simp) (fun w F hw => ?_) (fun u hu => ?_)
          · go_simp
            go_at_call 28
            exact (H4.out _ _ hw).mono fun e w' ⟨he, hh⟩ => ⟨_, he, rfl, hh⟩
          obtain rfl := hu
          iterate 3
            refine sealed_exact rfl (fun K hK => ?_)
            go_simp
            first
              | (intro w hw
                 obtain ⟨c1, ⟨k0, k1, k2, k3, k4, k5, k6, k7, k8, k9⟩, j0, j1, j2, j3, j4, j5, j6, j7, j8, j9⟩ := HSE.out _ hw
                 go_simp
                 refine hK _ ?_
                 clear hK K c1 k0 k1 k2 k3 k4 k5 k6 k7 k8 k9 j0 j1 j2 j3 j4 j5 j6 j7 j8 j9 hw w)
              | (intro w hw
                 refine hK _ ?_
                 clear hK K hw w)
              | (refine hK _ ?_; clear hK K)
          refine sealed_call (k := 23) rfl (by go_simp) (fun w F hw => ?_) (fun u hu => ?_)
          · go_simp
            go_at_call 36
            refine (H5.out _ _ (show holds w (_ :: _ :: _) from hw.order [1, 0])).mono ?_
            rintro e w2 ⟨r, rfl, h2⟩
            obtain ⟨a2, c2, rfl⟩ := ownInts_form h2
            exact ⟨_, rfl, ⟨a2, c2, rfl⟩, (show holds w2 (_ :: _ :: _) from h2.tail).order [1, 0]⟩
          obtain ⟨a9, c9, rfl⟩ := hu
          iterate 4
            refine sealed_exact rfl (fun K hK => ?_)
            go_simp
            first
              | (intro w hw
                 obtain ⟨c1, ⟨k0, k1, k2, k3, k4, k5, k6, k7, k8, k9⟩, j0, j1, j2, j3, j4, j5, j6, j7, j8, j9⟩ := HSE.out _ hw
                 go_simp
                 refine hK _ ?_
                 clear hK K c1 k0 k1 k2 k3 k4 k5 k6 k7 k8 k9 j0 j1 j2 j3 j4 j5 j6 j7 j8 j9 hw w)
              | (intro w hw
                 refine hK _ ?_
                 clear hK K hw w)
              | (refine hK _ ?_; clear hK K)
          refine sealed_nil ?_
          clear h8
          intro wq h8
          go_wp2_with fail
          go_roundw
          case rel => exact ⟨k + 1, L, a7, c7, by omega, by go_num, HOL.out, by omega, rfl, h8.sel 6 [0, 1, 5]⟩
          case measure => simp [intOf]; omega
        by_cases g2 : call = 2
        · subst g2
          have h3 : holds _ (blk wr.heap.size (.cells #[.int .i64 2, .int .i64 x, .int .i64 y] 34 (0, 0)) :: bookAt (.pointer (some ⟨b, 0, none⟩)) l :: roTk (.slice a6 l.length c6) l :: roTri (.slice (some ⟨ga, oa, none⟩) acts.length cap) acts :: F) := h2.alloc (.cells #[.int .i64 2, .int .i64 x, .int .i64 y] 34 (0, 0))
          clear h2
          have G1 := Lib.hid (fun w F h => ref32_Turn w (.slice a6 l.length c6) l x 2 F (by omega) (by omega) HOK.out (by omega) h)
          have G2 := Lib.hid (fun w F h => book_Grant w (.pointer (some ⟨b, 0, none⟩)) l x F (by omega) h)
          have hok2 := Book.turn_ok HOK.out x (s := 2) (by omega) (by omega)
          have HOL := Lib.hid hok2.1
          have hLl : (Book.turn l x 2).1.length ≤ l.length + 1 := by rw [hok2.2]; omega
          clear hok2
          generalize Book.turn l x 2 = r at G1 G2 HOL hLl
          obtain ⟨L, er⟩ := r
          simp only at G1 G2 HOL hLl
          have c0 := cellAt h3.get_blk 0
          have c1 := cellAt h3.get_blk 1
          have c2 := cellAt h3.get_blk 2
          simp only [List.getElem?_toArray, List.getElem?_cons_succ, List.getElem?_cons_zero] at c0 c1 c2
          go_wp2_with fail
          refine (G1.out _ _ (h3.sel 3 [2, 0, 1])).mono ?_
          rintro e3 w3 ⟨v6, rfl, h4⟩
          obtain ⟨a7, c7, rfl, _⟩ := roTk_form h4
          have c1 := cellAt (h4.pick 2).get_blk 1
          have c2 := cellAt (h4.pick 2).get_blk 2
          simp only [List.getElem?_toArray, List.getElem?_cons_succ, List.getElem?_cons_zero] at c1 c2
          clear c0 h3
          go_wp2_with fail
          refine (G2.out _ _ (h4.sel 4 [3, 0, 2])).mono ?_
          rintro e4 w4 ⟨rfl, h5⟩
          have hT : holds w4 (blk wr.heap.size (.cells #[.int .i64 2, .int .i64 x, .int .i64 y] 34 (0, 0)) :: bookAt (.pointer (some ⟨b, 0, none⟩)) L :: roTk (.slice a7 L.length c7) L :: roTri (.slice (some ⟨ga, oa, none⟩) acts.length cap) acts :: F) := h5.sel 4 [2, 0, 1, 3]
          clear c1 c2 h4 h5 G1 G2
          have H1 := Lib.hid (fun w F h => ref32_Get w (.slice a7 L.length c7) L x F HOL.out (by omega) h)
          have H2 := Lib.hid (fun w F h => book_Get w (.pointer (some ⟨b, 0, none⟩)) L x F (by omega) h)
          have H3 := Lib.hid (fun w F h => book_Len w (.pointer (some ⟨b, 0, none⟩)) L F h)
          have H4 := Lib.hid (fun w F h => book_Waits w (.pointer (some ⟨b, 0, none⟩)) L x F (by omega) h)
          have H5 := Lib.hid (fun w F h => ref32_Of w (.slice a7 L.length c7) L x F (by omega) h)
          generalize Book.of L x = q at H4 H5
          unfold tkR tkV tkCells at H1 H2
          generalize Book.get L x = r at H1 H2
          obtain ⟨t, e⟩ := r
          have c1 := cellAt hT.get_blk 1
          simp only [List.getElem?_toArray, List.getElem?_cons_succ, List.getElem?_cons_zero] at c1
          go_wp2_with fail
          refine (H1.out _ _ (hT.sel 4 [2, 0, 1, 3])).mono ?_
          rintro e5 w5 ⟨rfl, h5⟩
          have h6 : holds _ (bookAt (.pointer (some ⟨b, 0, none⟩)) L :: blk wr.heap.size (.cells #[.int .i64 2, .int .i64 x, .int .i64 y] 34 (0, 0)) :: blk w5.heap.size _ :: roTk (.slice a7 L.length c7) L :: roTri (.slice (some ⟨ga, oa, none⟩) acts.length cap) acts :: F) := (h5.alloc (.cells (tkCells t) 43 (0, 0))).sel 5 [3, 2, 0, 1, 4]
          unfold tkCells at h6
          clear c1 hT h5
          have c1 := cellAt (h6.pick 1).get_blk 1
          simp only [List.getElem?_toArray, List.getElem?_cons_succ, List.getElem?_cons_zero] at c1
          go_wp2_with fail
          refine (H2.out _ _ h6).mono ?_
          rintro e6 w6 ⟨rfl, h7⟩
          have h8 : holds _ (bookAt (.pointer (some ⟨b, 0, none⟩)) L :: roTk (.slice a7 L.length c7) L :: blk wr.heap.size _ :: blk w5.heap.size _ :: blk w6.heap.size _ :: roTri (.slice (some ⟨ga, oa, none⟩) acts.length cap) acts :: F) := (h7.alloc (.cells (tkCells t) 43 (0, 0))).sel 6 [1, 4, 2, 3, 0, 5]
          clear c1 h6 h7
          have HSE := Lib.hid (show ∀ z, holds z (bookAt (.pointer (some ⟨b, 0, none⟩)) L :: roTk (.slice a7 L.length c7) L :: blk wr.heap.size (.cells #[.int .i64 2, .int .i64 x, .int .i64 y] 34 (0, 0)) :: blk w5.heap.size (.cells (tkCells t) 43 (0, 0)) :: blk w6.heap.size (.cells (tkCells t) 43 (0, 0)) :: roTri (.slice (some ⟨ga, oa, none⟩) acts.length cap) acts :: F) → z.cell? ⟨wr.heap.size, 1, none⟩ = some (.int .i64 x) ∧ _ ∧ _ from fun z h => And.intro (cellAt (h.pick 2).get_blk 1) (And.intro (tk_cells (t := t) (h.pick 3)) (tk_cells (t := t) (h.pick 4))))
          have hq := eqTk_run t
          unfold tkV at hq
          unfold tkCells at hq h8
          have hgt : (decide ((0 : Int) < (q.length : Int))) = decide (0 < q.length) := by simp
          generalize hB : decide (0 < q.length) = bq at H4 hgt
          go_wp2_with fail
          refine wp_region_loose (fun k => match k with | 10 => some ⟨fun u => u = .int .i64 L.length, fun _ => []⟩ | 19 => some ⟨fun u => u = .bool bq, fun _ => []⟩ | 23 => some ⟨fun u => ∃ (a : Option Addr) (c : Nat), u = .slice a q.length c, fun _ => []⟩ | _ => none) (bookAt (.pointer (some ⟨b, 0, none⟩)) L :: roTk (.slice a7 L.length c7) L :: blk wr.heap.size (.cells #[.int .i64 2, .int .i64 x, .int .i64 y] 34 (0, 0)) :: blk w5.heap.size (.cells (tkCells t) 43 (0, 0)) :: blk w6.heap.size (.cells (tkCells t) 43 (0, 0)) :: roTri (.slice (some ⟨ga, oa, none⟩) acts.length cap) acts :: F) (by kernel_rfl) (by kernel_rfl) h8 ?_
          refine loose_seal ?_
          iterate 10
            refine sealed_exact rfl (fun K hK => ?_)
            go_simp
            first
              | (intro w hw
                 obtain ⟨c1, ⟨k0, k1, k2, k3, k4, k5, k6, k7, k8, k9⟩, j0, j1, j2, j3, j4, j5, j6, j7, j8, j9⟩ := HSE.out _ hw
                 go_simp
                 refine hK _ ?_
                 clear hK K c1 k0 k1 k2 k3 k4 k5 k6 k7 k8 k9 j0 j1 j2 j3 j4 j5 j6 j7 j8 j9 hw w)
              | (intro w hw
                 refine hK _ ?_
                 clear hK K hw w)
              | (refine hK _ ?_; clear hK K)
          refine sealed_call (k := 10) rfl (by go_simp) (fun w F hw => ?_) (fun u hu => ?_)
          · go_simp
            go_at_call 35
            exact (H3.out _ _ hw).mono fun e w' ⟨he, hh⟩ => ⟨_, he, rfl, hh⟩
          obtain rfl := hu
          iterate 8
            refine sealed_exact rfl (fun K hK => ?_)
            go_simp
            first
              | (intro w hw
                 obtain ⟨c1, ⟨k0, k1, k2, k3, k4, k5, k6, k7, k8, k9⟩, j0, j1, j2, j3, j4, j5, j6, j7, j8, j9⟩ := HSE.out _ hw
                 go_simp
                 refine hK _ ?_
                 clear hK K c1 k0 k1 k2 k3 k4 k5 k6 k7 k8 k9 j0 j1 j2 j3 j4 j5 j6 j7 j8 j9 hw w)
              | (intro w hw
                 refine hK _ ?_
                 clear hK K hw w)
              | (refine hK _ ?_; clear hK K)
          refine sealed_call (k := 19) rfl (by go_simp) (fun w F hw => ?_) (fun u hu => ?_)
          · go_simp
            go_at_call 28
            exact (H4.out _ _ hw).mono fun e w' ⟨he, hh⟩ => ⟨_, he, rfl, hh⟩
          obtain rfl := hu
          iterate 3
            refine sealed_exact rfl (fun K hK => ?_)
            go_simp
            first
              | (intro w hw
                 obtain ⟨c1, ⟨k0, k1, k2, k3, k4, k5, k6, k7, k8, k9⟩, j0, j1, j2, j3, j4, j5, j6, j7, j8, j9⟩ := HSE.out _ hw
                 go_simp
                 refine hK _ ?_
                 clear hK K c1 k0 k1 k2 k3 k4 k5 k6 k7 k8 k9 j0 j1 j2 j3 j4 j5 j6 j7 j8 j9 hw w)
              | (intro w hw
                 refine hK _ ?_
                 clear hK K hw w)
              | (refine hK _ ?_; clear hK K)
          refine sealed_call (k := 23) rfl (by go_simp) (fun w F hw => ?_) (fun u hu => ?_)
          · go_simp
            go_at_call 36
            refine (H5.out _ _ (show holds w (_ :: _ :: _) from hw.order [1, 0])).mono ?_
            rintro e w2 ⟨r, rfl, h2⟩
            obtain ⟨a2, c2, rfl⟩ := ownInts_form h2
            exact ⟨_, rfl, ⟨a2, c2, rfl⟩, (show holds w2 (_ :: _ :: _) from h2.tail).order [1, 0]⟩
          obtain ⟨a9, c9, rfl⟩ := hu
          iterate 4
            refine sealed_exact rfl (fun K hK => ?_)
            go_simp
            first
              | (intro w hw
                 obtain ⟨c1, ⟨k0, k1, k2, k3, k4, k5, k6, k7, k8, k9⟩, j0, j1, j2, j3, j4, j5, j6, j7, j8, j9⟩ := HSE.out _ hw
                 go_simp
                 refine hK _ ?_
                 clear hK K c1 k0 k1 k2 k3 k4 k5 k6 k7 k8 k9 j0 j1 j2 j3 j4 j5 j6 j7 j8 j9 hw w)
              | (intro w hw
                 refine hK _ ?_
                 clear hK K hw w)
              | (refine hK _ ?_; clear hK K)
          refine sealed_nil ?_
          clear h8
          intro wq h8
          go_wp2_with fail
          go_roundw
          case rel => exact ⟨k + 1, L, a7, c7, by omega, by go_num, HOL.out, by omega, rfl, h8.sel 6 [0, 1, 5]⟩
          case measure => simp [intOf]; omega
        by_cases g3 : call = 3
        · subst g3
          have h3 : holds _ (blk wr.heap.size (.cells #[.int .i64 3, .int .i64 x, .int .i64 y] 34 (0, 0)) :: bookAt (.pointer (some ⟨b, 0, none⟩)) l :: roTk (.slice a6 l.length c6) l :: roTri (.slice (some ⟨ga, oa, none⟩) acts.length cap) acts :: F) := h2.alloc (.cells #[.int .i64 3, .int .i64 x, .int .i64 y] 34 (0, 0))
          clear h2
          have G1 := Lib.hid (fun w F h => ref32_Turn w (.slice a6 l.length c6) l x 3 F (by omega) (by omega) HOK.out (by omega) h)
          have G2 := Lib.hid (fun w F h => book_Cancel w (.pointer (some ⟨b, 0, none⟩)) l x F (by omega) h)
          have hok2 := Book.turn_ok HOK.out x (s := 3) (by omega) (by omega)
          have HOL := Lib.hid hok2.1
          have hLl : (Book.turn l x 3).1.length ≤ l.length + 1 := by rw [hok2.2]; omega
          clear hok2
          generalize Book.turn l x 3 = r at G1 G2 HOL hLl
          obtain ⟨L, er⟩ := r
          simp only at G1 G2 HOL hLl
          have c0 := cellAt h3.get_blk 0
          have c1 := cellAt h3.get_blk 1
          have c2 := cellAt h3.get_blk 2
          simp only [List.getElem?_toArray, List.getElem?_cons_succ, List.getElem?_cons_zero] at c0 c1 c2
          go_wp2_with fail
          refine (G1.out _ _ (h3.sel 3 [2, 0, 1])).mono ?_
          rintro e3 w3 ⟨v6, rfl, h4⟩
          obtain ⟨a7, c7, rfl, _⟩ := roTk_form h4
          have c1 := cellAt (h4.pick 2).get_blk 1
          have c2 := cellAt (h4.pick 2).get_blk 2
          simp only [List.getElem?_toArray, List.getElem?_cons_succ, List.getElem?_cons_zero] at c1 c2
          clear c0 h3
          go_wp2_with fail
          refine (G2.out _ _ (h4.sel 4 [3, 0, 2])).mono ?_
          rintro e4 w4 ⟨rfl, h5⟩
          have hT : holds w4 (blk wr.heap.size (.cells #[.int .i64 3, .int .i64 x, .int .i64 y] 34 (0, 0)) :: bookAt (.pointer (some ⟨b, 0, none⟩)) L :: roTk (.slice a7 L.length c7) L :: roTri (.slice (some ⟨ga, oa, none⟩) acts.length cap) acts :: F) := h5.sel 4 [2, 0, 1, 3]
          clear c1 c2 h4 h5 G1 G2
          have H1 := Lib.hid (fun w F h => ref32_Get w (.slice a7 L.length c7) L x F HOL.out (by omega) h)
          have H2 := Lib.hid (fun w F h => book_Get w (.pointer (some ⟨b, 0, none⟩)) L x F (by omega) h)
          have H3 := Lib.hid (fun w F h => book_Len w (.pointer (some ⟨b, 0, none⟩)) L F h)
          have H4 := Lib.hid (fun w F h => book_Waits w (.pointer (some ⟨b, 0, none⟩)) L x F (by omega) h)
          have H5 := Lib.hid (fun w F h => ref32_Of w (.slice a7 L.length c7) L x F (by omega) h)
          generalize Book.of L x = q at H4 H5
          unfold tkR tkV tkCells at H1 H2
          generalize Book.get L x = r at H1 H2
          obtain ⟨t, e⟩ := r
          have c1 := cellAt hT.get_blk 1
          simp only [List.getElem?_toArray, List.getElem?_cons_succ, List.getElem?_cons_zero] at c1
          go_wp2_with fail
          refine (H1.out _ _ (hT.sel 4 [2, 0, 1, 3])).mono ?_
          rintro e5 w5 ⟨rfl, h5⟩
          have h6 : holds _ (bookAt (.pointer (some ⟨b, 0, none⟩)) L :: blk wr.heap.size (.cells #[.int .i64 3, .int .i64 x, .int .i64 y] 34 (0, 0)) :: blk w5.heap.size _ :: roTk (.slice a7 L.length c7) L :: roTri (.slice (some ⟨ga, oa, none⟩) acts.length cap) acts :: F) := (h5.alloc (.cells (tkCells t) 43 (0, 0))).sel 5 [3, 2, 0, 1, 4]
          unfold tkCells at h6
          clear c1 hT h5
          have c1 := cellAt (h6.pick 1).get_blk 1
          simp only [List.getElem?_toArray, List.getElem?_cons_succ, List.getElem?_cons_zero] at c1
          go_wp2_with fail
          refine (H2.out _ _ h6).mono ?_
          rintro e6 w6 ⟨rfl, h7⟩
          have h8 : holds _ (bookAt (.pointer (some ⟨b, 0, none⟩)) L :: roTk (.slice a7 L.length c7) L :: blk wr.heap.size _ :: blk w5.heap.size _ :: blk w6.heap.size _ :: roTri (.slice (some ⟨ga, oa, none⟩) acts.length cap) acts :: F) := (h7.alloc (.cells (tkCells t) 43 (0, 0))).sel 6 [1, 4, 2, 3, 0, 5]
          clear c1 h6 h7
          have HSE := Lib.hid (show ∀ z, holds z (bookAt (.pointer (some ⟨b, 0, none⟩)) L :: roTk (.slice a7 L.length c7) L :: blk wr.heap.size (.cells #[.int .i64 3, .int .i64 x, .int .i64 y] 34 (0, 0)) :: blk w5.heap.size (.cells (tkCells t) 43 (0, 0)) :: blk w6.heap.size (.cells (tkCells t) 43 (0, 0)) :: roTri (.slice (some ⟨ga, oa, none⟩) acts.length cap) acts :: F) → z.cell? ⟨wr.heap.size, 1, none⟩ = some (.int .i64 x) ∧ _ ∧ _ from fun z h => And.intro (cellAt (h.pick 2).get_blk 1) (And.intro (tk_cells (t := t) (h.pick 3)) (tk_cells (t := t) (h.pick 4))))
          have hq := eqTk_run t
          unfold tkV at hq
          unfold tkCells at hq h8
          have hgt : (decide ((0 : Int) < (q.length : Int))) = decide (0 < q.length) := by simp
          generalize hB : decide (0 < q.length) = bq at H4 hgt
          go_wp2_with fail
          refine wp_region_loose (fun k => match k with | 10 => some ⟨fun u => u = .int .i64 L.length, fun _ => []⟩ | 19 => some ⟨fun u => u = .bool bq, fun _ => []⟩ | 23 => some ⟨fun u => ∃ (a : Option Addr) (c : Nat), u = .slice a q.length c, fun _ => []⟩ | _ => none) (bookAt (.pointer (some ⟨b, 0, none⟩)) L :: roTk (.slice a7 L.length c7) L :: blk wr.heap.size (.cells #[.int .i64 3, .int .i64 x, .int .i64 y] 34 (0, 0)) :: blk w5.heap.size (.cells (tkCells t) 43 (0, 0)) :: blk w6.heap.size (.cells (tkCells t) 43 (0, 0)) :: roTri (.slice (some ⟨ga, oa, none⟩) acts.length cap) acts :: F) (by kernel_rfl) (by kernel_rfl) h8 ?_
          refine loose_seal ?_
          iterate 10
            refine sealed_exact rfl (fun K hK => ?_)
            go_simp
            first
              | (intro w hw
                 obtain ⟨c1, ⟨k0, k1, k2, k3, k4, k5, k6, k7, k8, k9⟩, j0, j1, j2, j3, j4, j5, j6, j7, j8, j9⟩ := HSE.out _ hw
                 go_simp
                 refine hK _ ?_
                 clear hK K c1 k0 k1 k2 k3 k4 k5 k6 k7 k8 k9 j0 j1 j2 j3 j4 j5 j6 j7 j8 j9 hw w)
              | (intro w hw
                 refine hK _ ?_
                 clear hK K hw w)
              | (refine hK _ ?_; clear hK K)
          refine sealed_call (k := 10) rfl (by go_simp) (fun w F hw => ?_) (fun u hu => ?_)
          · go_simp
            go_at_call 35
            exact (H3.out _ _ hw).mono fun e w' ⟨he, hh⟩ => ⟨_, he, rfl, hh⟩
          obtain rfl := hu
          iterate 8
            refine sealed_exact rfl (fun K hK => ?_)
            go_simp
            first
              | (intro w hw
                 obtain ⟨c1, ⟨k0, k1, k2, k3, k4, k5, k6, k7, k8, k9⟩, j0, j1, j2, j3, j4, j5, j6, j7, j8, j9⟩ := HSE.out _ hw
                 go_simp
                 refine hK _ ?_
                 clear hK K c1 k0 k1 k2 k3 k4 k5 k6 k7 k8 k9 j0 j1 j2 j3 j4 j5 j6 j7 j8 j9 hw w)
              | (intro w hw
                 refine hK _ ?_
                 clear hK K hw w)
              | (refine hK _ ?_; clear hK K)
          refine sealed_call (k := 19) rfl (by go_simp) (fun w F hw => ?_) (fun u hu => ?_)
          · go_simp
            go_at_call 28
            exact (H4.out _ _ hw).mono fun e w' ⟨he, hh⟩ => ⟨_, he, rfl, hh⟩
          obtain rfl := hu
          iterate 3
            refine sealed_exact rfl (fun K hK => ?_)
            go_simp
            first
              | (intro w hw
                 obtain ⟨c1, ⟨k0, k1, k2, k3, k4, k5, k6, k7, k8, k9⟩, j0, j1, j2, j3, j4, j5, j6, j7, j8, j9⟩ := HSE.out _ hw
                 go_simp
                 refine hK _ ?_
                 clear hK K c1 k0 k1 k2 k3 k4 k5 k6 k7 k8 k9 j0 j1 j2 j3 j4 j5 j6 j7 j8 j9 hw w)
              | (intro w hw
                 refine hK _ ?_
                 clear hK K hw w)
              | (refine hK _ ?_; clear hK K)
          refine sealed_call (k := 23) rfl (by go_simp) (fun w F hw => ?_) (fun u hu => ?_)
          · go_simp
            go_at_call 36
            refine (H5.out _ _ (show holds w (_ :: _ :: _) from hw.order [1, 0])).mono ?_
            rintro e w2 ⟨r, rfl, h2⟩
            obtain ⟨a2, c2, rfl⟩ := ownInts_form h2
            exact ⟨_, rfl, ⟨a2, c2, rfl⟩, (show holds w2 (_ :: _ :: _) from h2.tail).order [1, 0]⟩
          obtain ⟨a9, c9, rfl⟩ := hu
          iterate 4
            refine sealed_exact rfl (fun K hK => ?_)
            go_simp
            first
              | (intro w hw
                 obtain ⟨c1, ⟨k0, k1, k2, k3, k4, k5, k6, k7, k8, k9⟩, j0, j1, j2, j3, j4, j5, j6, j7, j8, j9⟩ := HSE.out _ hw
                 go_simp
                 refine hK _ ?_
                 clear hK K c1 k0 k1 k2 k3 k4 k5 k6 k7 k8 k9 j0 j1 j2 j3 j4 j5 j6 j7 j8 j9 hw w)
              | (intro w hw
                 refine hK _ ?_
                 clear hK K hw w)
              | (refine hK _ ?_; clear hK K)
          refine sealed_nil ?_
          clear h8
          intro wq h8
          go_wp2_with fail
          go_roundw
          case rel => exact ⟨k + 1, L, a7, c7, by omega, by go_num, HOL.out, by omega, rfl, h8.sel 6 [0, 1, 5]⟩
          case measure => simp [intOf]; omega
        have d0 : (call == 0) = false := by simpa using g0
        have d1 : (call == 1) = false := by simpa using g1
        have d2 : (call == 2) = false := by simpa using g2
        have d3 : (call == 3) = false := by simpa using g3
        clear g0 g1 g2 g3
        have h3 : holds _ (blk wr.heap.size (.cells #[.int .i64 call, .int .i64 x, .int .i64 y] 34 (0, 0)) :: bookAt (.pointer (some ⟨b, 0, none⟩)) l :: roTk (.slice a6 l.length c6) l :: roTri (.slice (some ⟨ga, oa, none⟩) acts.length cap) acts :: F) := h2.alloc (.cells #[.int .i64 call, .int .i64 x, .int .i64 y] 34 (0, 0))
        clear h2
        have HOL := HOK
        have hLl : l.length ≤ l.length + 1 := by omega
        have c0 := cellAt h3.get_blk 0
        have c1 := cellAt h3.get_blk 1
        have c2 := cellAt h3.get_blk 2
        simp only [List.getElem?_toArray, List.getElem?_cons_succ, List.getElem?_cons_zero] at c0 c1 c2
        have hT := h3
        have H1 := Lib.hid (fun w F h => ref32_Get w (.slice a6 l.length c6) l x F HOL.out (by omega) h)
        have H2 := Lib.hid (fun w F h => book_Get w (.pointer (some ⟨b, 0, none⟩)) l x F (by omega) h)
        have H3 := Lib.hid (fun w F h => book_Len w (.pointer (some ⟨b, 0, none⟩)) l F h)
        have H4 := Lib.hid (fun w F h => book_Waits w (.pointer (some ⟨b, 0, none⟩)) l x F (by omega) h)
        have H5 := Lib.hid (fun w F h => ref32_Of w (.slice a6 l.length c6) l x F (by omega) h)
        generalize Book.of l x = q at H4 H5
        unfold tkR tkV tkCells at H1 H2
        generalize Book.get l x = r at H1 H2
        obtain ⟨t, e⟩ := r
        have c1 := cellAt hT.get_blk 1
        simp only [List.getElem?_toArray, List.getElem?_cons_succ, List.getElem?_cons_zero] at c1
        go_wp2_with fail
        refine (H1.out _ _ (hT.sel 4 [2, 0, 1, 3])).mono ?_
        rintro e5 w5 ⟨rfl, h5⟩
        have h6 : holds _ (bookAt (.pointer (some ⟨b, 0, none⟩)) l :: blk wr.heap.size (.cells #[.int .i64 call, .int .i64 x, .int .i64 y] 34 (0, 0)) :: blk w5.heap.size _ :: roTk (.slice a6 l.length c6) l :: roTri (.slice (some ⟨ga, oa, none⟩) acts.length cap) acts :: F) := (h5.alloc (.cells (tkCells t) 43 (0, 0))).sel 5 [3, 2, 0, 1, 4]
        unfold tkCells at h6
        clear c1 hT h5
        have c1 := cellAt (h6.pick 1).get_blk 1
        simp only [List.getElem?_toArray, List.getElem?_cons_succ, List.getElem?_cons_zero] at c1
        go_wp2_with fail
        refine (H2.out _ _ h6).mono ?_
        rintro e6 w6 ⟨rfl, h7⟩
        have h8 : holds _ (bookAt (.pointer (some ⟨b, 0, none⟩)) l :: roTk (.slice a6 l.length c6) l :: blk wr.heap.size _ :: blk w5.heap.size _ :: blk w6.heap.size _ :: roTri (.slice (some ⟨ga, oa, none⟩) acts.length cap) acts :: F) := (h7.alloc (.cells (tkCells t) 43 (0, 0))).sel 6 [1, 4, 2, 3, 0, 5]
        clear c1 h6 h7
        have HSE := Lib.hid (show ∀ z, holds z (bookAt (.pointer (some ⟨b, 0, none⟩)) l :: roTk (.slice a6 l.length c6) l :: blk wr.heap.size (.cells #[.int .i64 call, .int .i64 x, .int .i64 y] 34 (0, 0)) :: blk w5.heap.size (.cells (tkCells t) 43 (0, 0)) :: blk w6.heap.size (.cells (tkCells t) 43 (0, 0)) :: roTri (.slice (some ⟨ga, oa, none⟩) acts.length cap) acts :: F) → z.cell? ⟨wr.heap.size, 1, none⟩ = some (.int .i64 x) ∧ _ ∧ _ from fun z h => And.intro (cellAt (h.pick 2).get_blk 1) (And.intro (tk_cells (t := t) (h.pick 3)) (tk_cells (t := t) (h.pick 4))))
        have hq := eqTk_run t
        unfold tkV at hq
        unfold tkCells at hq h8
        have hgt : (decide ((0 : Int) < (q.length : Int))) = decide (0 < q.length) := by simp
        generalize hB : decide (0 < q.length) = bq at H4 hgt
        go_wp2_with fail
        refine wp_region_loose (fun k => match k with | 10 => some ⟨fun u => u = .int .i64 l.length, fun _ => []⟩ | 19 => some ⟨fun u => u = .bool bq, fun _ => []⟩ | 23 => some ⟨fun u => ∃ (a : Option Addr) (c : Nat), u = .slice a q.length c, fun _ => []⟩ | _ => none) (bookAt (.pointer (some ⟨b, 0, none⟩)) l :: roTk (.slice a6 l.length c6) l :: blk wr.heap.size (.cells #[.int .i64 call, .int .i64 x, .int .i64 y] 34 (0, 0)) :: blk w5.heap.size (.cells (tkCells t) 43 (0, 0)) :: blk w6.heap.size (.cells (tkCells t) 43 (0, 0)) :: roTri (.slice (some ⟨ga, oa, none⟩) acts.length cap) acts :: F) (by kernel_rfl) (by kernel_rfl) h8 ?_
        refine loose_seal ?_
        iterate 10
          refine sealed_exact rfl (fun K hK => ?_)
          go_simp
          first
            | (intro w hw
               obtain ⟨c1, ⟨k0, k1, k2, k3, k4, k5, k6, k7, k8, k9⟩, j0, j1, j2, j3, j4, j5, j6, j7, j8, j9⟩ := HSE.out _ hw
               go_simp
               refine hK _ ?_
               clear hK K c1 k0 k1 k2 k3 k4 k5 k6 k7 k8 k9 j0 j1 j2 j3 j4 j5 j6 j7 j8 j9 hw w)
            | (intro w hw
               refine hK _ ?_
               clear hK K hw w)
            | (refine hK _ ?_; clear hK K)
        refine sealed_call (k := 10) rfl (by go_simp) (fun w F hw => ?_) (fun u hu => ?_)
        · go_simp
          go_at_call 35
          exact (H3.out _ _ hw).mono fun e w' ⟨he, hh⟩ => ⟨_, he, rfl, hh⟩
        obtain rfl := hu
        iterate 8
          refine sealed_exact rfl (fun K hK => ?_)
          go_simp
          first
            | (intro w hw
               obtain ⟨c1, ⟨k0, k1, k2, k3, k4, k5, k6, k7, k8, k9⟩, j0, j1, j2, j3, j4, j5, j6, j7, j8, j9⟩ := HSE.out _ hw
               go_simp
               refine hK _ ?_
               clear hK K c1 k0 k1 k2 k3 k4 k5 k6 k7 k8 k9 j0 j1 j2 j3 j4 j5 j6 j7 j8 j9 hw w)
            | (intro w hw
               refine hK _ ?_
               clear hK K hw w)
            | (refine hK _ ?_; clear hK K)
        refine sealed_call (k := 19) rfl (by go_simp) (fun w F hw => ?_) (fun u hu => ?_)
        · go_simp
          go_at_call 28
          exact (H4.out _ _ hw).mono fun e w' ⟨he, hh⟩ => ⟨_, he, rfl, hh⟩
        obtain rfl := hu
        iterate 3
          refine sealed_exact rfl (fun K hK => ?_)
          go_simp
          first
            | (intro w hw
               obtain ⟨c1, ⟨k0, k1, k2, k3, k4, k5, k6, k7, k8, k9⟩, j0, j1, j2, j3, j4, j5, j6, j7, j8, j9⟩ := HSE.out _ hw
               go_simp
               refine hK _ ?_
               clear hK K c1 k0 k1 k2 k3 k4 k5 k6 k7 k8 k9 j0 j1 j2 j3 j4 j5 j6 j7 j8 j9 hw w)
            | (intro w hw
               refine hK _ ?_
               clear hK K hw w)
            | (refine hK _ ?_; clear hK K)
        refine sealed_call (k := 23) rfl (by go_simp) (fun w F hw => ?_) (fun u hu => ?_)
        · go_simp
          go_at_call 36
          refine (H5.out _ _ (show holds w (_ :: _ :: _) from hw.order [1, 0])).mono ?_
          rintro e w2 ⟨r, rfl, h2⟩
          obtain ⟨a2, c2, rfl⟩ := ownInts_form h2
          exact ⟨_, rfl, ⟨a2, c2, rfl⟩, (show holds w2 (_ :: _ :: _) from h2.tail).order [1, 0]⟩
        obtain ⟨a9, c9, rfl⟩ := hu
        iterate 4
          refine sealed_exact rfl (fun K hK => ?_)
          go_simp
          first
            | (intro w hw
               obtain ⟨c1, ⟨k0, k1, k2, k3, k4, k5, k6, k7, k8, k9⟩, j0, j1, j2, j3, j4, j5, j6, j7, j8, j9⟩ := HSE.out _ hw
               go_simp
               refine hK _ ?_
               clear hK K c1 k0 k1 k2 k3 k4 k5 k6 k7 k8 k9 j0 j1 j2 j3 j4 j5 j6 j7 j8 j9 hw w)
            | (intro w hw
               refine hK _ ?_
               clear hK K hw w)
            | (refine hK _ ?_; clear hK K)
        refine sealed_nil ?_
        clear h8
        intro wq h8
        go_wp2_with fail
        go_roundw
        case rel => exact ⟨k + 1, l, a6, c6, by omega, by go_num, HOL.out, by omega, rfl, h8.sel 6 [0, 1, 5]⟩
        case measure => simp [intOf]; omega
      · obtain rfl : k = acts.length := by omega
        clear hlt
        have HO := Lib.hid (fun w F h => book_Of w (.pointer (some ⟨b, 0, none⟩)) l n F (by omega) h)
        have HR := Lib.hid (fun w F h => ref32_Of w (.slice a6 l.length c6) l n F (by omega) h)
        have hq := of_le l n
        have hql : (Book.of l n).length ≤ 80 := by omega
        clear hq
        generalize Book.of l n = q at HO HR hql
        have HQ := Lib.hid hql
        clear hql
        go_wp2_with fail
        refine (book_Pending _ _ l _ (by omega) h2).mono ?_
        rintro e3 w3 ⟨r1, rfl, h3⟩
        have h4 : holds w3 (roTk (.slice a6 l.length c6) l :: ownTk r1 (pend l) :: bookAt (.pointer (some ⟨b, 0, none⟩)) l :: roTri (.slice a acts.length cap) acts :: F) := h3.sel 4 [2, 0, 1, 3]
        clear h2 h3
        go_wp2_with fail
        refine (ref32_Pending _ _ l _ (by omega) h4).mono ?_
        rintro e5 w5 ⟨r2, rfl, h5⟩
        have h6 : holds w5 (ownTk r1 (pend l) :: roTk r2 (pend l) :: roTk (.slice a6 l.length c6) l :: bookAt (.pointer (some ⟨b, 0, none⟩)) l :: roTri (.slice a acts.length cap) acts :: F) := (holds.shareTk h5).sel 5 [2, 0, 1, 3, 4]
        clear h4 h5
        have hpl := pend_le l
        go_wp2_with fail
        refine (base_SameTickets _ _ _ (pend l) _ (by omega) (holds.shareTk h6)).mono ?_
        rintro e7 w7 ⟨rfl, h7⟩
        go_wp2_with fail
        refine (HO.out _ _ (h7.sel 3 [1, 0, 2])).mono ?_
        rintro e8 w8 ⟨r3, rfl, h8⟩
        have h9 : holds w8 (roTk (.slice a6 l.length c6) l :: ownInts r3 q :: roTri (.slice a acts.length cap) acts :: F) := h8.sel 4 [2, 0, 3]
        clear h6 h7 h8
        go_wp2_with fail
        refine (HR.out _ _ h9).mono ?_
        rintro e10 w10 ⟨r4, rfl, h10⟩
        have h11 : holds w10 (ownInts r3 q :: roInts r4 q :: roTri (.slice a acts.length cap) acts :: F) := h10.shareInts.sel 4 [2, 0, 3]
        go_wp2_with fail
        refine (base_SameInts _ _ _ q q _ (by have := HQ.out; omega) h11.shareInts).mono ?_
        rintro e12 w12 ⟨rfl, h12⟩
        simp only [decide_true]
        go_wp2_with fail
        refine (law32_works _ _ h12.tail.tail.tail).mono ?_
        rintro e13 w13 ⟨rfl, h13⟩
        go_wp2_with fail
        go_ret
        exact ⟨rfl, h13⟩
end Go.Proofs.Ytdcekeclemgkcaa
