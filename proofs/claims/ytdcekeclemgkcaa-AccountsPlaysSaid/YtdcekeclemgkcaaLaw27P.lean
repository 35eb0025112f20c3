/- The law AccountsPlays. -/
import Derived.Test.YtdcekeclemgkcaaLaw27
import Derived.Test.YtdcekeclemgkcaaMembD
import Derived.Test.YtdcekeclemgkcaaQuad
namespace Go.Proofs.Ytdcekeclemgkcaa
open Go Go.RowKit Go.MapKept
set_option maxRecDepth 100000
set_option linter.unusedVariables false
set_option maxHeartbeats 4000000
attribute [local go_sem] exactUpon looseUpon

theorem dupMb2 {w : World} {F : List HProp} {u v : Value} {M : List (Int × AcM)} (h : holds w (roMb u M :: roMb v M :: F)) : holds w (roMb u M :: roMb v M :: roMb u M :: roMb v M :: F) := by
  have h1 : holds w (roMb u M :: roMb u M :: roMb v M :: F) := holds.dupRow h
  have h2 : holds w (roMb v M :: roMb v M :: roMb u M :: roMb u M :: F) := holds.dupRow (h1.order [2, 0, 1])
  exact h2.order [2, 0, 3, 1]

theorem law_AccountsPlays (va : Value) (acts : List QuadM) (m0 : acts.length ≤ maxLen) (w : World) (F : List HProp) (hw : holds w (roQuad va acts :: F)) :
    Calls Try.prog 8 #[va] w fun e w' => e = .returned (.bool true) ∧ holds w' F := by
  obtain ⟨a, cap, rfl, hcap⟩ := roQuad_form hw
  by_cases h60 : 60 < acts.length
  · go_enter Try.func8, Try.ntmps8
    go_wp2_with fail
    refine (law27_works _ _ hw.tail).mono ?_
    rintro e w2 ⟨rfl, h2⟩
    go_wp2_with fail
    go_ret
    exact ⟨rfl, h2⟩
  · go_enter Try.func8, Try.ntmps8
    go_wp2_with fail
    refine (accs_New _ _ hw).mono ?_
    rintro e w1 ⟨v, rfl, h1⟩
    obtain ⟨b, rfl⟩ : ∃ b, v = .pointer (some ⟨b, 0, none⟩) := by obtain ⟨b, _, _, _, e, _⟩ := open_accs h1; exact ⟨b, e⟩
    go_wp2_with fail
    refine (ref27_New _ _ h1).mono ?_
    rintro e w2 ⟨vo, vg, vA, rfl, h2⟩
    obtain ⟨a1, c1, rfl, _⟩ := roBools_form h2
    obtain ⟨a2, c2, rfl, _⟩ := roInts_form (h2.pick 1)
    obtain ⟨a4, c4, rfl, _⟩ := roAc_form (h2.pick 2)
    simp only [List.length_replicate] at h2 ⊢
    unfold tV
    have h3 := h2.alloc (.cells #[.slice a1 64 c1, .slice a2 64 c2, .slice none 0 0, .int .i64 0, .slice a4 64 c4] 72 (0, 0))
    have h4 : holds _ (roInts (.slice none 0 0) [] :: _ :: _ :: _ :: _ :: _ :: _ :: F) := holds_roRow_nil h3 1
    have h5 : holds _ (accsAt (.pointer (some ⟨b, 0, none⟩)) ⟨SlotsM.new 64, List.replicate 64 ac0⟩ :: roBools (.slice a1 64 c1) (List.replicate 64 false) :: roInts (.slice a2 64 c2) (List.replicate 64 0) :: roInts (.slice none 0 0) [] :: roAc (.slice a4 64 c4) (List.replicate 64 ac0) :: blk w2.heap.size _ :: roQuad (.slice a acts.length cap) acts :: F) := h4.order [5, 2, 3, 0, 4, 1]
    rw [← ob_new] at h5
    clear h1 h2 h3 h4 hw
    go_wp2_with fail
    generalize w2.heap.size = n4 at h5 ⊢
    go_loopw [5] (fun i wr => ∃ (k : Nat) (s : SlotsM) (A : List AcM) (a1 : Option Addr) (c1 : Nat) (a2 : Option Addr) (c2 : Nat) (a3 : Option Addr) (c3 : Nat) (a4 : Option Addr) (c4 : Nat), k ≤ acts.length ∧ i = .int .i64 k ∧ (AccsM.mk s A).Ok k ∧ s.gens.length = 64 ∧ holds wr (accsAt (.pointer (some ⟨b, 0, none⟩)) ⟨s, A⟩ :: roBools (.slice a1 64 c1) (openBools s) :: roInts (.slice a2 64 c2) s.gens :: roInts (.slice a3 s.closed.length c3) s.closed :: roAc (.slice a4 64 c4) A :: blk n4 (.cells #[.slice a1 64 c1, .slice a2 64 c2, .slice a3 s.closed.length c3, .int .i64 s.fresh, .slice a4 64 c4] 72 (0, 0)) :: roQuad (.slice a acts.length cap) acts :: F)) (fun i _ => acts.length - (intOf i).toNat)
    case atStart => exact ⟨0, SlotsM.new 64, List.replicate 64 ac0, a1, c1, a2, c2, none, 0, a4, c4, Nat.zero_le _, rfl, AccsM.Ok.new, by simp [SlotsM.new], h5⟩
    case round =>
      obtain ⟨k, s, A, a1, c1, a2, c2, a3, c3, a4, c4, hk, rfl, hok, hg, h2⟩ := hrel
      clear h5
      by_cases hlt : k < acts.length
      · obtain ⟨ga, oa, ca, hv, _, hc⟩ := (h2.pick 6).quadAt (by omega)
        cases hv
        obtain ⟨k0, k1, k2, k3⟩ := hc k hlt
        clear hc
        generalize acts[k] = ak at k0 k1 k2 k3
        obtain ⟨call, p, g, n⟩ := ak
        simp only at k0 k1 k2 k3
        have hAl : A.length = 64 := by have := hok.len; simp only at this; omega
        by_cases g0 : call = 0
        · subst g0
          have HO1 := Lib.hid (fun w F h => ref27_Open w (.slice a1 64 c1) (.slice a2 64 c2) (.slice a3 s.closed.length c3) (.slice a4 64 c4) s k A n F hok.good (by omega) hok.len (by rw [hAl]; omega) h)
          have HO2 := Lib.hid (fun w F h => accs_Open w (.pointer (some ⟨b, 0, none⟩)) ⟨s, A⟩ k n F hok.good hok.len h)
          have hL := hok.open n
          generalize Accs.open ⟨s, A⟩ n = r at HO1 HO2 hL
          obtain ⟨⟨s2, A2⟩, pl, gn, er⟩ := r
          have hok2 : (AccsM.mk s2 A2).Ok (k + 1) := hL.1.up
          have hg2 : s2.gens.length = 64 := hL.2.trans hg
          clear hL hok hg hAl
          unfold tV at HO1
          simp only at HO1 HO2
          have h3 : holds _ (roBools (.slice a1 64 c1) (openBools s) :: roInts (.slice a2 64 c2) s.gens :: roInts (.slice a3 s.closed.length c3) s.closed :: roAc (.slice a4 64 c4) A :: accsAt (.pointer (some ⟨b, 0, none⟩)) ⟨s, A⟩ :: blk n4 (.cells #[.slice a1 64 c1, .slice a2 64 c2, .slice a3 s.closed.length c3, .int .i64 s.fresh, .slice a4 64 c4] 72 (0, 0)) :: blk wr.heap.size (.cells #[.int .i64 0, .int .i64 p, .int .i64 g, .int .i64 n] 75 (0, 0)) :: roQuad (.slice (some ⟨ga, oa, none⟩) acts.length cap) acts :: F) := (h2.alloc (.cells #[.int .i64 0, .int .i64 p, .int .i64 g, .int .i64 n] 75 (0, 0))).order [2, 3, 4, 5, 1, 6, 0]
          clear h2
          obtain ⟨t0, t1, t2, t3, t4, -⟩ := cells5 (h3.pick 5)
          have fq0 := cellAt (h3.pick 6).get_blk 0
          have fq1 := cellAt (h3.pick 6).get_blk 1
          have fq2 := cellAt (h3.pick 6).get_blk 2
          have fq3 := cellAt (h3.pick 6).get_blk 3
          simp only [List.getElem?_toArray, List.getElem?_cons_succ, List.getElem?_cons_zero] at fq0 fq1 fq2 fq3
          go_wp2_with fail
          refine (HO1.out _ _ h3).mono ?_
          rintro e4 w4 ⟨vo, vg, vc, vA, rfl, h4⟩
          obtain ⟨b1, d1, rfl, _⟩ := roBools_form h4
          obtain ⟨b2, d2, rfl, _⟩ := roInts_form (h4.pick 1)
          obtain ⟨b3, d3, rfl, _⟩ := roInts_form (h4.pick 2)
          obtain ⟨b4, d4, rfl, _⟩ := roAc_form (h4.pick 3)
          have hob := ob_len s2
          rw [hg2] at hob
          have hal := hok2.len
          simp only at hal
          rw [hg2] at hal
          simp only [hob, hg2, hal] at h4 ⊢
          clear hob hal
          have h5 : holds _ (accsAt (.pointer (some ⟨b, 0, none⟩)) ⟨s, A⟩ :: roBools (.slice b1 64 d1) (openBools s2) :: roInts (.slice b2 64 d2) s2.gens :: roInts (.slice b3 s2.closed.length d3) s2.closed :: roAc (.slice b4 64 d4) A2 :: blk w4.heap.size _ :: blk n4 (.cells #[.slice a1 64 c1, .slice a2 64 c2, .slice a3 s.closed.length c3, .int .i64 s.fresh, .slice a4 64 c4] 72 (0, 0)) :: blk wr.heap.size (.cells #[.int .i64 0, .int .i64 p, .int .i64 g, .int .i64 n] 75 (0, 0)) :: roQuad (.slice (some ⟨ga, oa, none⟩) acts.length cap) acts :: F) := (h4.alloc (.cells #[.slice b1 64 d1, .slice b2 64 d2, .slice b3 s2.closed.length d3, .int .i64 s2.fresh, .slice b4 64 d4] 72 (0, 0))).order [5, 1, 2, 3, 4, 0]
          clear t0 t1 t2 t3 t4 fq0 fq1 fq2 fq3 h3 h4
          have fq0 := cellAt (h5.pick 7).get_blk 0
          have fq1 := cellAt (h5.pick 7).get_blk 1
          have fq2 := cellAt (h5.pick 7).get_blk 2
          have fq3 := cellAt (h5.pick 7).get_blk 3
          simp only [List.getElem?_toArray, List.getElem?_cons_succ, List.getElem?_cons_zero] at fq0 fq1 fq2 fq3
          go_wp2_with fail
          refine (HO2.out _ _ h5).mono ?_
          rintro e6 w6 ⟨rfl, h6⟩
          clear fq0 fq1 fq2 fq3 h5
          obtain ⟨z0, z1, z2, z3, z4, -⟩ := cells5 (h6.pick 5)
          have hst : holds w6 (blk n4 (.cells #[.slice a1 64 c1, .slice a2 64 c2, .slice a3 s.closed.length c3, .int .i64 s.fresh, .slice a4 64 c4] 72 (0, 0)) :: roBools (.slice b1 64 d1) (openBools s2) :: roInts (.slice b2 64 d2) s2.gens :: roInts (.slice b3 s2.closed.length d3) s2.closed :: roAc (.slice b4 64 d4) A2 :: accsAt (.pointer (some ⟨b, 0, none⟩)) ⟨s2, A2⟩ :: blk wr.heap.size (.cells #[.int .i64 0, .int .i64 p, .int .i64 g, .int .i64 n] 75 (0, 0)) :: roQuad (.slice (some ⟨ga, oa, none⟩) acts.length cap) acts :: F) := h6.sel 8 [6, 1, 2, 3, 4, 0, 7]
          clear h6
          have hg2b := hok2.len
          simp only at hg2b
          rw [hg2] at hg2b
          have HOK2 := Lib.hid hok2
          have HG2 := Lib.hid hg2
          have HT1 := Lib.hid (fun w F h => ref27_Get w (.slice b1 64 d1) (.slice b2 64 d2) (.slice b3 s2.closed.length d3) (.slice b4 64 d4) s2 A2 p g F HOK2.out.good.ok (by rw [hg2b, HG2.out]) (by omega) h)
          have HT2 := Lib.hid (fun w F h => accs_Get w (.pointer (some ⟨b, 0, none⟩)) ⟨s2, A2⟩ p g F HOK2.out.good.ok h)
          have HH1 := Lib.hid (fun w F h => accs_Held w (.pointer (some ⟨b, 0, none⟩)) ⟨s2, A2⟩ (k + 1) F HOK2.out (by rw [HG2.out]; omega) h)
          have HH2 := Lib.hid (fun w F h => ref27_Held w (.slice b1 64 d1) (.slice b2 64 d2) (.slice b3 s2.closed.length d3) (.slice b4 64 d4) ⟨s2, A2⟩ (k + 1) F HOK2.out (by rw [HG2.out]; omega) h)
          have HM1 := Lib.hid (fun w F h => accs_Members w (.pointer (some ⟨b, 0, none⟩)) ⟨s2, A2⟩ (k + 1) F HOK2.out (by rw [HG2.out]; omega) h)
          have HM2 := Lib.hid (fun w F h => ref27_Members w (.slice b1 64 d1) (.slice b2 64 d2) (.slice b3 s2.closed.length d3) (.slice b4 64 d4) ⟨s2, A2⟩ (k + 1) F HOK2.out (by rw [HG2.out]; omega) h)
          have hM : (AccsM.mk s2 A2).members.length ≤ 1000000000 := by
            have := HOK2.out.opn_le
            rw [HG2.out] at this
            unfold AccsM.members
            rw [List.length_map, AccsM.ids_len]
            omega
          generalize (AccsM.mk s2 A2).members = M at HM1 HM2 hM
          generalize acSum (AccsM.mk s2 A2).A = hsum at HH1 HH2
          generalize Accs.get s2 A2 p g = r at HT1 HT2
          obtain ⟨x, e⟩ := r
          unfold acR acV acCells at HT1 HT2
          unfold tV at HT1 HH2 HM2
          simp only at HT1 HT2 HH1 HH2 HM1 HM2
          clear hok2 hg2 hg2b
          go_wp2_with (refine wpList_store_sl rfl rfl _ _ _ rfl (off := 0) (.agg #[.slice b1 64 d1, .slice b2 64 d2, .slice b3 s2.closed.length d3, .int .i64 s2.fresh, .slice b4 64 d4]) rfl rfl Try.sizeT27 (by simp [Value.cells, Value.oneCell']) hst (by simp [Value.cells]) ?_; clear z0 z1 z2 z3 z4; intro wS hS; have hT : holds wS (roBools (.slice b1 64 d1) (openBools s2) :: roInts (.slice b2 64 d2) s2.gens :: roInts (.slice b3 s2.closed.length d3) s2.closed :: roAc (.slice b4 64 d4) A2 :: accsAt (.pointer (some ⟨b, 0, none⟩)) ⟨s2, A2⟩ :: blk n4 (.cells #[.slice b1 64 d1, .slice b2 64 d2, .slice b3 s2.closed.length d3, .int .i64 s2.fresh, .slice b4 64 d4] 72 (0, 0)) :: blk wr.heap.size (.cells #[.int .i64 0, .int .i64 p, .int .i64 g, .int .i64 n] 75 (0, 0)) :: roQuad (.slice (some ⟨ga, oa, none⟩) acts.length cap) acts :: F) := (show holds wS (blk n4 (.cells #[.slice b1 64 d1, .slice b2 64 d2, .slice b3 s2.closed.length d3, .int .i64 s2.fresh, .slice b4 64 d4] 72 (0, 0)) :: roBools (.slice b1 64 d1) (openBools s2) :: roInts (.slice b2 64 d2) s2.gens :: roInts (.slice b3 s2.closed.length d3) s2.closed :: roAc (.slice b4 64 d4) A2 :: accsAt (.pointer (some ⟨b, 0, none⟩)) ⟨s2, A2⟩ :: blk wr.heap.size (.cells #[.int .i64 0, .int .i64 p, .int .i64 g, .int .i64 n] 75 (0, 0)) :: roQuad (.slice (some ⟨ga, oa, none⟩) acts.length cap) acts :: F) from hS).order [1, 2, 3, 4, 5, 0]; obtain ⟨t0, t1, t2, t3, t4, -⟩ := cells5 (hT.pick 5); have fq1 := cellAt (hT.pick 6).get_blk 1; have fq2 := cellAt (hT.pick 6).get_blk 2; simp only [List.getElem?_toArray, List.getElem?_cons_succ, List.getElem?_cons_zero] at fq1 fq2)
          refine (HT1.out _ _ hT).mono ?_
          rintro e5 w5 ⟨rfl, h5⟩
          have h6 : holds _ (accsAt (.pointer (some ⟨b, 0, none⟩)) ⟨s2, A2⟩ :: roBools (.slice b1 64 d1) (openBools s2) :: roInts (.slice b2 64 d2) s2.gens :: roInts (.slice b3 s2.closed.length d3) s2.closed :: roAc (.slice b4 64 d4) A2 :: blk n4 (.cells #[.slice b1 64 d1, .slice b2 64 d2, .slice b3 s2.closed.length d3, .int .i64 s2.fresh, .slice b4 64 d4] 72 (0, 0)) :: blk wr.heap.size (.cells #[.int .i64 0, .int .i64 p, .int .i64 g, .int .i64 n] 75 (0, 0)) :: blk w5.heap.size _ :: roQuad (.slice (some ⟨ga, oa, none⟩) acts.length cap) acts :: F) := (h5.alloc (.cells (acCells x) 86 (0, 0))).order [5, 1, 2, 3, 4, 6, 7, 0]
          unfold acCells at h6
          clear t0 t1 t2 t3 t4 fq1 fq2 hT h5
          have fq1 := cellAt (h6.pick 6).get_blk 1
          have fq2 := cellAt (h6.pick 6).get_blk 2
          simp only [List.getElem?_toArray, List.getElem?_cons_succ, List.getElem?_cons_zero] at fq1 fq2
          go_wp2_with fail
          refine (HT2.out _ _ h6).mono ?_
          rintro e6 w6 ⟨rfl, h7⟩
          have h8 : holds _ (accsAt (.pointer (some ⟨b, 0, none⟩)) ⟨s2, A2⟩ :: roBools (.slice b1 64 d1) (openBools s2) :: roInts (.slice b2 64 d2) s2.gens :: roInts (.slice b3 s2.closed.length d3) s2.closed :: roAc (.slice b4 64 d4) A2 :: blk n4 (.cells #[.slice b1 64 d1, .slice b2 64 d2, .slice b3 s2.closed.length d3, .int .i64 s2.fresh, .slice b4 64 d4] 72 (0, 0)) :: blk wr.heap.size (.cells #[.int .i64 0, .int .i64 p, .int .i64 g, .int .i64 n] 75 (0, 0)) :: blk w5.heap.size (.cells #[.int .i64 x.claim, .int .i64 x.held, .int .i64 x.credits] 86 (0, 0)) :: blk w6.heap.size _ :: roQuad (.slice (some ⟨ga, oa, none⟩) acts.length cap) acts :: F) := (h7.alloc (.cells (acCells x) 86 (0, 0))).order [1, 2, 3, 4, 5, 6, 7, 8, 0]
          unfold acCells at h8
          clear fq1 fq2 h6 h7 HT1 HT2
          have HSE := Lib.hid (show ∀ z, holds z (accsAt (.pointer (some ⟨b, 0, none⟩)) ⟨s2, A2⟩ :: roBools (.slice b1 64 d1) (openBools s2) :: roInts (.slice b2 64 d2) s2.gens :: roInts (.slice b3 s2.closed.length d3) s2.closed :: roAc (.slice b4 64 d4) A2 :: blk n4 (.cells #[.slice b1 64 d1, .slice b2 64 d2, .slice b3 s2.closed.length d3, .int .i64 s2.fresh, .slice b4 64 d4] 72 (0, 0)) :: blk wr.heap.size (.cells #[.int .i64 0, .int .i64 p, .int .i64 g, .int .i64 n] 75 (0, 0)) :: blk w5.heap.size (.cells #[.int .i64 x.claim, .int .i64 x.held, .int .i64 x.credits] 86 (0, 0)) :: blk w6.heap.size (.cells #[.int .i64 x.claim, .int .i64 x.held, .int .i64 x.credits] 86 (0, 0)) :: roQuad (.slice (some ⟨ga, oa, none⟩) acts.length cap) acts :: F) → (_ ∧ _ ∧ _) from fun z h => And.intro (cells5 (h.pick 5)) (And.intro (ac_cells (a := x) (h.pick 7)) (ac_cells (a := x) (h.pick 8))))
          have hq := eqAc_run x
          unfold acV acCells at hq
          go_wp2_with fail
          refine wp_region_loose (fun k => match k with | 10 => some ⟨fun u => u = .int .i64 hsum, fun _ => []⟩ | 12 => some ⟨fun u => u = .int .i64 hsum, fun _ => []⟩ | 17 => some ⟨fun u => ∃ (a : Option Addr) (c : Nat), u = .slice a M.length c, fun u => [roMb u M]⟩ | 19 => some ⟨fun u => ∃ (a : Option Addr) (c : Nat), u = .slice a M.length c, fun u => [roMb u M]⟩ | 20 => some ⟨fun u => u = .bool true, fun _ => []⟩ | _ => none) (accsAt (.pointer (some ⟨b, 0, none⟩)) ⟨s2, A2⟩ :: roBools (.slice b1 64 d1) (openBools s2) :: roInts (.slice b2 64 d2) s2.gens :: roInts (.slice b3 s2.closed.length d3) s2.closed :: roAc (.slice b4 64 d4) A2 :: blk n4 (.cells #[.slice b1 64 d1, .slice b2 64 d2, .slice b3 s2.closed.length d3, .int .i64 s2.fresh, .slice b4 64 d4] 72 (0, 0)) :: blk wr.heap.size (.cells #[.int .i64 0, .int .i64 p, .int .i64 g, .int .i64 n] 75 (0, 0)) :: blk w5.heap.size (.cells #[.int .i64 x.claim, .int .i64 x.held, .int .i64 x.credits] 86 (0, 0)) :: blk w6.heap.size (.cells #[.int .i64 x.claim, .int .i64 x.held, .int .i64 x.credits] 86 (0, 0)) :: roQuad (.slice (some ⟨ga, oa, none⟩) acts.length cap) acts :: F) (by kernel_rfl) (by kernel_rfl) h8 ?_
          refine loose_seal ?_
          iterate 10
            refine sealed_exact rfl (fun K hK => ?_)
            go_simp
            first
              | (intro w hw
                 obtain ⟨⟨t0, t1, t2, t3, t4, u0, u1, u2, u3, u4⟩, ⟨x0, x1, x2, x3, x4, x5⟩, y0, y1, y2, y3, y4, y5⟩ := HSE.out _ hw
                 go_simp
                 refine hK _ ?_
                 clear hK K t0 t1 t2 t3 t4 u0 u1 u2 u3 u4 x0 x1 x2 x3 x4 x5 y0 y1 y2 y3 y4 y5 hw w)
              | (intro w hw
                 refine hK _ ?_
                 clear hK K hw w)
              | (refine hK _ ?_; clear hK K)
          refine sealed_call (k := 10) rfl (by go_simp) (fun w F hw => ?_) (fun u hu => ?_)
          · go_simp
            go_at_call 51
            exact (HH1.out _ _ hw).mono fun e w' ⟨he, hh⟩ => ⟨_, he, rfl, hh⟩
          obtain rfl := hu
          iterate 1
            refine sealed_exact rfl (fun K hK => ?_)
            go_simp
            first
              | (intro w hw
                 obtain ⟨⟨t0, t1, t2, t3, t4, u0, u1, u2, u3, u4⟩, ⟨x0, x1, x2, x3, x4, x5⟩, y0, y1, y2, y3, y4, y5⟩ := HSE.out _ hw
                 go_simp
                 refine hK _ ?_
                 clear hK K t0 t1 t2 t3 t4 u0 u1 u2 u3 u4 x0 x1 x2 x3 x4 x5 y0 y1 y2 y3 y4 y5 hw w)
              | (intro w hw
                 refine hK _ ?_
                 clear hK K hw w)
              | (refine hK _ ?_; clear hK K)
          refine sealed_call (k := 12) rfl (by go_simp) (fun w F hw => ?_) (fun u hu => ?_)
          · go_simp
            go_at_call 52
            refine (HH2.out _ _ (show holds w (_ :: _ :: _ :: _ :: _ :: _) from hw.order [1, 2, 3, 4, 0])).mono ?_
            rintro e w2 ⟨rfl, h2⟩
            exact ⟨_, rfl, rfl, (show holds w2 (_ :: _ :: _ :: _ :: _ :: _) from h2).order [4, 0, 1, 2, 3]⟩
          obtain rfl := hu
          iterate 4
            refine sealed_exact rfl (fun K hK => ?_)
            go_simp
            first
              | (intro w hw
                 obtain ⟨⟨t0, t1, t2, t3, t4, u0, u1, u2, u3, u4⟩, ⟨x0, x1, x2, x3, x4, x5⟩, y0, y1, y2, y3, y4, y5⟩ := HSE.out _ hw
                 go_simp
                 refine hK _ ?_
                 clear hK K t0 t1 t2 t3 t4 u0 u1 u2 u3 u4 x0 x1 x2 x3 x4 x5 y0 y1 y2 y3 y4 y5 hw w)
              | (intro w hw
                 refine hK _ ?_
                 clear hK K hw w)
              | (refine hK _ ?_; clear hK K)
          refine sealed_call (k := 17) rfl (by go_simp) (fun w F hw => ?_) (fun u hu => ?_)
          · go_simp
            go_at_call 54
            refine (HM1.out _ _ hw).mono ?_
            rintro e w2 ⟨a9, c9, rfl, h2⟩
            exact ⟨_, rfl, ⟨a9, c9, rfl⟩, h2⟩
          obtain ⟨aM, cM, rfl⟩ := hu
          iterate 1
            refine sealed_exact rfl (fun K hK => ?_)
            go_simp
            first
              | (intro w hw
                 obtain ⟨⟨t0, t1, t2, t3, t4, u0, u1, u2, u3, u4⟩, ⟨x0, x1, x2, x3, x4, x5⟩, y0, y1, y2, y3, y4, y5⟩ := HSE.out _ hw
                 go_simp
                 refine hK _ ?_
                 clear hK K t0 t1 t2 t3 t4 u0 u1 u2 u3 u4 x0 x1 x2 x3 x4 x5 y0 y1 y2 y3 y4 y5 hw w)
              | (intro w hw
                 refine hK _ ?_
                 clear hK K hw w)
              | (refine hK _ ?_; clear hK K)
          refine sealed_call (k := 19) rfl (by go_simp) (fun w F hw => ?_) (fun u hu => ?_)
          · go_simp
            go_at_call 55
            refine (HM2.out _ _ (show holds w (_ :: _ :: _ :: _ :: _ :: _) from hw.order [1, 2, 3, 4, 0])).mono ?_
            rintro e w2 ⟨a9, c9, rfl, h2⟩
            exact ⟨_, rfl, ⟨a9, c9, rfl⟩, (show holds w2 (_ :: _ :: _ :: _ :: _ :: _ :: _) from h2).order [0, 5, 1, 2, 3, 4]⟩
          obtain ⟨aN, cN, rfl⟩ := hu
          refine sealed_call_on (k := 20) ([roMb (.slice aM M.length cM) M, roMb (.slice aN M.length cN) M]) (by rfl) rfl (by go_simp) (fun w F hw => ?_) (fun u hu => ?_)
          · go_simp
            go_at_call 53
            exact (base_SameMembers _ _ _ M _ hM (dupMb2 hw)).mono fun e w1 ⟨he, hh⟩ => ⟨_, he, rfl, hh⟩
          obtain rfl := hu
          iterate 2
            refine sealed_exact rfl (fun K hK => ?_)
            go_simp
            first
              | (intro w hw
                 obtain ⟨⟨t0, t1, t2, t3, t4, u0, u1, u2, u3, u4⟩, ⟨x0, x1, x2, x3, x4, x5⟩, y0, y1, y2, y3, y4, y5⟩ := HSE.out _ hw
                 go_simp
                 refine hK _ ?_
                 clear hK K t0 t1 t2 t3 t4 u0 u1 u2 u3 u4 x0 x1 x2 x3 x4 x5 y0 y1 y2 y3 y4 y5 hw w)
              | (intro w hw
                 refine hK _ ?_
                 clear hK K hw w)
              | (refine hK _ ?_; clear hK K)
          refine sealed_nil ?_
          clear h8
          intro wq h8
          go_wp2_with fail
          go_roundw
          case rel => exact ⟨k + 1, s2, A2, b1, d1, b2, d2, b3, d3, b4, d4, by omega, by go_num, HOK2.out, HG2.out, h8.sel 10 [0, 1, 2, 3, 4, 5, 9]⟩
          case measure => simp [intOf]; omega
        by_cases g5 : call = 5
        · subst g5
          have HO1 := Lib.hid (fun w F h => ref27_Close w (.slice a1 64 c1) (.slice a2 64 c2) (.slice a3 s.closed.length c3) (.slice a4 64 c4) s k A p g F hok.good (by omega) hok.len (by rw [hAl]; omega) h)
          have HO2 := Lib.hid (fun w F h => accs_Close w (.pointer (some ⟨b, 0, none⟩)) ⟨s, A⟩ k p g F hok (by omega) h)
          have hL := hok.close p g
          generalize Accs.close ⟨s, A⟩ p g = r at HO1 HO2 hL
          obtain ⟨⟨s2, A2⟩, er⟩ := r
          have hok2 : (AccsM.mk s2 A2).Ok (k + 1) := hL.1
          have hg2 : s2.gens.length = 64 := hL.2.trans hg
          clear hL hok hg hAl
          unfold tV at HO1
          simp only at HO1 HO2
          have h3 : holds _ (roBools (.slice a1 64 c1) (openBools s) :: roInts (.slice a2 64 c2) s.gens :: roInts (.slice a3 s.closed.length c3) s.closed :: roAc (.slice a4 64 c4) A :: accsAt (.pointer (some ⟨b, 0, none⟩)) ⟨s, A⟩ :: blk n4 (.cells #[.slice a1 64 c1, .slice a2 64 c2, .slice a3 s.closed.length c3, .int .i64 s.fresh, .slice a4 64 c4] 72 (0, 0)) :: blk wr.heap.size (.cells #[.int .i64 5, .int .i64 p, .int .i64 g, .int .i64 n] 75 (0, 0)) :: roQuad (.slice (some ⟨ga, oa, none⟩) acts.length cap) acts :: F) := (h2.alloc (.cells #[.int .i64 5, .int .i64 p, .int .i64 g, .int .i64 n] 75 (0, 0))).order [2, 3, 4, 5, 1, 6, 0]
          clear h2
          obtain ⟨t0, t1, t2, t3, t4, -⟩ := cells5 (h3.pick 5)
          have fq0 := cellAt (h3.pick 6).get_blk 0
          have fq1 := cellAt (h3.pick 6).get_blk 1
          have fq2 := cellAt (h3.pick 6).get_blk 2
          have fq3 := cellAt (h3.pick 6).get_blk 3
          simp only [List.getElem?_toArray, List.getElem?_cons_succ, List.getElem?_cons_zero] at fq0 fq1 fq2 fq3
          go_wp2_with fail
          refine (HO1.out _ _ h3).mono ?_
          rintro e4 w4 ⟨vo, vg, vc, vA, rfl, h4⟩
          obtain ⟨b1, d1, rfl, _⟩ := roBools_form h4
          obtain ⟨b2, d2, rfl, _⟩ := roInts_form (h4.pick 1)
          obtain ⟨b3, d3, rfl, _⟩ := roInts_form (h4.pick 2)
          obtain ⟨b4, d4, rfl, _⟩ := roAc_form (h4.pick 3)
          have hob := ob_len s2
          rw [hg2] at hob
          have hal := hok2.len
          simp only at hal
          rw [hg2] at hal
          simp only [hob, hg2, hal] at h4 ⊢
          clear hob hal
          have h5 : holds _ (accsAt (.pointer (some ⟨b, 0, none⟩)) ⟨s, A⟩ :: roBools (.slice b1 64 d1) (openBools s2) :: roInts (.slice b2 64 d2) s2.gens :: roInts (.slice b3 s2.closed.length d3) s2.closed :: roAc (.slice b4 64 d4) A2 :: blk w4.heap.size _ :: blk n4 (.cells #[.slice a1 64 c1, .slice a2 64 c2, .slice a3 s.closed.length c3, .int .i64 s.fresh, .slice a4 64 c4] 72 (0, 0)) :: blk wr.heap.size (.cells #[.int .i64 5, .int .i64 p, .int .i64 g, .int .i64 n] 75 (0, 0)) :: roQuad (.slice (some ⟨ga, oa, none⟩) acts.length cap) acts :: F) := (h4.alloc (.cells #[.slice b1 64 d1, .slice b2 64 d2, .slice b3 s2.closed.length d3, .int .i64 s2.fresh, .slice b4 64 d4] 72 (0, 0))).order [5, 1, 2, 3, 4, 0]
          clear t0 t1 t2 t3 t4 fq0 fq1 fq2 fq3 h3 h4
          have fq0 := cellAt (h5.pick 7).get_blk 0
          have fq1 := cellAt (h5.pick 7).get_blk 1
          have fq2 := cellAt (h5.pick 7).get_blk 2
          have fq3 := cellAt (h5.pick 7).get_blk 3
          simp only [List.getElem?_toArray, List.getElem?_cons_succ, List.getElem?_cons_zero] at fq0 fq1 fq2 fq3
          go_wp2_with fail
          refine (HO2.out _ _ h5).mono ?_
          rintro e6 w6 ⟨rfl, h6⟩
          clear fq0 fq1 fq2 fq3 h5
          obtain ⟨z0, z1, z2, z3, z4, -⟩ := cells5 (h6.pick 5)
          have hst : holds w6 (blk n4 (.cells #[.slice a1 64 c1, .slice a2 64 c2, .slice a3 s.closed.length c3, .int .i64 s.fresh, .slice a4 64 c4] 72 (0, 0)) :: roBools (.slice b1 64 d1) (openBools s2) :: roInts (.slice b2 64 d2) s2.gens :: roInts (.slice b3 s2.closed.length d3) s2.closed :: roAc (.slice b4 64 d4) A2 :: accsAt (.pointer (some ⟨b, 0, none⟩)) ⟨s2, A2⟩ :: blk wr.heap.size (.cells #[.int .i64 5, .int .i64 p, .int .i64 g, .int .i64 n] 75 (0, 0)) :: roQuad (.slice (some ⟨ga, oa, none⟩) acts.length cap) acts :: F) := h6.sel 8 [6, 1, 2, 3, 4, 0, 7]
          clear h6
          have hg2b := hok2.len
          simp only at hg2b
          rw [hg2] at hg2b
          have HOK2 := Lib.hid hok2
          have HG2 := Lib.hid hg2
          have HT1 := Lib.hid (fun w F h => ref27_Get w (.slice b1 64 d1) (.slice b2 64 d2) (.slice b3 s2.closed.length d3) (.slice b4 64 d4) s2 A2 p g F HOK2.out.good.ok (by rw [hg2b, HG2.out]) (by omega) h)
          have HT2 := Lib.hid (fun w F h => accs_Get w (.pointer (some ⟨b, 0, none⟩)) ⟨s2, A2⟩ p g F HOK2.out.good.ok h)
          have HH1 := Lib.hid (fun w F h => accs_Held w (.pointer (some ⟨b, 0, none⟩)) ⟨s2, A2⟩ (k + 1) F HOK2.out (by rw [HG2.out]; omega) h)
          have HH2 := Lib.hid (fun w F h => ref27_Held w (.slice b1 64 d1) (.slice b2 64 d2) (.slice b3 s2.closed.length d3) (.slice b4 64 d4) ⟨s2, A2⟩ (k + 1) F HOK2.out (by rw [HG2.out]; omega) h)
          have HM1 := Lib.hid (fun w F h => accs_Members w (.pointer (some ⟨b, 0, none⟩)) ⟨s2, A2⟩ (k + 1) F HOK2.out (by rw [HG2.out]; omega) h)
          have HM2 := Lib.hid (fun w F h => ref27_Members w (.slice b1 64 d1) (.slice b2 64 d2) (.slice b3 s2.closed.length d3) (.slice b4 64 d4) ⟨s2, A2⟩ (k + 1) F HOK2.out (by rw [HG2.out]; omega) h)
          have hM : (AccsM.mk s2 A2).members.length ≤ 1000000000 := by
            have := HOK2.out.opn_le
            rw [HG2.out] at this
            unfold AccsM.members
            rw [List.length_map, AccsM.ids_len]
            omega
          generalize (AccsM.mk s2 A2).members = M at HM1 HM2 hM
          generalize acSum (AccsM.mk s2 A2).A = hsum at HH1 HH2
          generalize Accs.get s2 A2 p g = r at HT1 HT2
          obtain ⟨x, e⟩ := r
          unfold acR acV acCells at HT1 HT2
          unfold tV at HT1 HH2 HM2
          simp only at HT1 HT2 HH1 HH2 HM1 HM2
          clear hok2 hg2 hg2b
          go_wp2_with (refine wpList_store_sl rfl rfl _ _ _ rfl (off := 0) (.agg #[.slice b1 64 d1, .slice b2 64 d2, .slice b3 s2.closed.length d3, .int .i64 s2.fresh, .slice b4 64 d4]) rfl rfl Try.sizeT27 (by simp [Value.cells, Value.oneCell']) hst (by simp [Value.cells]) ?_; clear z0 z1 z2 z3 z4; intro wS hS; have hT : holds wS (roBools (.slice b1 64 d1) (openBools s2) :: roInts (.slice b2 64 d2) s2.gens :: roInts (.slice b3 s2.closed.length d3) s2.closed :: roAc (.slice b4 64 d4) A2 :: accsAt (.pointer (some ⟨b, 0, none⟩)) ⟨s2, A2⟩ :: blk n4 (.cells #[.slice b1 64 d1, .slice b2 64 d2, .slice b3 s2.closed.length d3, .int .i64 s2.fresh, .slice b4 64 d4] 72 (0, 0)) :: blk wr.heap.size (.cells #[.int .i64 5, .int .i64 p, .int .i64 g, .int .i64 n] 75 (0, 0)) :: roQuad (.slice (some ⟨ga, oa, none⟩) acts.length cap) acts :: F) := (show holds wS (blk n4 (.cells #[.slice b1 64 d1, .slice b2 64 d2, .slice b3 s2.closed.length d3, .int .i64 s2.fresh, .slice b4 64 d4] 72 (0, 0)) :: roBools (.slice b1 64 d1) (openBools s2) :: roInts (.slice b2 64 d2) s2.gens :: roInts (.slice b3 s2.closed.length d3) s2.closed :: roAc (.slice b4 64 d4) A2 :: accsAt (.pointer (some ⟨b, 0, none⟩)) ⟨s2, A2⟩ :: blk wr.heap.size (.cells #[.int .i64 5, .int .i64 p, .int .i64 g, .int .i64 n] 75 (0, 0)) :: roQuad (.slice (some ⟨ga, oa, none⟩) acts.length cap) acts :: F) from hS).order [1, 2, 3, 4, 5, 0]; obtain ⟨t0, t1, t2, t3, t4, -⟩ := cells5 (hT.pick 5); have fq1 := cellAt (hT.pick 6).get_blk 1; have fq2 := cellAt (hT.pick 6).get_blk 2; simp only [List.getElem?_toArray, List.getElem?_cons_succ, List.getElem?_cons_zero] at fq1 fq2)
          refine (HT1.out _ _ hT).mono ?_
          rintro e5 w5 ⟨rfl, h5⟩
          have h6 : holds _ (accsAt (.pointer (some ⟨b, 0, none⟩)) ⟨s2, A2⟩ :: roBools (.slice b1 64 d1) (openBools s2) :: roInts (.slice b2 64 d2) s2.gens :: roInts (.slice b3 s2.closed.length d3) s2.closed :: roAc (.slice b4 64 d4) A2 :: blk n4 (.cells #[.slice b1 64 d1, .slice b2 64 d2, .slice b3 s2.closed.length d3, .int .i64 s2.fresh, .slice b4 64 d4] 72 (0, 0)) :: blk wr.heap.size (.cells #[.int .i64 5, .int .i64 p, .int .i64 g, .int .i64 n] 75 (0, 0)) :: blk w5.heap.size _ :: roQuad (.slice (some ⟨ga, oa, none⟩) acts.length cap) acts :: F) := (h5.alloc (.cells (acCells x) 86 (0, 0))).order [5, 1, 2, 3, 4, 6, 7, 0]
          unfold acCells at h6
          clear t0 t1 t2 t3 t4 fq1 fq2 hT h5
          have fq1 := cellAt (h6.pick 6).get_blk 1
          have fq2 := cellAt (h6.pick 6).get_blk 2
          simp only [List.getElem?_toArray, List.getElem?_cons_succ, List.getElem?_cons_zero] at fq1 fq2
          go_wp2_with fail
          refine (HT2.out _ _ h6).mono ?_
          rintro e6 w6 ⟨rfl, h7⟩
          have h8 : holds _ (accsAt (.pointer (some ⟨b, 0, none⟩)) ⟨s2, A2⟩ :: roBools (.slice b1 64 d1) (openBools s2) :: roInts (.slice b2 64 d2) s2.gens :: roInts (.slice b3 s2.closed.length d3) s2.closed :: roAc (.slice b4 64 d4) A2 :: blk n4 (.cells #[.slice b1 64 d1, .slice b2 64 d2, .slice b3 s2.closed.length d3, .int .i64 s2.fresh, .slice b4 64 d4] 72 (0, 0)) :: blk wr.heap.size (.cells #[.int .i64 5, .int .i64 p, .int .i64 g, .int .i64 n] 75 (0, 0)) :: blk w5.heap.size (.cells #[.int .i64 x.claim, .int .i64 x.held, .int .i64 x.credits] 86 (0, 0)) :: blk w6.heap.size _ :: roQuad (.slice (some ⟨ga, oa, none⟩) acts.length cap) acts :: F) := (h7.alloc (.cells (acCells x) 86 (0, 0))).order [1, 2, 3, 4, 5, 6, 7, 8, 0]
          unfold acCells at h8
          clear fq1 fq2 h6 h7 HT1 HT2
          have HSE := Lib.hid (show ∀ z, holds z (accsAt (.pointer (some ⟨b, 0, none⟩)) ⟨s2, A2⟩ :: roBools (.slice b1 64 d1) (openBools s2) :: roInts (.slice b2 64 d2) s2.gens :: roInts (.slice b3 s2.closed.length d3) s2.closed :: roAc (.slice b4 64 d4) A2 :: blk n4 (.cells #[.slice b1 64 d1, .slice b2 64 d2, .slice b3 s2.closed.length d3, .int .i64 s2.fresh, .slice b4 64 d4] 72 (0, 0)) :: blk wr.heap.size (.cells #[.int .i64 5, .int .i64 p, .int .i64 g, .int .i64 n] 75 (0, 0)) :: blk w5.heap.size (.cells #[.int .i64 x.claim, .int .i64 x.held, .int .i64 x.credits] 86 (0, 0)) :: blk w6.heap.size (.cells #[.int .i64 x.claim, .int .i64 x.held, .int .i64 x.credits] 86 (0, 0)) :: roQuad (.slice (some ⟨ga, oa, none⟩) acts.length cap) acts :: F) → (_ ∧ _ ∧ _) from fun z h => And.intro (cells5 (h.pick 5)) (And.intro (ac_cells (a := x) (h.pick 7)) (ac_cells (a := x) (h.pick 8))))
          have hq := eqAc_run x
          unfold acV acCells at hq
          go_wp2_with fail
          refine wp_region_loose (fun k => match k with | 10 => some ⟨fun u => u = .int .i64 hsum, fun _ => []⟩ | 12 => some ⟨fun u => u = .int .i64 hsum, fun _ => []⟩ | 17 => some ⟨fun u => ∃ (a : Option Addr) (c : Nat), u = .slice a M.length c, fun u => [roMb u M]⟩ | 19 => some ⟨fun u => ∃ (a : Option Addr) (c : Nat), u = .slice a M.length c, fun u => [roMb u M]⟩ | 20 => some ⟨fun u => u = .bool true, fun _ => []⟩ | _ => none) (accsAt (.pointer (some ⟨b, 0, none⟩)) ⟨s2, A2⟩ :: roBools (.slice b1 64 d1) (openBools s2) :: roInts (.slice b2 64 d2) s2.gens :: roInts (.slice b3 s2.closed.length d3) s2.closed :: roAc (.slice b4 64 d4) A2 :: blk n4 (.cells #[.slice b1 64 d1, .slice b2 64 d2, .slice b3 s2.closed.length d3, .int .i64 s2.fresh, .slice b4 64 d4] 72 (0, 0)) :: blk wr.heap.size (.cells #[.int .i64 5, .int .i64 p, .int .i64 g, .int .i64 n] 75 (0, 0)) :: blk w5.heap.size (.cells #[.int .i64 x.claim, .int .i64 x.held, .int .i64 x.credits] 86 (0, 0)) :: blk w6.heap.size (.cells #[.int .i64 x.claim, .int .i64 x.held, .int .i64 x.credits] 86 (0, 0)) :: roQuad (.slice (some ⟨ga, oa, none⟩) acts.length cap) acts :: F) (by kernel_rfl) (by kernel_rfl) h8 ?_
          refine loose_seal ?_
          iterate 10
            refine sealed_exact rfl (fun K hK => ?_)
            go_simp
            first
              | (intro w hw
                 obtain ⟨⟨t0, t1, t2, t3, t4, u0, u1, u2, u3, u4⟩, ⟨x0, x1, x2, x3, x4, x5⟩, y0, y1, y2, y3, y4, y5⟩ := HSE.out _ hw
                 go_simp
                 refine hK _ ?_
                 clear hK K t0 t1 t2 t3 t4 u0 u1 u2 u3 u4 x0 x1 x2 x3 x4 x5 y0 y1 y2 y3 y4 y5 hw w)
              | (intro w hw
                 refine hK _ ?_
                 clear hK K hw w)
              | (refine hK _ ?_; clear hK K)
          refine sealed_call (k := 10) rfl (by go_simp) (fun w F hw => ?_) (fun u hu => ?_)
          · go_simp
            go_at_call 51
            exact (HH1.out _ _ hw).mono fun e w' ⟨he, hh⟩ => ⟨_, he, rfl, hh⟩
          obtain rfl := hu
          iterate 1
            refine sealed_exact rfl (fun K hK => ?_)
            go_simp
            first
              | (intro w hw
                 obtain ⟨⟨t0, t1, t2, t3, t4, u0, u1, u2, u3, u4⟩, ⟨x0, x1, x2, x3, x4, x5⟩, y0, y1, y2, y3, y4, y5⟩ := HSE.out _ hw
                 go_simp
                 refine hK _ ?_
                 clear hK K t0 t1 t2 t3 t4 u0 u1 u2 u3 u4 x0 x1 x2 x3 x4 x5 y0 y1 y2 y3 y4 y5 hw w)
              | (intro w hw
                 refine hK _ ?_
                 clear hK K hw w)
              | (refine hK _ ?_; clear hK K)
          refine sealed_call (k := 12) rfl (by go_simp) (fun w F hw => ?_) (fun u hu => ?_)
          · go_simp
            go_at_call 52
            refine (HH2.out _ _ (show holds w (_ :: _ :: _ :: _ :: _ :: _) from hw.order [1, 2, 3, 4, 0])).mono ?_
            rintro e w2 ⟨rfl, h2⟩
            exact ⟨_, rfl, rfl, (show holds w2 (_ :: _ :: _ :: _ :: _ :: _) from h2).order [4, 0, 1, 2, 3]⟩
          obtain rfl := hu
          iterate 4
            refine sealed_exact rfl (fun K hK => ?_)
            go_simp
            first
              | (intro w hw
                 obtain ⟨⟨t0, t1, t2, t3, t4, u0, u1, u2, u3, u4⟩, ⟨x0, x1, x2, x3, x4, x5⟩, y0, y1, y2, y3, y4, y5⟩ := HSE.out _ hw
                 go_simp
                 refine hK _ ?_
                 clear hK K t0 t1 t2 t3 t4 u0 u1 u2 u3 u4 x0 x1 x2 x3 x4 x5 y0 y1 y2 y3 y4 y5 hw w)
              | (intro w hw
                 refine hK _ ?_
                 clear hK K hw w)
              | (refine hK _ ?_; clear hK K)
          refine sealed_call (k := 17) rfl (by go_simp) (fun w F hw => ?_) (fun u hu => ?_)
          · go_simp
            go_at_call 54
            refine (HM1.out _ _ hw).mono ?_
            rintro e w2 ⟨a9, c9, rfl, h2⟩
            exact ⟨_, rfl, ⟨a9, c9, rfl⟩, h2⟩
          obtain ⟨aM, cM, rfl⟩ := hu
          iterate 1
            refine sealed_exact rfl (fun K hK => ?_)
            go_simp
            first
              | (intro w hw
                 obtain ⟨⟨t0, t1, t2, t3, t4, u0, u1, u2, u3, u4⟩, ⟨x0, x1, x2, x3, x4, x5⟩, y0, y1, y2, y3, y4, y5⟩ := HSE.out _ hw
                 go_simp
                 refine hK _ ?_
                 clear hK K t0 t1 t2 t3 t4 u0 u1 u2 u3 u4 x0 x1 x2 x3 x4 x5 y0 y1 y2 y3 y4 y5 hw w)
              | (intro w hw
                 refine hK _ ?_
                 clear hK K hw w)
              | (refine hK _ ?_; clear hK K)
          refine sealed_call (k := 19) rfl (by go_simp) (fun w F hw => ?_) (fun u hu => ?_)
          · go_simp
            go_at_call 55
            refine (HM2.out _ _ (show holds w (_ :: _ :: _ :: _ :: _ :: _) from hw.order [1, 2, 3, 4, 0])).mono ?_
            rintro e w2 ⟨a9, c9, rfl, h2⟩
            exact ⟨_, rfl, ⟨a9, c9, rfl⟩, (show holds w2 (_ :: _ :: _ :: _ :: _ :: _ :: _) from h2).order [0, 5, 1, 2, 3, 4]⟩
          obtain ⟨aN, cN, rfl⟩ := hu
          refine sealed_call_on (k := 20) ([roMb (.slice aM M.length cM) M, roMb (.slice aN M.length cN) M]) (by rfl) rfl (by go_simp) (fun w F hw => ?_) (fun u hu => ?_)
          · go_simp
            go_at_call 53
            exact (base_SameMembers _ _ _ M _ hM (dupMb2 hw)).mono fun e w1 ⟨he, hh⟩ => ⟨_, he, rfl, hh⟩
          obtain rfl := hu
          iterate 2
            refine sealed_exact rfl (fun K hK => ?_)
            go_simp
            first
              | (intro w hw
                 obtain ⟨⟨t0, t1, t2, t3, t4, u0, u1, u2, u3, u4⟩, ⟨x0, x1, x2, x3, x4, x5⟩, y0, y1, y2, y3, y4, y5⟩ := HSE.out _ hw
                 go_simp
                 refine hK _ ?_
                 clear hK K t0 t1 t2 t3 t4 u0 u1 u2 u3 u4 x0 x1 x2 x3 x4 x5 y0 y1 y2 y3 y4 y5 hw w)
              | (intro w hw
                 refine hK _ ?_
                 clear hK K hw w)
              | (refine hK _ ?_; clear hK K)
          refine sealed_nil ?_
          clear h8
          intro wq h8
          go_wp2_with fail
          go_roundw
          case rel => exact ⟨k + 1, s2, A2, b1, d1, b2, d2, b3, d3, b4, d4, by omega, by go_num, HOK2.out, HG2.out, h8.sel 10 [0, 1, 2, 3, 4, 5, 9]⟩
          case measure => simp [intOf]; omega
        have d0 : (call == 0) = false := by simpa using g0
        have d5 : (call == 5) = false := by simpa using g5
        have HO1 := Lib.hid (fun w F h => ref27_Do w (.slice a1 64 c1) (.slice a2 64 c2) (.slice a3 s.closed.length c3) (.slice a4 64 c4) s A call p g n F hok.good.ok hok.len (by rw [hAl]; omega) hok.bd h)
        have HO2 := Lib.hid (fun w F h => accs_Do w (.pointer (some ⟨b, 0, none⟩)) ⟨s, A⟩ k call p g n F hok (by omega) h)
        have hL := hok.act call p g n
        generalize Accs.act ⟨s, A⟩ call p g n = r at HO1 HO2 hL
        obtain ⟨⟨s2, A2⟩, er⟩ := r
        have hok2 : (AccsM.mk s2 A2).Ok (k + 1) := hL.1.up
        have hs2 : s2 = s := hL.2
        subst hs2
        have hg2 : s2.gens.length = 64 := hg
        clear hL hok hg hAl g0 g5
        unfold tV at HO1
        simp only at HO1 HO2
        have h3 : holds _ (roBools (.slice a1 64 c1) (openBools s2) :: roInts (.slice a2 64 c2) s2.gens :: roInts (.slice a3 s2.closed.length c3) s2.closed :: roAc (.slice a4 64 c4) A :: accsAt (.pointer (some ⟨b, 0, none⟩)) ⟨s2, A⟩ :: blk n4 (.cells #[.slice a1 64 c1, .slice a2 64 c2, .slice a3 s2.closed.length c3, .int .i64 s2.fresh, .slice a4 64 c4] 72 (0, 0)) :: blk wr.heap.size (.cells #[.int .i64 call, .int .i64 p, .int .i64 g, .int .i64 n] 75 (0, 0)) :: roQuad (.slice (some ⟨ga, oa, none⟩) acts.length cap) acts :: F) := (h2.alloc (.cells #[.int .i64 call, .int .i64 p, .int .i64 g, .int .i64 n] 75 (0, 0))).order [2, 3, 4, 5, 1, 6, 0]
        clear h2
        obtain ⟨t0, t1, t2, t3, t4, -⟩ := cells5 (h3.pick 5)
        have fq0 := cellAt (h3.pick 6).get_blk 0
        have fq1 := cellAt (h3.pick 6).get_blk 1
        have fq2 := cellAt (h3.pick 6).get_blk 2
        have fq3 := cellAt (h3.pick 6).get_blk 3
        simp only [List.getElem?_toArray, List.getElem?_cons_succ, List.getElem?_cons_zero] at fq0 fq1 fq2 fq3
        go_wp2_with fail
        refine (HO1.out _ _ h3).mono ?_
        rintro e4 w4 ⟨vA, rfl, h4⟩
        obtain ⟨b4, d4, rfl, _⟩ := roAc_form (h4.pick 3)
        have hal := hok2.len
        simp only at hal
        rw [hg2] at hal
        simp only [hal] at h4 ⊢
        clear hal
        have h5 : holds _ (accsAt (.pointer (some ⟨b, 0, none⟩)) ⟨s2, A⟩ :: roBools (.slice a1 64 c1) (openBools s2) :: roInts (.slice a2 64 c2) s2.gens :: roInts (.slice a3 s2.closed.length c3) s2.closed :: roAc (.slice b4 64 d4) A2 :: blk w4.heap.size _ :: blk n4 (.cells #[.slice a1 64 c1, .slice a2 64 c2, .slice a3 s2.closed.length c3, .int .i64 s2.fresh, .slice a4 64 c4] 72 (0, 0)) :: blk wr.heap.size (.cells #[.int .i64 call, .int .i64 p, .int .i64 g, .int .i64 n] 75 (0, 0)) :: roQuad (.slice (some ⟨ga, oa, none⟩) acts.length cap) acts :: F) := (h4.alloc (.cells #[.slice a1 64 c1, .slice a2 64 c2, .slice a3 s2.closed.length c3, .int .i64 s2.fresh, .slice b4 64 d4] 72 (0, 0))).order [5, 1, 2, 3, 4, 0]
        clear t0 t1 t2 t3 t4 fq0 fq1 fq2 fq3 h3 h4
        have fq0 := cellAt (h5.pick 7).get_blk 0
        have fq1 := cellAt (h5.pick 7).get_blk 1
        have fq2 := cellAt (h5.pick 7).get_blk 2
        have fq3 := cellAt (h5.pick 7).get_blk 3
        simp only [List.getElem?_toArray, List.getElem?_cons_succ, List.getElem?_cons_zero] at fq0 fq1 fq2 fq3
        go_wp2_with fail
        refine (HO2.out _ _ h5).mono ?_
        rintro e6 w6 ⟨rfl, h6⟩
        clear fq0 fq1 fq2 fq3 h5
        obtain ⟨z0, z1, z2, z3, z4, -⟩ := cells5 (h6.pick 5)
        have hst : holds w6 (blk n4 (.cells #[.slice a1 64 c1, .slice a2 64 c2, .slice a3 s2.closed.length c3, .int .i64 s2.fresh, .slice a4 64 c4] 72 (0, 0)) :: roBools (.slice a1 64 c1) (openBools s2) :: roInts (.slice a2 64 c2) s2.gens :: roInts (.slice a3 s2.closed.length c3) s2.closed :: roAc (.slice b4 64 d4) A2 :: accsAt (.pointer (some ⟨b, 0, none⟩)) ⟨s2, A2⟩ :: blk wr.heap.size (.cells #[.int .i64 call, .int .i64 p, .int .i64 g, .int .i64 n] 75 (0, 0)) :: roQuad (.slice (some ⟨ga, oa, none⟩) acts.length cap) acts :: F) := h6.sel 8 [6, 1, 2, 3, 4, 0, 7]
        clear h6
        have hg2b := hok2.len
        simp only at hg2b
        rw [hg2] at hg2b
        have HOK2 := Lib.hid hok2
        have HG2 := Lib.hid hg2
        have HT1 := Lib.hid (fun w F h => ref27_Get w (.slice a1 64 c1) (.slice a2 64 c2) (.slice a3 s2.closed.length c3) (.slice b4 64 d4) s2 A2 p g F HOK2.out.good.ok (by rw [hg2b, HG2.out]) (by omega) h)
        have HT2 := Lib.hid (fun w F h => accs_Get w (.pointer (some ⟨b, 0, none⟩)) ⟨s2, A2⟩ p g F HOK2.out.good.ok h)
        have HH1 := Lib.hid (fun w F h => accs_Held w (.pointer (some ⟨b, 0, none⟩)) ⟨s2, A2⟩ (k + 1) F HOK2.out (by rw [HG2.out]; omega) h)
        have HH2 := Lib.hid (fun w F h => ref27_Held w (.slice a1 64 c1) (.slice a2 64 c2) (.slice a3 s2.closed.length c3) (.slice b4 64 d4) ⟨s2, A2⟩ (k + 1) F HOK2.out (by rw [HG2.out]; omega) h)
        have HM1 := Lib.hid (fun w F h => accs_Members w (.pointer (some ⟨b, 0, none⟩)) ⟨s2, A2⟩ (k + 1) F HOK2.out (by rw [HG2.out]; omega) h)
        have HM2 := Lib.hid (fun w F h => ref27_Members w (.slice a1 64 c1) (.slice a2 64 c2) (.slice a3 s2.closed.length c3) (.slice b4 64 d4) ⟨s2, A2⟩ (k + 1) F HOK2.out (by rw [HG2.out]; omega) h)
        have hM : (AccsM.mk s2 A2).members.length ≤ 1000000000 := by
          have := HOK2.out.opn_le
          rw [HG2.out] at this
          unfold AccsM.members
          rw [List.length_map, AccsM.ids_len]
          omega
        generalize (AccsM.mk s2 A2).members = M at HM1 HM2 hM
        generalize acSum (AccsM.mk s2 A2).A = hsum at HH1 HH2
        generalize Accs.get s2 A2 p g = r at HT1 HT2
        obtain ⟨x, e⟩ := r
        unfold acR acV acCells at HT1 HT2
        unfold tV at HT1 HH2 HM2
        simp only at HT1 HT2 HH1 HH2 HM1 HM2
        clear hok2 hg2 hg2b
        go_wp2_with (refine wpList_store_sl rfl rfl _ _ _ rfl (off := 0) (.agg #[.slice a1 64 c1, .slice a2 64 c2, .slice a3 s2.closed.length c3, .int .i64 s2.fresh, .slice b4 64 d4]) rfl rfl Try.sizeT27 (by simp [Value.cells, Value.oneCell']) hst (by simp [Value.cells]) ?_; clear z0 z1 z2 z3 z4; intro wS hS; have hT : holds wS (roBools (.slice a1 64 c1) (openBools s2) :: roInts (.slice a2 64 c2) s2.gens :: roInts (.slice a3 s2.closed.length c3) s2.closed :: roAc (.slice b4 64 d4) A2 :: accsAt (.pointer (some ⟨b, 0, none⟩)) ⟨s2, A2⟩ :: blk n4 (.cells #[.slice a1 64 c1, .slice a2 64 c2, .slice a3 s2.closed.length c3, .int .i64 s2.fresh, .slice b4 64 d4] 72 (0, 0)) :: blk wr.heap.size (.cells #[.int .i64 call, .int .i64 p, .int .i64 g, .int .i64 n] 75 (0, 0)) :: roQuad (.slice (some ⟨ga, oa, none⟩) acts.length cap) acts :: F) := (show holds wS (blk n4 (.cells #[.slice a1 64 c1, .slice a2 64 c2, .slice a3 s2.closed.length c3, .int .i64 s2.fresh, .slice b4 64 d4] 72 (0, 0)) :: roBools (.slice a1 64 c1) (openBools s2) :: roInts (.slice a2 64 c2) s2.gens :: roInts (.slice a3 s2.closed.length c3) s2.closed :: roAc (.slice b4 64 d4) A2 :: accsAt (.pointer (some ⟨b, 0, none⟩)) ⟨s2, A2⟩ :: blk wr.heap.size (.cells #[.int .i64 call, .int .i64 p, .int .i64 g, .int .i64 n] 75 (0, 0)) :: roQuad (.slice (some ⟨ga, oa, none⟩) acts.length cap) acts :: F) from hS).order [1, 2, 3, 4, 5, 0]; obtain ⟨t0, t1, t2, t3, t4, -⟩ := cells5 (hT.pick 5); have fq1 := cellAt (hT.pick 6).get_blk 1; have fq2 := cellAt (hT.pick 6).get_blk 2; simp only [List.getElem?_toArray, List.getElem?_cons_succ, List.getElem?_cons_zero] at fq1 fq2)
        refine (HT1.out _ _ hT).mono ?_
        rintro e5 w5 ⟨rfl, h5⟩
        have h6 : holds _ (accsAt (.pointer (some ⟨b, 0, none⟩)) ⟨s2, A2⟩ :: roBools (.slice a1 64 c1) (openBools s2) :: roInts (.slice a2 64 c2) s2.gens :: roInts (.slice a3 s2.closed.length c3) s2.closed :: roAc (.slice b4 64 d4) A2 :: blk n4 (.cells #[.slice a1 64 c1, .slice a2 64 c2, .slice a3 s2.closed.length c3, .int .i64 s2.fresh, .slice b4 64 d4] 72 (0, 0)) :: blk wr.heap.size (.cells #[.int .i64 call, .int .i64 p, .int .i64 g, .int .i64 n] 75 (0, 0)) :: blk w5.heap.size _ :: roQuad (.slice (some ⟨ga, oa, none⟩) acts.length cap) acts :: F) := (h5.alloc (.cells (acCells x) 86 (0, 0))).order [5, 1, 2, 3, 4, 6, 7, 0]
        unfold acCells at h6
        clear t0 t1 t2 t3 t4 fq1 fq2 hT h5
        have fq1 := cellAt (h6.pick 6).get_blk 1
        have fq2 := cellAt (h6.pick 6).get_blk 2
        simp only [List.getElem?_toArray, List.getElem?_cons_succ, List.getElem?_cons_zero] at fq1 fq2
        go_wp2_with fail
        refine (HT2.out _ _ h6).mono ?_
        rintro e6 w6 ⟨rfl, h7⟩
        have h8 : holds _ (accsAt (.pointer (some ⟨b, 0, none⟩)) ⟨s2, A2⟩ :: roBools (.slice a1 64 c1) (openBools s2) :: roInts (.slice a2 64 c2) s2.gens :: roInts (.slice a3 s2.closed.length c3) s2.closed :: roAc (.slice b4 64 d4) A2 :: blk n4 (.cells #[.slice a1 64 c1, .slice a2 64 c2, .slice a3 s2.closed.length c3, .int .i64 s2.fresh, .slice b4 64 d4] 72 (0, 0)) :: blk wr.heap.size (.cells #[.int .i64 call, .int .i64 p, .int .i64 g, .int .i64 n] 75 (0, 0)) :: blk w5.heap.size (.cells #[.int .i64 x.claim, .int .i64 x.held, .int .i64 x.credits] 86 (0, 0)) :: blk w6.heap.size _ :: roQuad (.slice (some ⟨ga, oa, none⟩) acts.length cap) acts :: F) := (h7.alloc (.cells (acCells x) 86 (0, 0))).order [1, 2, 3, 4, 5, 6, 7, 8, 0]
        unfold acCells at h8
        clear fq1 fq2 h6 h7 HT1 HT2
        have HSE := Lib.hid (show ∀ z, holds z (accsAt (.pointer (some ⟨b, 0, none⟩)) ⟨s2, A2⟩ :: roBools (.slice a1 64 c1) (openBools s2) :: roInts (.slice a2 64 c2) s2.gens :: roInts (.slice a3 s2.closed.length c3) s2.closed :: roAc (.slice b4 64 d4) A2 :: blk n4 (.cells #[.slice a1 64 c1, .slice a2 64 c2, .slice a3 s2.closed.length c3, .int .i64 s2.fresh, .slice b4 64 d4] 72 (0, 0)) :: blk wr.heap.size (.cells #[.int .i64 call, .int .i64 p, .int .i64 g, .int .i64 n] 75 (0, 0)) :: blk w5.heap.size (.cells #[.int .i64 x.claim, .int .i64 x.held, .int .i64 x.credits] 86 (0, 0)) :: blk w6.heap.size (.cells #[.int .i64 x.claim, .int .i64 x.held, .int .i64 x.credits] 86 (0, 0)) :: roQuad (.slice (some ⟨ga, oa, none⟩) acts.length cap) acts :: F) → (_ ∧ _ ∧ _) from fun z h => And.intro (cells5 (h.pick 5)) (And.intro (ac_cells (a := x) (h.pick 7)) (ac_cells (a := x) (h.pick 8))))
        have hq := eqAc_run x
        unfold acV acCells at hq
        go_wp2_with fail
        refine wp_region_loose (fun k => match k with | 10 => some ⟨fun u => u = .int .i64 hsum, fun _ => []⟩ | 12 => some ⟨fun u => u = .int .i64 hsum, fun _ => []⟩ | 17 => some ⟨fun u => ∃ (a : Option Addr) (c : Nat), u = .slice a M.length c, fun u => [roMb u M]⟩ | 19 => some ⟨fun u => ∃ (a : Option Addr) (c : Nat), u = .slice a M.length c, fun u => [roMb u M]⟩ | 20 => some ⟨fun u => u = .bool true, fun _ => []⟩ | _ => none) (accsAt (.pointer (some ⟨b, 0, none⟩)) ⟨s2, A2⟩ :: roBools (.slice a1 64 c1) (openBools s2) :: roInts (.slice a2 64 c2) s2.gens :: roInts (.slice a3 s2.closed.length c3) s2.closed :: roAc (.slice b4 64 d4) A2 :: blk n4 (.cells #[.slice a1 64 c1, .slice a2 64 c2, .slice a3 s2.closed.length c3, .int .i64 s2.fresh, .slice b4 64 d4] 72 (0, 0)) :: blk wr.heap.size (.cells #[.int .i64 call, .int .i64 p, .int .i64 g, .int .i64 n] 75 (0, 0)) :: blk w5.heap.size (.cells #[.int .i64 x.claim, .int .i64 x.held, .int .i64 x.credits] 86 (0, 0)) :: blk w6.heap.size (.cells #[.int .i64 x.claim, .int .i64 x.held, .int .i64 x.credits] 86 (0, 0)) :: roQuad (.slice (some ⟨ga, oa, none⟩) acts.length cap) acts :: F) (by kernel_rfl) (by kernel_rfl) h8 ?_
        refine loose_seal ?_
        iterate 10
          refine sealed_exact rfl (fun K hK => ?_)
          go_simp
          first
            | (intro w hw
               obtain ⟨⟨t0, t1, t2, t3, t4, u0, u1, u2, u3, u4⟩, ⟨x0, x1, x2, x3, x4, x5⟩, y0, y1, y2, y3, y4, y5⟩ := HSE.out _ hw
               go_simp
               refine hK _ ?_
               clear hK K t0 t1 t2 t3 t4 u0 u1 u2 u3 u4 x0 x1 x2 x3 x4 x5 y0 y1 y2 y3 y4 y5 hw w)
            | (intro w hw
               refine hK _ ?_
               clear hK K hw w)
            | (refine hK _ ?_; clear hK K)
        refine sealed_call (k := 10) rfl (by go_simp) (fun w F hw => ?_) (fun u hu => ?_)
        · go_simp
          go_at_call 51
          exact (HH1.out _ _ hw).mono fun e w' ⟨he, hh⟩ => ⟨_, he, rfl, hh⟩
        obtain rfl := hu
        iterate 1
          refine sealed_exact rfl (fun K hK => ?_)
          go_simp
          first
            | (intro w hw
               obtain ⟨⟨t0, t1, t2, t3, t4, u0, u1, u2, u3, u4⟩, ⟨x0, x1, x2, x3, x4, x5⟩, y0, y1, y2, y3, y4, y5⟩ := HSE.out _ hw
               go_simp
               refine hK _ ?_
               clear hK K t0 t1 t2 t3 t4 u0 u1 u2 u3 u4 x0 x1 x2 x3 x4 x5 y0 y1 y2 y3 y4 y5 hw w)
            | (intro w hw
               refine hK _ ?_
               clear hK K hw w)
            | (refine hK _ ?_; clear hK K)
        refine sealed_call (k := 12) rfl (by go_simp) (fun w F hw => ?_) (fun u hu => ?_)
        · go_simp
          go_at_call 52
          refine (HH2.out _ _ (show holds w (_ :: _ :: _ :: _ :: _ :: _) from hw.order [1, 2, 3, 4, 0])).mono ?_
          rintro e w2 ⟨rfl, h2⟩
          exact ⟨_, rfl, rfl, (show holds w2 (_ :: _ :: _ :: _ :: _ :: _) from h2).order [4, 0, 1, 2, 3]⟩
        obtain rfl := hu
        iterate 4
          refine sealed_exact rfl (fun K hK => ?_)
          go_simp
          first
            | (intro w hw
               obtain ⟨⟨t0, t1, t2, t3, t4, u0, u1, u2, u3, u4⟩, ⟨x0, x1, x2, x3, x4, x5⟩, y0, y1, y2, y3, y4, y5⟩ := HSE.out _ hw
               go_simp
               refine hK _ ?_
               clear hK K t0 t1 t2 t3 t4 u0 u1 u2 u3 u4 x0 x1 x2 x3 x4 x5 y0 y1 y2 y3 y4 y5 hw w)
            | (intro w hw
               refine hK _ ?_
               clear hK K hw w)
            | (refine hK _ ?_; clear hK K)
        refine sealed_call (k := 17) rfl (by go_simp) (fun w F hw => ?_) (fun u hu => ?_)
        · go_simp
          go_at_call 54
          refine (HM1.out _ _ hw).mono ?_
          rintro e w2 ⟨a9, c9, rfl, h2⟩
          exact ⟨_, rfl, ⟨a9, c9, rfl⟩, h2⟩
        obtain ⟨aM, cM, rfl⟩ := hu
        iterate 1
          refine sealed_exact rfl (fun K hK => ?_)
          go_simp
          first
            | (intro w hw
               obtain ⟨⟨t0, t1, t2, t3, t4, u0, u1, u2, u3, u4⟩, ⟨x0, x1, x2, x3, x4, x5⟩, y0, y1, y2, y3, y4, y5⟩ := HSE.out _ hw
               go_simp
               refine hK _ ?_
               clear hK K t0 t1 t2 t3 t4 u0 u1 u2 u3 u4 x0 x1 x2 x3 x4 x5 y0 y1 y2 y3 y4 y5 hw w)
            | (intro w hw
               refine hK _ ?_
               clear hK K hw w)
            | (refine hK _ ?_; clear hK K)
        refine sealed_call (k := 19) rfl (by go_simp) (fun w F hw => ?_) (fun u hu => ?_)
        · go_simp
          go_at_call 55
          refine (HM2.out _ _ (show holds w (_ :: _ :: _ :: _ :: _ :: _) from hw.order [1, 2, 3, 4, 0])).mono ?_
          rintro e w2 ⟨a9, c9, rfl, h2⟩
          exact ⟨_, rfl, ⟨a9, c9, rfl⟩, (show holds w2 (_ :: _ :: _ :: _ :: _ :: _ :: _) from h2).order [0, 5, 1, 2, 3, 4]⟩
        obtain ⟨aN, cN, rfl⟩ := hu
        refine sealed_call_on (k := 20) ([roMb (.slice aM M.length cM) M, roMb (.slice aN M.length cN) M]) (by rfl) rfl (by go_simp) (fun w F hw => ?_) (fun u hu => ?_)
        · go_simp
          go_at_call 53
          exact (base_SameMembers _ _ _ M _ hM (dupMb2 hw)).mono fun e w1 ⟨he, hh⟩ => ⟨_, he, rfl, hh⟩
        obtain rfl := hu
        iterate 2
          refine sealed_exact rfl (fun K hK => ?_)
          go_simp
          first
            | (intro w hw
               obtain ⟨⟨t0, t1, t2, t3, t4, u0, u1, u2, u3, u4⟩, ⟨x0, x1, x2, x3, x4, x5⟩, y0, y1, y2, y3, y4, y5⟩ := HSE.out _ hw
               go_simp
               refine hK _ ?_
               clear hK K t0 t1 t2 t3 t4 u0 u1 u2 u3 u4 x0 x1 x2 x3 x4 x5 y0 y1 y2 y3 y4 y5 hw w)
            | (intro w hw
               refine hK _ ?_
               clear hK K hw w)
            | (refine hK _ ?_; clear hK K)
        refine sealed_nil ?_
        clear h8
        intro wq h8
        go_wp2_with fail
        go_roundw
        case rel => exact ⟨k + 1, s2, A2, a1, c1, a2, c2, a3, c3, b4, d4, by omega, by go_num, HOK2.out, HG2.out, h8.sel 10 [0, 1, 2, 3, 4, 5, 9]⟩
        case measure => simp [intOf]; omega
      · obtain rfl : k = acts.length := by omega
        clear hlt
        go_wp2_with fail
        refine (law27_works _ _ (h2.sel 7 [])).mono ?_
        rintro e w3 ⟨rfl, h3⟩
        go_wp2_with fail
        go_ret
        exact ⟨rfl, h3⟩
end Go.Proofs.Ytdcekeclemgkcaa
