/- The law TagsPlays. -/
import Derived.Test.YtfkpcmlajdmnfaaLaw16A
import Derived.Test.YtfkpcmlajdmnfaaLoose
import Derived.Deep.CutBlock
import Derived.Deep.DeepCutAuto
namespace Go.Proofs.Ytfkpcmlajdmnfaa
open Go Go.RowKit Go.MapKept
set_option maxRecDepth 100000
set_option linter.unusedVariables false
attribute [local go_sem] exactUpon looseUpon

set_option maxHeartbeats 8000000 in
theorem law_TagsPlays (n : Int) (n0 : -9223372036854775808 ≤ n) (n1 : n ≤ 9223372036854775807) (va : Value) (l : List ChunkM) (hwf : ∀ c ∈ l, chunkWf c) (m0 : l.length ≤ maxLen) (o : Int) (o0 : -9223372036854775808 ≤ o) (o1 : o ≤ 9223372036854775807) (w : World) (F : List HProp) (hw : holds w (roChunks va l :: F)) :
    Calls Try.prog 6 #[.int .i64 n, va, .int .i64 o] w fun e w' => e = .returned (.bool true) ∧ holds w' F := by
  obtain ⟨a, cap, rfl, hcap⟩ := roChunks_form hw
  unfold maxLen at m0
  by_cases h60 : l.length ≤ 60
  · by_cases hbad : n < 0 ∨ 1048576 < n
    · have g1 := fun w F hw => tags_New_no w n F hbad hw
      have G1 := Lib.hid g1
      clear g1 hwf
      rcases hbad with hn | hn
      · have hd : decide ((300 : Int) < n) = false := by simp; omega
        go_enter Try.func6, Try.ntmps6
        go_wp2_with fail
        refine (G1.out _ _ hw).mono ?_
        rintro e w1 ⟨rfl, h1⟩
        go_wp2_with fail
        refine (law16_works _ _ h1.tail).mono ?_
        rintro e w2 ⟨rfl, h2⟩
        go_wp2_with fail
        go_ret
        exact ⟨rfl, h2⟩
      · have hd : (300 : Int) < n := by omega
        have hd2 : decide (n ≤ (1048576 : Int)) = false := by simp; omega
        have hd3 : ¬ n < 0 := by omega
        go_enter Try.func6, Try.ntmps6
        go_wp2_with fail
        refine (G1.out _ _ hw).mono ?_
        rintro e w1 ⟨rfl, h1⟩
        go_wp2_with fail
        refine (law16_works _ _ h1.tail).mono ?_
        rintro e w2 ⟨rfl, h2⟩
        go_wp2_with fail
        go_ret
        exact ⟨rfl, h2⟩
    · by_cases h300 : 300 < n
      · have hd2 : n ≤ (1048576 : Int) := by omega
        clear hwf hbad
        go_enter Try.func6, Try.ntmps6
        go_wp2_with fail
        refine (law16_works _ _ hw.tail).mono ?_
        rintro e w2 ⟨rfl, h2⟩
        go_wp2_with fail
        go_ret
        exact ⟨rfl, h2⟩
      · obtain ⟨n, rfl⟩ := Int.eq_ofNat_of_zero_le (show 0 ≤ n by omega)
        have hn3 : n ≤ 300 := by omega
        have hd : decide ((300 : Int) < n) = false := by simp; omega
        clear hbad h300
        have G1 := Lib.hid (fun w F hw => tags_New w n F (by omega) (by omega) hw)
        have G2 := Lib.hid (fun w F hw => ref16_New w n F (by omega) (by omega) hw)
        go_enter Try.func6, Try.ntmps6
        go_wp2_with fail
        refine (G1.out _ _ hw).mono ?_
        rintro e w1 ⟨v, rfl, h1⟩
        obtain ⟨b, g, bm, mm, rfl, _, _⟩ := open_tags h1
        go_wp2_with fail
        refine (G2.out _ _ h1).mono ?_
        rintro e w2 ⟨vo, vg, rfl, h2⟩
        obtain ⟨ao, co, rfl, _⟩ := roInts_form h2
        obtain ⟨ag, cg, rfl, _⟩ := roInts_form (h2.pick 1)
        simp only [List.length_replicate, Int.toNat_natCast] at h2 ⊢
        go_wp2_with fail
        have h3 := h2.alloc (.cells #[.slice ao n co, .slice ag n cg] 55 (0, 0))
        have hm0 := TagsOk.new n
        rw [show (List.replicate n (0 : Int)) = (List.replicate n ((0 : Int), (0 : Int))).map (·.1) from by simp] at h3
        have h4 : holds (w2.alloc (.cells #[.slice ao n co, .slice ag n cg] 55 (0, 0))) (tagsPs (.pointer (some ⟨b, 0, none⟩)) (.slice ao n co) (.slice ag n cg) (.slice a l.length cap) (List.replicate n (0, 0)) w2.heap.size l F) := by
          have h5 := h3.order [3, 1, 2, 0]
          unfold tagsPs
          rw [show (List.replicate n ((0 : Int), (0 : Int))).map (·.2) = (List.replicate n ((0 : Int), (0 : Int))).map (·.1) from by simp]
          exact h5
        clear h3 h2 h1 hw G1 G2 hwf
        generalize w2.heap.size = bx at h4 ⊢
        generalize (Value.pointer (some ⟨b, 0, none⟩)) = v at h4 ⊢
        go_loopw [9] (fun i wr => ∃ (k : Nat) (vo vg : Value) (m : List (Int × Int)), k ≤ l.length ∧ i = .int .i64 k ∧ TagsOk m n k ∧ holds wr (tagsPs v vo vg (.slice a l.length cap) m bx l F)) (fun i _ => l.length - (intOf i).toNat)
        case atStart => exact ⟨0, _, _, _, Nat.zero_le _, rfl, hm0, h4⟩
        case round =>
          obtain ⟨k, vo, vg, m, hk, rfl, hm, h5⟩ := hrel
          clear h4 hm0
          unfold tagsPs at h5
          obtain ⟨ao, co, hvo, _⟩ := roInts_form (h5.pick 1)
          obtain ⟨ag, cg, hvg, _⟩ := roInts_form (h5.pick 2)
          rw [List.length_map, hm.len] at hvo hvg
          subst hvo hvg
          by_cases hlt : k < l.length
          · obtain ⟨ga, offa, capa, hva, _, hcs⟩ := (h5.pick 4).chunkAt (by omega)
            cases hva
            obtain ⟨c0, c1, c2⟩ := hcs k hlt
            have hact := hm.act l[k]
            clear hcs
            generalize l[k] = x at c0 c1 c2 hact
            obtain ⟨kd, ix, ow⟩ := x
            dsimp only at c0 c1 c2
            obtain ⟨err, m2, hr⟩ : ∃ err m2, Tags.act m ⟨kd, ix, ow⟩ = (err, m2) := ⟨_, _, rfl⟩
            rw [hr] at hact
            dsimp only at hact
            have hbl := (h5.pick 3).lt
            have hne1 : ¬ wr.heap.size = bx := by omega
            have hne2 : ¬ bx = wr.heap.size := by omega
            clear hbl
            have h6 := (h5.alloc (.cells #[.int .i64 kd, .int .i64 ix, .int .i64 ow] 58 (0, 0))).order [2, 3, 1, 4, 5, 0]
            have b0 := cellAt (h6.pick 3).get_blk 0
            have b1 := cellAt (h6.pick 3).get_blk 1
            simp at b0 b1
            have hk60 : k < 60 := by omega
            go_upto_block 2 with fail
            go_cut [11, 12] (fun s11 s12 wx => s11 = .int .i64 err ∧ s12 = .int .i64 err ∧ ∃ ao co ag cg, holds wx (tagsAt v m2 :: roInts (.slice ao n co) (m2.map (·.1)) :: roInts (.slice ag n cg) (m2.map (·.2)) :: blk bx (.cells #[.slice ao n co, .slice ag n cg] 55 (0, 0)) :: roChunks (.slice (some ⟨ga, offa, none⟩) l.length cap) l :: blk wr.heap.size (.cells #[.int .i64 kd, .int .i64 ix, .int .i64 ow] 58 (0, 0)) :: F))
            case first =>
              by_cases h0 : kd = 0
              · subst h0
                have hr' : Tags.own m ix ow = (err, m2) := by simpa [Tags.act] using hr
                have q1 := fun w F hw => ref16_Own w (.slice ao n co) (.slice ag n cg) m ix ow F (by rw [hm.len]; omega) hm.own hw
                have q2 := fun w F hw => tags_Own w v m ix ow F (by rw [hm.len]; omega) hw
                simp only [hr'] at q1 q2
                have Q1 := Lib.hid q1
                have Q2 := Lib.hid q2
                clear q1 q2 hr hr' hm
                go_wp2_with fail
                refine (Q1.out _ _ h6).mono ?_
                rintro e w6 ⟨vo2, vg2, rfl, h7⟩
                clear h6 c0 c1 c2 b0 b1
                obtain ⟨ao, co, hvo, _⟩ := roInts_form h7
                obtain ⟨ag, cg, hvg, _⟩ := roInts_form (h7.pick 1)
                rw [List.length_map, hact.len] at hvo hvg
                subst hvo hvg
                have e0 := cellAt (h7.pick 3).get_blk 0
                have e1 := cellAt (h7.pick 3).get_blk 1
                have f0 := frozen_of_row w6 bx 0 _ _ (h7.pick 3).get_blk
                have f1 := frozen_of_row w6 bx 1 _ _ (h7.pick 3).get_blk
                have a1 := cellAt (h7.pick 5).get_blk 1
                have a2 := cellAt (h7.pick 5).get_blk 2
                simp at e0 e1 a1 a2
                have h8 := store2 (h7.pick 3) (.slice ao n co) (.slice ag n cg)
                go_wp2_with fail
                refine (Q2.out _ _ (h8.pick 3)).mono ?_
                rintro e w7 ⟨rfl, h9⟩
                clear e0 e1 f0 f1 a1 a2 h8 h7
                have hc := h9.order [0, 2, 3, 1, 4, 5]
                clear h9 Q1 Q2
                go_wp2_with fail
                go_meet
                case rel => exact ⟨rfl, rfl, _, _, _, _, hc⟩
              · by_cases h1 : kd = 1
                · subst h1
                  have hr' : Tags.leave m ix = (err, m2) := by simpa [Tags.act] using hr
                  have q1 := fun w F hw => ref16_Leave w (.slice ao n co) (.slice ag n cg) m ix F (by rw [hm.len]; omega) hm.own hw
                  have q2 := fun w F hw => tags_Leave w v m ix F (by rw [hm.len]; omega) hw
                  simp only [hr'] at q1 q2
                  have Q1 := Lib.hid q1
                  have Q2 := Lib.hid q2
                  clear q1 q2 hr hr' hm
                  go_wp2_with fail
                  refine (Q1.out _ _ h6).mono ?_
                  rintro e w6 ⟨vo2, vg2, rfl, h7⟩
                  clear h6 c0 c1 c2 b0 b1
                  obtain ⟨ao, co, hvo, _⟩ := roInts_form h7
                  obtain ⟨ag, cg, hvg, _⟩ := roInts_form (h7.pick 1)
                  rw [List.length_map, hact.len] at hvo hvg
                  subst hvo hvg
                  have e0 := cellAt (h7.pick 3).get_blk 0
                  have e1 := cellAt (h7.pick 3).get_blk 1
                  have f0 := frozen_of_row w6 bx 0 _ _ (h7.pick 3).get_blk
                  have f1 := frozen_of_row w6 bx 1 _ _ (h7.pick 3).get_blk
                  have a1 := cellAt (h7.pick 5).get_blk 1
                  have a2 := cellAt (h7.pick 5).get_blk 2
                  simp at e0 e1 a1 a2
                  have h8 := store2 (h7.pick 3) (.slice ao n co) (.slice ag n cg)
                  go_wp2_with fail
                  refine (Q2.out _ _ (h8.pick 3)).mono ?_
                  rintro e w7 ⟨rfl, h9⟩
                  clear e0 e1 f0 f1 a1 a2 h8 h7
                  have hc := h9.order [0, 2, 3, 1, 4, 5]
                  clear h9 Q1 Q2
                  go_wp2_with fail
                  go_meet
                  case rel => exact ⟨rfl, rfl, _, _, _, _, hc⟩
                · by_cases h2 : kd = 2
                  · subst h2
                    have hr' : Tags.raise m ix = (err, m2) := by simpa [Tags.act] using hr
                    have q1 := fun w F hw => ref16_Raise w (.slice ao n co) (.slice ag n cg) m ix F (by rw [hm.len]; omega) hm.own (fun t ht => by have := hm.gen t ht; omega) hw
                    have q2 := fun w F hw => tags_Raise w v m ix F (by rw [hm.len]; omega) (fun t ht => by have := hm.gen t ht; omega) hw
                    simp only [hr'] at q1 q2
                    have Q1 := Lib.hid q1
                    have Q2 := Lib.hid q2
                    clear q1 q2 hr hr' hm
                    go_wp2_with fail
                    refine (Q1.out _ _ h6).mono ?_
                    rintro e w6 ⟨vo2, vg2, rfl, h7⟩
                    clear h6 c0 c1 c2 b0 b1
                    obtain ⟨ao, co, hvo, _⟩ := roInts_form h7
                    obtain ⟨ag, cg, hvg, _⟩ := roInts_form (h7.pick 1)
                    rw [List.length_map, hact.len] at hvo hvg
                    subst hvo hvg
                    have e0 := cellAt (h7.pick 3).get_blk 0
                    have e1 := cellAt (h7.pick 3).get_blk 1
                    have f0 := frozen_of_row w6 bx 0 _ _ (h7.pick 3).get_blk
                    have f1 := frozen_of_row w6 bx 1 _ _ (h7.pick 3).get_blk
                    have a1 := cellAt (h7.pick 5).get_blk 1
                    have a2 := cellAt (h7.pick 5).get_blk 2
                    simp at e0 e1 a1 a2
                    have h8 := store2 (h7.pick 3) (.slice ao n co) (.slice ag n cg)
                    go_wp2_with fail
                    refine (Q2.out _ _ (h8.pick 3)).mono ?_
                    rintro e w7 ⟨rfl, h9⟩
                    clear e0 e1 f0 f1 a1 a2 h8 h7
                    have hc := h9.order [0, 2, 3, 1, 4, 5]
                    clear h9 Q1 Q2
                    go_wp2_with fail
                    go_meet
                    case rel => exact ⟨rfl, rfl, _, _, _, _, hc⟩
                  · have hr' : err = 0 ∧ m2 = m := by simp [Tags.act, h0, h1, h2] at hr; exact ⟨hr.1.symm, hr.2.symm⟩
                    obtain ⟨rfl, rfl⟩ := hr'
                    have k0 : (kd == 0) = false := by simpa using h0
                    have k1 : (kd == 1) = false := by simpa using h1
                    have k2 : (kd == 2) = false := by simpa using h2
                    clear hr hm
                    have hc := h6.order [2, 0, 1, 3, 4, 5]
                    clear h6 b0 b1
                    go_wp2_with fail
                    go_meet
                    case rel => exact ⟨rfl, rfl, _, _, _, _, hc⟩
            case rest =>
              clear h6 b0 b1 c0 c1 c2 hr hm
              obtain ⟨rfl, rfl, ao, co, ag, cg, hc⟩ := hcut
              have hc : holds _ (tagsAt v m2 :: roInts (.slice ao n co) (m2.map (·.1)) :: roInts (.slice ag n cg) (m2.map (·.2)) :: blk bx (.cells #[.slice ao n co, .slice ag n cg] 55 (0, 0)) :: roChunks (.slice (some ⟨ga, offa, none⟩) l.length cap) l :: blk wr.heap.size (.cells #[.int .i64 kd, .int .i64 ix, .int .i64 ow] 58 (0, 0)) :: F) := hc
              have hfn := tagsFns v (.slice ao n co) (.slice ag n cg) m2 (blk bx (.cells #[.slice ao n co, .slice ag n cg] 55 (0, 0)) :: roChunks (.slice (some ⟨ga, offa, none⟩) l.length cap) l :: blk wr.heap.size (.cells #[.int .i64 kd, .int .i64 ix, .int .i64 ow] 58 (0, 0)) :: F) (by rw [hact.len]; omega)
              have hse : ∀ w, holds w (tagsAt v m2 :: roInts (.slice ao n co) (m2.map (·.1)) :: roInts (.slice ag n cg) (m2.map (·.2)) :: blk bx (.cells #[.slice ao n co, .slice ag n cg] 55 (0, 0)) :: roChunks (.slice (some ⟨ga, offa, none⟩) l.length cap) l :: blk wr.heap.size (.cells #[.int .i64 kd, .int .i64 ix, .int .i64 ow] 58 (0, 0)) :: F) → w.cell? ⟨bx, 0, none⟩ = some (.slice ao n co) ∧ w.cell? ⟨bx, 1, none⟩ = some (.slice ag n cg) ∧ w.cell? ⟨wr.heap.size, 1, none⟩ = some (.int .i64 ix) ∧ w.cell? ⟨wr.heap.size, 2, none⟩ = some (.int .i64 ow) := fun w h => ⟨cellAt (h.pick 3).get_blk 0, cellAt (h.pick 3).get_blk 1, cellAt (h.pick 5).get_blk 1, cellAt (h.pick 5).get_blk 2⟩
              have hend : ∀ w, holds w (tagsAt v m2 :: roInts (.slice ao n co) (m2.map (·.1)) :: roInts (.slice ag n cg) (m2.map (·.2)) :: blk bx (.cells #[.slice ao n co, .slice ag n cg] 55 (0, 0)) :: roChunks (.slice (some ⟨ga, offa, none⟩) l.length cap) l :: blk wr.heap.size (.cells #[.int .i64 kd, .int .i64 ix, .int .i64 ow] 58 (0, 0)) :: F) → holds w (tagsPs v (.slice ao n co) (.slice ag n cg) (.slice (some ⟨ga, offa, none⟩) l.length cap) m2 bx l F) := fun w h => (h.order [5, 0, 1, 2, 3, 4]).tail
              have hO := hfn.owner ix
              have hG := hfn.gen ix
              have hlen := ofs_length_le (m2.map (·.1)) ow
              rw [List.length_map, hact.len] at hlen
              simp only [hact.len] at hO hG
              by_cases hi : 0 ≤ ix ∧ ix < n
              · obtain ⟨j, rfl⟩ := Int.eq_ofNat_of_zero_le hi.1
                have hj : j < n := by omega
                have hj2 : j < m2.length := by rw [hact.len]; exact hj
                have hc1 := hc.pick 1
                have hc2 := hc.pick 2
                obtain ⟨g1, off1, cp1, hv1, _, hcs1⟩ := hc1.roIntAt (by rw [List.length_map]; omega)
                obtain ⟨g2, off2, cp2, hv2, _, hcs2⟩ := hc2.roIntAt (by rw [List.length_map]; omega)
                have o1c := hcs1 j (by rw [List.length_map]; exact hj2)
                have g1c := hcs2 j (by rw [List.length_map]; exact hj2)
                rw [List.getElem_map] at o1c g1c
                have hao : ao = some ⟨g1, off1, none⟩ := by injection hv1
                have hag : ag = some ⟨g2, off2, none⟩ := by injection hv2
                clear hcs1 hcs2 hv1 hv2 hc1 hc2
                subst hao hag
                rw [if_pos hi] at hO hG
                rw [show (m2.getD (j : Int).toNat (0, 0)) = m2[j] from by simp [hj2]] at hO hG
                generalize m2[j].1 = x1 at o1c hO
                generalize m2[j].2 = x2 at g1c hG
                generalize (tagsAt v m2 :: roInts (.slice (some ⟨g1, off1, none⟩) n co) (m2.map (·.1)) :: roInts (.slice (some ⟨g2, off2, none⟩) n cg) (m2.map (·.2)) :: blk bx (.cells #[.slice (some ⟨g1, off1, none⟩) n co, .slice (some ⟨g2, off2, none⟩) n cg] 55 (0, 0)) :: roChunks (.slice (some ⟨ga, offa, none⟩) l.length cap) l :: blk wr.heap.size (.cells #[.int .i64 kd, .int .i64 j, .int .i64 ow] 58 (0, 0)) :: F : List HProp) = P at hc hfn hse hend hO hG
                have H1 := Lib.hid (hfn.count ow)
                have H4 := Lib.hid (hfn.rof0 ow)
                have H6 := Lib.hid hO
                have H7 := Lib.hid hG
                have HSE := Lib.hid hse
                have HEND := Lib.hid hend
                clear hfn hse hend hO hG
                generalize ofs (m2.map (·.1)) ow = R at H1 H4 hlen
                have hb := HSE.out _ hc
                obtain ⟨hb0, hb1, ha1, ha2⟩ := hb
                go_wp2_with fail
                go_quiet (fail)
                go_wp2_with fail
                have hc := (hc.drewN 1).drew
                clear o1c g1c
                clear hb0 hb1 ha1 ha2
                refine wp_region_loose (fun k => match k with | 7 => some ⟨fun u => u = .int .i64 x1, fun _ => []⟩ | 15 => some ⟨fun u => u = .int .i64 x2, fun _ => []⟩ | 23 => some ⟨fun u => u = .int .i64 (R.length : Nat), fun _ => []⟩ | 27 => some ⟨fun u => ∃ (a : Option Addr) (c : Nat), u = .slice a R.length c, fun _ => []⟩ | _ => none) P (by kernel_rfl) (by kernel_rfl) hc ?_
                iterate 7
                  refine loose_exact rfl (fun K hK => ?_)
                  go_simp
                  first
                    | (refine hK _ ?_; clear hK K)
                    | (intro w hw
                       obtain ⟨hb0, hb1, ha1, ha2⟩ := HSE.out _ hw
                       go_simp
                       refine hK _ ?_
                       clear hK K hb0 hb1 ha1 ha2 hw w)
                refine loose_call (k := 7) rfl (by go_simp) (fun w F hw => ?_) (fun u hu => ?_)
                · go_simp
                  go_at_call 43
                  exact (H6.out _ _ hw).mono fun e w' ⟨he, hh⟩ => ⟨_, he, rfl, hh⟩
                obtain rfl := hu
                iterate 7
                  refine loose_exact rfl (fun K hK => ?_)
                  go_simp
                  first
                    | (refine hK _ ?_; clear hK K)
                    | (intro w hw
                       obtain ⟨hb0, hb1, ha1, ha2⟩ := HSE.out _ hw
                       go_simp
                       refine hK _ ?_
                       clear hK K hb0 hb1 ha1 ha2 hw w)
                refine loose_call (k := 15) rfl (by go_simp) (fun w F hw => ?_) (fun u hu => ?_)
                · go_simp
                  go_at_call 44
                  exact (H7.out _ _ hw).mono fun e w' ⟨he, hh⟩ => ⟨_, he, rfl, hh⟩
                obtain rfl := hu
                iterate 7
                  refine loose_exact rfl (fun K hK => ?_)
                  go_simp
                  first
                    | (refine hK _ ?_; clear hK K)
                    | (intro w hw
                       obtain ⟨hb0, hb1, ha1, ha2⟩ := HSE.out _ hw
                       go_simp
                       refine hK _ ?_
                       clear hK K hb0 hb1 ha1 ha2 hw w)
                refine loose_call (k := 23) rfl (by go_simp) (fun w F hw => ?_) (fun u hu => ?_)
                · go_simp
                  go_at_call 45
                  exact (H1.out _ _ hw).mono fun e w' ⟨he, hh⟩ => ⟨_, he, rfl, hh⟩
                obtain rfl := hu
                iterate 3
                  refine loose_exact rfl (fun K hK => ?_)
                  go_simp
                  first
                    | (refine hK _ ?_; clear hK K)
                    | (intro w hw
                       obtain ⟨hb0, hb1, ha1, ha2⟩ := HSE.out _ hw
                       go_simp
                       refine hK _ ?_
                       clear hK K hb0 hb1 ha1 ha2 hw w)
                refine loose_call (k := 27) rfl (by go_simp) (fun w F hw => ?_) (fun u hu => ?_)
                · go_simp
                  go_at_call 46
                  exact (H4.out _ _ hw).mono fun e w' ⟨a, c, he, hh⟩ => ⟨_, he, ⟨a, c, rfl⟩, hh.tail⟩
                obtain ⟨ar, cr, rfl⟩ := hu
                iterate 3
                  refine loose_exact rfl (fun K hK => ?_)
                  go_simp
                  first
                    | (refine hK _ ?_; clear hK K)
                    | (intro w hw
                       obtain ⟨hb0, hb1, ha1, ha2⟩ := HSE.out _ hw
                       go_simp
                       refine hK _ ?_
                       clear hK K hb0 hb1 ha1 ha2 hw w)
                refine loose_nil ?_
                clear hc
                intro wq hc
                go_wp2_with fail
                go_roundw
                case rel => exact ⟨k + 1, _, _, m2, by omega, by go_num, hact, HEND.out _ hc⟩
                case measure => simp [intOf]; omega
              · rw [if_neg hi] at hO hG
                by_cases h0i : 0 ≤ ix
                · have hix : decide (ix < (n : Int)) = false := by simp; omega
                  clear hi
                  generalize (tagsAt v m2 :: roInts (.slice ao n co) (m2.map (·.1)) :: roInts (.slice ag n cg) (m2.map (·.2)) :: blk bx (.cells #[.slice ao n co, .slice ag n cg] 55 (0, 0)) :: roChunks (.slice (some ⟨ga, offa, none⟩) l.length cap) l :: blk wr.heap.size (.cells #[.int .i64 kd, .int .i64 ix, .int .i64 ow] 58 (0, 0)) :: F : List HProp) = P at hc hfn hse hend hO hG
                  have H1 := Lib.hid (hfn.count ow)
                  have H4 := Lib.hid (hfn.rof0 ow)
                  have H6 := Lib.hid hO
                  have H7 := Lib.hid hG
                  have HSE := Lib.hid hse
                  have HEND := Lib.hid hend
                  clear hfn hse hend hO hG
                  generalize ofs (m2.map (·.1)) ow = R at H1 H4 hlen
                  have hb := HSE.out _ hc
                  obtain ⟨hb0, hb1, ha1, ha2⟩ := hb
                  go_wp2_with fail
                  clear hb0 hb1 ha1 ha2
                  refine wp_region_loose (fun k => match k with | 7 => some ⟨fun u => u = .int .i64 0, fun _ => []⟩ | 15 => some ⟨fun u => u = .int .i64 (-1), fun _ => []⟩ | 23 => some ⟨fun u => u = .int .i64 (R.length : Nat), fun _ => []⟩ | 27 => some ⟨fun u => ∃ (a : Option Addr) (c : Nat), u = .slice a R.length c, fun _ => []⟩ | _ => none) P (by kernel_rfl) (by kernel_rfl) hc ?_
                  iterate 7
                    refine loose_exact rfl (fun K hK => ?_)
                    go_simp
                    first
                      | (refine hK _ ?_; clear hK K)
                      | (intro w hw
                         obtain ⟨hb0, hb1, ha1, ha2⟩ := HSE.out _ hw
                         go_simp
                         refine hK _ ?_
                         clear hK K hb0 hb1 ha1 ha2 hw w)
                  refine loose_call (k := 7) rfl (by go_simp) (fun w F hw => ?_) (fun u hu => ?_)
                  · go_simp
                    go_at_call 43
                    exact (H6.out _ _ hw).mono fun e w' ⟨he, hh⟩ => ⟨_, he, rfl, hh⟩
                  obtain rfl := hu
                  iterate 7
                    refine loose_exact rfl (fun K hK => ?_)
                    go_simp
                    first
                      | (refine hK _ ?_; clear hK K)
                      | (intro w hw
                         obtain ⟨hb0, hb1, ha1, ha2⟩ := HSE.out _ hw
                         go_simp
                         refine hK _ ?_
                         clear hK K hb0 hb1 ha1 ha2 hw w)
                  refine loose_call (k := 15) rfl (by go_simp) (fun w F hw => ?_) (fun u hu => ?_)
                  · go_simp
                    go_at_call 44
                    exact (H7.out _ _ hw).mono fun e w' ⟨he, hh⟩ => ⟨_, he, rfl, hh⟩
                  obtain rfl := hu
                  iterate 7
                    refine loose_exact rfl (fun K hK => ?_)
                    go_simp
                    first
                      | (refine hK _ ?_; clear hK K)
                      | (intro w hw
                         obtain ⟨hb0, hb1, ha1, ha2⟩ := HSE.out _ hw
                         go_simp
                         refine hK _ ?_
                         clear hK K hb0 hb1 ha1 ha2 hw w)
                  refine loose_call (k := 23) rfl (by go_simp) (fun w F hw => ?_) (fun u hu => ?_)
                  · go_simp
                    go_at_call 45
                    exact (H1.out _ _ hw).mono fun e w' ⟨he, hh⟩ => ⟨_, he, rfl, hh⟩
                  obtain rfl := hu
                  iterate 3
                    refine loose_exact rfl (fun K hK => ?_)
                    go_simp
                    first
                      | (refine hK _ ?_; clear hK K)
                      | (intro w hw
                         obtain ⟨hb0, hb1, ha1, ha2⟩ := HSE.out _ hw
                         go_simp
                         refine hK _ ?_
                         clear hK K hb0 hb1 ha1 ha2 hw w)
                  refine loose_call (k := 27) rfl (by go_simp) (fun w F hw => ?_) (fun u hu => ?_)
                  · go_simp
                    go_at_call 46
                    exact (H4.out _ _ hw).mono fun e w' ⟨a, c, he, hh⟩ => ⟨_, he, ⟨a, c, rfl⟩, hh.tail⟩
                  obtain ⟨ar, cr, rfl⟩ := hu
                  iterate 3
                    refine loose_exact rfl (fun K hK => ?_)
                    go_simp
                    first
                      | (refine hK _ ?_; clear hK K)
                      | (intro w hw
                         obtain ⟨hb0, hb1, ha1, ha2⟩ := HSE.out _ hw
                         go_simp
                         refine hK _ ?_
                         clear hK K hb0 hb1 ha1 ha2 hw w)
                  refine loose_nil ?_
                  clear hc
                  intro wq hc
                  go_wp2_with fail
                  go_roundw
                  case rel => exact ⟨k + 1, _, _, m2, by omega, by go_num, hact, HEND.out _ hc⟩
                  case measure => simp [intOf]; omega
                · have hix : decide ((0 : Int) ≤ ix) = false := by simp; omega
                  clear hi
                  generalize (tagsAt v m2 :: roInts (.slice ao n co) (m2.map (·.1)) :: roInts (.slice ag n cg) (m2.map (·.2)) :: blk bx (.cells #[.slice ao n co, .slice ag n cg] 55 (0, 0)) :: roChunks (.slice (some ⟨ga, offa, none⟩) l.length cap) l :: blk wr.heap.size (.cells #[.int .i64 kd, .int .i64 ix, .int .i64 ow] 58 (0, 0)) :: F : List HProp) = P at hc hfn hse hend hO hG
                  have H1 := Lib.hid (hfn.count ow)
                  have H4 := Lib.hid (hfn.rof0 ow)
                  have H6 := Lib.hid hO
                  have H7 := Lib.hid hG
                  have HSE := Lib.hid hse
                  have HEND := Lib.hid hend
                  clear hfn hse hend hO hG
                  generalize ofs (m2.map (·.1)) ow = R at H1 H4 hlen
                  have hb := HSE.out _ hc
                  obtain ⟨hb0, hb1, ha1, ha2⟩ := hb
                  go_wp2_with fail
                  clear hb0 hb1 ha1 ha2
                  refine wp_region_loose (fun k => match k with | 7 => some ⟨fun u => u = .int .i64 0, fun _ => []⟩ | 15 => some ⟨fun u => u = .int .i64 (-1), fun _ => []⟩ | 23 => some ⟨fun u => u = .int .i64 (R.length : Nat), fun _ => []⟩ | 27 => some ⟨fun u => ∃ (a : Option Addr) (c : Nat), u = .slice a R.length c, fun _ => []⟩ | _ => none) P (by kernel_rfl) (by kernel_rfl) hc ?_
                  iterate 7
                    refine loose_exact rfl (fun K hK => ?_)
                    go_simp
                    first
                      | (refine hK _ ?_; clear hK K)
                      | (intro w hw
                         obtain ⟨hb0, hb1, ha1, ha2⟩ := HSE.out _ hw
                         go_simp
                         refine hK _ ?_
                         clear hK K hb0 hb1 ha1 ha2 hw w)
                  refine loose_call (k := 7) rfl (by go_simp) (fun w F hw => ?_) (fun u hu => ?_)
                  · go_simp
                    go_at_call 43
                    exact (H6.out _ _ hw).mono fun e w' ⟨he, hh⟩ => ⟨_, he, rfl, hh⟩
                  obtain rfl := hu
                  iterate 7
                    refine loose_exact rfl (fun K hK => ?_)
                    go_simp
                    first
                      | (refine hK _ ?_; clear hK K)
                      | (intro w hw
                         obtain ⟨hb0, hb1, ha1, ha2⟩ := HSE.out _ hw
                         go_simp
                         refine hK _ ?_
                         clear hK K hb0 hb1 ha1 ha2 hw w)
                  refine loose_call (k := 15) rfl (by go_simp) (fun w F hw => ?_) (fun u hu => ?_)
                  · go_simp
                    go_at_call 44
                    exact (H7.out _ _ hw).mono fun e w' ⟨he, hh⟩ => ⟨_, he, rfl, hh⟩
                  obtain rfl := hu
                  iterate 7
                    refine loose_exact rfl (fun K hK => ?_)
                    go_simp
                    first
                      | (refine hK _ ?_; clear hK K)
                      | (intro w hw
                         obtain ⟨hb0, hb1, ha1, ha2⟩ := HSE.out _ hw
                         go_simp
                         refine hK _ ?_
                         clear hK K hb0 hb1 ha1 ha2 hw w)
                  refine loose_call (k := 23) rfl (by go_simp) (fun w F hw => ?_) (fun u hu => ?_)
                  · go_simp
                    go_at_call 45
                    exact (H1.out _ _ hw).mono fun e w' ⟨he, hh⟩ => ⟨_, he, rfl, hh⟩
                  obtain rfl := hu
                  iterate 3
                    refine loose_exact rfl (fun K hK => ?_)
                    go_simp
                    first
                      | (refine hK _ ?_; clear hK K)
                      | (intro w hw
                         obtain ⟨hb0, hb1, ha1, ha2⟩ := HSE.out _ hw
                         go_simp
                         refine hK _ ?_
                         clear hK K hb0 hb1 ha1 ha2 hw w)
                  refine loose_call (k := 27) rfl (by go_simp) (fun w F hw => ?_) (fun u hu => ?_)
                  · go_simp
                    go_at_call 46
                    exact (H4.out _ _ hw).mono fun e w' ⟨a, c, he, hh⟩ => ⟨_, he, ⟨a, c, rfl⟩, hh.tail⟩
                  obtain ⟨ar, cr, rfl⟩ := hu
                  iterate 3
                    refine loose_exact rfl (fun K hK => ?_)
                    go_simp
                    first
                      | (refine hK _ ?_; clear hK K)
                      | (intro w hw
                         obtain ⟨hb0, hb1, ha1, ha2⟩ := HSE.out _ hw
                         go_simp
                         refine hK _ ?_
                         clear hK K hb0 hb1 ha1 ha2 hw w)
                  refine loose_nil ?_
                  clear hc
                  intro wq hc
                  go_wp2_with fail
                  go_roundw
                  case rel => exact ⟨k + 1, _, _, m2, by omega, by go_num, hact, HEND.out _ hc⟩
                  case measure => simp [intOf]; omega
          · have hkl : k = l.length := by omega
            subst hkl
            have hfn := tagsFns v (.slice ao n co) (.slice ag n cg) m (blk bx (.cells #[.slice ao n co, .slice ag n cg] 55 (0, 0)) :: roChunks (.slice a l.length cap) l :: F) (by rw [hm.len]; omega)
            have hse : ∀ w, holds w (tagsAt v m :: roInts (.slice ao n co) (m.map (·.1)) :: roInts (.slice ag n cg) (m.map (·.2)) :: blk bx (.cells #[.slice ao n co, .slice ag n cg] 55 (0, 0)) :: roChunks (.slice a l.length cap) l :: F) → w.cell? ⟨bx, 0, none⟩ = some (.slice ao n co) ∧ w.cell? ⟨bx, 1, none⟩ = some (.slice ag n cg) := fun w h => ⟨cellAt (h.pick 3).get_blk 0, cellAt (h.pick 3).get_blk 1⟩
            have hend : ∀ w, holds w (tagsAt v m :: roInts (.slice ao n co) (m.map (·.1)) :: roInts (.slice ag n cg) (m.map (·.2)) :: blk bx (.cells #[.slice ao n co, .slice ag n cg] 55 (0, 0)) :: roChunks (.slice a l.length cap) l :: F) → holds w F := fun w h => h.tail.tail.tail.tail.tail
            have hlen := ofs_length_le (m.map (·.1)) o
            rw [List.length_map, hm.len] at hlen
            generalize (tagsAt v m :: _ : List HProp) = P at h5 hfn hse hend
            have H1 := Lib.hid (hfn.count o)
            have H2 := Lib.hid (hfn.of0 o)
            have H4 := Lib.hid (hfn.rof0 o)
            have HSE := Lib.hid hse
            have HEND := Lib.hid hend
            clear hfn hse hend
            generalize ofs (m.map (·.1)) o = R at H1 H2 H4 hlen
            have hb := HSE.out _ h5
            obtain ⟨hb0, hb1⟩ := hb
            go_wp2_with fail
            clear hb0 hb1
            refine wp_region_loose (fun k => match k with | 2 => some ⟨fun u => ∃ (a : Option Addr) (c : Nat), u = .slice a R.length c, fun u => [roInts u R]⟩ | 5 => some ⟨fun u => ∃ (a : Option Addr) (c : Nat), u = .slice a R.length c, fun u => [roInts u R]⟩ | 6 => some ⟨fun u => u = .bool true, fun _ => []⟩ | 10 => some ⟨fun u => u = .int .i64 (R.length : Nat), fun _ => []⟩ | 13 => some ⟨fun u => ∃ (a : Option Addr) (c : Nat), u = .slice a R.length c, fun _ => []⟩ | 18 => some ⟨fun u => u = .bool true, fun _ => []⟩ | _ => none) P (by kernel_rfl) (by kernel_rfl) h5 ?_
            iterate 2
              refine loose_exact rfl (fun K hK => ?_)
              go_simp
              first
                | (refine hK _ ?_; clear hK K)
                | (intro w hw
                   obtain ⟨hb0, hb1⟩ := HSE.out _ hw
                   go_simp
                   refine hK _ ?_
                   clear hK K hb0 hb1 hw w)
            refine loose_call (k := 2) rfl (by go_simp) (fun w F hw => ?_) (fun u hu => ?_)
            · go_simp
              go_at_call 47
              exact (H2.out _ _ hw).mono fun e w' ⟨a, c, he, hh⟩ => ⟨_, he, ⟨a, c, rfl⟩, hh⟩
            obtain ⟨at1, ct, rfl⟩ := hu
            iterate 2
              refine loose_exact rfl (fun K hK => ?_)
              go_simp
              first
                | (refine hK _ ?_; clear hK K)
                | (intro w hw
                   obtain ⟨hb0, hb1⟩ := HSE.out _ hw
                   go_simp
                   refine hK _ ?_
                   clear hK K hb0 hb1 hw w)
            refine loose_call (k := 5) rfl (by go_simp) (fun w F hw => ?_) (fun u hu => ?_)
            · go_simp
              go_at_call 46
              exact (H4.out _ _ hw).mono fun e w' ⟨a, c, he, hh⟩ => ⟨_, he, ⟨a, c, rfl⟩, hh⟩
            obtain ⟨ar, cr, rfl⟩ := hu
            refine loose_call_on (k := 6) ([roInts (.slice at1 R.length ct) R, roInts (.slice ar R.length cr) R]) (by rfl) rfl (by go_simp) (fun w F hw => ?_) (fun u hu => ?_)
            · go_simp
              go_at_call 30
              exact (base_SameInts _ _ _ _ _ _ (by omega) hw).mono fun e w' ⟨he, hh⟩ => ⟨_, he, by simp, hh⟩
            obtain rfl := hu
            iterate 3
              refine loose_exact rfl (fun K hK => ?_)
              go_simp
              first
                | (refine hK _ ?_; clear hK K)
                | (intro w hw
                   obtain ⟨hb0, hb1⟩ := HSE.out _ hw
                   go_simp
                   refine hK _ ?_
                   clear hK K hb0 hb1 hw w)
            refine loose_call (k := 10) rfl (by go_simp) (fun w F hw => ?_) (fun u hu => ?_)
            · go_simp
              go_at_call 45
              exact (H1.out _ _ hw).mono fun e w' ⟨he, hh⟩ => ⟨_, he, rfl, hh⟩
            obtain rfl := hu
            iterate 2
              refine loose_exact rfl (fun K hK => ?_)
              go_simp
              first
                | (refine hK _ ?_; clear hK K)
                | (intro w hw
                   obtain ⟨hb0, hb1⟩ := HSE.out _ hw
                   go_simp
                   refine hK _ ?_
                   clear hK K hb0 hb1 hw w)
            refine loose_call (k := 13) rfl (by go_simp) (fun w F hw => ?_) (fun u hu => ?_)
            · go_simp
              go_at_call 46
              exact (H4.out _ _ hw).mono fun e w' ⟨a, c, he, hh⟩ => ⟨_, he, ⟨a, c, rfl⟩, hh.tail⟩
            obtain ⟨ar, cr, rfl⟩ := hu
            iterate 4
              refine loose_exact rfl (fun K hK => ?_)
              go_simp
              first
                | (refine hK _ ?_; clear hK K)
                | (intro w hw
                   obtain ⟨hb0, hb1⟩ := HSE.out _ hw
                   go_simp
                   refine hK _ ?_
                   clear hK K hb0 hb1 hw w)
            refine loose_call (k := 18) rfl (by go_simp) (fun w F hw => ?_) (fun u hu => ?_)
            · go_simp
              go_at_call 34
              exact (law16_works _ _ hw).mono fun e w' ⟨he, hh⟩ => ⟨_, he, rfl, hh⟩
            obtain rfl := hu
            iterate 2
              refine loose_exact rfl (fun K hK => ?_)
              go_simp
              first
                | (refine hK _ ?_; clear hK K)
                | (intro w hw
                   obtain ⟨hb0, hb1⟩ := HSE.out _ hw
                   go_simp
                   refine hK _ ?_
                   clear hK K hb0 hb1 hw w)
            refine loose_nil ?_
            clear h5
            intro wq h5
            go_wp2_with fail
            go_ret
            exact ⟨rfl, HEND.out _ h5⟩
  · clear hwf
    go_enter Try.func6, Try.ntmps6
    go_wp2_with (go_at_call 34; refine (law16_works _ _ hw.tail).mono ?_; rintro e w1 ⟨rfl, h1⟩)
    go_ret
    exact ⟨rfl, h1⟩

end Go.Proofs.Ytfkpcmlajdmnfaa
