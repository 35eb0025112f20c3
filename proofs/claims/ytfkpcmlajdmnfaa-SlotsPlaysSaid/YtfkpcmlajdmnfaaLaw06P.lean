/- The law SlotsPlays. -/
import Derived.Test.YtfkpcmlajdmnfaaSlotsE
import Derived.Test.YtfkpcmlajdmnfaaArgsSact
import Derived.Test.YtfkpcmlajdmnfaaLoose
import Derived.Deep.RegionHeld3
namespace Go.Proofs.Ytfkpcmlajdmnfaa
open Go Go.RowKit Go.MapKept
set_option maxRecDepth 100000
set_option linter.unusedVariables false
set_option linter.unusedSimpArgs false
attribute [local go_sem] exactUpon looseUpon

theorem nodup_bounded : ∀ (n : Nat) (l : List Int), l.Nodup → (∀ x ∈ l, 0 ≤ x ∧ x < n) → l.length ≤ n
  | 0, l, _, h => by
    cases l with
    | nil => simp
    | cons x l => have := h x List.mem_cons_self; omega
  | n + 1, l, hn, h => by
    by_cases hm : (n : Int) ∈ l
    · have h1 := nodup_bounded n (l.erase n) (hn.erase _) fun x hx => by
        have hx' := (hn.mem_erase_iff).1 hx
        have := h x hx'.2
        have := hx'.1
        omega
      rw [List.length_erase_of_mem hm] at h1
      omega
    · have := nodup_bounded n l hn fun x hx => by
        have h2 := h x hx
        have : x ≠ n := fun e => hm (e ▸ hx)
        omega
      omega
theorem SlotsM.Good.opn_len {s : SlotsM} {k : Nat} (h : s.Good k) (hn : s.gens.length ≤ 1000000) : s.opn.length ≤ 1000000 := by
  rw [← alKeys_len]
  refine Nat.le_trans (nodup_bounded s.gens.length _ h.ok.nodup fun x hx => ?_) hn
  obtain ⟨v, hv⟩ := alGet_of_mem hx
  exact h.ok.opn _ _ hv

set_option maxHeartbeats 8000000 in
theorem law_SlotsPlays (n : Int) (n0 : -9223372036854775808 ≤ n) (n1 : n ≤ 9223372036854775807) (va : Value) (l : List (Bool × Int × Int)) (hwf : ∀ c ∈ l, sactWf c) (m0 : l.length ≤ maxLen) (w : World) (F : List HProp) (hw : holds w (roSacts va l :: F)) :
    Calls Try.prog 13 #[.int .i64 n, va] w fun e w' => e = .returned (.bool true) ∧ holds w' F := by
  obtain ⟨a, cap, rfl, hcap⟩ := roSacts_form hw
  unfold maxLen at m0
  clear hwf
  by_cases h80 : l.length ≤ 80
  · by_cases hbad : n < 0 ∨ 1048576 < n
    · have G1 := Lib.hid (slots_New_no w n _ hbad hw)
      rcases hbad with hn | hn
      · have hd : decide ((300 : Int) < n) = false := by simp; omega
        go_enter Try.func13, Try.ntmps13
        go_wp2_with fail
        refine G1.out.mono ?_
        rintro e w1 ⟨rfl, h1⟩
        go_wp2_with fail
        refine (law06_works _ _ h1.tail).mono ?_
        rintro e w2 ⟨rfl, h2⟩
        go_wp2_with fail
        go_ret
        exact ⟨rfl, h2⟩
      · have hd : (300 : Int) < n := by omega
        have hd2 : decide (n ≤ (1048576 : Int)) = false := by simp; omega
        have hd3 : ¬ n < 0 := by omega
        go_enter Try.func13, Try.ntmps13
        go_wp2_with fail
        refine G1.out.mono ?_
        rintro e w1 ⟨rfl, h1⟩
        go_wp2_with fail
        refine (law06_works _ _ h1.tail).mono ?_
        rintro e w2 ⟨rfl, h2⟩
        go_wp2_with fail
        go_ret
        exact ⟨rfl, h2⟩
    · by_cases h300 : 300 < n
      · have hd2 : n ≤ (1048576 : Int) := by omega
        clear hbad
        go_enter Try.func13, Try.ntmps13
        go_wp2_with fail
        refine (law06_works _ _ hw.tail).mono ?_
        rintro e w2 ⟨rfl, h2⟩
        go_wp2_with fail
        go_ret
        exact ⟨rfl, h2⟩
      · obtain ⟨n, rfl⟩ := Int.eq_ofNat_of_zero_le (show 0 ≤ n by omega)
        have hn3 : n ≤ 300 := by omega
        have hd : decide ((300 : Int) < n) = false := by simp; omega
        clear hbad h300
        have G1 := Lib.hid (slots_New w n _ (by omega) (by omega) hw)
        have hg0 := SlotsM.Good.new n (by omega)
        go_enter Try.func13, Try.ntmps13
        go_wp2_with fail
        refine G1.out.mono ?_
        rintro e w1 ⟨v, rfl, h1⟩
        obtain ⟨b, rfl⟩ : ∃ b, v = .pointer (some ⟨b, 0, none⟩) := by obtain ⟨b, _, _, _, e, _⟩ := open_slots h1; exact ⟨b, e⟩
        rw [Int.toNat_natCast] at h1
        have G2 := Lib.hid (ref06_New w1 n _ (by omega) h1)
        go_wp2_with fail
        refine G2.out.mono ?_
        rintro e w2 ⟨vo, vg, rfl, h2⟩
        obtain ⟨ao, co, rfl, _⟩ := roBools_form h2
        obtain ⟨ag, cg, rfl, _⟩ := roInts_form (h2.pick 1)
        simp only [List.length_replicate] at h2 ⊢
        have h3 := h2.alloc (.cells #[.slice ao n co, .slice ag n cg, .slice none 0 0, .int .i64 0] 97 (0, 0))
        have h4 : holds _ (roInts (.slice none 0 0) [] :: _ :: _ :: _ :: _ :: _ :: F) := (holds_ownRow_nil h3 3 1).shareRow
        have h5 := h4.sel 6 [4, 2, 3, 0, 1, 5]
        rw [← ob_new] at h5
        have h5 : holds _ (slotsAt (.pointer (some ⟨b, 0, none⟩)) (SlotsM.new n) :: roBools (.slice ao n co) (openBools (SlotsM.new n)) :: roInts (.slice ag n cg) (SlotsM.new n).gens :: roInts (.slice none (SlotsM.new n).closed.length 0) (SlotsM.new n).closed :: blk w2.heap.size (.cells #[.slice ao n co, .slice ag n cg, .slice none (SlotsM.new n).closed.length 0, .int .i64 (SlotsM.new n).fresh] 97 (0, 0)) :: roSacts (.slice a l.length cap) l :: F) := h5
        clear h4 h3 h2 h1
        have hn0 : (SlotsM.new n).gens.length = n := by simp [SlotsM.new]
        go_wp2_with fail
        generalize w2.heap.size = bx at h5 ⊢
        go_loopw [7] (fun i wr => ∃ (k : Nat) (s : SlotsM) (ao : Option Addr) (co : Nat) (ag : Option Addr) (cg : Nat) (ac : Option Addr) (cc : Nat), k ≤ l.length ∧ i = .int .i64 k ∧ s.Good k ∧ s.gens.length = n ∧ holds wr (slotsAt (.pointer (some ⟨b, 0, none⟩)) s :: roBools (.slice ao n co) (openBools s) :: roInts (.slice ag n cg) s.gens :: roInts (.slice ac s.closed.length cc) s.closed :: blk bx (.cells #[.slice ao n co, .slice ag n cg, .slice ac s.closed.length cc, .int .i64 s.fresh] 97 (0, 0)) :: roSacts (.slice a l.length cap) l :: F)) (fun i _ => l.length - (intOf i).toNat)
        case atStart => exact ⟨0, _, ao, co, ag, cg, none, 0, Nat.zero_le _, rfl, hg0, hn0, h5⟩
        case round =>
          obtain ⟨k, s, ao, co, ag, cg, ac, cc, hk, rfl, hgd, hn2, h3⟩ := hrel
          clear h5 hg0 hn0 G1 G2 hw n0 n1
          by_cases hlt : k < l.length
          · obtain ⟨ga, offa, capa, hva, _, hcs⟩ := (h3.pick 5).sactAt (by omega)
            cases hva
            obtain ⟨x, hx⟩ : ∃ x, l[k] = x := ⟨_, rfl⟩
            obtain ⟨cl, p, g⟩ := x
            obtain ⟨c0, c1, c2⟩ := hcs k hlt
            rw [hx] at c0 c1 c2
            dsimp only at c0 c1 c2
            have HSE := Lib.hid (fun w (h : holds w (slotsAt (.pointer (some ⟨b, 0, none⟩)) s :: roBools (.slice ao n co) (openBools s) :: roInts (.slice ag n cg) s.gens :: roInts (.slice ac s.closed.length cc) s.closed :: blk bx (.cells #[.slice ao n co, .slice ag n cg, .slice ac s.closed.length cc, .int .i64 s.fresh] 97 (0, 0)) :: roSacts (.slice (some ⟨ga, offa, none⟩) l.length cap) l :: F)) => (show w.cell? ⟨bx, 0, none⟩ = some (.slice ao n co) ∧ w.cell? ⟨bx, 1, none⟩ = some (.slice ag n cg) ∧ w.cell? ⟨bx, 2, none⟩ = some (.slice ac s.closed.length cc) ∧ w.cell? ⟨bx, 3, none⟩ = some (.int .i64 s.fresh) ∧ w.cell? ⟨ga, offa + k * 3, none⟩ = some (.bool cl) from by
              refine ⟨cellAt (h.pick 4).get_blk 0, cellAt (h.pick 4).get_blk 1, cellAt (h.pick 4).get_blk 2, cellAt (h.pick 4).get_blk 3, ?_⟩
              obtain ⟨_, _, _, hva, _, hcs⟩ := (h.pick 5).sactAt (by omega)
              cases hva
              have := (hcs k hlt).1
              rw [hx] at this
              exact this))
            clear hcs hx
            obtain ⟨rr, hrr⟩ : ∃ rr, s.right p g = rr := ⟨_, rfl⟩
            have hok := hgd.ok
            have HR1 := Lib.hid (show ∀ w F', holds w ((slotsAt (.pointer (some ⟨b, 0, none⟩)) s :: roBools (.slice ao n co) (openBools s) :: roInts (.slice ag n cg) s.gens :: roInts (.slice ac s.closed.length cc) s.closed :: blk bx (.cells #[.slice ao n co, .slice ag n cg, .slice ac s.closed.length cc, .int .i64 s.fresh] 97 (0, 0)) :: roSacts (.slice (some ⟨ga, offa, none⟩) l.length cap) l :: F) ++ F') → Calls Try.prog 69 #[.pointer (some ⟨b, 0, none⟩), .int .i64 p, .int .i64 g] w fun e w' => e = Ending.returned (.bool rr) ∧ holds w' ((slotsAt (.pointer (some ⟨b, 0, none⟩)) s :: roBools (.slice ao n co) (openBools s) :: roInts (.slice ag n cg) s.gens :: roInts (.slice ac s.closed.length cc) s.closed :: blk bx (.cells #[.slice ao n co, .slice ag n cg, .slice ac s.closed.length cc, .int .i64 s.fresh] 97 (0, 0)) :: roSacts (.slice (some ⟨ga, offa, none⟩) l.length cap) l :: F) ++ F') from fun w F' h => (slots_Right w _ s p g _ hok h).mono fun e w' ⟨he, hh⟩ => ⟨by rw [he, hrr], hh⟩)
            have HR2 := Lib.hid (show ∀ w F', holds w ((slotsAt (.pointer (some ⟨b, 0, none⟩)) s :: roBools (.slice ao n co) (openBools s) :: roInts (.slice ag n cg) s.gens :: roInts (.slice ac s.closed.length cc) s.closed :: blk bx (.cells #[.slice ao n co, .slice ag n cg, .slice ac s.closed.length cc, .int .i64 s.fresh] 97 (0, 0)) :: roSacts (.slice (some ⟨ga, offa, none⟩) l.length cap) l :: F) ++ F') → Calls Try.prog 70 #[.agg #[.slice ao n co, .slice ag n cg, .slice ac s.closed.length cc, .int .i64 s.fresh], .int .i64 p, .int .i64 g] w fun e w' => e = Ending.returned (.bool rr) ∧ holds w' ((slotsAt (.pointer (some ⟨b, 0, none⟩)) s :: roBools (.slice ao n co) (openBools s) :: roInts (.slice ag n cg) s.gens :: roInts (.slice ac s.closed.length cc) s.closed :: blk bx (.cells #[.slice ao n co, .slice ag n cg, .slice ac s.closed.length cc, .int .i64 s.fresh] 97 (0, 0)) :: roSacts (.slice (some ⟨ga, offa, none⟩) l.length cap) l :: F) ++ F') from fun w F' h => (rs_Right w _ _ _ s p g _ hok (h.sel 6 [1, 2, 3, 0, 4, 5])).mono fun e w' ⟨he, hh⟩ => ⟨by rw [he, hrr], hh.sel 6 [3, 0, 1, 2, 4, 5]⟩)
            have HGD := Lib.hid hgd
            have HN := Lib.hid hn2
            have HRR := Lib.hid hrr
            clear hgd hn2 hrr hok
            have HB0 := Lib.hid (show ∀ w, holds w (slotsAt (.pointer (some ⟨b, 0, none⟩)) s :: roBools (.slice ao n co) (openBools s) :: roInts (.slice ag n cg) s.gens :: roInts (.slice ac s.closed.length cc) s.closed :: blk bx (.cells #[.slice ao n co, .slice ag n cg, .slice ac s.closed.length cc, .int .i64 s.fresh] 97 (0, 0)) :: roSacts (.slice (some ⟨ga, offa, none⟩) l.length cap) l :: F) → holds w (slotsAt (.pointer (some ⟨b, 0, none⟩)) s :: roBools (.slice ao n co) (openBools s) :: roInts (.slice ag n cg) s.gens :: roInts (.slice ac s.closed.length cc) s.closed :: blk bx (.cells #[.slice ao n co, .slice ag n cg, .slice ac s.closed.length cc, .int .i64 s.fresh] 97 (0, 0)) :: roSacts (.slice (some ⟨ga, offa, none⟩) l.length cap) l :: F) from fun w h => h)
            go_wp2_with fail
            go_quiet (fail)
            have h3 := h3.drewN nq
            clear c0 c1 c2
            generalize hB : (slotsAt (.pointer (some ⟨b, 0, none⟩)) s :: roBools (.slice ao n co) (openBools s) :: roInts (.slice ag n cg) s.gens :: roInts (.slice ac s.closed.length cc) s.closed :: blk bx (.cells #[.slice ao n co, .slice ag n cg, .slice ac s.closed.length cc, .int .i64 s.fresh] 97 (0, 0)) :: roSacts (.slice (some ⟨ga, offa, none⟩) l.length cap) l :: F : List HProp) = B at h3 HSE HR1 HR2
            go_wp2_with fail
            refine wp_region_loose (fun k => match k with | 3 => some ⟨fun u => u = .bool rr, fun _ => []⟩ | 7 => some ⟨fun u => u = .bool rr, fun _ => []⟩ | _ => none) B (by kernel_rfl) (by kernel_rfl) h3 ?_
            iterate 3
              refine loose_exact rfl (fun K hK => ?_)
              go_simp
              first
                | (refine hK _ ?_; clear hK K)
                | (intro w hw
                   obtain ⟨b0, b1, b2, b3, c0⟩ := HSE.out _ hw
                   go_simp
                   refine hK _ ?_
                   clear hK K b0 b1 b2 b3 c0 hw w)
            refine loose_call (k := 3) rfl (by go_simp) (fun w F hw => ?_) (fun u hu => ?_)
            · go_simp
              go_at_call 69
              exact (HR1.out _ _ hw).mono fun e w' ⟨he, hh⟩ => ⟨_, he, rfl, hh⟩
            obtain rfl := hu
            iterate 3
              refine loose_exact rfl (fun K hK => ?_)
              go_simp
              first
                | (refine hK _ ?_; clear hK K)
                | (intro w hw
                   obtain ⟨b0, b1, b2, b3, c0⟩ := HSE.out _ hw
                   go_simp
                   refine hK _ ?_
                   clear hK K b0 b1 b2 b3 c0 hw w)
            refine loose_call (k := 7) rfl (by go_simp) (fun w F hw => ?_) (fun u hu => ?_)
            · go_simp
              go_at_call 70
              exact (HR2.out _ _ hw).mono fun e w' ⟨he, hh⟩ => ⟨_, he, rfl, hh⟩
            obtain rfl := hu
            iterate 1
              refine loose_exact rfl (fun K hK => ?_)
              go_simp
              first
                | (refine hK _ ?_; clear hK K)
                | (intro w hw
                   obtain ⟨b0, b1, b2, b3, c0⟩ := HSE.out _ hw
                   go_simp
                   refine hK _ ?_
                   clear hK K b0 b1 b2 b3 c0 hw w)
            refine loose_nil ?_
            clear h3
            intro wq h3
            subst hB
            obtain ⟨b0, b1, b2, b3, c0⟩ := HSE.out _ h3
            clear HR1 HR2 HB0
            cases cl with
            | true =>
              obtain ⟨s2, hs2⟩ : ∃ s2, (if s.right p g then s.closeAt p else s) = s2 := ⟨_, rfl⟩
              have hg2 : s2.Good (k + 1) := by
                rw [← hs2]
                by_cases hr : s.right p g = true
                · rw [if_pos hr]; exact HGD.out.close hr
                · rw [if_neg hr]; exact HGD.out.up
              have hn2 : s2.gens.length = n := by
                rw [← hs2, ← HN.out]
                by_cases hr : s.right p g = true
                · rw [if_pos hr]; simp [SlotsM.closeAt]
                · rw [if_neg hr]
              have o1 := rs_Close wq _ _ _ s k p g _ HGD.out (by omega) (h3.sel 6 [1, 2, 3, 0, 4, 5])
              have o2 := fun w F h => slots_Close w (.pointer (some ⟨b, 0, none⟩)) s p g F HGD.out.ok (by have := HGD.out.clen; omega) (fun x hx => by have := HGD.out.gens x hx; omega) h
              rw [hs2, HRR.out] at o1
              rw [hs2, HRR.out] at o2
              have O1 := Lib.hid o1
              have O2 := Lib.hid o2
              clear o1 o2 hs2
              go_wp2_with fail
              refine O1.out.mono ?_
              rintro e w4 ⟨vo', vg', vc', rfl, h4⟩
              obtain ⟨ao2, co2, rfl, _⟩ := roBools_form h4
              obtain ⟨ag2, cg2, rfl, _⟩ := roInts_form (h4.pick 1)
              obtain ⟨ac2, cc2, rfl, _⟩ := roInts_form (h4.pick 2)
              rw [ob_len, hn2] at h4 ⊢
              clear b0 b1 b2 b3 c0 O1 h3
              have h5 := h4.alloc (.cells #[.slice ao2 n co2, .slice ag2 n cg2, .slice ac2 s2.closed.length cc2, .int .i64 s2.fresh] 97 (0, 0))
              go_wp2_with fail
              refine (O2.out _ _ (h5.sel 7 [4, 0, 1, 2, 3, 5, 6])).mono ?_
              rintro e w5 ⟨rfl, h6⟩
              clear h4 h5 O2
              generalize w4.heap.size = nb at h6 ⊢
              have hz := h6.sel 7 [1, 5, 0, 2, 3, 4, 6]
              have z := hz.get_blk
              have z0 := cellAt z 0
              have z1 := cellAt z 1
              have z2 := cellAt z 2
              have z3 := cellAt z 3
              clear z
              have y := (hz.pick 1).get_blk
              have y0 := cellAt y 0
              have y1 := cellAt y 1
              have y2 := cellAt y 2
              have y3 := cellAt y 3
              have f0 := frozen_of_row _ bx 0 _ _ y
              have f1 := frozen_of_row _ bx 1 _ _ y
              have f2 := frozen_of_row _ bx 2 _ _ y
              have f3 := frozen_of_row _ bx 3 _ _ y
              clear y
              simp only [List.getElem?_toArray, List.getElem?_cons_succ, List.getElem?_cons_zero] at z0 z1 z2 z3 y0 y1 y2 y3
              have h6 := store4 (hz.sel 7 [1, 2, 3, 4, 5, 6]) (.slice ao2 n co2) (.slice ag2 n cg2) (.slice ac2 s2.closed.length cc2) (.int .i64 s2.fresh)
              have h6 := h6.sel 6 [1, 2, 3, 4, 0, 5]
              have hB2 : holds _ (slotsAt (.pointer (some ⟨b, 0, none⟩)) s2 :: roBools (.slice ao2 n co2) (openBools s2) :: roInts (.slice ag2 n cg2) s2.gens :: roInts (.slice ac2 s2.closed.length cc2) s2.closed :: blk bx (.cells #[.slice ao2 n co2, .slice ag2 n cg2, .slice ac2 s2.closed.length cc2, .int .i64 s2.fresh] 97 (0, 0)) :: roSacts (.slice (some ⟨ga, offa, none⟩) l.length cap) l :: F) := h6
              clear h6
              have hbx := (hB2.pick 4).get_blk
              have b0 := cellAt hbx 0
              have b1 := cellAt hbx 1
              have b2 := cellAt hbx 2
              have b3 := cellAt hbx 3
              clear hbx
              have hok2 := hg2.ok
              obtain ⟨gv, hgv⟩ : ∃ gv, (if 0 ≤ p ∧ p < s2.gens.length then s2.gens.getD p.toNat 0 else -1) = gv := ⟨_, rfl⟩
              have HG := Lib.hid (show ∀ w F', holds w ((slotsAt (.pointer (some ⟨b, 0, none⟩)) s2 :: roBools (.slice ao2 n co2) (openBools s2) :: roInts (.slice ag2 n cg2) s2.gens :: roInts (.slice ac2 s2.closed.length cc2) s2.closed :: blk bx (.cells #[.slice ao2 n co2, .slice ag2 n cg2, .slice ac2 s2.closed.length cc2, .int .i64 s2.fresh] 97 (0, 0)) :: roSacts (.slice (some ⟨ga, offa, none⟩) l.length cap) l :: F) ++ F') → Calls Try.prog 75 #[.pointer (some ⟨b, 0, none⟩), .int .i64 p] w fun e w' => e = Ending.returned (.int .i64 gv) ∧ holds w' ((slotsAt (.pointer (some ⟨b, 0, none⟩)) s2 :: roBools (.slice ao2 n co2) (openBools s2) :: roInts (.slice ag2 n cg2) s2.gens :: roInts (.slice ac2 s2.closed.length cc2) s2.closed :: blk bx (.cells #[.slice ao2 n co2, .slice ag2 n cg2, .slice ac2 s2.closed.length cc2, .int .i64 s2.fresh] 97 (0, 0)) :: roSacts (.slice (some ⟨ga, offa, none⟩) l.length cap) l :: F) ++ F') from fun w F' h => (slots_Gen w _ s2 p _ hok2 h).mono fun e w' ⟨he, hh⟩ => ⟨by rw [he, hgv], hh⟩)
              have HL := Lib.hid (show ∀ w F', holds w ((slotsAt (.pointer (some ⟨b, 0, none⟩)) s2 :: roBools (.slice ao2 n co2) (openBools s2) :: roInts (.slice ag2 n cg2) s2.gens :: roInts (.slice ac2 s2.closed.length cc2) s2.closed :: blk bx (.cells #[.slice ao2 n co2, .slice ag2 n cg2, .slice ac2 s2.closed.length cc2, .int .i64 s2.fresh] 97 (0, 0)) :: roSacts (.slice (some ⟨ga, offa, none⟩) l.length cap) l :: F) ++ F') → Calls Try.prog 76 #[.pointer (some ⟨b, 0, none⟩)] w fun e w' => e = Ending.returned (.int .i64 (s2.opn.length : Nat)) ∧ holds w' ((slotsAt (.pointer (some ⟨b, 0, none⟩)) s2 :: roBools (.slice ao2 n co2) (openBools s2) :: roInts (.slice ag2 n cg2) s2.gens :: roInts (.slice ac2 s2.closed.length cc2) s2.closed :: blk bx (.cells #[.slice ao2 n co2, .slice ag2 n cg2, .slice ac2 s2.closed.length cc2, .int .i64 s2.fresh] 97 (0, 0)) :: roSacts (.slice (some ⟨ga, offa, none⟩) l.length cap) l :: F) ++ F') from fun w F' h => slots_Len w _ s2 _ h)
              have HP := Lib.hid (show ∀ w F', holds w ((slotsAt (.pointer (some ⟨b, 0, none⟩)) s2 :: roBools (.slice ao2 n co2) (openBools s2) :: roInts (.slice ag2 n cg2) s2.gens :: roInts (.slice ac2 s2.closed.length cc2) s2.closed :: blk bx (.cells #[.slice ao2 n co2, .slice ag2 n cg2, .slice ac2 s2.closed.length cc2, .int .i64 s2.fresh] 97 (0, 0)) :: roSacts (.slice (some ⟨ga, offa, none⟩) l.length cap) l :: F) ++ F') → Calls Try.prog 77 #[.agg #[.slice ao2 n co2, .slice ag2 n cg2, .slice ac2 s2.closed.length cc2, .int .i64 s2.fresh]] w fun e w' => ∃ a c, e = Ending.returned (.slice a s2.opn.length c) ∧ holds w' (roInts (.slice a s2.opn.length c) (sortInts (alKeys s2.opn)) :: ((slotsAt (.pointer (some ⟨b, 0, none⟩)) s2 :: roBools (.slice ao2 n co2) (openBools s2) :: roInts (.slice ag2 n cg2) s2.gens :: roInts (.slice ac2 s2.closed.length cc2) s2.closed :: blk bx (.cells #[.slice ao2 n co2, .slice ag2 n cg2, .slice ac2 s2.closed.length cc2, .int .i64 s2.fresh] 97 (0, 0)) :: roSacts (.slice (some ⟨ga, offa, none⟩) l.length cap) l :: F) ++ F')) from fun w F' h => (rs_Places w _ _ _ s2 (k + 1) _ hg2 (h.sel 6 [1, 2, 3, 0, 4, 5])).mono fun e w' ⟨a, c, he, hh⟩ => ⟨a, c, he, hh.sel 7 [0, 4, 1, 2, 3, 5, 6]⟩)
              have HSE := Lib.hid (fun w (h : holds w (slotsAt (.pointer (some ⟨b, 0, none⟩)) s2 :: roBools (.slice ao2 n co2) (openBools s2) :: roInts (.slice ag2 n cg2) s2.gens :: roInts (.slice ac2 s2.closed.length cc2) s2.closed :: blk bx (.cells #[.slice ao2 n co2, .slice ag2 n cg2, .slice ac2 s2.closed.length cc2, .int .i64 s2.fresh] 97 (0, 0)) :: roSacts (.slice (some ⟨ga, offa, none⟩) l.length cap) l :: F)) => (show w.cell? ⟨bx, 0, none⟩ = some (.slice ao2 n co2) ∧ w.cell? ⟨bx, 1, none⟩ = some (.slice ag2 n cg2) ∧ w.cell? ⟨bx, 2, none⟩ = some (.slice ac2 s2.closed.length cc2) ∧ w.cell? ⟨bx, 3, none⟩ = some (.int .i64 s2.fresh) from ⟨cellAt (h.pick 4).get_blk 0, cellAt (h.pick 4).get_blk 1, cellAt (h.pick 4).get_blk 2, cellAt (h.pick 4).get_blk 3⟩))
              have hsk : (sortInts (alKeys s2.opn)).length = s2.opn.length := by rw [sortInts, List.length_mergeSort, alKeys_len]
              have HG2 := Lib.hid hg2
              have HN2 := Lib.hid hn2
              clear hg2 hok2
              by_cases hp : 0 ≤ p ∧ p < n
              · obtain ⟨q, rfl⟩ := Int.eq_ofNat_of_zero_le hp.1
                have hq : q < s2.gens.length := by omega
                obtain ⟨gg, offg, cpg, hvg, _, hcg⟩ := (hB2.pick 2).roIntAt (by omega)
                rw [hn2] at hvg
                cases hvg
                have e9 := hcg q hq
                have hgq : s2.gens[q] = gv := by
                  rw [← hgv, if_pos (by omega), Int.toNat_natCast, List.getD_eq_getElem?_getD, List.getElem?_eq_getElem hq]; rfl
                rw [hgq] at e9
                have e8 : (q : Int) < n := by omega
                clear hcg hgq hgv hp hq hn2
                generalize hB : (slotsAt (.pointer (some ⟨b, 0, none⟩)) s2 :: roBools (.slice ao2 n co2) (openBools s2) :: roInts (.slice (some ⟨gg, offg, none⟩) n cg2) s2.gens :: roInts (.slice ac2 s2.closed.length cc2) s2.closed :: blk bx (.cells #[.slice ao2 n co2, .slice (some ⟨gg, offg, none⟩) n cg2, .slice ac2 s2.closed.length cc2, .int .i64 s2.fresh] 97 (0, 0)) :: roSacts (.slice (some ⟨ga, offa, none⟩) l.length cap) l :: F : List HProp) = B at hB2 HG HL HP HSE
                have HB := Lib.hid hB
                clear hB
                go_wp2_with fail
                clear b0 b1 b2 b3 e9 e8
                refine wp_region_loose (fun k => match k with | 2 => some ⟨fun u => u = .int .i64 gv, fun _ => []⟩ | 7 => some ⟨fun u => u = .int .i64 (s2.opn.length : Nat), fun _ => []⟩ | 9 => some ⟨fun u => ∃ (a : Option Addr) (c : Nat), u = .slice a s2.opn.length c, fun _ => []⟩ | _ => none) B (by kernel_rfl) (by kernel_rfl) hB2 ?_
                iterate 2
                  refine loose_exact rfl (fun K hK => ?_)
                  go_simp
                  first
                    | (refine hK _ ?_; clear hK K)
                    | (intro w hw
                       obtain ⟨b0, b1, b2, b3⟩ := HSE.out _ hw
                       go_simp
                       refine hK _ ?_
                       clear hK K b0 b1 b2 b3 hw w)
                refine loose_call (k := 2) rfl (by go_simp) (fun w F hw => ?_) (fun u hu => ?_)
                · go_simp
                  go_at_call 75
                  exact (HG.out _ _ hw).mono fun e w' ⟨he, hh⟩ => ⟨_, he, rfl, hh⟩
                obtain rfl := hu
                iterate 4
                  refine loose_exact rfl (fun K hK => ?_)
                  go_simp
                  first
                    | (refine hK _ ?_; clear hK K)
                    | (intro w hw
                       obtain ⟨b0, b1, b2, b3⟩ := HSE.out _ hw
                       go_simp
                       refine hK _ ?_
                       clear hK K b0 b1 b2 b3 hw w)
                refine loose_call (k := 7) rfl (by go_simp) (fun w F hw => ?_) (fun u hu => ?_)
                · go_simp
                  go_at_call 76
                  exact (HL.out _ _ hw).mono fun e w' ⟨he, hh⟩ => ⟨_, he, rfl, hh⟩
                obtain rfl := hu
                iterate 1
                  refine loose_exact rfl (fun K hK => ?_)
                  go_simp
                  first
                    | (refine hK _ ?_; clear hK K)
                    | (intro w hw
                       obtain ⟨b0, b1, b2, b3⟩ := HSE.out _ hw
                       go_simp
                       refine hK _ ?_
                       clear hK K b0 b1 b2 b3 hw w)
                refine loose_call (k := 9) rfl (by go_simp) (fun w F hw => ?_) (fun u hu => ?_)
                · go_simp
                  go_at_call 77
                  exact (HP.out _ _ hw).mono fun e w' ⟨a, c, he, hh⟩ => ⟨_, he, ⟨a, c, rfl⟩, hh.tail⟩
                obtain ⟨ap, cp, rfl⟩ := hu
                iterate 3
                  refine loose_exact rfl (fun K hK => ?_)
                  go_simp
                  first
                    | (refine hK _ ?_; clear hK K)
                    | (intro w hw
                       obtain ⟨b0, b1, b2, b3⟩ := HSE.out _ hw
                       go_simp
                       refine hK _ ?_
                       clear hK K b0 b1 b2 b3 hw w)
                refine loose_nil ?_
                clear hB2
                intro wq hB2
                go_wp2_with fail
                go_roundw
                case rel => exact ⟨k + 1, s2, _, _, _, _, _, _, by omega, by go_num, HG2.out, HN2.out, by rw [← HB.out] at hB2; exact hB2⟩
                case measure => simp [intOf]; omega
              · have hgq : gv = -1 := by rw [← hgv, if_neg (by omega)]
                subst hgq
                clear hgv hn2
                generalize hB : (slotsAt (.pointer (some ⟨b, 0, none⟩)) s2 :: roBools (.slice ao2 n co2) (openBools s2) :: roInts (.slice ag2 n cg2) s2.gens :: roInts (.slice ac2 s2.closed.length cc2) s2.closed :: blk bx (.cells #[.slice ao2 n co2, .slice ag2 n cg2, .slice ac2 s2.closed.length cc2, .int .i64 s2.fresh] 97 (0, 0)) :: roSacts (.slice (some ⟨ga, offa, none⟩) l.length cap) l :: F : List HProp) = B at hB2 HG HL HP HSE
                have HB := Lib.hid hB
                clear hB
                by_cases hp0 : 0 ≤ p
                · have e8 : decide (p < n) = false := decide_eq_false (by omega)
                  clear hp
                  go_wp2_with fail
                  clear b0 b1 b2 b3 e8
                  refine wp_region_loose (fun k => match k with | 2 => some ⟨fun u => u = .int .i64 (-1), fun _ => []⟩ | 7 => some ⟨fun u => u = .int .i64 (s2.opn.length : Nat), fun _ => []⟩ | 9 => some ⟨fun u => ∃ (a : Option Addr) (c : Nat), u = .slice a s2.opn.length c, fun _ => []⟩ | _ => none) B (by kernel_rfl) (by kernel_rfl) hB2 ?_
                  iterate 2
                    refine loose_exact rfl (fun K hK => ?_)
                    go_simp
                    first
                      | (refine hK _ ?_; clear hK K)
                      | (intro w hw
                         obtain ⟨b0, b1, b2, b3⟩ := HSE.out _ hw
                         go_simp
                         refine hK _ ?_
                         clear hK K b0 b1 b2 b3 hw w)
                  refine loose_call (k := 2) rfl (by go_simp) (fun w F hw => ?_) (fun u hu => ?_)
                  · go_simp
                    go_at_call 75
                    exact (HG.out _ _ hw).mono fun e w' ⟨he, hh⟩ => ⟨_, he, rfl, hh⟩
                  obtain rfl := hu
                  iterate 4
                    refine loose_exact rfl (fun K hK => ?_)
                    go_simp
                    first
                      | (refine hK _ ?_; clear hK K)
                      | (intro w hw
                         obtain ⟨b0, b1, b2, b3⟩ := HSE.out _ hw
                         go_simp
                         refine hK _ ?_
                         clear hK K b0 b1 b2 b3 hw w)
                  refine loose_call (k := 7) rfl (by go_simp) (fun w F hw => ?_) (fun u hu => ?_)
                  · go_simp
                    go_at_call 76
                    exact (HL.out _ _ hw).mono fun e w' ⟨he, hh⟩ => ⟨_, he, rfl, hh⟩
                  obtain rfl := hu
                  iterate 1
                    refine loose_exact rfl (fun K hK => ?_)
                    go_simp
                    first
                      | (refine hK _ ?_; clear hK K)
                      | (intro w hw
                         obtain ⟨b0, b1, b2, b3⟩ := HSE.out _ hw
                         go_simp
                         refine hK _ ?_
                         clear hK K b0 b1 b2 b3 hw w)
                  refine loose_call (k := 9) rfl (by go_simp) (fun w F hw => ?_) (fun u hu => ?_)
                  · go_simp
                    go_at_call 77
                    exact (HP.out _ _ hw).mono fun e w' ⟨a, c, he, hh⟩ => ⟨_, he, ⟨a, c, rfl⟩, hh.tail⟩
                  obtain ⟨ap, cp, rfl⟩ := hu
                  iterate 3
                    refine loose_exact rfl (fun K hK => ?_)
                    go_simp
                    first
                      | (refine hK _ ?_; clear hK K)
                      | (intro w hw
                         obtain ⟨b0, b1, b2, b3⟩ := HSE.out _ hw
                         go_simp
                         refine hK _ ?_
                         clear hK K b0 b1 b2 b3 hw w)
                  refine loose_nil ?_
                  clear hB2
                  intro wq hB2
                  go_wp2_with fail
                  go_roundw
                  case rel => exact ⟨k + 1, s2, _, _, _, _, _, _, by omega, by go_num, HG2.out, HN2.out, by rw [← HB.out] at hB2; exact hB2⟩
                  case measure => simp [intOf]; omega
                · have e8 : decide (0 ≤ p) = false := decide_eq_false hp0
                  clear hp hp0
                  go_wp2_with fail
                  clear b0 b1 b2 b3 e8
                  refine wp_region_loose (fun k => match k with | 2 => some ⟨fun u => u = .int .i64 (-1), fun _ => []⟩ | 7 => some ⟨fun u => u = .int .i64 (s2.opn.length : Nat), fun _ => []⟩ | 9 => some ⟨fun u => ∃ (a : Option Addr) (c : Nat), u = .slice a s2.opn.length c, fun _ => []⟩ | _ => none) B (by kernel_rfl) (by kernel_rfl) hB2 ?_
                  iterate 2
                    refine loose_exact rfl (fun K hK => ?_)
                    go_simp
                    first
                      | (refine hK _ ?_; clear hK K)
                      | (intro w hw
                         obtain ⟨b0, b1, b2, b3⟩ := HSE.out _ hw
                         go_simp
                         refine hK _ ?_
                         clear hK K b0 b1 b2 b3 hw w)
                  refine loose_call (k := 2) rfl (by go_simp) (fun w F hw => ?_) (fun u hu => ?_)
                  · go_simp
                    go_at_call 75
                    exact (HG.out _ _ hw).mono fun e w' ⟨he, hh⟩ => ⟨_, he, rfl, hh⟩
                  obtain rfl := hu
                  iterate 4
                    refine loose_exact rfl (fun K hK => ?_)
                    go_simp
                    first
                      | (refine hK _ ?_; clear hK K)
                      | (intro w hw
                         obtain ⟨b0, b1, b2, b3⟩ := HSE.out _ hw
                         go_simp
                         refine hK _ ?_
                         clear hK K b0 b1 b2 b3 hw w)
                  refine loose_call (k := 7) rfl (by go_simp) (fun w F hw => ?_) (fun u hu => ?_)
                  · go_simp
                    go_at_call 76
                    exact (HL.out _ _ hw).mono fun e w' ⟨he, hh⟩ => ⟨_, he, rfl, hh⟩
                  obtain rfl := hu
                  iterate 1
                    refine loose_exact rfl (fun K hK => ?_)
                    go_simp
                    first
                      | (refine hK _ ?_; clear hK K)
                      | (intro w hw
                         obtain ⟨b0, b1, b2, b3⟩ := HSE.out _ hw
                         go_simp
                         refine hK _ ?_
                         clear hK K b0 b1 b2 b3 hw w)
                  refine loose_call (k := 9) rfl (by go_simp) (fun w F hw => ?_) (fun u hu => ?_)
                  · go_simp
                    go_at_call 77
                    exact (HP.out _ _ hw).mono fun e w' ⟨a, c, he, hh⟩ => ⟨_, he, ⟨a, c, rfl⟩, hh.tail⟩
                  obtain ⟨ap, cp, rfl⟩ := hu
                  iterate 3
                    refine loose_exact rfl (fun K hK => ?_)
                    go_simp
                    first
                      | (refine hK _ ?_; clear hK K)
                      | (intro w hw
                         obtain ⟨b0, b1, b2, b3⟩ := HSE.out _ hw
                         go_simp
                         refine hK _ ?_
                         clear hK K b0 b1 b2 b3 hw w)
                  refine loose_nil ?_
                  clear hB2
                  intro wq hB2
                  go_wp2_with fail
                  go_roundw
                  case rel => exact ⟨k + 1, s2, _, _, _, _, _, _, by omega, by go_num, HG2.out, HN2.out, by rw [← HB.out] at hB2; exact hB2⟩
                  case measure => simp [intOf]; omega
            | false =>
              obtain ⟨s2, hs2⟩ : ∃ s2, s.opened = s2 := ⟨_, rfl⟩
              obtain ⟨⟨tp, tg, tb⟩, ht⟩ : ∃ t, s.told = t := ⟨_, rfl⟩
              have hg2 : s2.Good (k + 1) := by rw [← hs2]; exact HGD.out.opens.2.up
              have hn2 : s2.gens.length = n := by rw [← hs2, HGD.out.opens.1.gens]; exact HN.out
              have o1 := rs_Open wq _ _ _ s k _ HGD.out (by omega) (h3.sel 6 [1, 2, 3, 0, 4, 5])
              have o2 := fun w F h => slots_Open w (.pointer (some ⟨b, 0, none⟩)) s F HGD.out.ok h
              rw [hs2, ht] at o1
              rw [hs2, ht] at o2
              dsimp only at o1 o2
              have O1 := Lib.hid o1
              have O2 := Lib.hid o2
              clear o1 o2 hs2 ht
              go_wp2_with fail
              refine O1.out.mono ?_
              rintro e w4 ⟨vo', vg', vc', rfl, h4⟩
              obtain ⟨ao2, co2, rfl, _⟩ := roBools_form h4
              obtain ⟨ag2, cg2, rfl, _⟩ := roInts_form (h4.pick 1)
              obtain ⟨ac2, cc2, rfl, _⟩ := roInts_form (h4.pick 2)
              rw [ob_len, hn2] at h4 ⊢
              clear b0 b1 b2 b3 c0 O1 h3
              have h5 := h4.alloc (.cells #[.slice ao2 n co2, .slice ag2 n cg2, .slice ac2 s2.closed.length cc2, .int .i64 s2.fresh] 97 (0, 0))
              go_wp2_with fail
              refine (O2.out _ _ (h5.sel 7 [4, 0, 1, 2, 3, 5, 6])).mono ?_
              rintro e w5 ⟨rfl, h6⟩
              clear h4 h5 O2
              generalize w4.heap.size = nb at h6 ⊢
              have hz := h6.sel 7 [1, 5, 0, 2, 3, 4, 6]
              have z := hz.get_blk
              have z0 := cellAt z 0
              have z1 := cellAt z 1
              have z2 := cellAt z 2
              have z3 := cellAt z 3
              clear z
              have y := (hz.pick 1).get_blk
              have y0 := cellAt y 0
              have y1 := cellAt y 1
              have y2 := cellAt y 2
              have y3 := cellAt y 3
              have f0 := frozen_of_row _ bx 0 _ _ y
              have f1 := frozen_of_row _ bx 1 _ _ y
              have f2 := frozen_of_row _ bx 2 _ _ y
              have f3 := frozen_of_row _ bx 3 _ _ y
              clear y
              simp only [List.getElem?_toArray, List.getElem?_cons_succ, List.getElem?_cons_zero] at z0 z1 z2 z3 y0 y1 y2 y3
              have h6 := store4 (hz.sel 7 [1, 2, 3, 4, 5, 6]) (.slice ao2 n co2) (.slice ag2 n cg2) (.slice ac2 s2.closed.length cc2) (.int .i64 s2.fresh)
              have h6 := h6.sel 6 [1, 2, 3, 4, 0, 5]
              have hB2 : holds _ (slotsAt (.pointer (some ⟨b, 0, none⟩)) s2 :: roBools (.slice ao2 n co2) (openBools s2) :: roInts (.slice ag2 n cg2) s2.gens :: roInts (.slice ac2 s2.closed.length cc2) s2.closed :: blk bx (.cells #[.slice ao2 n co2, .slice ag2 n cg2, .slice ac2 s2.closed.length cc2, .int .i64 s2.fresh] 97 (0, 0)) :: roSacts (.slice (some ⟨ga, offa, none⟩) l.length cap) l :: F) := h6
              clear h6
              have hbx := (hB2.pick 4).get_blk
              have b0 := cellAt hbx 0
              have b1 := cellAt hbx 1
              have b2 := cellAt hbx 2
              have b3 := cellAt hbx 3
              clear hbx
              have hok2 := hg2.ok
              obtain ⟨gv, hgv⟩ : ∃ gv, (if 0 ≤ p ∧ p < s2.gens.length then s2.gens.getD p.toNat 0 else -1) = gv := ⟨_, rfl⟩
              have HG := Lib.hid (show ∀ w F', holds w ((slotsAt (.pointer (some ⟨b, 0, none⟩)) s2 :: roBools (.slice ao2 n co2) (openBools s2) :: roInts (.slice ag2 n cg2) s2.gens :: roInts (.slice ac2 s2.closed.length cc2) s2.closed :: blk bx (.cells #[.slice ao2 n co2, .slice ag2 n cg2, .slice ac2 s2.closed.length cc2, .int .i64 s2.fresh] 97 (0, 0)) :: roSacts (.slice (some ⟨ga, offa, none⟩) l.length cap) l :: F) ++ F') → Calls Try.prog 75 #[.pointer (some ⟨b, 0, none⟩), .int .i64 p] w fun e w' => e = Ending.returned (.int .i64 gv) ∧ holds w' ((slotsAt (.pointer (some ⟨b, 0, none⟩)) s2 :: roBools (.slice ao2 n co2) (openBools s2) :: roInts (.slice ag2 n cg2) s2.gens :: roInts (.slice ac2 s2.closed.length cc2) s2.closed :: blk bx (.cells #[.slice ao2 n co2, .slice ag2 n cg2, .slice ac2 s2.closed.length cc2, .int .i64 s2.fresh] 97 (0, 0)) :: roSacts (.slice (some ⟨ga, offa, none⟩) l.length cap) l :: F) ++ F') from fun w F' h => (slots_Gen w _ s2 p _ hok2 h).mono fun e w' ⟨he, hh⟩ => ⟨by rw [he, hgv], hh⟩)
              have HL := Lib.hid (show ∀ w F', holds w ((slotsAt (.pointer (some ⟨b, 0, none⟩)) s2 :: roBools (.slice ao2 n co2) (openBools s2) :: roInts (.slice ag2 n cg2) s2.gens :: roInts (.slice ac2 s2.closed.length cc2) s2.closed :: blk bx (.cells #[.slice ao2 n co2, .slice ag2 n cg2, .slice ac2 s2.closed.length cc2, .int .i64 s2.fresh] 97 (0, 0)) :: roSacts (.slice (some ⟨ga, offa, none⟩) l.length cap) l :: F) ++ F') → Calls Try.prog 76 #[.pointer (some ⟨b, 0, none⟩)] w fun e w' => e = Ending.returned (.int .i64 (s2.opn.length : Nat)) ∧ holds w' ((slotsAt (.pointer (some ⟨b, 0, none⟩)) s2 :: roBools (.slice ao2 n co2) (openBools s2) :: roInts (.slice ag2 n cg2) s2.gens :: roInts (.slice ac2 s2.closed.length cc2) s2.closed :: blk bx (.cells #[.slice ao2 n co2, .slice ag2 n cg2, .slice ac2 s2.closed.length cc2, .int .i64 s2.fresh] 97 (0, 0)) :: roSacts (.slice (some ⟨ga, offa, none⟩) l.length cap) l :: F) ++ F') from fun w F' h => slots_Len w _ s2 _ h)
              have HP := Lib.hid (show ∀ w F', holds w ((slotsAt (.pointer (some ⟨b, 0, none⟩)) s2 :: roBools (.slice ao2 n co2) (openBools s2) :: roInts (.slice ag2 n cg2) s2.gens :: roInts (.slice ac2 s2.closed.length cc2) s2.closed :: blk bx (.cells #[.slice ao2 n co2, .slice ag2 n cg2, .slice ac2 s2.closed.length cc2, .int .i64 s2.fresh] 97 (0, 0)) :: roSacts (.slice (some ⟨ga, offa, none⟩) l.length cap) l :: F) ++ F') → Calls Try.prog 77 #[.agg #[.slice ao2 n co2, .slice ag2 n cg2, .slice ac2 s2.closed.length cc2, .int .i64 s2.fresh]] w fun e w' => ∃ a c, e = Ending.returned (.slice a s2.opn.length c) ∧ holds w' (roInts (.slice a s2.opn.length c) (sortInts (alKeys s2.opn)) :: ((slotsAt (.pointer (some ⟨b, 0, none⟩)) s2 :: roBools (.slice ao2 n co2) (openBools s2) :: roInts (.slice ag2 n cg2) s2.gens :: roInts (.slice ac2 s2.closed.length cc2) s2.closed :: blk bx (.cells #[.slice ao2 n co2, .slice ag2 n cg2, .slice ac2 s2.closed.length cc2, .int .i64 s2.fresh] 97 (0, 0)) :: roSacts (.slice (some ⟨ga, offa, none⟩) l.length cap) l :: F) ++ F')) from fun w F' h => (rs_Places w _ _ _ s2 (k + 1) _ hg2 (h.sel 6 [1, 2, 3, 0, 4, 5])).mono fun e w' ⟨a, c, he, hh⟩ => ⟨a, c, he, hh.sel 7 [0, 4, 1, 2, 3, 5, 6]⟩)
              have HSE := Lib.hid (fun w (h : holds w (slotsAt (.pointer (some ⟨b, 0, none⟩)) s2 :: roBools (.slice ao2 n co2) (openBools s2) :: roInts (.slice ag2 n cg2) s2.gens :: roInts (.slice ac2 s2.closed.length cc2) s2.closed :: blk bx (.cells #[.slice ao2 n co2, .slice ag2 n cg2, .slice ac2 s2.closed.length cc2, .int .i64 s2.fresh] 97 (0, 0)) :: roSacts (.slice (some ⟨ga, offa, none⟩) l.length cap) l :: F)) => (show w.cell? ⟨bx, 0, none⟩ = some (.slice ao2 n co2) ∧ w.cell? ⟨bx, 1, none⟩ = some (.slice ag2 n cg2) ∧ w.cell? ⟨bx, 2, none⟩ = some (.slice ac2 s2.closed.length cc2) ∧ w.cell? ⟨bx, 3, none⟩ = some (.int .i64 s2.fresh) from ⟨cellAt (h.pick 4).get_blk 0, cellAt (h.pick 4).get_blk 1, cellAt (h.pick 4).get_blk 2, cellAt (h.pick 4).get_blk 3⟩))
              have hsk : (sortInts (alKeys s2.opn)).length = s2.opn.length := by rw [sortInts, List.length_mergeSort, alKeys_len]
              have HG2 := Lib.hid hg2
              have HN2 := Lib.hid hn2
              clear hg2 hok2
              by_cases hp : 0 ≤ p ∧ p < n
              · obtain ⟨q, rfl⟩ := Int.eq_ofNat_of_zero_le hp.1
                have hq : q < s2.gens.length := by omega
                obtain ⟨gg, offg, cpg, hvg, _, hcg⟩ := (hB2.pick 2).roIntAt (by omega)
                rw [hn2] at hvg
                cases hvg
                have e9 := hcg q hq
                have hgq : s2.gens[q] = gv := by
                  rw [← hgv, if_pos (by omega), Int.toNat_natCast, List.getD_eq_getElem?_getD, List.getElem?_eq_getElem hq]; rfl
                rw [hgq] at e9
                have e8 : (q : Int) < n := by omega
                clear hcg hgq hgv hp hq hn2
                generalize hB : (slotsAt (.pointer (some ⟨b, 0, none⟩)) s2 :: roBools (.slice ao2 n co2) (openBools s2) :: roInts (.slice (some ⟨gg, offg, none⟩) n cg2) s2.gens :: roInts (.slice ac2 s2.closed.length cc2) s2.closed :: blk bx (.cells #[.slice ao2 n co2, .slice (some ⟨gg, offg, none⟩) n cg2, .slice ac2 s2.closed.length cc2, .int .i64 s2.fresh] 97 (0, 0)) :: roSacts (.slice (some ⟨ga, offa, none⟩) l.length cap) l :: F : List HProp) = B at hB2 HG HL HP HSE
                have HB := Lib.hid hB
                clear hB
                go_wp2_with fail
                clear b0 b1 b2 b3 e9 e8
                refine wp_region_loose (fun k => match k with | 2 => some ⟨fun u => u = .int .i64 gv, fun _ => []⟩ | 7 => some ⟨fun u => u = .int .i64 (s2.opn.length : Nat), fun _ => []⟩ | 9 => some ⟨fun u => ∃ (a : Option Addr) (c : Nat), u = .slice a s2.opn.length c, fun _ => []⟩ | _ => none) B (by kernel_rfl) (by kernel_rfl) hB2 ?_
                iterate 2
                  refine loose_exact rfl (fun K hK => ?_)
                  go_simp
                  first
                    | (refine hK _ ?_; clear hK K)
                    | (intro w hw
                       obtain ⟨b0, b1, b2, b3⟩ := HSE.out _ hw
                       go_simp
                       refine hK _ ?_
                       clear hK K b0 b1 b2 b3 hw w)
                refine loose_call (k := 2) rfl (by go_simp) (fun w F hw => ?_) (fun u hu => ?_)
                · go_simp
                  go_at_call 75
                  exact (HG.out _ _ hw).mono fun e w' ⟨he, hh⟩ => ⟨_, he, rfl, hh⟩
                obtain rfl := hu
                iterate 4
                  refine loose_exact rfl (fun K hK => ?_)
                  go_simp
                  first
                    | (refine hK _ ?_; clear hK K)
                    | (intro w hw
                       obtain ⟨b0, b1, b2, b3⟩ := HSE.out _ hw
                       go_simp
                       refine hK _ ?_
                       clear hK K b0 b1 b2 b3 hw w)
                refine loose_call (k := 7) rfl (by go_simp) (fun w F hw => ?_) (fun u hu => ?_)
                · go_simp
                  go_at_call 76
                  exact (HL.out _ _ hw).mono fun e w' ⟨he, hh⟩ => ⟨_, he, rfl, hh⟩
                obtain rfl := hu
                iterate 1
                  refine loose_exact rfl (fun K hK => ?_)
                  go_simp
                  first
                    | (refine hK _ ?_; clear hK K)
                    | (intro w hw
                       obtain ⟨b0, b1, b2, b3⟩ := HSE.out _ hw
                       go_simp
                       refine hK _ ?_
                       clear hK K b0 b1 b2 b3 hw w)
                refine loose_call (k := 9) rfl (by go_simp) (fun w F hw => ?_) (fun u hu => ?_)
                · go_simp
                  go_at_call 77
                  exact (HP.out _ _ hw).mono fun e w' ⟨a, c, he, hh⟩ => ⟨_, he, ⟨a, c, rfl⟩, hh.tail⟩
                obtain ⟨ap, cp, rfl⟩ := hu
                iterate 3
                  refine loose_exact rfl (fun K hK => ?_)
                  go_simp
                  first
                    | (refine hK _ ?_; clear hK K)
                    | (intro w hw
                       obtain ⟨b0, b1, b2, b3⟩ := HSE.out _ hw
                       go_simp
                       refine hK _ ?_
                       clear hK K b0 b1 b2 b3 hw w)
                refine loose_nil ?_
                clear hB2
                intro wq hB2
                go_wp2_with fail
                go_roundw
                case rel => exact ⟨k + 1, s2, _, _, _, _, _, _, by omega, by go_num, HG2.out, HN2.out, by rw [← HB.out] at hB2; exact hB2⟩
                case measure => simp [intOf]; omega
              · have hgq : gv = -1 := by rw [← hgv, if_neg (by omega)]
                subst hgq
                clear hgv hn2
                generalize hB : (slotsAt (.pointer (some ⟨b, 0, none⟩)) s2 :: roBools (.slice ao2 n co2) (openBools s2) :: roInts (.slice ag2 n cg2) s2.gens :: roInts (.slice ac2 s2.closed.length cc2) s2.closed :: blk bx (.cells #[.slice ao2 n co2, .slice ag2 n cg2, .slice ac2 s2.closed.length cc2, .int .i64 s2.fresh] 97 (0, 0)) :: roSacts (.slice (some ⟨ga, offa, none⟩) l.length cap) l :: F : List HProp) = B at hB2 HG HL HP HSE
                have HB := Lib.hid hB
                clear hB
                by_cases hp0 : 0 ≤ p
                · have e8 : decide (p < n) = false := decide_eq_false (by omega)
                  clear hp
                  go_wp2_with fail
                  clear b0 b1 b2 b3 e8
                  refine wp_region_loose (fun k => match k with | 2 => some ⟨fun u => u = .int .i64 (-1), fun _ => []⟩ | 7 => some ⟨fun u => u = .int .i64 (s2.opn.length : Nat), fun _ => []⟩ | 9 => some ⟨fun u => ∃ (a : Option Addr) (c : Nat), u = .slice a s2.opn.length c, fun _ => []⟩ | _ => none) B (by kernel_rfl) (by kernel_rfl) hB2 ?_
                  iterate 2
                    refine loose_exact rfl (fun K hK => ?_)
                    go_simp
                    first
                      | (refine hK _ ?_; clear hK K)
                      | (intro w hw
                         obtain ⟨b0, b1, b2, b3⟩ := HSE.out _ hw
                         go_simp
                         refine hK _ ?_
                         clear hK K b0 b1 b2 b3 hw w)
                  refine loose_call (k := 2) rfl (by go_simp) (fun w F hw => ?_) (fun u hu => ?_)
                  · go_simp
                    go_at_call 75
                    exact (HG.out _ _ hw).mono fun e w' ⟨he, hh⟩ => ⟨_, he, rfl, hh⟩
                  obtain rfl := hu
                  iterate 4
                    refine loose_exact rfl (fun K hK => ?_)
                    go_simp
                    first
                      | (refine hK _ ?_; clear hK K)
                      | (intro w hw
                         obtain ⟨b0, b1, b2, b3⟩ := HSE.out _ hw
                         go_simp
                         refine hK _ ?_
                         clear hK K b0 b1 b2 b3 hw w)
                  refine loose_call (k := 7) rfl (by go_simp) (fun w F hw => ?_) (fun u hu => ?_)
                  · go_simp
                    go_at_call 76
                    exact (HL.out _ _ hw).mono fun e w' ⟨he, hh⟩ => ⟨_, he, rfl, hh⟩
                  obtain rfl := hu
                  iterate 1
                    refine loose_exact rfl (fun K hK => ?_)
                    go_simp
                    first
                      | (refine hK _ ?_; clear hK K)
                      | (intro w hw
                         obtain ⟨b0, b1, b2, b3⟩ := HSE.out _ hw
                         go_simp
                         refine hK _ ?_
                         clear hK K b0 b1 b2 b3 hw w)
                  refine loose_call (k := 9) rfl (by go_simp) (fun w F hw => ?_) (fun u hu => ?_)
                  · go_simp
                    go_at_call 77
                    exact (HP.out _ _ hw).mono fun e w' ⟨a, c, he, hh⟩ => ⟨_, he, ⟨a, c, rfl⟩, hh.tail⟩
                  obtain ⟨ap, cp, rfl⟩ := hu
                  iterate 3
                    refine loose_exact rfl (fun K hK => ?_)
                    go_simp
                    first
                      | (refine hK _ ?_; clear hK K)
                      | (intro w hw
                         obtain ⟨b0, b1, b2, b3⟩ := HSE.out _ hw
                         go_simp
                         refine hK _ ?_
                         clear hK K b0 b1 b2 b3 hw w)
                  refine loose_nil ?_
                  clear hB2
                  intro wq hB2
                  go_wp2_with fail
                  go_roundw
                  case rel => exact ⟨k + 1, s2, _, _, _, _, _, _, by omega, by go_num, HG2.out, HN2.out, by rw [← HB.out] at hB2; exact hB2⟩
                  case measure => simp [intOf]; omega
                · have e8 : decide (0 ≤ p) = false := decide_eq_false hp0
                  clear hp hp0
                  go_wp2_with fail
                  clear b0 b1 b2 b3 e8
                  refine wp_region_loose (fun k => match k with | 2 => some ⟨fun u => u = .int .i64 (-1), fun _ => []⟩ | 7 => some ⟨fun u => u = .int .i64 (s2.opn.length : Nat), fun _ => []⟩ | 9 => some ⟨fun u => ∃ (a : Option Addr) (c : Nat), u = .slice a s2.opn.length c, fun _ => []⟩ | _ => none) B (by kernel_rfl) (by kernel_rfl) hB2 ?_
                  iterate 2
                    refine loose_exact rfl (fun K hK => ?_)
                    go_simp
                    first
                      | (refine hK _ ?_; clear hK K)
                      | (intro w hw
                         obtain ⟨b0, b1, b2, b3⟩ := HSE.out _ hw
                         go_simp
                         refine hK _ ?_
                         clear hK K b0 b1 b2 b3 hw w)
                  refine loose_call (k := 2) rfl (by go_simp) (fun w F hw => ?_) (fun u hu => ?_)
                  · go_simp
                    go_at_call 75
                    exact (HG.out _ _ hw).mono fun e w' ⟨he, hh⟩ => ⟨_, he, rfl, hh⟩
                  obtain rfl := hu
                  iterate 4
                    refine loose_exact rfl (fun K hK => ?_)
                    go_simp
                    first
                      | (refine hK _ ?_; clear hK K)
                      | (intro w hw
                         obtain ⟨b0, b1, b2, b3⟩ := HSE.out _ hw
                         go_simp
                         refine hK _ ?_
                         clear hK K b0 b1 b2 b3 hw w)
                  refine loose_call (k := 7) rfl (by go_simp) (fun w F hw => ?_) (fun u hu => ?_)
                  · go_simp
                    go_at_call 76
                    exact (HL.out _ _ hw).mono fun e w' ⟨he, hh⟩ => ⟨_, he, rfl, hh⟩
                  obtain rfl := hu
                  iterate 1
                    refine loose_exact rfl (fun K hK => ?_)
                    go_simp
                    first
                      | (refine hK _ ?_; clear hK K)
                      | (intro w hw
                         obtain ⟨b0, b1, b2, b3⟩ := HSE.out _ hw
                         go_simp
                         refine hK _ ?_
                         clear hK K b0 b1 b2 b3 hw w)
                  refine loose_call (k := 9) rfl (by go_simp) (fun w F hw => ?_) (fun u hu => ?_)
                  · go_simp
                    go_at_call 77
                    exact (HP.out _ _ hw).mono fun e w' ⟨a, c, he, hh⟩ => ⟨_, he, ⟨a, c, rfl⟩, hh.tail⟩
                  obtain ⟨ap, cp, rfl⟩ := hu
                  iterate 3
                    refine loose_exact rfl (fun K hK => ?_)
                    go_simp
                    first
                      | (refine hK _ ?_; clear hK K)
                      | (intro w hw
                         obtain ⟨b0, b1, b2, b3⟩ := HSE.out _ hw
                         go_simp
                         refine hK _ ?_
                         clear hK K b0 b1 b2 b3 hw w)
                  refine loose_nil ?_
                  clear hB2
                  intro wq hB2
                  go_wp2_with fail
                  go_roundw
                  case rel => exact ⟨k + 1, s2, _, _, _, _, _, _, by omega, by go_num, HG2.out, HN2.out, by rw [← HB.out] at hB2; exact hB2⟩
                  case measure => simp [intOf]; omega
          · have hkl : k = l.length := by omega
            subst hkl
            have hsk : (sortInts (alKeys s.opn)).length = s.opn.length := by rw [sortInts, List.length_mergeSort, alKeys_len]
            have hkn : s.opn.length ≤ 1000000 := hgd.opn_len (by omega)
            have hkr : ∀ x ∈ alKeys s.opn, 0 ≤ x ∧ x ≤ 1048576 := fun x hx => by
              obtain ⟨v, hv⟩ := alGet_of_mem hx
              have := hgd.ok.opn _ _ hv
              omega
            have h3 : holds _ (slotsAt (.pointer (some ⟨b, 0, none⟩)) s :: roBools (.slice ao n co) (openBools s) :: roInts (.slice ag n cg) s.gens :: roInts (.slice ac s.closed.length cc) s.closed :: blk bx (.cells #[.slice ao n co, .slice ag n cg, .slice ac s.closed.length cc, .int .i64 s.fresh] 97 (0, 0)) :: roSacts (.slice a l.length cap) l :: F) := h3
            clear hlt hk
            have HPL := Lib.hid (show ∀ w F', holds w ((slotsAt (.pointer (some ⟨b, 0, none⟩)) s :: roBools (.slice ao n co) (openBools s) :: roInts (.slice ag n cg) s.gens :: roInts (.slice ac s.closed.length cc) s.closed :: blk bx (.cells #[.slice ao n co, .slice ag n cg, .slice ac s.closed.length cc, .int .i64 s.fresh] 97 (0, 0)) :: roSacts (.slice a l.length cap) l :: F) ++ F') → Calls Try.prog 78 #[.pointer (some ⟨b, 0, none⟩)] w fun e w' => ∃ aa c, e = Ending.returned (.slice aa s.opn.length c) ∧ holds w' (roInts (.slice aa s.opn.length c) (sortInts (alKeys s.opn)) :: ((slotsAt (.pointer (some ⟨b, 0, none⟩)) s :: roBools (.slice ao n co) (openBools s) :: roInts (.slice ag n cg) s.gens :: roInts (.slice ac s.closed.length cc) s.closed :: blk bx (.cells #[.slice ao n co, .slice ag n cg, .slice ac s.closed.length cc, .int .i64 s.fresh] 97 (0, 0)) :: roSacts (.slice a l.length cap) l :: F) ++ F')) from fun w F' h => (slots_Places w _ s _ hkn hkr h).mono fun e w' ⟨r, he, hh⟩ => by obtain ⟨a, c, rfl, _⟩ := roInts_form hh; rw [hsk] at he hh; exact ⟨a, c, he, hh⟩)
            have HRP := Lib.hid (show ∀ w F', holds w ((slotsAt (.pointer (some ⟨b, 0, none⟩)) s :: roBools (.slice ao n co) (openBools s) :: roInts (.slice ag n cg) s.gens :: roInts (.slice ac s.closed.length cc) s.closed :: blk bx (.cells #[.slice ao n co, .slice ag n cg, .slice ac s.closed.length cc, .int .i64 s.fresh] 97 (0, 0)) :: roSacts (.slice a l.length cap) l :: F) ++ F') → Calls Try.prog 77 #[.agg #[.slice ao n co, .slice ag n cg, .slice ac s.closed.length cc, .int .i64 s.fresh]] w fun e w' => ∃ aa c, e = Ending.returned (.slice aa s.opn.length c) ∧ holds w' (roInts (.slice aa s.opn.length c) (sortInts (alKeys s.opn)) :: ((slotsAt (.pointer (some ⟨b, 0, none⟩)) s :: roBools (.slice ao n co) (openBools s) :: roInts (.slice ag n cg) s.gens :: roInts (.slice ac s.closed.length cc) s.closed :: blk bx (.cells #[.slice ao n co, .slice ag n cg, .slice ac s.closed.length cc, .int .i64 s.fresh] 97 (0, 0)) :: roSacts (.slice a l.length cap) l :: F) ++ F')) from fun w F' h => (rs_Places w _ _ _ s l.length _ hgd (h.sel 6 [1, 2, 3, 0, 4, 5])).mono fun e w' ⟨a, c, he, hh⟩ => ⟨a, c, he, hh.sel 7 [0, 4, 1, 2, 3, 5, 6]⟩)
            have HSE := Lib.hid (fun w (h : holds w (slotsAt (.pointer (some ⟨b, 0, none⟩)) s :: roBools (.slice ao n co) (openBools s) :: roInts (.slice ag n cg) s.gens :: roInts (.slice ac s.closed.length cc) s.closed :: blk bx (.cells #[.slice ao n co, .slice ag n cg, .slice ac s.closed.length cc, .int .i64 s.fresh] 97 (0, 0)) :: roSacts (.slice a l.length cap) l :: F)) => (show w.cell? ⟨bx, 0, none⟩ = some (.slice ao n co) ∧ w.cell? ⟨bx, 1, none⟩ = some (.slice ag n cg) ∧ w.cell? ⟨bx, 2, none⟩ = some (.slice ac s.closed.length cc) ∧ w.cell? ⟨bx, 3, none⟩ = some (.int .i64 s.fresh) from ⟨cellAt (h.pick 4).get_blk 0, cellAt (h.pick 4).get_blk 1, cellAt (h.pick 4).get_blk 2, cellAt (h.pick 4).get_blk 3⟩))
            have HEND := Lib.hid (fun w (h : holds w (slotsAt (.pointer (some ⟨b, 0, none⟩)) s :: roBools (.slice ao n co) (openBools s) :: roInts (.slice ag n cg) s.gens :: roInts (.slice ac s.closed.length cc) s.closed :: blk bx (.cells #[.slice ao n co, .slice ag n cg, .slice ac s.closed.length cc, .int .i64 s.fresh] 97 (0, 0)) :: roSacts (.slice a l.length cap) l :: F)) => (show holds w F from h.sel 6 []))
            obtain ⟨b0, b1, b2, b3⟩ := HSE.out _ h3
            clear hgd hn2
            generalize (slotsAt (.pointer (some ⟨b, 0, none⟩)) s :: roBools (.slice ao n co) (openBools s) :: roInts (.slice ag n cg) s.gens :: roInts (.slice ac s.closed.length cc) s.closed :: blk bx (.cells #[.slice ao n co, .slice ag n cg, .slice ac s.closed.length cc, .int .i64 s.fresh] 97 (0, 0)) :: roSacts (.slice a l.length cap) l :: F : List HProp) = B at h3 HPL HRP HSE HEND
            have HSK := Lib.hid hsk
            have hs9 : (sortInts (alKeys s.opn)).length ≤ 1000000000 := by omega
            clear hsk hkr
            go_wp2_with fail
            clear b0 b1 b2 b3
            refine wp_region_loose (fun k => match k with | 1 => some ⟨fun u => ∃ (a : Option Addr) (c : Nat), u = .slice a s.opn.length c, fun u => [roInts u (sortInts (alKeys s.opn))]⟩ | 3 => some ⟨fun u => ∃ (a : Option Addr) (c : Nat), u = .slice a s.opn.length c, fun u => [roInts u (sortInts (alKeys s.opn))]⟩ | 4 => some ⟨fun u => u = .bool true, fun _ => []⟩ | 6 => some ⟨fun u => u = .bool true, fun _ => []⟩ | _ => none) B (by kernel_rfl) (by kernel_rfl) h3 ?_
            iterate 1
              refine loose_exact rfl (fun K hK => ?_)
              go_simp
              first
                | (refine hK _ ?_; clear hK K)
                | (intro w hw
                   obtain ⟨b0, b1, b2, b3⟩ := HSE.out _ hw
                   go_simp
                   refine hK _ ?_
                   clear hK K b0 b1 b2 b3 hw w)
            refine loose_call (k := 1) rfl (by go_simp) (fun w F hw => ?_) (fun u hu => ?_)
            · go_simp
              go_at_call 78
              exact (HPL.out _ _ hw).mono fun e w' ⟨a, c, he, hh⟩ => ⟨_, he, ⟨a, c, rfl⟩, hh⟩
            obtain ⟨ap, cp, rfl⟩ := hu
            iterate 1
              refine loose_exact rfl (fun K hK => ?_)
              go_simp
              first
                | (refine hK _ ?_; clear hK K)
                | (intro w hw
                   obtain ⟨b0, b1, b2, b3⟩ := HSE.out _ hw
                   go_simp
                   refine hK _ ?_
                   clear hK K b0 b1 b2 b3 hw w)
            refine loose_call (k := 3) rfl (by go_simp) (fun w F hw => ?_) (fun u hu => ?_)
            · go_simp
              go_at_call 77
              exact (HRP.out _ _ hw).mono fun e w' ⟨a, c, he, hh⟩ => ⟨_, he, ⟨a, c, rfl⟩, hh⟩
            obtain ⟨aq, cq, rfl⟩ := hu
            refine loose_call_on (k := 4) ([roInts (.slice ap s.opn.length cp) (sortInts (alKeys s.opn)), roInts (.slice aq s.opn.length cq) (sortInts (alKeys s.opn))]) (by rfl) rfl (by go_simp) (fun w F hw => ?_) (fun u hu => ?_)
            · go_simp
              go_at_call 30
              exact (base_SameInts _ _ _ _ _ _ hs9 hw).mono fun e w' ⟨he, hh⟩ => ⟨_, he, by simp, hh⟩
            obtain rfl := hu
            iterate 1
              refine loose_exact rfl (fun K hK => ?_)
              go_simp
              first
                | (refine hK _ ?_; clear hK K)
                | (intro w hw
                   obtain ⟨b0, b1, b2, b3⟩ := HSE.out _ hw
                   go_simp
                   refine hK _ ?_
                   clear hK K b0 b1 b2 b3 hw w)
            refine loose_call (k := 6) rfl (by go_simp) (fun w F hw => ?_) (fun u hu => ?_)
            · go_simp
              go_at_call 66
              exact (law06_works _ _ hw).mono fun e w' ⟨he, hh⟩ => ⟨_, he, rfl, hh⟩
            obtain rfl := hu
            iterate 2
              refine loose_exact rfl (fun K hK => ?_)
              go_simp
              first
                | (refine hK _ ?_; clear hK K)
                | (intro w hw
                   obtain ⟨b0, b1, b2, b3⟩ := HSE.out _ hw
                   go_simp
                   refine hK _ ?_
                   clear hK K b0 b1 b2 b3 hw w)
            refine loose_nil ?_
            clear h3
            intro wq h3
            go_wp2_with fail
            go_ret
            exact ⟨rfl, HEND.out _ h3⟩
  · have h81 : decide ((80 : Int) < l.length) = true := by simp; omega
    go_enter Try.func13, Try.ntmps13
    go_wp2_with fail
    refine (law06_works _ _ hw.tail).mono ?_
    rintro e w2 ⟨rfl, h2⟩
    go_wp2_with fail
    go_ret
    exact ⟨rfl, h2⟩
end Go.Proofs.Ytfkpcmlajdmnfaa
