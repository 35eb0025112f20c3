/- The law RingPlays. -/
import Derived.Test.YtfkpcmlajdmnfaaLaw04
namespace Go.Proofs.Ytfkpcmlajdmnfaa
open Go Go.RowKit Go.MapKept
set_option maxRecDepth 100000
set_option linter.unusedVariables false

set_option maxHeartbeats 8000000 in
theorem law_RingPlays (n : Int) (n0 : -9223372036854775808 ≤ n) (n1 : n ≤ 9223372036854775807) (va : Value) (acts : List (Int × Int)) (hwf : ∀ c ∈ acts, pairWf c) (m0 : acts.length ≤ maxLen) (o : Int) (o0 : -9223372036854775808 ≤ o) (o1 : o ≤ 9223372036854775807) (w : World) (F : List HProp) (hw : holds w (roPairs va acts :: F)) :
    Calls Try.prog 4 #[.int .i64 n, va, .int .i64 o] w fun e w' => e = .returned (.bool true) ∧ holds w' F := by
  obtain ⟨a, cap, rfl, hcap⟩ := roPairs_form hw
  unfold maxLen at m0
  clear hwf
  by_cases h80 : acts.length ≤ 80
  · by_cases hbad : n < 0 ∨ 1048576 < n
    · have G1 := Lib.hid (ring_New_no w n _ hbad hw)
      rcases hbad with hn | hn
      · have hd : decide ((300 : Int) < n) = false := by simp; omega
        go_enter Try.func4, Try.ntmps4
        go_wp2_with fail
        refine G1.out.mono ?_
        rintro e w1 ⟨rfl, h1⟩
        go_wp2_with fail
        refine (law04_works _ _ h1.tail).mono ?_
        rintro e w2 ⟨rfl, h2⟩
        go_wp2_with fail
        go_ret
        exact ⟨rfl, h2⟩
      · have hd : (300 : Int) < n := by omega
        have hd2 : decide (n ≤ (1048576 : Int)) = false := by simp; omega
        have hd3 : ¬ n < 0 := by omega
        go_enter Try.func4, Try.ntmps4
        go_wp2_with fail
        refine G1.out.mono ?_
        rintro e w1 ⟨rfl, h1⟩
        go_wp2_with fail
        refine (law04_works _ _ h1.tail).mono ?_
        rintro e w2 ⟨rfl, h2⟩
        go_wp2_with fail
        go_ret
        exact ⟨rfl, h2⟩
    · by_cases h300 : 300 < n
      · have hd2 : n ≤ (1048576 : Int) := by omega
        clear hbad
        go_enter Try.func4, Try.ntmps4
        go_wp2_with fail
        refine (law04_works _ _ hw.tail).mono ?_
        rintro e w2 ⟨rfl, h2⟩
        go_wp2_with fail
        go_ret
        exact ⟨rfl, h2⟩
      · obtain ⟨n, rfl⟩ := Int.eq_ofNat_of_zero_le (show 0 ≤ n by omega)
        have hn3 : n ≤ 300 := by omega
        have hd : decide ((300 : Int) < n) = false := by simp; omega
        clear hbad h300
        have G1 := Lib.hid (ring_New w n _ (by omega) (by omega) hw)
        go_enter Try.func4, Try.ntmps4
        go_wp2_with fail
        refine G1.out.mono ?_
        rintro e w1 ⟨v, rfl, h1⟩
        rw [Int.toNat_natCast] at h1
        obtain ⟨b, _, _, _, _, rfl, _⟩ := open_ring h1
        have h2 := (holds_ownRow_nil h1 3 1).shareRow.order [1, 0]
        go_wp2_with fail
        go_loopw [8, 9] (fun s8 i wr => ∃ (k : Nat) (l : List Int), k ≤ acts.length ∧ i = .int .i64 k ∧ l.length ≤ n ∧ holds wr (ringAt (.pointer (some ⟨b, 0, none⟩)) n l :: roInts s8 l :: roPairs (.slice a acts.length cap) acts :: F)) (fun _ i _ => acts.length - (intOf i).toNat)
        case atStart => exact ⟨0, [], Nat.zero_le _, rfl, Nat.zero_le _, h2⟩
        case round =>
          obtain ⟨k, l, hk, rfl, hl, h3⟩ := hrel
          clear h1 h2 G1
          have hl3 : l.length ≤ 1000000000 := by omega
          by_cases hlt : k < acts.length
          · obtain ⟨ga, offa, capa, hva, _, hcs⟩ := (h3.pick 2).pairAt (by omega)
            cases hva
            obtain ⟨c0, c1⟩ := hcs k hlt
            clear hcs
            obtain ⟨⟨kd, x⟩, hx⟩ : ∃ p, acts[k] = p := ⟨_, rfl⟩
            rw [hx] at c0 c1
            dsimp only at c0 c1
            have HX := Lib.hid hx
            clear hx
            obtain ⟨a8, c8, rfl, hc8⟩ := roInts_form (h3.pick 1)
            by_cases h0 : kd = 0
            · subst h0
              by_cases hf : l.length < n
              · go_wp2_with fail
                refine (ref04_Put _ _ _ _ x _ hl3 (by omega) (h3.pick 1)).mono ?_
                rintro e w4 ⟨v4, rfl, h4⟩
                obtain ⟨a4, c4, rfl, hc4⟩ := roInts_form h4
                have h4 : holds w4 (ringAt (.pointer (some ⟨b, 0, none⟩)) n l :: roInts (.slice a4 (l ++ [x]).length c4) (l ++ [x]) :: roPairs (.slice (some ⟨ga, offa, none⟩) acts.length cap) acts :: F) := h4.sel 4 [2, 0, 3]
                rw [show (l ++ [x]).length = l.length + 1 from by simp] at h4
                have c1 := ((h4.pick 2).pairAt (by omega))
                obtain ⟨_, _, _, hva, _, hcs⟩ := c1
                cases hva
                obtain ⟨_, c1⟩ := hcs k hlt
                rw [HX.out] at c1
                dsimp only at c1
                clear hcs
                go_wp2_with fail
                refine (ring_Put _ _ _ _ x _ hf h4).mono ?_
                rintro e w5 ⟨rfl, h5⟩
                go_wp2_with fail
                refine (ring_Len _ _ _ _ _ h5).mono ?_
                rintro e w8 ⟨rfl, h8⟩
                go_wp2_with fail
                refine (ring_Room _ _ _ _ _ h8).mono ?_
                rintro e w9 ⟨rfl, h9⟩
                go_wp2_with fail
                go_roundw
                case rel => exact ⟨k + 1, l ++ [x], by omega, by go_num, by simp; omega, h9⟩
                case measure => simp [intOf]; omega
              · go_wp2_with fail
                refine (ref04_Put_full _ _ _ _ x _ hl3 (by omega) (h3.pick 1)).mono ?_
                rintro e w4 ⟨rfl, h4⟩
                have h4 : holds w4 (ringAt (.pointer (some ⟨b, 0, none⟩)) n l :: roInts (.slice a8 l.length c8) l :: roPairs (.slice (some ⟨ga, offa, none⟩) acts.length cap) acts :: F) := h4.sel 3 [1, 0, 2]
                have c1 := ((h4.pick 2).pairAt (by omega))
                obtain ⟨_, _, _, hva, _, hcs⟩ := c1
                cases hva
                obtain ⟨_, c1⟩ := hcs k hlt
                rw [HX.out] at c1
                dsimp only at c1
                clear hcs
                go_wp2_with fail
                refine (ring_Put_full _ _ _ _ x _ (by omega) h4).mono ?_
                rintro e w5 ⟨rfl, h5⟩
                go_wp2_with fail
                refine (ring_Len _ _ _ _ _ h5).mono ?_
                rintro e w8 ⟨rfl, h8⟩
                go_wp2_with fail
                refine (ring_Room _ _ _ _ _ h8).mono ?_
                rintro e w9 ⟨rfl, h9⟩
                go_wp2_with fail
                go_roundw
                case rel => exact ⟨k + 1, l, by omega, by go_num, by omega, h9⟩
                case measure => simp [intOf]; omega
            · by_cases h1 : kd = 1
              · subst h1
                clear h0
                go_wp2_with fail
                refine (ref04_Take _ _ _ _ hl3 (h3.pick 1)).mono ?_
                rintro e w4 ⟨v4, rfl, h4⟩
                obtain ⟨a4, c4, rfl, hc4⟩ := roInts_form h4
                have h4 : holds w4 (ringAt (.pointer (some ⟨b, 0, none⟩)) n l :: roInts (.slice a4 (l.drop 1).length c4) (l.drop 1) :: roPairs (.slice (some ⟨ga, offa, none⟩) acts.length cap) acts :: F) := h4.sel 3 [1, 0, 2]
                rw [show (l.drop 1).length = l.length - 1 from by simp] at h4
                go_wp2_with fail
                refine (ring_Take _ _ _ _ _ h4).mono ?_
                rintro e w5 ⟨rfl, h5⟩
                generalize (ringGet l 0).1 = y
                generalize (ringGet l 0).2 = ok
                go_wp2_with fail
                refine (ring_Len _ _ _ _ _ h5).mono ?_
                rintro e w8 ⟨rfl, h8⟩
                go_wp2_with fail
                refine (ring_Room _ _ _ _ _ h8).mono ?_
                rintro e w9 ⟨rfl, h9⟩
                go_wp2_with fail
                go_roundw
                case rel => exact ⟨k + 1, l.drop 1, by omega, by go_num, by simp; omega, h9⟩
                case measure => simp [intOf]; omega
              · by_cases h2 : kd = 2
                · subst h2
                  clear h0 h1
                  go_wp2_with fail
                  refine (ref04_At _ _ _ 0 _ hl3 (h3.pick 1)).mono ?_
                  rintro e w4 ⟨rfl, h4⟩
                  have h4 : holds w4 (ringAt (.pointer (some ⟨b, 0, none⟩)) n l :: roInts (.slice a8 l.length c8) l :: roPairs (.slice (some ⟨ga, offa, none⟩) acts.length cap) acts :: F) := h4.sel 3 [1, 0, 2]
                  go_wp2_with fail
                  refine (ring_First _ _ _ _ _ h4).mono ?_
                  rintro e w5 ⟨rfl, h5⟩
                  generalize (ringGet l 0).1 = y
                  generalize (ringGet l 0).2 = ok
                  go_wp2_with fail
                  refine (ring_Len _ _ _ _ _ h5).mono ?_
                  rintro e w8 ⟨rfl, h8⟩
                  go_wp2_with fail
                  refine (ring_Room _ _ _ _ _ h8).mono ?_
                  rintro e w9 ⟨rfl, h9⟩
                  go_wp2_with fail
                  go_roundw
                  case rel => exact ⟨k + 1, l, by omega, by go_num, by omega, h9⟩
                  case measure => simp [intOf]; omega
                · by_cases h3' : kd = 3
                  · subst h3'
                    clear h0 h1 h2
                    go_wp2_with fail
                    refine (ref04_At _ _ _ x _ hl3 (h3.pick 1)).mono ?_
                    rintro e w4 ⟨rfl, h4⟩
                    have h4 : holds w4 (ringAt (.pointer (some ⟨b, 0, none⟩)) n l :: roInts (.slice a8 l.length c8) l :: roPairs (.slice (some ⟨ga, offa, none⟩) acts.length cap) acts :: F) := h4.sel 3 [1, 0, 2]
                    have c1 := ((h4.pick 2).pairAt (by omega))
                    obtain ⟨_, _, _, hva, _, hcs⟩ := c1
                    cases hva
                    obtain ⟨_, c1⟩ := hcs k hlt
                    rw [HX.out] at c1
                    dsimp only at c1
                    clear hcs
                    go_wp2_with fail
                    refine (ring_At _ _ _ _ x _ h4).mono ?_
                    rintro e w5 ⟨rfl, h5⟩
                    generalize (ringGet l x).1 = y
                    generalize (ringGet l x).2 = ok
                    go_wp2_with fail
                    refine (ring_Len _ _ _ _ _ h5).mono ?_
                    rintro e w8 ⟨rfl, h8⟩
                    go_wp2_with fail
                    refine (ring_Room _ _ _ _ _ h8).mono ?_
                    rintro e w9 ⟨rfl, h9⟩
                    go_wp2_with fail
                    go_roundw
                    case rel => exact ⟨k + 1, l, by omega, by go_num, by omega, h9⟩
                    case measure => simp [intOf]; omega
                  · have k0 : (kd == 0) = false := by simpa using h0
                    have k1 : (kd == 1) = false := by simpa using h1
                    have k2 : (kd == 2) = false := by simpa using h2
                    have k3 : (kd == 3) = false := by simpa using h3'
                    clear h0 h1 h2 h3'
                    go_wp2_with fail
                    refine (ring_Len _ _ _ _ _ h3).mono ?_
                    rintro e w8 ⟨rfl, h8⟩
                    go_wp2_with fail
                    refine (ring_Room _ _ _ _ _ h8).mono ?_
                    rintro e w9 ⟨rfl, h9⟩
                    go_wp2_with fail
                    go_roundw
                    case rel => exact ⟨k + 1, l, by omega, by go_num, by omega, h9⟩
                    case measure => simp [intOf]; omega
          · have hkl : k = acts.length := by omega
            subst hkl
            obtain ⟨a8, c8, rfl, hc8⟩ := roInts_form (h3.pick 1)
            go_wp2_with fail
            refine (ring_List _ _ _ _ _ h3).mono ?_
            rintro e w7 ⟨a7, rfl, h7⟩
            go_wp2_with fail
            have h8 : holds w7 (roInts (.slice a7 l.length l.length) l :: roInts (.slice a8 l.length c8) l :: ringAt (.pointer (some ⟨b, 0, none⟩)) n l :: roPairs (.slice a acts.length cap) acts :: F) := h7.order [0, 2, 1, 3]
            refine (base_SameInts _ _ _ _ _ _ hl3 h8).mono ?_
            rintro e w8 ⟨rfl, h9⟩
            have h10 : holds w8 (ringAt (.pointer (some ⟨b, 0, none⟩)) n l :: roInts (.slice a8 l.length c8) l :: roPairs (.slice a acts.length cap) acts :: F) := h9.sel 3 [2, 1]
            clear h9 h8 h7
            go_wp2_with fail
            refine (ring_Place _ _ _ _ _ _ h10).mono ?_
            rintro e w9 ⟨rfl, h11⟩
            go_wp2_with fail
            refine (ref04_Place _ _ _ _ _ hl3 (h11.pick 1)).mono ?_
            rintro e w10 ⟨rfl, h12⟩
            have h13 : holds w10 F := h12.sel 3 []
            clear h12 h11 h10
            go_wp2_with fail
            refine (law04_works _ _ h13).mono ?_
            rintro e w11 ⟨rfl, h14⟩
            go_wp2_with fail
            go_ret
            exact ⟨rfl, h14⟩
  · have h81 : decide ((80 : Int) < acts.length) = true := by simp; omega
    go_enter Try.func4, Try.ntmps4
    go_wp2_with fail
    refine (law04_works _ _ hw.tail).mono ?_
    rintro e w2 ⟨rfl, h2⟩
    go_wp2_with fail
    go_ret
    exact ⟨rfl, h2⟩
end Go.Proofs.Ytfkpcmlajdmnfaa
