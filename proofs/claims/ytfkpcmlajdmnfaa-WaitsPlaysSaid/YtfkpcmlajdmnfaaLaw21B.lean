/- The law WaitsPlays. -/
import Derived.Test.YtfkpcmlajdmnfaaLaw21
namespace Go.Proofs.Ytfkpcmlajdmnfaa
open Go Go.RowKit Go.MapKept
set_option maxRecDepth 100000
set_option linter.unusedVariables false
attribute [local go_sem] exactUpon looseUpon

theorem Waits.put_len (n : Nat) (l : List Int) (i : Int) : (Waits.put n l i).2.length ≤ l.length + 1 := by
  unfold Waits.put
  split
  · simp
  · split <;> simp

set_option maxHeartbeats 8000000 in
theorem law_WaitsPlays (n : Int) (n0 : -9223372036854775808 ≤ n) (n1 : n ≤ 9223372036854775807) (va : Value) (acts : List Int) (hwf : ∀ a ∈ acts, (Lit.int .i64 a).wf = true) (m0 : acts.length ≤ maxLen) (w : World) (F : List HProp) (hw : holds w (roInts va acts :: F)) :
    Calls Try.prog 8 #[.int .i64 n, va] w fun e w' => e = .returned (.bool true) ∧ holds w' F := by
  obtain ⟨a, cap, rfl, hcap⟩ := roInts_form hw
  unfold maxLen at m0
  clear hwf
  by_cases h80 : acts.length ≤ 80
  · by_cases hbad : n < 0 ∨ 1048576 < n
    · have G1 := Lib.hid (waits_New_no w n _ hbad hw)
      rcases hbad with hn | hn
      · have hd : decide ((200 : Int) < n) = false := by simp; omega
        go_enter Try.func8, Try.ntmps8
        go_wp2_with fail
        refine G1.out.mono ?_
        rintro e w1 ⟨rfl, h1⟩
        go_wp2_with fail
        refine (law21_works _ _ h1.tail).mono ?_
        rintro e w2 ⟨rfl, h2⟩
        go_wp2_with fail
        go_ret
        exact ⟨rfl, h2⟩
      · have hd : (200 : Int) < n := by omega
        have hd2 : decide (n ≤ (1048576 : Int)) = false := by simp; omega
        have hd3 : ¬ n < 0 := by omega
        go_enter Try.func8, Try.ntmps8
        go_wp2_with fail
        refine G1.out.mono ?_
        rintro e w1 ⟨rfl, h1⟩
        go_wp2_with fail
        refine (law21_works _ _ h1.tail).mono ?_
        rintro e w2 ⟨rfl, h2⟩
        go_wp2_with fail
        go_ret
        exact ⟨rfl, h2⟩
    · by_cases h300 : 200 < n
      · have hd2 : n ≤ (1048576 : Int) := by omega
        clear hbad
        go_enter Try.func8, Try.ntmps8
        go_wp2_with fail
        refine (law21_works _ _ hw.tail).mono ?_
        rintro e w2 ⟨rfl, h2⟩
        go_wp2_with fail
        go_ret
        exact ⟨rfl, h2⟩
      · obtain ⟨n, rfl⟩ := Int.eq_ofNat_of_zero_le (show 0 ≤ n by omega)
        have hn3 : n ≤ 200 := by omega
        have hd : decide ((200 : Int) < n) = false := by simp; omega
        clear hbad h300
        have G1 := Lib.hid (waits_New w n _ (by omega) hw)
        go_enter Try.func8, Try.ntmps8
        go_wp2_with fail
        refine G1.out.mono ?_
        rintro e w1 ⟨b, rfl, h1⟩
        have h2 : holds w1 (_ :: _ :: _ :: F) := (holds_ownRow_nil h1 3 1).shareRow.sel 2 [1, 0]
        go_wp2_with fail
        go_loopw [6, 7, 8] (fun s6 s7 i wr => ∃ (k : Nat) (l : List Int) (c : Int), k ≤ acts.length ∧ i = .int .i64 k ∧ s7 = .int .i64 c ∧ 0 ≤ c ∧ c ≤ k ∧ l.length ≤ k ∧ holds wr (waitsAt (.pointer (some ⟨b, 0, none⟩)) n l c :: roInts s6 l :: roInts (.slice a acts.length cap) acts :: F)) (fun _ _ i _ => acts.length - (intOf i).toNat)
        case atStart => exact ⟨0, [], 0, Nat.zero_le _, rfl, rfl, Int.le_refl _, Int.le_refl _, Nat.zero_le _, h2⟩
        case round =>
          obtain ⟨k, l, c, hk, rfl, rfl, hc0, hck, hl, h3⟩ := hrel
          clear h1 h2 G1
          have hl3 : l.length ≤ 1000000000 := by omega
          obtain ⟨a6, c6, rfl, _⟩ := roInts_form (h3.pick 1)
          by_cases hlt : k < acts.length
          · obtain ⟨ga, offa, capa, hva, _, hcs⟩ := (h3.pick 2).roIntAt (by omega)
            cases hva
            clear hcs
            obtain ⟨x, hx⟩ : ∃ x, acts[k] = x := ⟨_, rfl⟩
            have CK := Lib.hid (fun (w : World) (G : List HProp) (h : holds w (roInts (.slice (some ⟨ga, offa, none⟩) acts.length cap) acts :: G)) => (show w.cell? ⟨ga, offa + k, none⟩ = some (.int .i64 x) from by
              obtain ⟨_, _, _, hva, _, hcs⟩ := h.roIntAt (by omega)
              cases hva
              rw [← hx]
              exact hcs k hlt))
            clear hx
            have c1 := CK.out wr _ (h3.sel 3 [2])
            by_cases hneg : x < -1
            · go_wp2_with fail
              refine (ref21_Take _ _ _ _ hl3 (h3.pick 1)).mono ?_
              rintro e w4 ⟨v4, rfl, h40⟩
              obtain ⟨a4, c4, rfl, _⟩ := roInts_form h40
              have h4 : holds w4 (waitsAt (.pointer (some ⟨b, 0, none⟩)) n l c :: roInts (.slice a4 (l.drop 1).length c4) (l.drop 1) :: roInts (.slice (some ⟨ga, offa, none⟩) acts.length cap) acts :: F) := h40.sel 3 [1, 0, 2]
              clear h40
              have o := waits_Take _ _ _ _ _ _ (by omega) h4
              have hl2 : (l.drop 1).length ≤ 1000000000 := by simp; omega
              have hlk : (l.drop 1).length ≤ k + 1 := by simp; omega
              generalize l.drop 1 = l2 at h4 o hl2 hlk ⊢
              generalize (ringGet l 0).1 = y at o ⊢
              generalize (if (ringGet l 0).2 = true then (0 : Int) else 20) = er at o ⊢
              have O := Lib.hid o
              clear o c1 h3 h4
              go_wp2_with fail
              refine O.out.mono ?_
              rintro e w5 ⟨rfl, h4⟩
              clear O
              obtain ⟨c2, hc2⟩ : ∃ c2, c = c2 := ⟨_, rfl⟩
              subst hc2
              have HL := Lib.hid (show ∀ w F', holds w ((waitsAt (.pointer (some ⟨b, 0, none⟩)) n l2 c :: roInts (.slice a4 l2.length c4) l2 :: roInts (.slice (some ⟨ga, offa, none⟩) acts.length cap) acts :: F) ++ F') → Calls Try.prog 54 #[.pointer (some ⟨b, 0, none⟩)] w fun e w' => e = Ending.returned (.int .i64 (l2.length : Nat)) ∧ holds w' ((waitsAt (.pointer (some ⟨b, 0, none⟩)) n l2 c :: roInts (.slice a4 l2.length c4) l2 :: roInts (.slice (some ⟨ga, offa, none⟩) acts.length cap) acts :: F) ++ F') from fun w F' h => waits_Len w _ n l2 c _ h)
              have HAk := Lib.hid (show ∀ w F', holds w ((waitsAt (.pointer (some ⟨b, 0, none⟩)) n l2 c :: roInts (.slice a4 l2.length c4) l2 :: roInts (.slice (some ⟨ga, offa, none⟩) acts.length cap) acts :: F) ++ F') → Calls Try.prog 55 #[.pointer (some ⟨b, 0, none⟩), .int .i64 (k : Int)] w fun e w' => e = Ending.returned (.int .i64 (placeOf l2 (k : Int))) ∧ holds w' ((waitsAt (.pointer (some ⟨b, 0, none⟩)) n l2 c :: roInts (.slice a4 l2.length c4) l2 :: roInts (.slice (some ⟨ga, offa, none⟩) acts.length cap) acts :: F) ++ F') from fun w F' h => waits_Ahead w _ n l2 c (k : Int) _ (by omega) h)
              have HAx := Lib.hid (show ∀ w F', holds w ((waitsAt (.pointer (some ⟨b, 0, none⟩)) n l2 c :: roInts (.slice a4 l2.length c4) l2 :: roInts (.slice (some ⟨ga, offa, none⟩) acts.length cap) acts :: F) ++ F') → Calls Try.prog 55 #[.pointer (some ⟨b, 0, none⟩), .int .i64 x] w fun e w' => e = Ending.returned (.int .i64 (placeOf l2 x)) ∧ holds w' ((waitsAt (.pointer (some ⟨b, 0, none⟩)) n l2 c :: roInts (.slice a4 l2.length c4) l2 :: roInts (.slice (some ⟨ga, offa, none⟩) acts.length cap) acts :: F) ++ F') from fun w F' h => waits_Ahead w _ n l2 c x _ (by omega) h)
              have HPk := Lib.hid (show ∀ w F', holds w ((waitsAt (.pointer (some ⟨b, 0, none⟩)) n l2 c :: roInts (.slice a4 l2.length c4) l2 :: roInts (.slice (some ⟨ga, offa, none⟩) acts.length cap) acts :: F) ++ F') → Calls Try.prog 33 #[.slice a4 l2.length c4, .int .i64 (k : Int)] w fun e w' => e = Ending.returned (.int .i64 (placeOf l2 (k : Int))) ∧ holds w' ((waitsAt (.pointer (some ⟨b, 0, none⟩)) n l2 c :: roInts (.slice a4 l2.length c4) l2 :: roInts (.slice (some ⟨ga, offa, none⟩) acts.length cap) acts :: F) ++ F') from fun w F' h => (ref04_Place w _ l2 (k : Int) _ hl2 (h.pick 1)).mono fun e w' ⟨he, hh⟩ => ⟨he, hh.pick 1⟩)
              have HPx := Lib.hid (show ∀ w F', holds w ((waitsAt (.pointer (some ⟨b, 0, none⟩)) n l2 c :: roInts (.slice a4 l2.length c4) l2 :: roInts (.slice (some ⟨ga, offa, none⟩) acts.length cap) acts :: F) ++ F') → Calls Try.prog 33 #[.slice a4 l2.length c4, .int .i64 x] w fun e w' => e = Ending.returned (.int .i64 (placeOf l2 x)) ∧ holds w' ((waitsAt (.pointer (some ⟨b, 0, none⟩)) n l2 c :: roInts (.slice a4 l2.length c4) l2 :: roInts (.slice (some ⟨ga, offa, none⟩) acts.length cap) acts :: F) ++ F') from fun w F' h => (ref04_Place w _ l2 x _ hl2 (h.pick 1)).mono fun e w' ⟨he, hh⟩ => ⟨he, hh.pick 1⟩)
              have HSE := Lib.hid (fun w (h : holds w (waitsAt (.pointer (some ⟨b, 0, none⟩)) n l2 c :: roInts (.slice a4 l2.length c4) l2 :: roInts (.slice (some ⟨ga, offa, none⟩) acts.length cap) acts :: F)) => (show w.cell? ⟨ga, offa + k, none⟩ = some (.int .i64 x) ∧ True from ⟨CK.out w _ (h.sel 3 [2]), trivial⟩))
              generalize hB : (waitsAt (.pointer (some ⟨b, 0, none⟩)) n l2 c :: roInts (.slice a4 l2.length c4) l2 :: roInts (.slice (some ⟨ga, offa, none⟩) acts.length cap) acts :: F : List HProp) = B at h4 HL HAk HAx HPk HPx HSE
              have HB := Lib.hid hB
              clear hB
              generalize placeOf l2 (k : Int) = pk at HAk HPk
              generalize placeOf l2 x = px at HAx HPx
              go_wp2_with fail
              refine wp_region_loose (fun k => match k with | 1 => some ⟨fun u => u = .int .i64 (l2.length : Nat), fun _ => []⟩ | 8 => some ⟨fun u => u = .int .i64 pk, fun _ => []⟩ | 11 => some ⟨fun u => u = .int .i64 pk, fun _ => []⟩ | 20 => some ⟨fun u => u = .int .i64 px, fun _ => []⟩ | 26 => some ⟨fun u => u = .int .i64 px, fun _ => []⟩ | _ => none) B (by kernel_rfl) (by kernel_rfl) h4 ?_
              iterate 1
                refine loose_exact rfl (fun K hK => ?_)
                go_simp
                first
                  | (refine hK _ ?_; clear hK K)
                  | (intro w hw
                     obtain ⟨c0, _ct⟩ := HSE.out _ hw
                     go_simp
                     refine hK _ ?_
                     clear hK K c0 _ct hw w)
              refine loose_call (k := 1) rfl (by go_simp) (fun w F hw => ?_) (fun u hu => ?_)
              · go_simp
                go_at_call 54
                exact (HL.out _ _ hw).mono fun e w' ⟨he, hh⟩ => ⟨_, he, rfl, hh⟩
              obtain rfl := hu
              iterate 6
                refine loose_exact rfl (fun K hK => ?_)
                go_simp
                first
                  | (refine hK _ ?_; clear hK K)
                  | (intro w hw
                     obtain ⟨c0, _ct⟩ := HSE.out _ hw
                     go_simp
                     refine hK _ ?_
                     clear hK K c0 _ct hw w)
              refine loose_call (k := 8) rfl (by go_simp) (fun w F hw => ?_) (fun u hu => ?_)
              · go_simp
                go_at_call 55
                exact (HAk.out _ _ hw).mono fun e w' ⟨he, hh⟩ => ⟨_, he, rfl, hh⟩
              obtain rfl := hu
              iterate 2
                refine loose_exact rfl (fun K hK => ?_)
                go_simp
                first
                  | (refine hK _ ?_; clear hK K)
                  | (intro w hw
                     obtain ⟨c0, _ct⟩ := HSE.out _ hw
                     go_simp
                     refine hK _ ?_
                     clear hK K c0 _ct hw w)
              refine loose_call (k := 11) rfl (by go_simp) (fun w F hw => ?_) (fun u hu => ?_)
              · go_simp
                go_at_call 33
                exact (HPk.out _ _ hw).mono fun e w' ⟨he, hh⟩ => ⟨_, he, rfl, hh⟩
              obtain rfl := hu
              iterate 8
                refine loose_exact rfl (fun K hK => ?_)
                go_simp
                first
                  | (refine hK _ ?_; clear hK K)
                  | (intro w hw
                     obtain ⟨c0, _ct⟩ := HSE.out _ hw
                     go_simp
                     refine hK _ ?_
                     clear hK K c0 _ct hw w)
              refine loose_call (k := 20) rfl (by go_simp) (fun w F hw => ?_) (fun u hu => ?_)
              · go_simp
                go_at_call 55
                exact (HAx.out _ _ hw).mono fun e w' ⟨he, hh⟩ => ⟨_, he, rfl, hh⟩
              obtain rfl := hu
              iterate 5
                refine loose_exact rfl (fun K hK => ?_)
                go_simp
                first
                  | (refine hK _ ?_; clear hK K)
                  | (intro w hw
                     obtain ⟨c0, _ct⟩ := HSE.out _ hw
                     go_simp
                     refine hK _ ?_
                     clear hK K c0 _ct hw w)
              refine loose_call (k := 26) rfl (by go_simp) (fun w F hw => ?_) (fun u hu => ?_)
              · go_simp
                go_at_call 33
                exact (HPx.out _ _ hw).mono fun e w' ⟨he, hh⟩ => ⟨_, he, rfl, hh⟩
              obtain rfl := hu
              iterate 2
                refine loose_exact rfl (fun K hK => ?_)
                go_simp
                first
                  | (refine hK _ ?_; clear hK K)
                  | (intro w hw
                     obtain ⟨c0, _ct⟩ := HSE.out _ hw
                     go_simp
                     refine hK _ ?_
                     clear hK K c0 _ct hw w)
              refine loose_nil ?_
              clear h4
              intro wq h4
              go_wp2_with fail
              go_roundw
              case rel => exact ⟨k + 1, l2, c, by omega, by go_num, rfl, by omega, by omega, by omega, by rw [← HB.out] at h4; exact h4⟩
              case measure => simp [intOf]; omega
            · obtain ⟨⟨er, l2⟩, hp⟩ : ∃ r, Waits.put n l x = r := ⟨_, rfl⟩
              have o1 := ref21_Put wr _ n l x _ hl3 (h3.pick 1)
              have hlp := Waits.put_len n l x
              rw [hp] at o1 hlp
              have O1 := Lib.hid o1
              have HP := Lib.hid hp
              dsimp only at hlp
              clear o1 hp
              go_wp2_with fail
              refine O1.out.mono ?_
              rintro e w4 ⟨v4, rfl, h40⟩
              clear O1 c1
              obtain ⟨a4, c4, rfl, _⟩ := roInts_form h40
              have h4 : holds w4 (waitsAt (.pointer (some ⟨b, 0, none⟩)) n l c :: roInts (.slice a4 l2.length c4) l2 :: roInts (.slice (some ⟨ga, offa, none⟩) acts.length cap) acts :: F) := h40.sel 3 [1, 0, 2]
              clear h40
              have c1 := CK.out w4 _ (h4.sel 3 [2])
              have o2 := waits_Put w4 _ n l c x _ (by omega) h4
              rw [HP.out] at o2
              dsimp only at o2
              have O2 := Lib.hid o2
              have hl2 : l2.length ≤ 1000000000 := by omega
              clear o2 h3 h4 HP
              by_cases her : er = 0
              · subst her
                rw [if_pos rfl] at O2
                go_wp2_with fail
                refine O2.out.mono ?_
                rintro e w5 ⟨rfl, h4⟩
                clear O2 c1
                obtain ⟨c2, hc2⟩ : ∃ c2, c + 1 = c2 := ⟨_, rfl⟩
                rw [hc2] at h4

                have e3 : c2 = c + 1 := hc2.symm
                have E3 : c2 ≤ k + 1 ∧ 0 ≤ c2 ∧ c2 ≤ 1000000000 := by omega
                have HC2 := Lib.hid hc2
                clear hc2 e3
                have HL := Lib.hid (show ∀ w F', holds w ((waitsAt (.pointer (some ⟨b, 0, none⟩)) n l2 c2 :: roInts (.slice a4 l2.length c4) l2 :: roInts (.slice (some ⟨ga, offa, none⟩) acts.length cap) acts :: F) ++ F') → Calls Try.prog 54 #[.pointer (some ⟨b, 0, none⟩)] w fun e w' => e = Ending.returned (.int .i64 (l2.length : Nat)) ∧ holds w' ((waitsAt (.pointer (some ⟨b, 0, none⟩)) n l2 c2 :: roInts (.slice a4 l2.length c4) l2 :: roInts (.slice (some ⟨ga, offa, none⟩) acts.length cap) acts :: F) ++ F') from fun w F' h => waits_Len w _ n l2 c2 _ h)
                have HAk := Lib.hid (show ∀ w F', holds w ((waitsAt (.pointer (some ⟨b, 0, none⟩)) n l2 c2 :: roInts (.slice a4 l2.length c4) l2 :: roInts (.slice (some ⟨ga, offa, none⟩) acts.length cap) acts :: F) ++ F') → Calls Try.prog 55 #[.pointer (some ⟨b, 0, none⟩), .int .i64 (k : Int)] w fun e w' => e = Ending.returned (.int .i64 (placeOf l2 (k : Int))) ∧ holds w' ((waitsAt (.pointer (some ⟨b, 0, none⟩)) n l2 c2 :: roInts (.slice a4 l2.length c4) l2 :: roInts (.slice (some ⟨ga, offa, none⟩) acts.length cap) acts :: F) ++ F') from fun w F' h => waits_Ahead w _ n l2 c2 (k : Int) _ (by omega) h)
                have HAx := Lib.hid (show ∀ w F', holds w ((waitsAt (.pointer (some ⟨b, 0, none⟩)) n l2 c2 :: roInts (.slice a4 l2.length c4) l2 :: roInts (.slice (some ⟨ga, offa, none⟩) acts.length cap) acts :: F) ++ F') → Calls Try.prog 55 #[.pointer (some ⟨b, 0, none⟩), .int .i64 x] w fun e w' => e = Ending.returned (.int .i64 (placeOf l2 x)) ∧ holds w' ((waitsAt (.pointer (some ⟨b, 0, none⟩)) n l2 c2 :: roInts (.slice a4 l2.length c4) l2 :: roInts (.slice (some ⟨ga, offa, none⟩) acts.length cap) acts :: F) ++ F') from fun w F' h => waits_Ahead w _ n l2 c2 x _ (by omega) h)
                have HPk := Lib.hid (show ∀ w F', holds w ((waitsAt (.pointer (some ⟨b, 0, none⟩)) n l2 c2 :: roInts (.slice a4 l2.length c4) l2 :: roInts (.slice (some ⟨ga, offa, none⟩) acts.length cap) acts :: F) ++ F') → Calls Try.prog 33 #[.slice a4 l2.length c4, .int .i64 (k : Int)] w fun e w' => e = Ending.returned (.int .i64 (placeOf l2 (k : Int))) ∧ holds w' ((waitsAt (.pointer (some ⟨b, 0, none⟩)) n l2 c2 :: roInts (.slice a4 l2.length c4) l2 :: roInts (.slice (some ⟨ga, offa, none⟩) acts.length cap) acts :: F) ++ F') from fun w F' h => (ref04_Place w _ l2 (k : Int) _ hl2 (h.pick 1)).mono fun e w' ⟨he, hh⟩ => ⟨he, hh.pick 1⟩)
                have HPx := Lib.hid (show ∀ w F', holds w ((waitsAt (.pointer (some ⟨b, 0, none⟩)) n l2 c2 :: roInts (.slice a4 l2.length c4) l2 :: roInts (.slice (some ⟨ga, offa, none⟩) acts.length cap) acts :: F) ++ F') → Calls Try.prog 33 #[.slice a4 l2.length c4, .int .i64 x] w fun e w' => e = Ending.returned (.int .i64 (placeOf l2 x)) ∧ holds w' ((waitsAt (.pointer (some ⟨b, 0, none⟩)) n l2 c2 :: roInts (.slice a4 l2.length c4) l2 :: roInts (.slice (some ⟨ga, offa, none⟩) acts.length cap) acts :: F) ++ F') from fun w F' h => (ref04_Place w _ l2 x _ hl2 (h.pick 1)).mono fun e w' ⟨he, hh⟩ => ⟨he, hh.pick 1⟩)
                have HSE := Lib.hid (fun w (h : holds w (waitsAt (.pointer (some ⟨b, 0, none⟩)) n l2 c2 :: roInts (.slice a4 l2.length c4) l2 :: roInts (.slice (some ⟨ga, offa, none⟩) acts.length cap) acts :: F)) => (show w.cell? ⟨ga, offa + k, none⟩ = some (.int .i64 x) ∧ True from ⟨CK.out w _ (h.sel 3 [2]), trivial⟩))
                generalize hB : (waitsAt (.pointer (some ⟨b, 0, none⟩)) n l2 c2 :: roInts (.slice a4 l2.length c4) l2 :: roInts (.slice (some ⟨ga, offa, none⟩) acts.length cap) acts :: F : List HProp) = B at h4 HL HAk HAx HPk HPx HSE
                have HB := Lib.hid hB
                clear hB
                generalize placeOf l2 (k : Int) = pk at HAk HPk
                generalize placeOf l2 x = px at HAx HPx
                go_wp2_with fail
                refine wp_region_loose (fun k => match k with | 1 => some ⟨fun u => u = .int .i64 (l2.length : Nat), fun _ => []⟩ | 8 => some ⟨fun u => u = .int .i64 pk, fun _ => []⟩ | 11 => some ⟨fun u => u = .int .i64 pk, fun _ => []⟩ | 20 => some ⟨fun u => u = .int .i64 px, fun _ => []⟩ | 26 => some ⟨fun u => u = .int .i64 px, fun _ => []⟩ | _ => none) B (by kernel_rfl) (by kernel_rfl) h4 ?_
                iterate 1
                  refine loose_exact rfl (fun K hK => ?_)
                  go_simp
                  first
                    | (refine hK _ ?_; clear hK K)
                    | (intro w hw
                       obtain ⟨c0, _ct⟩ := HSE.out _ hw
                       go_simp
                       refine hK _ ?_
                       clear hK K c0 _ct hw w)
                refine loose_call (k := 1) rfl (by go_simp) (fun w F hw => ?_) (fun u hu => ?_)
                · go_simp
                  go_at_call 54
                  exact (HL.out _ _ hw).mono fun e w' ⟨he, hh⟩ => ⟨_, he, rfl, hh⟩
                obtain rfl := hu
                iterate 6
                  refine loose_exact rfl (fun K hK => ?_)
                  go_simp
                  first
                    | (refine hK _ ?_; clear hK K)
                    | (intro w hw
                       obtain ⟨c0, _ct⟩ := HSE.out _ hw
                       go_simp
                       refine hK _ ?_
                       clear hK K c0 _ct hw w)
                refine loose_call (k := 8) rfl (by go_simp) (fun w F hw => ?_) (fun u hu => ?_)
                · go_simp
                  go_at_call 55
                  exact (HAk.out _ _ hw).mono fun e w' ⟨he, hh⟩ => ⟨_, he, rfl, hh⟩
                obtain rfl := hu
                iterate 2
                  refine loose_exact rfl (fun K hK => ?_)
                  go_simp
                  first
                    | (refine hK _ ?_; clear hK K)
                    | (intro w hw
                       obtain ⟨c0, _ct⟩ := HSE.out _ hw
                       go_simp
                       refine hK _ ?_
                       clear hK K c0 _ct hw w)
                refine loose_call (k := 11) rfl (by go_simp) (fun w F hw => ?_) (fun u hu => ?_)
                · go_simp
                  go_at_call 33
                  exact (HPk.out _ _ hw).mono fun e w' ⟨he, hh⟩ => ⟨_, he, rfl, hh⟩
                obtain rfl := hu
                iterate 8
                  refine loose_exact rfl (fun K hK => ?_)
                  go_simp
                  first
                    | (refine hK _ ?_; clear hK K)
                    | (intro w hw
                       obtain ⟨c0, _ct⟩ := HSE.out _ hw
                       go_simp
                       refine hK _ ?_
                       clear hK K c0 _ct hw w)
                refine loose_call (k := 20) rfl (by go_simp) (fun w F hw => ?_) (fun u hu => ?_)
                · go_simp
                  go_at_call 55
                  exact (HAx.out _ _ hw).mono fun e w' ⟨he, hh⟩ => ⟨_, he, rfl, hh⟩
                obtain rfl := hu
                iterate 5
                  refine loose_exact rfl (fun K hK => ?_)
                  go_simp
                  first
                    | (refine hK _ ?_; clear hK K)
                    | (intro w hw
                       obtain ⟨c0, _ct⟩ := HSE.out _ hw
                       go_simp
                       refine hK _ ?_
                       clear hK K c0 _ct hw w)
                refine loose_call (k := 26) rfl (by go_simp) (fun w F hw => ?_) (fun u hu => ?_)
                · go_simp
                  go_at_call 33
                  exact (HPx.out _ _ hw).mono fun e w' ⟨he, hh⟩ => ⟨_, he, rfl, hh⟩
                obtain rfl := hu
                iterate 2
                  refine loose_exact rfl (fun K hK => ?_)
                  go_simp
                  first
                    | (refine hK _ ?_; clear hK K)
                    | (intro w hw
                       obtain ⟨c0, _ct⟩ := HSE.out _ hw
                       go_simp
                       refine hK _ ?_
                       clear hK K c0 _ct hw w)
                refine loose_nil ?_
                clear h4
                intro wq h4
                go_wp2_with fail
                go_roundw
                case rel => exact ⟨k + 1, l2, c2, by omega, by go_num, by rw [HC2.out], by omega, by omega, by omega, by rw [← HB.out] at h4; exact h4⟩
                case measure => simp [intOf]; omega
              · rw [if_neg her] at O2
                have hb : (er == 0) = false := by simpa using her
                clear her
                go_wp2_with fail
                refine O2.out.mono ?_
                rintro e w5 ⟨rfl, h4⟩
                clear O2 c1
                obtain ⟨c2, hc2⟩ : ∃ c2, c = c2 := ⟨_, rfl⟩
                subst hc2
                have HL := Lib.hid (show ∀ w F', holds w ((waitsAt (.pointer (some ⟨b, 0, none⟩)) n l2 c :: roInts (.slice a4 l2.length c4) l2 :: roInts (.slice (some ⟨ga, offa, none⟩) acts.length cap) acts :: F) ++ F') → Calls Try.prog 54 #[.pointer (some ⟨b, 0, none⟩)] w fun e w' => e = Ending.returned (.int .i64 (l2.length : Nat)) ∧ holds w' ((waitsAt (.pointer (some ⟨b, 0, none⟩)) n l2 c :: roInts (.slice a4 l2.length c4) l2 :: roInts (.slice (some ⟨ga, offa, none⟩) acts.length cap) acts :: F) ++ F') from fun w F' h => waits_Len w _ n l2 c _ h)
                have HAk := Lib.hid (show ∀ w F', holds w ((waitsAt (.pointer (some ⟨b, 0, none⟩)) n l2 c :: roInts (.slice a4 l2.length c4) l2 :: roInts (.slice (some ⟨ga, offa, none⟩) acts.length cap) acts :: F) ++ F') → Calls Try.prog 55 #[.pointer (some ⟨b, 0, none⟩), .int .i64 (k : Int)] w fun e w' => e = Ending.returned (.int .i64 (placeOf l2 (k : Int))) ∧ holds w' ((waitsAt (.pointer (some ⟨b, 0, none⟩)) n l2 c :: roInts (.slice a4 l2.length c4) l2 :: roInts (.slice (some ⟨ga, offa, none⟩) acts.length cap) acts :: F) ++ F') from fun w F' h => waits_Ahead w _ n l2 c (k : Int) _ (by omega) h)
                have HAx := Lib.hid (show ∀ w F', holds w ((waitsAt (.pointer (some ⟨b, 0, none⟩)) n l2 c :: roInts (.slice a4 l2.length c4) l2 :: roInts (.slice (some ⟨ga, offa, none⟩) acts.length cap) acts :: F) ++ F') → Calls Try.prog 55 #[.pointer (some ⟨b, 0, none⟩), .int .i64 x] w fun e w' => e = Ending.returned (.int .i64 (placeOf l2 x)) ∧ holds w' ((waitsAt (.pointer (some ⟨b, 0, none⟩)) n l2 c :: roInts (.slice a4 l2.length c4) l2 :: roInts (.slice (some ⟨ga, offa, none⟩) acts.length cap) acts :: F) ++ F') from fun w F' h => waits_Ahead w _ n l2 c x _ (by omega) h)
                have HPk := Lib.hid (show ∀ w F', holds w ((waitsAt (.pointer (some ⟨b, 0, none⟩)) n l2 c :: roInts (.slice a4 l2.length c4) l2 :: roInts (.slice (some ⟨ga, offa, none⟩) acts.length cap) acts :: F) ++ F') → Calls Try.prog 33 #[.slice a4 l2.length c4, .int .i64 (k : Int)] w fun e w' => e = Ending.returned (.int .i64 (placeOf l2 (k : Int))) ∧ holds w' ((waitsAt (.pointer (some ⟨b, 0, none⟩)) n l2 c :: roInts (.slice a4 l2.length c4) l2 :: roInts (.slice (some ⟨ga, offa, none⟩) acts.length cap) acts :: F) ++ F') from fun w F' h => (ref04_Place w _ l2 (k : Int) _ hl2 (h.pick 1)).mono fun e w' ⟨he, hh⟩ => ⟨he, hh.pick 1⟩)
                have HPx := Lib.hid (show ∀ w F', holds w ((waitsAt (.pointer (some ⟨b, 0, none⟩)) n l2 c :: roInts (.slice a4 l2.length c4) l2 :: roInts (.slice (some ⟨ga, offa, none⟩) acts.length cap) acts :: F) ++ F') → Calls Try.prog 33 #[.slice a4 l2.length c4, .int .i64 x] w fun e w' => e = Ending.returned (.int .i64 (placeOf l2 x)) ∧ holds w' ((waitsAt (.pointer (some ⟨b, 0, none⟩)) n l2 c :: roInts (.slice a4 l2.length c4) l2 :: roInts (.slice (some ⟨ga, offa, none⟩) acts.length cap) acts :: F) ++ F') from fun w F' h => (ref04_Place w _ l2 x _ hl2 (h.pick 1)).mono fun e w' ⟨he, hh⟩ => ⟨he, hh.pick 1⟩)
                have HSE := Lib.hid (fun w (h : holds w (waitsAt (.pointer (some ⟨b, 0, none⟩)) n l2 c :: roInts (.slice a4 l2.length c4) l2 :: roInts (.slice (some ⟨ga, offa, none⟩) acts.length cap) acts :: F)) => (show w.cell? ⟨ga, offa + k, none⟩ = some (.int .i64 x) ∧ True from ⟨CK.out w _ (h.sel 3 [2]), trivial⟩))
                generalize hB : (waitsAt (.pointer (some ⟨b, 0, none⟩)) n l2 c :: roInts (.slice a4 l2.length c4) l2 :: roInts (.slice (some ⟨ga, offa, none⟩) acts.length cap) acts :: F : List HProp) = B at h4 HL HAk HAx HPk HPx HSE
                have HB := Lib.hid hB
                clear hB
                generalize placeOf l2 (k : Int) = pk at HAk HPk
                generalize placeOf l2 x = px at HAx HPx
                go_wp2_with fail
                refine wp_region_loose (fun k => match k with | 1 => some ⟨fun u => u = .int .i64 (l2.length : Nat), fun _ => []⟩ | 8 => some ⟨fun u => u = .int .i64 pk, fun _ => []⟩ | 11 => some ⟨fun u => u = .int .i64 pk, fun _ => []⟩ | 20 => some ⟨fun u => u = .int .i64 px, fun _ => []⟩ | 26 => some ⟨fun u => u = .int .i64 px, fun _ => []⟩ | _ => none) B (by kernel_rfl) (by kernel_rfl) h4 ?_
                iterate 1
                  refine loose_exact rfl (fun K hK => ?_)
                  go_simp
                  first
                    | (refine hK _ ?_; clear hK K)
                    | (intro w hw
                       obtain ⟨c0, _ct⟩ := HSE.out _ hw
                       go_simp
                       refine hK _ ?_
                       clear hK K c0 _ct hw w)
                refine loose_call (k := 1) rfl (by go_simp) (fun w F hw => ?_) (fun u hu => ?_)
                · go_simp
                  go_at_call 54
                  exact (HL.out _ _ hw).mono fun e w' ⟨he, hh⟩ => ⟨_, he, rfl, hh⟩
                obtain rfl := hu
                iterate 6
                  refine loose_exact rfl (fun K hK => ?_)
                  go_simp
                  first
                    | (refine hK _ ?_; clear hK K)
                    | (intro w hw
                       obtain ⟨c0, _ct⟩ := HSE.out _ hw
                       go_simp
                       refine hK _ ?_
                       clear hK K c0 _ct hw w)
                refine loose_call (k := 8) rfl (by go_simp) (fun w F hw => ?_) (fun u hu => ?_)
                · go_simp
                  go_at_call 55
                  exact (HAk.out _ _ hw).mono fun e w' ⟨he, hh⟩ => ⟨_, he, rfl, hh⟩
                obtain rfl := hu
                iterate 2
                  refine loose_exact rfl (fun K hK => ?_)
                  go_simp
                  first
                    | (refine hK _ ?_; clear hK K)
                    | (intro w hw
                       obtain ⟨c0, _ct⟩ := HSE.out _ hw
                       go_simp
                       refine hK _ ?_
                       clear hK K c0 _ct hw w)
                refine loose_call (k := 11) rfl (by go_simp) (fun w F hw => ?_) (fun u hu => ?_)
                · go_simp
                  go_at_call 33
                  exact (HPk.out _ _ hw).mono fun e w' ⟨he, hh⟩ => ⟨_, he, rfl, hh⟩
                obtain rfl := hu
                iterate 8
                  refine loose_exact rfl (fun K hK => ?_)
                  go_simp
                  first
                    | (refine hK _ ?_; clear hK K)
                    | (intro w hw
                       obtain ⟨c0, _ct⟩ := HSE.out _ hw
                       go_simp
                       refine hK _ ?_
                       clear hK K c0 _ct hw w)
                refine loose_call (k := 20) rfl (by go_simp) (fun w F hw => ?_) (fun u hu => ?_)
                · go_simp
                  go_at_call 55
                  exact (HAx.out _ _ hw).mono fun e w' ⟨he, hh⟩ => ⟨_, he, rfl, hh⟩
                obtain rfl := hu
                iterate 5
                  refine loose_exact rfl (fun K hK => ?_)
                  go_simp
                  first
                    | (refine hK _ ?_; clear hK K)
                    | (intro w hw
                       obtain ⟨c0, _ct⟩ := HSE.out _ hw
                       go_simp
                       refine hK _ ?_
                       clear hK K c0 _ct hw w)
                refine loose_call (k := 26) rfl (by go_simp) (fun w F hw => ?_) (fun u hu => ?_)
                · go_simp
                  go_at_call 33
                  exact (HPx.out _ _ hw).mono fun e w' ⟨he, hh⟩ => ⟨_, he, rfl, hh⟩
                obtain rfl := hu
                iterate 2
                  refine loose_exact rfl (fun K hK => ?_)
                  go_simp
                  first
                    | (refine hK _ ?_; clear hK K)
                    | (intro w hw
                       obtain ⟨c0, _ct⟩ := HSE.out _ hw
                       go_simp
                       refine hK _ ?_
                       clear hK K c0 _ct hw w)
                refine loose_nil ?_
                clear h4
                intro wq h4
                go_wp2_with fail
                go_roundw
                case rel => exact ⟨k + 1, l2, c, by omega, by go_num, rfl, by omega, by omega, by omega, by rw [← HB.out] at h4; exact h4⟩
                case measure => simp [intOf]; omega
          · have hkl : k = acts.length := by omega
            subst hkl
            go_wp2_with fail
            refine (waits_List _ _ _ _ _ _ h3).mono ?_
            rintro e w7 ⟨a7, rfl, h7⟩
            go_wp2_with fail
            have h8 : holds w7 (roInts (.slice a7 l.length l.length) l :: roInts (.slice a6 l.length c6) l :: waitsAt (.pointer (some ⟨b, 0, none⟩)) n l c :: roInts (.slice a acts.length cap) acts :: F) := h7.sel 4 [0, 2, 1, 3]
            refine (base_SameInts _ _ _ _ _ _ hl3 h8).mono ?_
            rintro e w8 ⟨rfl, h9⟩
            have h10 : holds w8 (waitsAt (.pointer (some ⟨b, 0, none⟩)) n l c :: F) := h9.sel 4 [2]
            clear h9 h8 h7 h3
            go_wp2_with fail
            refine (waits_Count _ _ _ _ _ _ h10).mono ?_
            rintro e w9 ⟨rfl, h11⟩
            have h12 : holds w9 F := h11.tail
            clear h10 h11
            go_wp2_with fail
            refine (law21_works _ _ h12).mono ?_
            rintro e w10 ⟨rfl, h13⟩
            go_wp2_with fail
            go_ret
            exact ⟨rfl, h13⟩
  · have h81 : decide ((80 : Int) < acts.length) = true := by simp; omega
    go_enter Try.func8, Try.ntmps8
    go_wp2_with fail
    refine (law21_works _ _ hw.tail).mono ?_
    rintro e w2 ⟨rfl, h2⟩
    go_wp2_with fail
    go_ret
    exact ⟨rfl, h2⟩
end Go.Proofs.Ytfkpcmlajdmnfaa
