/- Contracts: all owners, and handing; tags that New did not give. -/
import Derived.Test.YtfkpcmlajdmnfaaHand
import Derived.Test.YtfkpcmlajdmnfaaSortedN
import Derived.Test.YtfkpcmlajdmnfaaAuditPlain
import Derived.Test.YtfkpcmlajdmnfaaLaw16E
namespace Go.Proofs.Ytfkpcmlajdmnfaa
open Go Go.RowKit Go.MapKept
set_option maxRecDepth 100000
set_option linter.unusedVariables false

theorem tags_Owners (w : World) (v : Value) (l : List (Int × Int)) (O : List Int) (F : List HProp) (h1 : O.Pairwise (· < ·)) (h2 : ∀ x, x ∈ O ↔ x ∈ l.map (·.1) ∧ 0 < x) (hwf : ∀ t ∈ l, (Lit.int .i64 t.1).wf = true) (hl : l.length ≤ 1048576) (hw : holds w (tagsAt v l :: F)) :
    Calls Try.prog 81 #[v] w fun e w' => ∃ r, e = .returned r ∧ holds w' (roInts r O :: tagsAt v l :: F) := by
  obtain ⟨b, g, bm, m, rfl, hm, h⟩ := open_tags hw
  have c1 := cellAt h.get_blk 1
  simp at c1
  have hs := hm.sorted h1 h2
  have hk : ∀ x ∈ alKeys m, (Lit.int .i64 x).wf = true := fun x hx => by
    obtain ⟨t, ht, rfl⟩ := List.mem_map.1 ((hm.mem x).1 hx).1
    exact hwf t ht
  have hml : m.length ≤ 1000000000 := by
    have   := Audit.length_le_of_sub (alKeys m) (l.map (·.1)) hm.nodup fun x hx => ((hm.mem x).1 hx).1
    simp only [alKeys, List.length_map] at this
    omega
  have HK := Lib.hid hk
  have HS := Lib.hid hs
  have HM := Lib.hid hm
  clear hk hwf hs hm hw
  go_enter Try.func81, Try.ntmps81
  go_wp2_with fail
  refine (Try.keysII_call _ bm _ h).mono ?_
  rintro e w2 ⟨rfl, h3⟩
  have h4 : holds w2 (_ :: _ :: _ :: _ :: F) := h3.sel 4 [0, 3, 1, 2]
  go_wp2_with fail
  refine (Try.sortedII_call (.int .i64) _ bm _ _ _ h4 HK.out (by omega)).mono ?_
  rintro e w3 ⟨v', rfl, h5⟩
  rw [HS.out] at h5
  go_wp2_with fail
  go_ret
  have h6 : holds w3 (blk b _ :: blk g _ :: imap _ bm m :: roInts v' O :: F) := h5.shareInts.sel 4 [2, 3, 1, 0]
  have h7 := shut_tags HM.out h6
  exact ⟨_, rfl, h7.sel 2 [1, 0]⟩

theorem tags_Hand (w : World) (v : Value) (l : List (Int × Int)) (fr to : Int) (F : List HProp) (hl : l.length ≤ 1048576) (hw : holds w (tagsAt v l :: F)) :
    Calls Try.prog 80 #[v, .int .i64 fr, .int .i64 to] w fun e w' => e = .returned (.int .i64 (handN l fr to : Nat)) ∧ holds w' (tagsAt v (handM l fr to) :: F) := by
  obtain ⟨b, g0, bm0, m0, rfl, _, _⟩ := open_tags hw
  by_cases h1 : fr < 1
  · rw [show handN l fr to = 0 from by unfold handN; rw [if_pos (.inl h1)], show handM l fr to = l from by unfold handM; rw [if_pos (.inl h1)]]
    go_enter Try.func80, Try.ntmps80
    go_wp2
    go_ret
    exact ⟨rfl, hw⟩
  · by_cases h2 : to < 1
    · rw [show handN l fr to = 0 from by unfold handN; rw [if_pos (.inr (.inl h2))], show handM l fr to = l from by unfold handM; rw [if_pos (.inr (.inl h2))]]
      go_enter Try.func80, Try.ntmps80
      go_wp2
      go_ret
      exact ⟨rfl, hw⟩
    · by_cases h3 : fr = to
      · rw [show handN l fr to = 0 from by unfold handN; rw [if_pos (.inr (.inr h3))], show handM l fr to = l from by unfold handM; rw [if_pos (.inr (.inr h3))]]
        subst h3
        go_enter Try.func80, Try.ntmps80
        go_wp2
        go_ret
        exact ⟨rfl, hw⟩
      · have hcd : ¬ (fr < 1 ∨ to < 1 ∨ fr = to) := by rintro (h | h | h); exact h1 h; exact h2 h; exact h3 h
        rw [show handN l fr to = cnt l fr from by unfold handN; rw [if_neg hcd], show handM l fr to = handed l fr to from by unfold handM; rw [if_neg hcd]]
        clear hcd
        have h3b : (fr == to) = false := by simpa using h3
        have d1 : decide (fr < 1) = false := decide_eq_false h1
        have d2 : decide (to < 1) = false := decide_eq_false h2
        have H123 := Lib.hid (And.intro h1 (And.intro h2 h3))
        clear h1 h2 h3
        have O1 := Lib.hid (tags_Of w _ l fr F hl hw)
        have hcl := cnt_le l fr
        have hlen := ofs_cnt l fr
        obtain ⟨q, hq⟩ : ∃ q, ofs (l.map (·.1)) fr = q := ⟨_, rfl⟩
        have hqa : ∀ (k : Nat) (hk : k < q.length), ∃ j : Nat, q[k] = (j : Int) ∧ j < l.length := fun k hk => by
          have := ofs_at2 l fr q[k] (by rw [hq]; exact List.getElem_mem hk)
          exact ⟨q[k].toNat, by omega, this.2.1⟩
        rw [hq] at O1 hlen
        have HQA := Lib.hid hqa
        have HLEN := Lib.hid hlen
        have hlen2 : q.length ≤ l.length := by omega
        have hhd : handed l fr to = handOn to l q := by unfold handed; rw [hq]
        have HQ := Lib.hid hq
        have HHD := Lib.hid hhd
        clear hqa hlen hq hhd hw
        go_enter Try.func80, Try.ntmps80
        go_wp2_with fail
        refine O1.out.mono ?_
        rintro e w1 ⟨vq, rfl, hw1⟩
        clear O1
        have hw2 := hw1.shareInts.sel 2 [1, 0]
        obtain ⟨b1, g1, bm1, m1, hv, hm1, h1⟩ := open_tags hw2
        cases hv
        obtain ⟨aq, cq, rfl, _⟩ := roInts_form (h1.pick 3)
        have HM := Lib.hid hm1
        clear hm1 hw1 hw2
        go_wp2_with fail
        go_loopw [9, 30] (fun s9 i wr => ∃ k : Nat, k ≤ q.length ∧ i = .int .i64 k ∧ holds wr (blk b (.cells #[.slice (some ⟨g1, 0, none⟩) l.length l.length, .map (some bm1)] 71 (0, 0)) :: blk g1 (.cells (tagArr (handOn to l (q.take k))) 128 (0, 0)) :: imap (.int .i64) bm1 m1 :: roInts (.slice aq q.length cq) q :: F)) (fun _ i _ => q.length - (intOf i).toNat)
        case atStart => exact ⟨0, Nat.zero_le _, rfl, h1⟩
        case round =>
          obtain ⟨k, hk, rfl, h2⟩ := hrel
          clear h1
          have c0 := cellAt h2.get_blk 0
          simp at c0
          by_cases hlt : k < q.length
          · obtain ⟨gq, offq, capq, hvq, _, hcs⟩ := (h2.pick 3).roIntAt (by omega)
            cases hvq
            have x0 := hcs k hlt
            obtain ⟨j, hj, hjl⟩ := HQA.out k hlt
            have hsn := handOn_snoc to l q k hlt
            rw [hj, Int.toNat_natCast] at hsn
            rw [hj] at x0
            have hhl : j < (handOn to l (q.take k)).length := by rw [handOn_len]; exact hjl
            have hset := tagArr_set1 (handOn to l (q.take k)) j hhl to
            rw [show (handOn to l (q.take k))[j] = (handOn to l (q.take k)).getD j (0, 0) from by rw [List.getD_eq_getElem?_getD, List.getElem?_eq_getElem hhl]; rfl, ← hsn] at hset
            obtain ⟨k1, k2⟩ := tagArr_at _ j hhl
            clear k2
            rw [← cellAt (h2.pick 1).get_blk] at k1
            have hf := frozen_of_row wr g1 (j * 2) _ _ (h2.pick 1).get_blk
            have h3 := tags_set h2 hset
            generalize (handOn to l (q.take k))[j].1 = y at k1
            clear hcs hj hsn hset hhl
            go_wp2_with fail
            go_roundw
            case rel => exact ⟨k + 1, by omega, by go_num, h3⟩
            case measure => simp [intOf]; omega
          · have hkl : k = q.length := by omega
            subst hkl
            rw [List.take_length] at h2
            by_cases hz : q.length = 0
            · have hq0 : q = [] := List.eq_nil_of_length_eq_zero hz
              have e1 : cnt l fr = 0 := by rw [← HLEN.out]; exact hz
              subst hq0
              have E1 := Lib.hid e1
              clear HQA hlen2 hlt hk hz e1
              simp only [List.length_nil] at h2 ⊢
              go_wp2_with fail
              go_ret
              rw [HHD.out, E1.out]
              exact ⟨rfl, shut_tags (l := l) HM.out (h2.sel 4 [0, 1, 2])⟩
            · have hzp : (0 : Int) < q.length := by omega
              have hp : 0 < cnt l fr := by rw [← HLEN.out]; omega
              obtain ⟨g1', g2', g3'⟩ := H123.out
              have HMH := Lib.hid (HM.out.hand (fr := fr) (to := to) (by omega) (by omega) g3' hp)
              have HGT := Lib.hid (HM.out.hand_get (fr := fr) (to := to) g3')
              have hct := cnt_le l to
              have h3 : holds wr (imap _ bm1 m1 :: blk b _ :: blk g1 _ :: roInts _ q :: F) := h2.sel 4 [2, 0, 1, 3]
              have c1 := cellAt (h3.pick 1).get_blk 1
              simp at c1
              clear g1' g2' g3' hz hp hlt hk
              go_wp2_with (first
                | (refine wpList_delete_sl rfl rfl _ _ _ rfl Try.underlying69 Try.underlying3 rfl _ rfl h3 ?_; clear c0 c1; intro w5 h5; have d1 := cellAt (h5.pick 1).get_blk 1; simp at d1; have hlk := run_lookup_sl (P := Try.prog) (t := 69) (z := (0 : Int)) Try.underlying69 Try.underlying3 (by kernel_rfl) h5 to false; rw [HGT.out] at hlk; simp only [Bool.false_eq_true, if_false] at hlk)
                | (at_mapUpdate; refine wpList_mapUpdate_sl rfl rfl _ _ _ _ rfl Try.underlying69 Try.underlying3 rfl _ (((cnt l to : Nat) : Int) + (q.length : Nat)) rfl rfl h5 ?_; clear hlk d1; intro w6 h6))
              go_ret
              rw [HHD.out]
              have hm3 := HMH.out
              rw [HHD.out, HQ.out] at hm3
              refine ⟨by rw [HLEN.out]; rfl, ?_⟩
              have h7 : holds w6 (blk b _ :: blk g1 _ :: imap _ bm1 _ :: F) := h6.sel 4 [1, 2, 0]
              refine shut_tags (g := g1) (bm := bm1) hm3 ?_
              rw [handOn_len]
              exact h7

theorem ntags_Owners (w : World) (F : List HProp) (hw : holds w F) :
    Calls Try.prog 81 #[.pointer none] w fun e w' => e = .returned (.slice none 0 0) ∧ holds w' F := by
  go_enter Try.func81, Try.ntmps81
  go_wp2
  go_ret
  exact ⟨rfl, hw⟩
theorem ntags_Hand (w : World) (a b : Int) (F : List HProp) (hw : holds w F) :
    Calls Try.prog 80 #[.pointer none, .int .i64 a, .int .i64 b] w fun e w' => e = .returned (.int .i64 0) ∧ holds w' F := by
  go_enter Try.func80, Try.ntmps80
  go_wp2
  go_ret
  exact ⟨rfl, hw⟩
theorem ztags_Owners (w : World) (b : Nat) (F : List HProp) (hw : holds w (ztag b :: F)) :
    Calls Try.prog 81 #[.pointer (some ⟨b, 0, none⟩)] w fun e w' => e = .returned (.slice none 0 0) ∧ holds w' (ztag b :: F) := by
  obtain ⟨c0, c1⟩ := ztag_cells hw
  go_enter Try.func81, Try.ntmps81
  go_wp2_with fail
  refine (Try.keysII_nil _ _ hw).mono ?_
  rintro e w2 ⟨rfl, h3⟩
  go_wp2_with fail
  refine (Try.sortedII_nil _ _ _ h3).mono ?_
  rintro e w3 ⟨rfl, h4⟩
  go_wp2_with fail
  go_ret
  exact ⟨rfl, h4⟩
theorem ztags_Hand (w : World) (b : Nat) (F : List HProp) (hw : holds w (ztag b :: F)) :
    Calls Try.prog 80 #[.pointer (some ⟨b, 0, none⟩), .int .i64 1, .int .i64 2] w fun e w' => e = .returned (.int .i64 0) ∧ holds w' (ztag b :: F) := by
  go_enter Try.func80, Try.ntmps80
  go_wp2_with fail
  refine (ztags_Of _ _ _ hw).mono ?_
  rintro e w1 ⟨rfl, h1⟩
  go_wp2_with fail
  go_loopw [9, 30] (fun s9 i wr => i = .int .i64 0 ∧ holds wr (ztag b :: F)) (fun _ i _ => 0)
  case atStart => exact ⟨rfl, h1⟩
  case round =>
    obtain ⟨rfl, h2⟩ := hrel
    go_wp2_with fail
    go_ret
    exact ⟨rfl, h2⟩
end Go.Proofs.Ytfkpcmlajdmnfaa
