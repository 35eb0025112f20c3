/- Contracts of the reference of chapter 16: Owners, Hand. -/
import Derived.Test.YtfkpcmlajdmnfaaHandB
import Derived.Test.YtfkpcmlajdmnfaaRef16C
import Derived.Test.YtfkpcmlajdmnfaaLoose
namespace Go.Proofs.Ytfkpcmlajdmnfaa
open Go Go.RowKit Go.MapKept
set_option maxRecDepth 100000
set_option linter.unusedVariables false
set_option linter.unusedSimpArgs false
attribute [local go_sem] exactUpon looseUpon

def truth16 : Value → Nat
  | .bool true => 1
  | _ => 0

theorem ref16_Owners (w : World) (vo vg : Value) (L : List Int) (F : List HProp) (hl : L.length ≤ 1048576) (hw : holds w (roInts vo L :: F)) :
    Calls Try.prog 82 #[.agg #[vo, vg]] w fun e w' => ∃ v', e = .returned v' ∧ ∃ o : List Int, (o.Pairwise (· < ·) ∧ ∀ x, x ∈ o ↔ x ∈ L ∧ 0 < x) ∧ holds w' (roInts v' o :: roInts vo L :: F) := by
  obtain ⟨a, cap, rfl, hcap⟩ := roInts_form hw
  have h1 := hw.alloc (.cells #[.slice a L.length cap, vg] 55 (0, 0))
  have hrow := holds_ownRow_nil h1 3 1
  go_enter Try.func82, Try.ntmps82
  go_wp2_with fail
  go_loopw [3, 4, 5] (fun vo la mo wr => ∃ (o : List Int) (last : Int) (more : Bool), la = .int .i64 last ∧ mo = .bool more ∧ Told L last o ∧ o.length + leftN L last ≤ 1048576 ∧ (more = false → ¬ 0 < leastAbove last L) ∧ holds wr (ownInts vo o :: blk w.heap.size (.cells #[.slice a L.length cap, vg] 55 (0, 0)) :: roInts (.slice a L.length cap) L :: F)) (fun vo la mo _ => truth16 mo + leftN L (intOf la))
  case atStart => exact ⟨[], 0, true, rfl, rfl, Told.start _, by have := leftN_le L 0; simp; omega, by simp, hrow⟩
  case round =>
    obtain ⟨o, last, more, rfl, rfl, htold, holen, hmore, h2⟩ := hrel
    have HT := Lib.hid htold
    have HM := Lib.hid hmore
    have hpos := htold.pos
    clear htold hmore hrow h1 hw
    cases more with
    | false =>
      have hm : ¬ 0 < leastAbove last L := HM.out rfl
      have HM2 := Lib.hid hm
      clear hm
      go_wp2_with fail
      go_ret
      exact ⟨_, rfl, o, HT.out.last (by have := HM2.out; omega), (holds.shareInts h2).sel 3 [0, 2]⟩
    | true =>
      go_wp2_with fail
      go_loopw [6, 7] (fun ne i wr2 => ∃ k : Nat, k ≤ L.length ∧ i = .int .i64 k ∧ ne = .int .i64 (leastAbove last (L.take k)) ∧ holds wr2 (ownInts u3 o :: blk w.heap.size (.cells #[.slice a L.length cap, vg] 55 (0, 0)) :: roInts (.slice a L.length cap) L :: F)) (fun _ i _ => L.length - (intOf i).toNat)
      case atStart => exact ⟨0, Nat.zero_le _, rfl, rfl, h2⟩
      case round =>
        obtain ⟨k, hk, rfl, rfl, h3⟩ := hrel
        have b0 := cellAt (h3.pick 1).get_blk 0
        simp at b0
        by_cases hlt : k < L.length
        · obtain ⟨g, off, cap2, hv, _, hcs⟩ := (h3.pick 2).roIntAt (by omega)
          cases hv
          have c0 := hcs k hlt
          have hst := leastAbove_snoc last L k (by omega)
          generalize L[k] = y at c0 hst
          generalize leastAbove last (L.take k) = n at hst
          have HS := Lib.hid hst
          clear hst hcs
          by_cases hy : last < y
          · by_cases hn : n = 0
            · subst hn
              go_wp2_with fail
              go_roundw
              case rel => exact ⟨k + 1, by omega, by go_num, by rw [HS.out, leastStep, if_pos ⟨hy, .inl rfl⟩], h3⟩
              case measure => simp [intOf]; omega
            · have hnb : (n == 0) = false := by simpa using hn
              by_cases hyn : y < n
              · go_wp2_with fail
                go_roundw
                case rel => exact ⟨k + 1, by omega, by go_num, by rw [HS.out, leastStep, if_pos ⟨hy, .inr hyn⟩], h3⟩
                case measure => simp [intOf]; omega
              · go_wp2_with fail
                go_roundw
                case rel => exact ⟨k + 1, by omega, by go_num, by rw [HS.out, leastStep, if_neg (fun h => by rcases h.2 with h | h <;> omega)], h3⟩
                case measure => simp [intOf]; omega
          · go_wp2_with fail
            go_roundw
            case rel => exact ⟨k + 1, by omega, by go_num, by rw [HS.out, leastStep, if_neg (fun h => hy h.1)], h3⟩
            case measure => simp [intOf]; omega
        · have hkl : L.take k = L := List.take_of_length_le (by omega)
          rw [hkl]
          have hnx := HT.out.next
          have hfalls := leftN_falls L last (leastAbove last L)
          generalize hnn : leastAbove last L = n at hnx hfalls
          have HNN := Lib.hid hnn
          clear hnn
          have HN := Lib.hid hnx
          have HF := Lib.hid hfalls
          clear hnx hkl hfalls
          by_cases hn : 0 < n
          · go_wp2_with (at_builtin; (refine wpList_appendInt (y := n) rfl _ _ rfl rfl (h3.alloc _).tail rfl (by simp) (by omega) ?_); intro v4 w4 h4)
            obtain ⟨t1, t2, t3⟩ := HN.out hn
            have hf := HF.out t2 t3
            go_roundw
            case rel => exact ⟨o ++ [n], n, true, rfl, rfl, t1, by simp; omega, by simp, h4⟩
            case measure => simp [intOf, truth16]; omega
          · go_wp2_with fail
            go_roundw
            case rel => exact ⟨o, last, false, rfl, rfl, HT.out, holen, fun _ => by rw [HNN.out]; exact hn, h3⟩
            case measure => simp [intOf, truth16]

theorem setsOn_snoc (to : Int) (L is : List Int) (k : Nat) (hk : k < is.length) : (is.take (k + 1)).foldl (fun (L : List Int) i => L.set i.toNat to) L = ((is.take k).foldl (fun (L : List Int) i => L.set i.toNat to) L).set is[k].toNat to := by
  rw [List.take_succ_eq_append_getElem hk, List.foldl_append]
  rfl
theorem setsOn_len (to : Int) (is : List Int) : ∀ L : List Int, (is.foldl (fun (L : List Int) i => L.set i.toNat to) L).length = L.length := by
  induction is with
  | nil => intro L; rfl
  | cons i is ih => intro L; rw [List.foldl_cons, ih]; simp

set_option maxHeartbeats 1000000 in
theorem ref16_Hand (w : World) (vo vg : Value) (l : List (Int × Int)) (fr to : Int) (F : List HProp) (hl : l.length ≤ 1048576) (hw : holds w (roInts vo (l.map (·.1)) :: roInts vg (l.map (·.2)) :: F)) :
    Calls Try.prog 79 #[.agg #[vo, vg], .int .i64 fr, .int .i64 to] w fun e w' => ∃ vo' vg', e = .returned (.tuple #[.agg #[vo', vg'], .int .i64 (handN l fr to : Nat)]) ∧ holds w' (roInts vo' ((handM l fr to).map (·.1)) :: roInts vg' ((handM l fr to).map (·.2)) :: F) := by
  obtain ⟨a, cap, rfl, hcap⟩ := roInts_form hw
  obtain ⟨a', cap', rfl, hcap'⟩ := roInts_form (hw.pick 1)
  rw [List.length_map] at hcap hcap'
  simp only [List.length_map]
  have hw0 : holds w (roInts (.slice a l.length cap) (l.map (·.1)) :: roInts (.slice a' l.length cap') (l.map (·.2)) :: F) := by simpa using hw
  have hz0 := (hw0.alloc (.cells #[.slice a l.length cap, .slice a' l.length cap'] 55 (0, 0))).alloc (.cells #[.slice none 0 0, .slice none 0 0] 55 (0, 0))
  rw [World.size_alloc] at hz0
  have b := (hz0.pick 1).get_blk
  have b0 := cellAt b 0
  have b1 := cellAt b 1
  simp only [List.getElem?_toArray, List.getElem?_cons_succ, List.getElem?_cons_zero] at b0 b1
  have O1 := Lib.hid (ref16_Of _ _ (.slice a' l.length cap') (l.map (·.1)) fr _ (by rw [List.length_map]; exact hl) (hz0.pick 2))
  clear b hw hw0
  by_cases hcd : fr < 1 ∨ to < 1 ∨ fr = to
  · rw [show handN l fr to = 0 from by unfold handN; rw [if_pos hcd], show handM l fr to = l from by unfold handM; rw [if_pos hcd]]
    go_enter Try.func79, Try.ntmps79
    go_wp2_with fail
    refine O1.out.mono ?_
    rintro e w1 ⟨vq, rfl, h1⟩
    clear O1 b0 b1 hz0
    have h2 : holds w1 (blk (w.heap.size + 1) _ :: blk w.heap.size _ :: roInts _ (l.map (·.1)) :: roInts _ (l.map (·.2)) :: F) := h1.sel 5 [2, 3, 1, 4]
    generalize w.heap.size = n at h2 ⊢
    have b := (h2.pick 1).get_blk
    have b0 := cellAt b 0
    have b1 := cellAt b 1
    have r := h2.get_blk
    have r0 := cellAt r 0
    have r1 := cellAt r 1
    have f0 := frozen_of_row _ (n + 1) 0 _ _ r
    have f1 := frozen_of_row _ (n + 1) 1 _ _ r
    simp only [List.getElem?_toArray, List.getElem?_cons_succ, List.getElem?_cons_zero] at b0 b1 r0 r1
    clear b r h1
    have hb3 := store2 h2 (.slice a l.length cap) (.slice a' l.length cap')
    by_cases h1 : fr < 1
    · go_wp2
      refine bodyPost_ret (v := .tuple #[.agg #[.slice a l.length cap, .slice a' l.length cap'], .int .i64 0]) ?_ rfl ⟨_, _, rfl, hb3.tail.tail⟩
      exact results_cell_row_tmp Try.results79 _ _ (n + 1) _ _ _ _ _ rfl rfl hb3.get_blk Try.underlying55 rfl Try.size16
    · by_cases h4 : to < 1
      · go_wp2
        refine bodyPost_ret (v := .tuple #[.agg #[.slice a l.length cap, .slice a' l.length cap'], .int .i64 0]) ?_ rfl ⟨_, _, rfl, hb3.tail.tail⟩
        exact results_cell_row_tmp Try.results79 _ _ (n + 1) _ _ _ _ _ rfl rfl hb3.get_blk Try.underlying55 rfl Try.size16
      · have h5 : fr = to := by rcases hcd with h | h | h; exact absurd h h1; exact absurd h h4; exact h
        subst h5
        go_wp2
        refine bodyPost_ret (v := .tuple #[.agg #[.slice a l.length cap, .slice a' l.length cap'], .int .i64 0]) ?_ rfl ⟨_, _, rfl, hb3.tail.tail⟩
        exact results_cell_row_tmp Try.results79 _ _ (n + 1) _ _ _ _ _ rfl rfl hb3.get_blk Try.underlying55 rfl Try.size16
  · rw [show handN l fr to = cnt l fr from by unfold handN; rw [if_neg hcd], show handM l fr to = handed l fr to from by unfold handM; rw [if_neg hcd]]
    have h3 : ¬ fr = to := fun h => hcd (.inr (.inr h))
    have h3b : (fr == to) = false := by simpa using h3
    have d1 : decide (fr < 1) = false := decide_eq_false fun h => hcd (.inl h)
    have d2 : decide (to < 1) = false := decide_eq_false fun h => hcd (.inr (.inl h))
    clear h3 hcd
    have hlen := ofs_cnt l fr
    have hcl := cnt_le l fr
    obtain ⟨q, hq⟩ : ∃ q, ofs (l.map (·.1)) fr = q := ⟨_, rfl⟩
    have hqa : ∀ (k : Nat) (hk : k < q.length), ∃ j : Nat, q[k] = (j : Int) ∧ j < l.length := fun k hk => by
      have := ofs_at2 l fr q[k] (by rw [hq]; exact List.getElem_mem hk)
      exact ⟨q[k].toNat, by omega, this.2.1⟩
    rw [hq] at O1 hlen
    have HQA := Lib.hid hqa
    have HLEN := Lib.hid hlen
    have hlen2 : q.length ≤ l.length := by omega
    have hhd : handed l fr to = handOn to l q := by unfold handed; rw [hq]
    have HHD := Lib.hid hhd
    clear hqa hlen hq hhd
    go_enter Try.func79, Try.ntmps79
    go_wp2_with fail
    refine O1.out.mono ?_
    rintro e w1 ⟨vq, rfl, h1⟩
    clear O1 b0 b1 hz0
    obtain ⟨aq, cq, rfl⟩ := ownInts_form h1
    have h2 : holds w1 (blk (w.heap.size + 1) (.cells #[.slice none 0 0, .slice none 0 0] 55 (0, 0)) :: blk w.heap.size (.cells #[.slice a l.length cap, .slice a' l.length cap'] 55 (0, 0)) :: roInts (.slice a l.length cap) (l.map (·.1)) :: roInts (.slice aq q.length cq) q :: roInts (.slice a' l.length cap') (l.map (·.2)) :: F) := h1.shareInts.sel 5 [2, 3, 1, 0, 4]
    generalize w.heap.size = n at h2 ⊢
    clear h1
    go_wp2_with fail
    go_loopw [9] (fun i wr => ∃ (k : Nat) (a : Option Addr) (cap : Nat), k ≤ q.length ∧ i = .int .i64 k ∧ holds wr (blk (n + 1) (.cells #[.slice none 0 0, .slice none 0 0] 55 (0, 0)) :: blk n (.cells #[.slice a l.length cap, .slice a' l.length cap'] 55 (0, 0)) :: roInts (.slice a l.length cap) ((q.take k).foldl (fun (L : List Int) i => L.set i.toNat to) (l.map (·.1))) :: roInts (.slice aq q.length cq) q :: roInts (.slice a' l.length cap') (l.map (·.2)) :: F)) (fun i _ => q.length - (intOf i).toNat)
    case atStart => exact ⟨0, a, cap, Nat.zero_le _, rfl, h2⟩
    case round =>
      obtain ⟨k, a, cap, hk, rfl, h3⟩ := hrel
      clear h2
      by_cases hlt : k < q.length
      · obtain ⟨gq, offq, capq, hvq, _, hcs⟩ := (h3.pick 3).roIntAt (by omega)
        cases hvq
        have x0 := hcs k hlt
        obtain ⟨j, hj, hjl⟩ := HQA.out k hlt
        have hsn := setsOn_snoc to (l.map (·.1)) q k hlt
        have hln := setsOn_len to (q.take k) (l.map (·.1))
        rw [hj, Int.toNat_natCast] at hsn
        rw [hj] at x0
        rw [List.length_map] at hln
        clear hcs
        generalize (q.take k).foldl (fun (L : List Int) i => L.set i.toNat to) (l.map (·.1)) = M at h3 hsn hln
        have HSN := Lib.hid hsn
        have HLN := Lib.hid hln
        have hln2 : M.length ≤ 1048576 := by omega
        have hjm : j < M.length := by omega
        have b := (h3.pick 1).get_blk
        have b0 := cellAt b 0
        have b1 := cellAt b 1
        simp only [List.getElem?_toArray, List.getElem?_cons_succ, List.getElem?_cons_zero] at b0 b1
        have HJ := Lib.hid hj
        clear b hsn hln hj
        have h3 : holds wr (blk (n + 1) (.cells #[.slice none 0 0, .slice none 0 0] 55 (0, 0)) :: blk n (.cells #[.slice a l.length cap, .slice a' l.length cap'] 55 (0, 0)) :: roInts (.slice a l.length cap) M :: roInts (.slice (some ⟨gq, offq, none⟩) q.length cq) q :: roInts (.slice a' l.length cap') (l.map (·.2)) :: F) := h3
        have HSE := Lib.hid (fun w (h : holds w (blk (n + 1) (.cells #[.slice none 0 0, .slice none 0 0] 55 (0, 0)) :: blk n (.cells #[.slice a l.length cap, .slice a' l.length cap'] 55 (0, 0)) :: roInts (.slice a l.length cap) M :: roInts (.slice (some ⟨gq, offq, none⟩) q.length cq) q :: roInts (.slice a' l.length cap') (l.map (·.2)) :: F)) => (show w.cell? ⟨n, 0, none⟩ = some (.slice a l.length cap) ∧ w.cell? ⟨n, 1, none⟩ = some (.slice a' l.length cap') ∧ w.cell? ⟨gq, offq + k, none⟩ = some (.int .i64 (j : Int)) from by
          refine ⟨cellAt (h.pick 1).get_blk 0, cellAt (h.pick 1).get_blk 1, ?_⟩
          obtain ⟨_, _, _, hvq, _, hcs⟩ := (h.pick 3).roIntAt (by omega)
          cases hvq
          rw [hcs k hlt, HJ.out]))
        have HP := Lib.hid (show ∀ w F', holds w ((blk (n + 1) (.cells #[.slice none 0 0, .slice none 0 0] 55 (0, 0)) :: blk n (.cells #[.slice a l.length cap, .slice a' l.length cap'] 55 (0, 0)) :: roInts (.slice a l.length cap) M :: roInts (.slice (some ⟨gq, offq, none⟩) q.length cq) q :: roInts (.slice a' l.length cap') (l.map (·.2)) :: F) ++ F') → Calls Try.prog 87 #[.slice a l.length cap, .int .i64 (j : Int), .int .i64 to] w fun e w' => ∃ a2 c2, e = Ending.returned (.slice a2 l.length c2) ∧ holds w' (roInts (.slice a2 l.length c2) (M.set j to) :: ((blk (n + 1) (.cells #[.slice none 0 0, .slice none 0 0] 55 (0, 0)) :: blk n (.cells #[.slice a l.length cap, .slice a' l.length cap'] 55 (0, 0)) :: roInts (.slice a l.length cap) M :: roInts (.slice (some ⟨gq, offq, none⟩) q.length cq) q :: roInts (.slice a' l.length cap') (l.map (·.2)) :: F) ++ F')) from fun w F' h => (ref16_Put w _ M (j : Int) to _ (by omega) (by omega) (by omega) (h.pick 2)).mono fun e w' ⟨v', he, hh⟩ => by
          rw [Int.toNat_natCast] at hh
          obtain ⟨a2, c2, rfl, _⟩ := roInts_form hh
          rw [List.length_set, HLN.out] at he hh
          exact ⟨a2, c2, he, hh.sel 6 [0, 2, 3, 1, 4, 5]⟩)
        go_wp2_with fail
        clear b0 b1 x0
        refine wp_region_loose_tail_keep 11 7 (fun k => match k with | 7 => some ⟨fun u => ∃ (a : Option Addr) (c : Nat), u = .slice a l.length c, fun u => [roInts u (M.set j to)]⟩ | _ => none) (blk (n + 1) (.cells #[.slice none 0 0, .slice none 0 0] 55 (0, 0)) :: blk n (.cells #[.slice a l.length cap, .slice a' l.length cap'] 55 (0, 0)) :: roInts (.slice a l.length cap) M :: roInts (.slice (some ⟨gq, offq, none⟩) q.length cq) q :: roInts (.slice a' l.length cap') (l.map (·.2)) :: F) (by kernel_rfl) (by kernel_rfl) h3 ?_
        simp only [List.take_succ_cons, List.take_zero, List.drop_succ_cons, List.drop_zero]
        iterate 7
          refine loose_exact rfl (fun K hK => ?_)
          go_simp
          first
            | (refine hK _ ?_; clear hK K)
            | (intro w hw
               obtain ⟨b0, b1, x0⟩ := HSE.out _ hw
               go_simp
               refine hK _ ?_
               clear hK K b0 b1 x0 hw w)
        refine loose_call (k := 7) rfl (by go_simp) (fun w F hw => ?_) (fun u hu => ?_)
        · go_simp
          go_at_call 87
          exact (HP.out _ _ hw).mono fun e w' ⟨a, c, he, hh⟩ => ⟨_, he, ⟨a, c, rfl⟩, hh⟩
        obtain ⟨a2, c2, rfl⟩ := hu
        iterate 3
          refine loose_exact rfl (fun K hK => ?_)
          go_simp
          first
            | (refine hK _ ?_; clear hK K)
            | (intro w hw
               obtain ⟨b0, b1, x0⟩ := HSE.out _ hw
               go_simp
               refine hK _ ?_
               clear hK K b0 b1 x0 hw w)
        refine loose_nil ?_
        clear h3
        intro wq h3
        have h3 : holds wq (roInts (.slice a2 l.length c2) (M.set j to) :: (blk (n + 1) (.cells #[.slice none 0 0, .slice none 0 0] 55 (0, 0)) :: blk n (.cells #[.slice a l.length cap, .slice a' l.length cap'] 55 (0, 0)) :: roInts (.slice a l.length cap) M :: roInts (.slice (some ⟨gq, offq, none⟩) q.length cq) q :: roInts (.slice a' l.length cap') (l.map (·.2)) :: F)) := h3
        have b := (h3.pick 2).get_blk
        have b0 := cellAt b 0
        have b1 := cellAt b 1
        have f0 := frozen_of_row _ n 0 _ _ b
        have f1 := frozen_of_row _ n 1 _ _ b
        simp only [List.getElem?_toArray, List.getElem?_cons_succ, List.getElem?_cons_zero] at b0 b1
        clear b
        have h4 := store2 (h3.pick 2) (.slice a2 l.length c2) (.slice a' l.length cap')
        go_wp2_with fail
        go_roundw
        case rel => exact ⟨k + 1, a2, c2, by omega, by go_num, by rw [HSN.out]; exact h4.sel 6 [2, 0, 1, 4, 5]⟩
        case measure => simp [intOf]; omega
      · have hkl : k = q.length := by omega
        subst hkl
        rw [List.take_length, ← handOn_fst, ← handOn_snd to q l] at h3
        clear hlt hk
        have b := (h3.pick 1).get_blk
        have b0 := cellAt b 0
        have b1 := cellAt b 1
        have r := h3.get_blk
        have r0 := cellAt r 0
        have r1 := cellAt r 1
        have f0 := frozen_of_row _ (n + 1) 0 _ _ r
        have f1 := frozen_of_row _ (n + 1) 1 _ _ r
        simp only [List.getElem?_toArray, List.getElem?_cons_succ, List.getElem?_cons_zero] at b0 b1 r0 r1
        clear b r
        have hb3 := store2 h3 (.slice a l.length cap) (.slice a' l.length cap')
        go_wp2
        refine bodyPost_ret (v := .tuple #[.agg #[.slice a l.length cap, .slice a' l.length cap'], .int .i64 (q.length : Nat)]) ?_ rfl ⟨_, _, by rw [HLEN.out], by rw [HHD.out]; exact hb3.sel 5 [2, 4]⟩
        exact results_cell_row_tmp Try.results79 _ _ (n + 1) _ _ _ _ _ rfl rfl hb3.get_blk Try.underlying55 rfl Try.size16
end Go.Proofs.Ytfkpcmlajdmnfaa
