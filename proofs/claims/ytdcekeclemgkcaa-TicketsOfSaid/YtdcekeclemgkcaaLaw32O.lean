/- The law TicketsOf. -/
import Derived.Test.YtdcekeclemgkcaaLaw32
import Derived.Test.YtdcekeclemgkcaaTri
namespace Go.Proofs.Ytdcekeclemgkcaa
open Go Go.RowKit Go.MapKept
set_option maxRecDepth 100000
set_option linter.unusedVariables false
set_option maxHeartbeats 2000000
attribute [local go_sem] exactUpon looseUpon

def cntTo (P : List TicketM) (m : Int) : Nat := (P.filter fun t => decide (0 ≤ t.client) && decide (t.client < m)).length
theorem cntTo_zero (P : List TicketM) : cntTo P 0 = 0 := by
  unfold cntTo
  rw [List.length_eq_zero_iff, List.filter_eq_nil_iff]
  intro t _
  simp
  try omega
theorem cntTo_succ : ∀ (P : List TicketM) (m : Nat), cntTo P ((m : Int) + 1) = cntTo P m + (ofTk P m).length
  | [], m => rfl
  | t :: P, m => by
    have ih := cntTo_succ P m
    unfold cntTo ofTk ids at *
    simp only [List.length_map] at *
    rw [List.filter_cons, List.filter_cons, List.filter_cons]
    by_cases h1 : t.client = m
    · rw [if_pos (by simp; omega), if_neg (by simp; omega), if_pos (by simp [h1])]
      simp only [List.length_cons]; omega
    · by_cases h2 : 0 ≤ t.client ∧ t.client < m
      · rw [if_pos (by simp; omega), if_pos (by simp; omega), if_neg (by simp [h1])]
        simp only [List.length_cons]; omega
      · rw [if_neg (by simp; omega), if_neg (by simp; omega), if_neg (by simp [h1])]
        exact ih
theorem cntTo_le (P : List TicketM) (m : Int) : cntTo P m ≤ P.length := List.length_filter_le _ _
theorem cntTo_all {l : List TicketM} (h : TkOk l) : cntTo (pend l) 64 = (pend l).length := by
  unfold cntTo
  rw [List.filter_eq_self.2]
  intro t ht
  have := h.right t (pend_mem.1 ht).1
  simp [Ticket.right, Ticket.win] at this
  simp; omega
theorem of_get {l : List TicketM} (h : TkOk l) {c x : Int} (hx : x ∈ Book.of l c) : ∃ t, Book.get l x = (t, 0) ∧ t.client = c ∧ t.state = 1 := by
  unfold Book.of ofTk ids at hx
  obtain ⟨t, ht, rfl⟩ := List.mem_map.1 hx
  obtain ⟨h1, h2⟩ := List.mem_filter.1 ht
  obtain ⟨k, hk, h3, h4⟩ := pend_at h h1
  refine ⟨t, ?_, by simpa using h2, (pend_mem.1 h1).2⟩
  unfold Book.get
  rw [if_neg (by omega), h3, show ((k : Int) + 1 - 1).toNat = k by omega, List.getD_eq_getElem?_getD, List.getElem?_eq_getElem hk, h4]
  rfl
theorem of_sorted {l : List TicketM} (h : TkOk l) (c : Int) : (Book.of l c).Pairwise fun a b => a < b := by
  unfold Book.of ofTk ids
  rw [List.pairwise_map]
  exact (h.sorted.filter _).filter _

theorem law_TicketsOf (va : Value) (acts : List TriM) (m0 : acts.length ≤ maxLen) (w : World) (F : List HProp) (hw : holds w (roTri va acts :: F)) :
    Calls Try.prog 5 #[va] w fun e w' => e = .returned (.bool true) ∧ holds w' F := by
  obtain ⟨a, cap, rfl, hcap⟩ := roTri_form hw
  by_cases h80 : 80 < acts.length
  · go_enter Try.func5, Try.ntmps5
    go_wp2_with fail
    refine (law32_works _ _ hw.tail).mono ?_
    rintro e w2 ⟨rfl, h2⟩
    go_wp2_with fail
    go_ret
    exact ⟨rfl, h2⟩
  · go_enter Try.func5, Try.ntmps5
    go_wp2_with fail
    refine (book_New _ _ hw).mono ?_
    rintro e w1 ⟨v, rfl, h1⟩
    obtain ⟨b, rfl⟩ : ∃ b, v = .pointer (some ⟨b, 0, none⟩) := by obtain ⟨b, _, _, _, _, e, _⟩ := open_book h1; exact ⟨b, e⟩
    clear hw
    go_wp2_with fail
    go_loopw [4] (fun i wr => ∃ (k : Nat) (l : List TicketM), k ≤ acts.length ∧ i = .int .i64 k ∧ TkOk l ∧ l.length ≤ k ∧ holds wr (bookAt (.pointer (some ⟨b, 0, none⟩)) l :: roTri (.slice a acts.length cap) acts :: F)) (fun i _ => acts.length - (intOf i).toNat)
    case atStart => exact ⟨0, [], Nat.zero_le _, rfl, TkOk.nil, Nat.zero_le _, h1⟩
    case round =>
      obtain ⟨k, l, hk, rfl, hok, hll, h2⟩ := hrel
      have HOK := Lib.hid hok
      clear hok h1
      by_cases hlt : k < acts.length
      · obtain ⟨ga, oa, ca, hv, _, hc⟩ := (h2.pick 1).triAt (by omega)
        cases hv
        have HSE := Lib.hid (show ∀ w, holds w (bookAt (.pointer (some ⟨b, 0, none⟩)) l :: roTri (.slice (some ⟨ga, oa, none⟩) acts.length cap) acts :: F) → w.cell? ⟨ga, oa + k * 3, none⟩ = some (.int .i64 acts[k].a) ∧ w.cell? ⟨ga, oa + k * 3 + 1, none⟩ = some (.int .i64 acts[k].b) ∧ w.cell? ⟨ga, oa + k * 3 + 2, none⟩ = some (.int .i64 acts[k].c) from fun w h => by
          obtain ⟨_, _, _, hv, _, hc⟩ := (h.pick 1).triAt (by omega)
          cases hv
          exact hc k hlt)
        obtain ⟨k0, k1, k2⟩ := hc k hlt
        clear hc
        generalize acts[k] = ak at k0 k1 k2 HSE
        obtain ⟨call, x, y⟩ := ak
        simp only at k0 k1 k2
        by_cases g0 : call = 0
        · subst g0
          have G2 := Lib.hid (fun w F h => book_Issue w (.pointer (some ⟨b, 0, none⟩)) l x y F (by omega) h)
          have HOL := Lib.hid (Book.issue_ok HOK.out x y)
          have hLl : (Book.issue l x y).1.length ≤ l.length + 1 := by unfold Book.issue; split <;> (try split) <;> simp
          generalize Book.issue l x y = r at G2 HOL hLl
          obtain ⟨L, id0, er⟩ := r
          simp only at G2 HOL hLl HSE
          go_wp2_with fail
          clear k0 k1 k2
          refine wp_region_loose_tail 11 (fun k => match k with  | _ => none) (bookAt (.pointer (some ⟨b, 0, none⟩)) l :: roTri (.slice (some ⟨ga, oa, none⟩) acts.length cap) acts :: F) (by kernel_rfl) (by kernel_rfl) h2 ?_
          simp only [List.take_succ_cons, List.take_zero, List.drop_succ_cons, List.drop_zero]
          refine loose_seal ?_
          iterate 11
            refine sealed_exact rfl (fun K hK => ?_)
            go_simp
            first
              | (intro w hw
                 obtain ⟨k0, k1, k2⟩ := HSE.out _ hw
                 go_simp
                 refine hK _ ?_
                 clear hK K k0 k1 k2 hw w)
              | (intro w hw
                 refine hK _ ?_
                 clear hK K hw w)
              | (refine hK _ ?_; clear hK K)
          refine sealed_nil ?_
          clear h2
          intro wq h2
          go_wp2_with fail
          refine (G2.out _ _ h2).mono ?_
          rintro e4 w4 ⟨rfl, h5⟩
          go_wp2_with fail
          go_roundw
          case rel => exact ⟨k + 1, L, by omega, by go_num, HOL.out, by omega, h5⟩
          case measure => simp [intOf]; omega
        by_cases g2 : call = 2
        · subst g2
          have G2 := Lib.hid (fun w F h => book_Grant w (.pointer (some ⟨b, 0, none⟩)) l x F (by omega) h)
          have hok2 := Book.turn_ok HOK.out x (s := 2) (by omega) (by omega)
          have HOL := Lib.hid hok2.1
          have hLl : (Book.turn l x 2).1.length ≤ l.length + 1 := by rw [hok2.2]; omega
          clear hok2 HSE
          generalize Book.turn l x 2 = r at G2 HOL hLl
          obtain ⟨L, er⟩ := r
          simp only at G2 HOL hLl
          go_wp2_with fail
          refine (G2.out _ _ h2).mono ?_
          rintro e4 w4 ⟨rfl, h5⟩
          go_wp2_with fail
          go_roundw
          case rel => exact ⟨k + 1, L, by omega, by go_num, HOL.out, by omega, h5⟩
          case measure => simp [intOf]; omega
        by_cases g3 : call = 3
        · subst g3
          have G2 := Lib.hid (fun w F h => book_Cancel w (.pointer (some ⟨b, 0, none⟩)) l x F (by omega) h)
          have hok2 := Book.turn_ok HOK.out x (s := 3) (by omega) (by omega)
          have HOL := Lib.hid hok2.1
          have hLl : (Book.turn l x 3).1.length ≤ l.length + 1 := by rw [hok2.2]; omega
          clear hok2 HSE
          generalize Book.turn l x 3 = r at G2 HOL hLl
          obtain ⟨L, er⟩ := r
          simp only at G2 HOL hLl
          go_wp2_with fail
          refine (G2.out _ _ h2).mono ?_
          rintro e4 w4 ⟨rfl, h5⟩
          go_wp2_with fail
          go_roundw
          case rel => exact ⟨k + 1, L, by omega, by go_num, HOL.out, by omega, h5⟩
          case measure => simp [intOf]; omega
        have d0 : (call == 0) = false := by simpa using g0
        have d2 : (call == 2) = false := by simpa using g2
        have d3 : (call == 3) = false := by simpa using g3
        clear g0 g2 g3 HSE
        go_wp2_with fail
        go_roundw
        case rel => exact ⟨k + 1, l, by omega, by go_num, HOK.out, by omega, h2⟩
        case measure => simp [intOf]; omega
      · obtain rfl : k = acts.length := by omega
        clear hlt
        have h3 : holds wr (bookAt (.pointer (some ⟨b, 0, none⟩)) l :: F) := h2.sel 2 [0]
        clear h2
        have hpl := pend_le l
        have HCZ := Lib.hid (cntTo_zero (pend l))
        have HCA := Lib.hid (cntTo_all HOK.out)
        have HCS := Lib.hid (cntTo_succ (pend l))
        have hcl := cntTo_le (pend l)
        have HPE := Lib.hid (show ∀ w, holds w (bookAt (.pointer (some ⟨b, 0, none⟩)) l :: F) → Calls Try.prog 30 #[.pointer (some ⟨b, 0, none⟩)] w fun e w' => ∃ (a : Option Addr) (c : Nat), e = .returned (.slice a (pend l).length c) ∧ holds w' (bookAt (.pointer (some ⟨b, 0, none⟩)) l :: F) from fun w h => by
          refine (book_Pending _ _ l F (by omega) h).mono ?_
          rintro e w1 ⟨r, rfl, h1⟩
          obtain ⟨a, c, rfl⟩ := ownRow_form h1
          exact ⟨a, c, rfl, h1.tail⟩)
        have HOF := Lib.hid (fun c w F h => book_Of w (.pointer (some ⟨b, 0, none⟩)) l c F (by omega) h)
        have HWA := Lib.hid (fun c w F h => book_Waits w (.pointer (some ⟨b, 0, none⟩)) l c F (by omega) h)
        have HGE := Lib.hid (fun x w F h => book_Get w (.pointer (some ⟨b, 0, none⟩)) l x F (by omega) h)
        have HGF := Lib.hid (fun c x hx => of_get HOK.out (c := c) (x := x) hx)
        have HSO := Lib.hid (fun c => of_sorted HOK.out c)
        have HLE := Lib.hid (fun c => of_le l c)
        have HEQ := Lib.hid (fun c => show Book.of l c = ofTk (pend l) c from rfl)
        generalize hP : pend l = P at HCZ HCA HCS hcl HPE HEQ hpl
        clear hP
        go_wp2_with fail
        go_loopw [5, 6] (fun s5 i wr => ∃ c : Nat, c ≤ 64 ∧ i = .int .i64 c ∧ s5 = .int .i64 (cntTo P c : Nat) ∧ holds wr (bookAt (.pointer (some ⟨b, 0, none⟩)) l :: F)) (fun _ i _ => 64 - (intOf i).toNat)
        case atStart => exact ⟨0, by omega, rfl, by rw [show ((0 : Nat) : Int) = 0 from rfl, HCZ.out]; rfl, h3⟩
        case round =>
          obtain ⟨c, hc, rfl, rfl, h2⟩ := hrel
          clear h3
          by_cases hlt : c < 64
          · have hcs := HCS.out c
            rw [← HEQ.out] at hcs
            have hc2 := hcl c
            have hc3 := hcl ((c : Int) + 1)
            have HG := Lib.hid (HGF.out c)
            have HS := Lib.hid (HSO.out c)
            have HO := Lib.hid (HOF.out c)
            have HW := Lib.hid (HWA.out c)
            have hq := HLE.out c
            generalize Book.of l c = q at hcs HG HS HO HW hq
            generalize cntTo P c = n at hcs hc2 ⊢
            generalize hn' : cntTo P ((c : Int) + 1) = n' at hcs hc3
            have HN2 := Lib.hid hn'
            clear hn'
            have wr1 : IntKind.i64.wrap ((n : Int) + (q.length : Int)) = (n' : Int) := by rw [hcs]; push_cast; exact IntWalk.i64_in _ (by omega)
            have HN := Lib.hid hcs
            clear hcs
            have hgt : (decide ((0 : Int) < (q.length : Int))) = decide (0 < q.length) := by simp
            generalize hB : decide (0 < q.length) = bq at HW hgt
            go_wp2_with fail
            refine (HO.out _ _ h2).mono ?_
            rintro e3 w3 ⟨r, rfl, h3⟩
            obtain ⟨a7, c7, rfl⟩ := ownInts_form h3
            have h4 : holds w3 (bookAt (.pointer (some ⟨b, 0, none⟩)) l :: ownInts (.slice a7 q.length c7) q :: F) := h3.order [1, 0]
            clear h2 h3
            go_wp2_with fail
            refine (HW.out _ _ h4).mono ?_
            rintro e5 w5 ⟨rfl, h5⟩
            go_wp2_with fail
            clear hB hgt wr1 h4
            go_loopw [8] (fun i wr => ∃ j : Nat, j ≤ q.length ∧ i = .int .i64 j ∧ holds wr (bookAt (.pointer (some ⟨b, 0, none⟩)) l :: ownInts (.slice a7 q.length c7) q :: F)) (fun i _ => q.length - (intOf i).toNat)
            case atStart => exact ⟨0, by omega, rfl, h5⟩
            case round =>
              obtain ⟨j, hj, rfl, h2⟩ := hrel
              clear h5
              by_cases hjl : j < q.length
              · obtain ⟨t, ht1, ht2, ht3⟩ := HG.out q[j] (List.getElem_mem hjl)
                have hge := HGE.out q[j]
                rw [ht1] at hge
                clear ht1
                obtain ⟨tid, tcl, tn, tst, tpa⟩ := t
                simp only at ht2 ht3
                subst ht2 ht3
                unfold tkR tkV tkCells at hge
                obtain ⟨g7, cc, hv, _, _, q0, _⟩ := (h2.pick 1).intAt j hjl
                cases hv
                have hprev : ∀ i (hi : i + 1 = j), q[i]'(by omega) < q[j] := fun i hi => List.pairwise_iff_getElem.1 HS.out i j (by omega) hjl (by omega)
                generalize hx : q[j] = x at hge q0 hprev
                have HX := Lib.hid hx
                have HGT := Lib.hid hge
                clear hx hge
                go_wp2_with fail
                refine (HGT.out _ _ h2).mono ?_
                rintro e6 w6 ⟨rfl, h6⟩
                have h7 : holds _ (blk w6.heap.size _ :: bookAt _ l :: ownInts _ q :: F) := h6.alloc (.cells #[.int .i64 tid, .int .i64 c, .int .i64 tn, .int .i64 1, .int .i64 tpa] 43 (0, 0))
                clear q0 h2 h6
                have y1 := cellAt h7.get_blk 1
                have y3 := cellAt h7.get_blk 3
                simp only [List.getElem?_toArray, List.getElem?_cons_succ, List.getElem?_cons_zero] at y1 y3
                obtain ⟨_, _, hv, _, _, q0, _⟩ := (h7.pick 2).intAt j hjl
                cases hv
                rw [HX.out] at q0
                by_cases hj0 : j = 0
                · have hz1 : decide ((0 : Int) < (j : Int)) = false := by simp [hj0]
                  have hz2 : decide (0 < j) = false := by simp [hj0]
                  clear hj0 hprev
                  go_wp2_with fail
                  go_quiet (fail)
                  go_wp2_with fail
                  go_roundw
                  case rel => exact ⟨j + 1, by omega, by go_num, (h7.drewN _).tail⟩
                  case measure => simp [intOf]; omega
                · obtain ⟨i, hi⟩ : ∃ i, i + 1 = j := ⟨j - 1, by omega⟩
                  have hlt2 := hprev i hi
                  obtain ⟨_, _, hv, _, _, q1, _⟩ := (h7.pick 2).intAt i (by omega)
                  cases hv
                  generalize q[i]'(by omega) = y at hlt2 q1
                  have hxy : decide (x ≤ y) = false := by simp; omega
                  have wrj : IntKind.i64.wrap ((j : Int) - 1) = (i : Int) := by rw [← hi, show ((i + 1 : Nat) : Int) - 1 = i by omega]; exact IntWalk.i64_in _ (by omega)
                  have hz1 : decide ((0 : Int) < (j : Int)) = true := by simp; omega
                  have hz2 : decide (0 < j) = true := by simp; omega
                  have hil : i < q.length := by omega
                  have HI := Lib.hid hi
                  clear hj0 hprev hlt2 hi
                  go_wp2_with fail
                  go_quiet (fail)
                  go_wp2_with fail
                  go_roundw
                  case rel => exact ⟨j + 1, by omega, by go_num, (h7.drewN _).tail⟩
                  case measure => simp [intOf]; omega
              · obtain rfl : j = q.length := by omega
                go_wp2_with fail
                go_roundw
                case rel => exact ⟨c + 1, by omega, by go_num, by push_cast; rw [HN2.out], h2.sel 2 [0]⟩
                case measure => simp [intOf]; omega
          · obtain rfl : c = 64 := by omega
            have e64 : cntTo P ((64 : Nat) : Int) = P.length := HCA.out
            rw [e64]
            clear e64
            go_wp2_with fail
            refine (HPE.out _ h2).mono ?_
            rintro e3 w3 ⟨a3, c3, rfl, h3⟩
            go_wp2_with fail
            refine (law32_works _ _ h3.tail).mono ?_
            rintro e4 w4 ⟨rfl, h4⟩
            go_wp2_with fail
            go_ret
            exact ⟨rfl, h4⟩
end Go.Proofs.Ytdcekeclemgkcaa
