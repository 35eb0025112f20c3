/- Contracts of the reference of chapter 32: what only reads. -/
import Derived.Test.YtdcekeclemgkcaaBookD
import Derived.Test.YtdcekeclemgkcaaBookC
namespace Go.Proofs.Ytdcekeclemgkcaa
open Go Go.RowKit Go.MapKept
set_option maxRecDepth 100000
set_option linter.unusedVariables false
set_option maxHeartbeats 1000000

def roTk (v : Value) (l : List TicketM) : HProp := roRow 5 v l.length (l.flatMap tkL)
theorem holds.shareTk {w : World} {F : List HProp} {v : Value} {l : List TicketM} (h : holds w (ownTk v l :: F)) : holds w (roTk v l :: F) := holds.shareRow h
theorem holds.dupTk {w : World} {F : List HProp} {v : Value} {l : List TicketM} (h : holds w (roTk v l :: F)) : holds w (roTk v l :: roTk v l :: F) := holds.dupRow h
theorem roTk_form {w : World} {F : List HProp} {v : Value} {l : List TicketM} (h : holds w (roTk v l :: F)) : ∃ a cap, v = .slice a l.length cap ∧ l.length ≤ cap := (holds.roReads h).form
theorem holds.roTkAt {w : World} {F : List HProp} {v : Value} {l : List TicketM} (hw : holds w (roTk v l :: F)) (h0 : 0 < l.length) :
    ∃ g off cap, v = .slice (some ⟨g, off, none⟩) l.length cap ∧ l.length ≤ cap ∧ ∀ (i : Nat) (hi : i < l.length), w.cell? ⟨g, off + i * 5, none⟩ = some (.int .i64 l[i].id) ∧ w.cell? ⟨g, off + i * 5 + 1, none⟩ = some (.int .i64 l[i].client) ∧ w.cell? ⟨g, off + i * 5 + 2, none⟩ = some (.int .i64 l[i].count) ∧ w.cell? ⟨g, off + i * 5 + 3, none⟩ = some (.int .i64 l[i].state) ∧ w.cell? ⟨g, off + i * 5 + 4, none⟩ = some (.int .i64 l[i].passed) := by
  obtain ⟨g, off, cap, h1, h2, h4⟩ := holds.roElemAt tkL_len hw h0 (by omega)
  refine ⟨g, off, cap, h1, h2, fun i hi => ⟨h4 i hi 0 (by omega), h4 i hi 1 (by omega), h4 i hi 2 (by omega), h4 i hi 3 (by omega), h4 i hi 4 (by omega)⟩⟩

theorem pend_succ (l : List TicketM) (k : Nat) (hk : k < l.length) : pend (l.take (k + 1)) = pend (l.take k) ++ if l[k].state = 1 then [l[k]] else [] := by
  rw [List.take_succ_eq_append_getElem hk]
  unfold pend
  rw [List.filter_append]
  by_cases h : l[k].state = 1 <;> simp [h]

theorem ref32_Pending (w : World) (v : Value) (l : List TicketM) (F : List HProp) (hl : l.length ≤ 10000000) (hw : holds w (roTk v l :: F)) :
    Calls Try.prog 38 #[v] w fun e w' => ∃ r, e = .returned r ∧ holds w' (ownTk r (pend l) :: roTk v l :: F) := by
  obtain ⟨a, c, rfl, hc⟩ := roTk_form hw
  go_enter Try.func38, Try.ntmps38
  go_wp2_with fail
  go_loopw [3, 4] (fun out i wr => ∃ k : Nat, k ≤ l.length ∧ i = .int .i64 k ∧ holds wr (ownTk out (pend (l.take k)) :: roTk (.slice a l.length c) l :: F)) (fun _ i _ => l.length - (intOf i).toNat)
  case atStart => exact ⟨0, Nat.zero_le _, rfl, holds_ownRow_nil hw _ _⟩
  case round =>
    obtain ⟨k, hk, rfl, h2⟩ := hrel
    clear hw
    by_cases hlt : k < l.length
    · obtain ⟨g2, off, cp2, he, hc3, hcell⟩ := holds.roTkAt (h2.pick 1) (by omega)
      cases he
      obtain ⟨k1, k2, k3, k4, k5⟩ := hcell k hlt
      have hs := pend_succ l k hlt
      have hql := pend_le (l.take k)
      have hql2 : (l.take k).length ≤ l.length := by simp; omega
      generalize pend (l.take k) = q at h2 hs hql
      generalize l[k] = t at k1 k2 k3 k4 k5 hs
      clear hcell
      by_cases hx : t.state = 1
      · rw [if_pos hx] at hs
        obtain ⟨ti, tc, tn, ts, tp⟩ := t
        simp only at hx k1 k2 k3 k4 k5
        subst hx
        have HS := Lib.hid hs
        clear hs
        go_wp2_with (at_builtin; (refine wpList_appendTk (t := ⟨ti, tc, tn, 1, tp⟩) rfl _ _ rfl rfl (h2.alloc _).tail rfl (h2.alloc _).get_blk (by omega) ?_); clear k1 k2 k3 k4 k5; intro v4 w4 h4)
        go_roundw
        case rel => exact ⟨k + 1, by omega, by go_num, by rw [HS.out]; exact h4⟩
        case measure => simp [intOf]; omega
      · have hb2 : (t.state == 1) = false := by simpa using hx
        rw [if_neg hx, List.append_nil] at hs
        have HS := Lib.hid hs
        clear hs hx
        go_wp2_with fail
        go_roundw
        case rel => exact ⟨k + 1, by omega, by go_num, by rw [HS.out]; exact h2⟩
        case measure => simp [intOf]; omega
    · have hkl : k = l.length := by omega
      subst hkl
      rw [List.take_length] at h2
      go_wp2_with fail
      go_ret
      exact ⟨_, rfl, h2⟩

theorem of_succ (l : List TicketM) (c : Int) (k : Nat) (hk : k < l.length) : Book.of (l.take (k + 1)) c = Book.of (l.take k) c ++ if l[k].state = 1 ∧ l[k].client = c then [l[k].id] else [] := by
  unfold Book.of ofTk
  rw [pend_succ l k hk, List.filter_append]
  unfold ids
  rw [List.map_append]
  by_cases h : l[k].state = 1 <;> by_cases h2 : l[k].client = c <;> simp [h, h2]
theorem of_le (l : List TicketM) (c : Int) : (Book.of l c).length ≤ l.length := Nat.le_trans (ofTk_le _ _) (pend_le _)

theorem ref32_Of (w : World) (v : Value) (l : List TicketM) (cl : Int) (F : List HProp) (hl : l.length ≤ 10000000) (hw : holds w (roTk v l :: F)) :
    Calls Try.prog 36 #[v, .int .i64 cl] w fun e w' => ∃ r, e = .returned r ∧ holds w' (ownInts r (Book.of l cl) :: roTk v l :: F) := by
  obtain ⟨a, c, rfl, hc⟩ := roTk_form hw
  go_enter Try.func36, Try.ntmps36
  go_wp2_with fail
  go_loopw [5, 6] (fun out i wr => ∃ k : Nat, k ≤ l.length ∧ i = .int .i64 k ∧ holds wr (ownInts out (Book.of (l.take k) cl) :: roTk (.slice a l.length c) l :: F)) (fun _ i _ => l.length - (intOf i).toNat)
  case atStart => exact ⟨0, Nat.zero_le _, rfl, holds_ownRow_nil hw _ _⟩
  case round =>
    obtain ⟨k, hk, rfl, h2⟩ := hrel
    clear hw
    by_cases hlt : k < l.length
    · obtain ⟨g2, off, cp2, he, hc3, hcell⟩ := holds.roTkAt (h2.pick 1) (by omega)
      cases he
      obtain ⟨k1, k2, k3, k4, k5⟩ := hcell k hlt
      have hs := of_succ l cl k hlt
      have hql := of_le (l.take k) cl
      have hql2 : (l.take k).length ≤ l.length := by simp; omega
      generalize Book.of (l.take k) cl = q at h2 hs hql
      generalize l[k] = t at k1 k2 k3 k4 k5 hs
      clear hcell k3 k5
      by_cases hx : t.state = 1
      · rw [hx] at k4
        by_cases hy : t.client = cl
        · rw [if_pos ⟨hx, hy⟩] at hs
          rw [hy] at k2
          have HS := Lib.hid hs
          clear hs hx hy
          go_wp2_with (at_builtin; (refine wpList_appendInt (y := t.id) rfl _ _ rfl rfl (h2.alloc _).tail rfl (by simp) (by omega) ?_); clear k1 k2 k4; intro v4 w4 h4)
          go_roundw
          case rel => exact ⟨k + 1, by omega, by go_num, by rw [HS.out]; exact h4⟩
          case measure => simp [intOf]; omega
        · have hb2 : (t.client == cl) = false := by simpa using hy
          rw [if_neg (fun h => hy h.2), List.append_nil] at hs
          have HS := Lib.hid hs
          clear hs hx hy
          go_wp2_with fail
          go_roundw
          case rel => exact ⟨k + 1, by omega, by go_num, by rw [HS.out]; exact h2⟩
          case measure => simp [intOf]; omega
      · have hb2 : (t.state == 1) = false := by simpa using hx
        rw [if_neg (fun h => hx h.1), List.append_nil] at hs
        have HS := Lib.hid hs
        clear hs hx
        go_wp2_with fail
        go_roundw
        case rel => exact ⟨k + 1, by omega, by go_num, by rw [HS.out]; exact h2⟩
        case measure => simp [intOf]; omega
    · have hkl : k = l.length := by omega
      subst hkl
      rw [List.take_length] at h2
      go_wp2_with fail
      go_ret
      exact ⟨_, rfl, h2⟩

theorem ref32_Get (w : World) (v : Value) (l : List TicketM) (id : Int) (F : List HProp) (hok : TkOk l) (hl : l.length ≤ 10000000) (hw : holds w (roTk v l :: F)) :
    Calls Try.prog 34 #[v, .int .i64 id] w fun e w' => e = .returned (tkR (Book.get l id)) ∧ holds w' (roTk v l :: F) := by
  obtain ⟨a, c, rfl, hc⟩ := roTk_form hw
  have hb := hw.alloc (.cells (tkCells tk0) 43 (0, 0))
  have HOK := Lib.hid hok
  clear hok
  obtain ⟨r, hr⟩ : ∃ r, Book.get l id = r := ⟨_, rfl⟩
  rw [hr]
  have HR := Lib.hid hr
  clear hr
  unfold tkCells tk0 at hb
  go_enter Try.func34, Try.ntmps34
  go_wp2_with fail
  go_loopw [6] (fun i wr => ∃ k : Nat, k ≤ l.length ∧ i = .int .i64 k ∧ ¬ (1 ≤ id ∧ id ≤ k) ∧ holds wr (blk w.heap.size (.cells #[.int .i64 0, .int .i64 0, .int .i64 0, .int .i64 0, .int .i64 0] 43 (0, 0)) :: roTk (.slice a l.length c) l :: F)) (fun i _ => l.length - (intOf i).toNat)
  case atStart => exact ⟨0, Nat.zero_le _, rfl, by omega, hb⟩
  case round =>
    obtain ⟨k, hk, rfl, hno, h2⟩ := hrel
    clear hw hb
    obtain ⟨r0, r1, r2, r3, r4, f0, f1, f2, f33, f4⟩ := tk_cells (t := tk0) h2
    by_cases hlt : k < l.length
    · obtain ⟨g2, off, cp2, he, hc3, hcell⟩ := holds.roTkAt (h2.pick 1) (by omega)
      cases he
      obtain ⟨k1, k2, k3, k4, k5⟩ := hcell k hlt
      rw [HOK.out.at_ k hlt] at k1
      generalize hy : (k : Int) + 1 = y at k1
      clear hcell
      have hg : id = y → Book.get l id = (l[k], 0) := fun e => by
        unfold Book.get
        rw [if_neg (by omega)]
        have e1 : (id - 1).toNat = k := by omega
        rw [e1]
        simp [hlt]
      have hid2 : l[k].id = y := by rw [HOK.out.at_ k hlt, hy]
      by_cases hx : y = id
      · have hg := hg hx.symm
        obtain rfl : r = (l[k], 0) := by rw [← HR.out, hg]
        clear hg
        subst hx
        generalize ht : l[k] = t at k2 k3 k4 k5 hid2
        have HT := Lib.hid ht
        clear ht
        have HI := Lib.hid hid2
        have HY := Lib.hid hy
        clear hid2 hy hno
        go_wp2_with fail
        have h4 := store5 (t := tk0) h2 t
        rw [HI.out] at h4
        refine bodyPost_ret (v := tkR (t, 0)) ?_ rfl ⟨by rw [HT.out], h4.tail⟩
        exact results_row_tmp Try.results34 _ _ w.heap.size _ _ _ _ _ rfl rfl h4.get_blk Try.underlying43 rfl Try.sizeTk
      · have hb2 : (y == id) = false := by simpa using hx
        have HY := Lib.hid (And.intro hy hx)
        clear hg hid2 hy hx
        go_wp2_with fail
        go_roundw
        case rel => exact ⟨k + 1, by omega, by go_num, by have := HY.out.1; have := HY.out.2; omega, h2⟩
        case measure => simp [intOf]; omega
    · have hkl : k = l.length := by omega
      subst hkl
      have e : Book.get l id = (tk0, 12) := by
        unfold Book.get
        rw [if_pos (by omega)]
      obtain rfl : r = (tk0, 12) := by rw [← HR.out, e]
      clear e hno
      go_wp2_with fail
      have h4 := store5 (t := tk0) h2 tk0
      refine bodyPost_ret (v := tkR (tk0, 12)) ?_ rfl ⟨rfl, h4.tail⟩
      exact results_row_tmp Try.results34 _ _ w.heap.size _ _ _ _ _ rfl rfl h4.get_blk Try.underlying43 rfl Try.sizeTk
end Go.Proofs.Ytdcekeclemgkcaa
