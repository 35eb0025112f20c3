/- Contracts of package tickets: what turns one ticket. -/
import Derived.Test.YtdcekeclemgkcaaBook
namespace Go.Proofs.Ytdcekeclemgkcaa
open Go Go.RowKit Go.MapKept
set_option maxRecDepth 100000
set_option linter.unusedVariables false
set_option maxHeartbeats 1000000
attribute [local go_sem] exactUpon looseUpon

theorem ticket_turn_ok {t u : TicketM} {s : Int} (h1 : 1 ≤ s) (h3 : s ≤ 3) (h : Ticket.turn t s = (u, 0)) : u.id = t.id ∧ Ticket.right u = true ∧ u.state = s ∧ t.state = 1 ∧ u.client = t.client := by
  have hc : Ticket.check t = 0 := by
    unfold Ticket.turn at h
    by_cases hc : Ticket.check t = 0
    · exact hc
    · rw [if_neg hc] at h; injection h with _ h
  have hr : Ticket.right t = true ∧ t.state = 1 := by
    unfold Ticket.check at hc
    split at hc
    · cases hc
    · rename_i h4
      split at hc
      · rename_i h5; exact ⟨by simpa using h4, h5⟩
      · cases hc
  unfold Ticket.turn at h
  rw [if_pos hc] at h
  have hR := hr.1
  simp [Ticket.right, Ticket.win] at hR
  split at h
  · rename_i hs
    split at h
    · injection h with _ h; cases h
    · injection h with h _
      subst h
      refine ⟨rfl, ?_, hr.2.trans hs.symm, hr.2, rfl⟩
      simp [Ticket.right, Ticket.win]; omega
  · injection h with h _
    subst h
    refine ⟨rfl, ?_, rfl, hr.2, rfl⟩
    simp [Ticket.right, Ticket.win]; omega
def Book.turn (l : List TicketM) (id s : Int) : List TicketM × Int :=
  if (Book.get l id).2 ≠ 0 then (l, (Book.get l id).2)
  else if (Ticket.turn (Book.get l id).1 s).2 ≠ 0 then (l, (Ticket.turn (Book.get l id).1 s).2)
  else (l.set (id - 1).toNat (Ticket.turn (Book.get l id).1 s).1, 0)
theorem Book.get_ok {l : List TicketM} {id : Int} (h : (Book.get l id).2 = 0) : ∃ (k : Nat) (hk : k < l.length), id - 1 = k ∧ (Book.get l id).1 = l[k] := by
  unfold Book.get at *
  split at h
  · cases h
  · rename_i h1
    rw [if_neg h1]
    have hk : (id - 1).toNat < l.length := by omega
    exact ⟨(id - 1).toNat, hk, by omega, by rw [List.getD_eq_getElem?_getD, List.getElem?_eq_getElem hk]; rfl⟩
theorem Book.turn_ok {l : List TicketM} (h : TkOk l) (id : Int) {s : Int} (h1 : 1 ≤ s) (h3 : s ≤ 3) : TkOk (Book.turn l id s).1 ∧ (Book.turn l id s).1.length = l.length := by
  unfold Book.turn
  split
  · exact ⟨h, rfl⟩
  · rename_i h4
    split
    · exact ⟨h, rfl⟩
    · rename_i h5
      obtain ⟨k, hk, h6, h7⟩ := Book.get_ok (by simpa using h4)
      have h8 := ticket_turn_ok (t := (Book.get l id).1) (u := (Ticket.turn (Book.get l id).1 s).1) h1 h3 (by rw [← show (Ticket.turn (Book.get l id).1 s).2 = 0 by simpa using h5])
      have e : (id - 1).toNat = k := by omega
      rw [e]
      exact ⟨h.set hk (by rw [h8.1, h7]) h8.2.1, by simp⟩

theorem book_do (fid : FuncId) (hcf : ∀ args w, (callFunc fid args).run Try.prog w = .ok (.enter fid args) w) (s : Int) (h1 : 1 ≤ s) (h3 : s ≤ 3) (HF : ∀ t w F, holds w F → Calls Try.prog fid #[tkV t] w fun e w' => e = .returned (tkR (Ticket.turn t s)) ∧ holds w' F)
    (w : World) (v : Value) (l : List TicketM) (id : Int) (F : List HProp) (hl : l.length ≤ 1048576) (hw : holds w (bookAt v l :: F)) :
    Calls Try.prog 92 #[v, .int .i64 id, .agg #[.func (.func fid) #[] #[]]] w fun e w' => e = .returned (.int .i64 (Book.turn l id s).2) ∧ holds w' (bookAt v (Book.turn l id s).1 :: F) := by
  have hb : holds _ (bookAt v l :: blk _ _ :: F) := (hw.alloc (.cells #[.func (.func fid) #[] #[]] 170 (0, 0))).order [1, 0]
  have HG := Lib.hid (fun h => Book.get_ok (l := l) (id := id) h)
  have HO := Lib.hid (fun t u => ticket_turn_ok (t := t) (u := u) h1 h3)
  unfold Book.turn
  have H := Lib.hid (fun w F h => book_Get w v l id F hl h)
  generalize Book.get l id = r at H HG ⊢
  obtain ⟨t, e⟩ := r
  simp only at HG ⊢
  unfold tkR tkV tkCells at H
  by_cases h0 : e ≠ 0
  · rw [if_pos h0]
    clear HG HO
    go_enter Try.func92, Try.ntmps92
    go_wp2_with fail
    refine (H.out _ _ hb).mono ?_
    rintro e w1 ⟨rfl, h1⟩
    have h2 := (h1.alloc (.cells (tkCells t) 43 (0, 0))).tail
    unfold tkCells at h2
    go_wp2_with fail
    go_ret
    exact ⟨rfl, h2.sel 2 [0]⟩
  · rw [if_neg h0]
    obtain rfl : e = 0 := by simpa using h0
    obtain ⟨k, hk, hid, htk⟩ := HG.out rfl
    clear h0 HG
    have HT := Lib.hid htk
    clear htk
    have HU := Lib.hid (fun w F h => HF t w F h)
    unfold tkR tkV at HU
    have HO2 := Lib.hid (fun u => HO.out t u)
    clear HO
    generalize Ticket.turn t s = r at HU HO2 ⊢
    obtain ⟨u, e⟩ := r
    simp only at HU HO2 ⊢
    by_cases hz : e ≠ 0
    · rw [if_pos hz]
      clear HO2
      go_enter Try.func92, Try.ntmps92
      go_wp2_with fail
      refine (H.out _ _ hb).mono ?_
      rintro e w1 ⟨rfl, h1⟩
      have h2 := h1.alloc (.cells (tkCells t) 43 (0, 0))
      have p0 := cellAt (h2.pick 2).get_blk 0
      simp at p0
      unfold tkCells at h2 p0 HU
      go_wp2_with fail
      refine (HU.out _ _ h2).mono ?_
      rintro e w2 ⟨rfl, h3⟩
      obtain ⟨r0, r1, r2, r3, r4, f0, f1, f2, f33, f4⟩ := tk_cells (t := t) h3
      have h4 := store5 (t := t) h3 u
      go_wp2_with fail
      go_ret
      exact ⟨rfl, h4.sel 3 [1]⟩
    · rw [if_neg hz]
      obtain rfl : e = 0 := by simpa using hz
      obtain ⟨o1, o2, o3, o4, -⟩ := HO2.out u rfl
      have HS := Lib.hid (And.intro o1 (And.intro o2 (And.intro o3 o4)))
      clear o1 o2 o3 o4 hz HO2
      have e2 : (id - 1).toNat = k := by omega
      rw [e2]
      have hi2 : id = k + 1 := by omega
      have wr : IntKind.i64.wrap (id - 1) = (k : Int) := by rw [hid]; exact IntWalk.i64_in _ (by omega)
      have HI := Lib.hid hi2
      clear hid e2 hi2
      go_enter Try.func92, Try.ntmps92
      go_wp2_with fail
      refine (H.out _ _ hb).mono ?_
      rintro e w1 ⟨rfl, h1⟩
      have h2 := h1.alloc (.cells (tkCells t) 43 (0, 0))
      have p0 := cellAt (h2.pick 2).get_blk 0
      simp at p0
      unfold tkCells at h2 p0 HU
      go_wp2_with fail
      refine (HU.out _ _ h2).mono ?_
      rintro e w2 ⟨rfl, h3⟩
      clear HU H p0
      obtain ⟨r0, r1, r2, r3, r4, f0, f1, f2, f33, f4⟩ := tk_cells (t := t) h3
      have h4 := (store5 (t := t) h3 u).order [1, 0, 2]
      obtain ⟨b, a, c, bm, m, rfl, hm, h5⟩ := open_book h4
      have h6 : holds _ (blk w1.heap.size (.cells (tkCells u) 43 (0, 0)) :: blk b _ :: ownTk _ l :: imap unitV bm m :: blk w.heap.size _ :: F) := h5.order [3, 0, 1, 2]
      clear h4 h5 h3 h2 hb
      obtain ⟨g, cap, he, hc1, hc2, hcell⟩ := holds.tkAt (h6.pick 2) (by omega)
      cases he
      clear hcell
      have HM := Lib.hid hm
      clear hm
      have HSE := Lib.hid (show ∀ x, holds x (blk w1.heap.size (.cells (tkCells u) 43 (0, 0)) :: blk b (.cells #[.slice (some ⟨g, 0, none⟩) l.length c, .map (some bm)] 62 (0, 0)) :: ownTk (.slice (some ⟨g, 0, none⟩) l.length c) l :: imap unitV bm m :: blk w.heap.size (.cells #[.func (.func fid) #[] #[]] 170 (0, 0)) :: F) → x.cell? ⟨b, 0, none⟩ = some (.slice (some ⟨g, 0, none⟩) l.length c) ∧ _ from fun x h => And.intro (cellAt (h.pick 1).get_blk 0) (tk_cells (t := u) h))
      go_wp2_with fail
      clear r0 r1 r2 r3 r4 f0 f1 f2 f33 f4
      refine wp_region_loose_tail 7 (fun k => match k with  | _ => none) (blk w1.heap.size (.cells (tkCells u) 43 (0, 0)) :: blk b (.cells #[.slice (some ⟨g, 0, none⟩) l.length c, .map (some bm)] 62 (0, 0)) :: ownTk (.slice (some ⟨g, 0, none⟩) l.length c) l :: imap unitV bm m :: blk w.heap.size (.cells #[.func (.func fid) #[] #[]] 170 (0, 0)) :: F) (by kernel_rfl) (by kernel_rfl) h6 ?_
      simp only [List.take_succ_cons, List.take_zero, List.drop_succ_cons, List.drop_zero]
      refine loose_seal ?_
      iterate 7
        refine sealed_exact rfl (fun K hK => ?_)
        go_simp
        first
          | (intro w hw
             obtain ⟨c0, k0, k1, k2, k3, k4, k5, k6, k7, k8, k9⟩ := HSE.out _ hw
             go_simp
             refine hK _ ?_
             clear hK K c0 k0 k1 k2 k3 k4 k5 k6 k7 k8 k9 hw w)
          | (intro w hw
             refine hK _ ?_
             clear hK K hw w)
          | (refine hK _ ?_; clear hK K)
      refine sealed_nil ?_
      clear h6
      intro wq h6
      have h7 : holds wq (ownTk (.slice (some ⟨g, 0, none⟩) l.length c) l :: blk w1.heap.size (.cells (tkCells u) 43 (0, 0)) :: blk b _ :: imap unitV bm m :: blk w.heap.size _ :: F) := h6.order [2, 0, 1]
      clear h6
      have o3 := HS.out.2.2.1
      by_cases hs : s = 1
      · subst hs
        have HO3 := Lib.hid o3
        clear o3
        go_wp2_with (refine wpList_setElem tkL_len rfl rfl _ _ _ rfl (tkV u) u rfl rfl rfl (by kernel_rfl) (tkL_one u) h7 hk ?_; intro w6 h6; obtain ⟨_, _, _, q3, _⟩ := tk_cells (t := u) (h6.pick 1); rw [HO3.out] at q3)
        go_ret
        refine ⟨rfl, ?_⟩
        obtain ⟨o1, o2, o3, o4⟩ := HS.out
        have hp := HM.out.stay k hk (t := u) (by rw [o1, HT.out]) o2 (by rw [o3, ← HT.out, o4])
        exact shut_book hp (h6.sel 5 [2, 0, 3])
      · have HO3 := Lib.hid o3
        clear o3
        go_wp2_with (first
          | (at_delete; refine wpList_delete_sl rfl rfl _ _ _ rfl Try.underlying60 Try.underlying3 rfl _ rfl h8 ?_; intro w7 h9)
          | (refine wpList_setElem tkL_len rfl rfl _ _ _ rfl (tkV u) u rfl rfl rfl (by kernel_rfl) (tkL_one u) h7 hk ?_; intro w6 h6; obtain ⟨_, _, _, q3, _⟩ := tk_cells (t := u) (h6.pick 1); rw [HO3.out] at q3; have c1 := cellAt (h6.pick 2).get_blk 1; simp at c1; have h8 := h6.order [3, 0, 1, 2]))
        go_ret
        refine ⟨rfl, ?_⟩
        obtain ⟨o1, o2, o3, o4⟩ := HS.out
        have hp := HM.out.leave k hk (t := u) (by rw [o1, HT.out]) o2 (by rw [o3]; exact hs) (by rw [← HT.out, o4])
        rw [← HI.out] at hp
        exact shut_book hp (h9.sel 5 [3, 1, 0])

theorem book_Grant (w : World) (v : Value) (l : List TicketM) (id : Int) (F : List HProp) (hl : l.length ≤ 1048576) (hw : holds w (bookAt v l :: F)) :
    Calls Try.prog 25 #[v, .int .i64 id] w fun e w' => e = .returned (.int .i64 (Book.turn l id 2).2) ∧ holds w' (bookAt v (Book.turn l id 2).1 :: F) := by
  go_enter Try.func25, Try.ntmps25
  go_wp2_with fail
  refine (book_do 93 (fun _ _ => rfl) 2 (by omega) (by omega) ticket_Grant _ _ l id F hl hw).mono ?_
  rintro e w1 ⟨rfl, h1⟩
  go_wp2_with fail
  go_ret
  exact ⟨rfl, h1⟩
theorem book_Cancel (w : World) (v : Value) (l : List TicketM) (id : Int) (F : List HProp) (hl : l.length ≤ 1048576) (hw : holds w (bookAt v l :: F)) :
    Calls Try.prog 26 #[v, .int .i64 id] w fun e w' => e = .returned (.int .i64 (Book.turn l id 3).2) ∧ holds w' (bookAt v (Book.turn l id 3).1 :: F) := by
  go_enter Try.func26, Try.ntmps26
  go_wp2_with fail
  refine (book_do 94 (fun _ _ => rfl) 3 (by omega) (by omega) ticket_Cancel _ _ l id F hl hw).mono ?_
  rintro e w1 ⟨rfl, h1⟩
  go_wp2_with fail
  go_ret
  exact ⟨rfl, h1⟩
theorem book_Pass (w : World) (v : Value) (l : List TicketM) (id : Int) (F : List HProp) (hl : l.length ≤ 1048576) (hw : holds w (bookAt v l :: F)) :
    Calls Try.prog 33 #[v, .int .i64 id] w fun e w' => e = .returned (.int .i64 (Book.turn l id 1).2) ∧ holds w' (bookAt v (Book.turn l id 1).1 :: F) := by
  go_enter Try.func33, Try.ntmps33
  go_wp2_with fail
  refine (book_do 99 (fun _ _ => rfl) 1 (by omega) (by omega) ticket_Pass _ _ l id F hl hw).mono ?_
  rintro e w1 ⟨rfl, h1⟩
  go_wp2_with fail
  go_ret
  exact ⟨rfl, h1⟩
end Go.Proofs.Ytdcekeclemgkcaa
