/- The law TicketsMost. -/
import Derived.Test.YtdcekeclemgkcaaBookE
import Derived.Test.YtdcekeclemgkcaaLaw32
namespace Go.Proofs.Ytdcekeclemgkcaa
open Go Go.RowKit Go.MapKept
set_option maxRecDepth 100000
set_option linter.unusedVariables false
set_option maxHeartbeats 2000000

def mk32 (c : Int) (k : Nat) : List TicketM := (List.range k).map fun (j : Nat) => ⟨(j : Int) + 1, c, (j : Int) + 1, 1, 0⟩
theorem mk32_len (c : Int) (k : Nat) : (mk32 c k).length = k := by simp [mk32]
theorem mk32_succ (c : Int) (k : Nat) : mk32 c (k + 1) = mk32 c k ++ [⟨(k : Int) + 1, c, (k : Int) + 1, 1, 0⟩] := by simp [mk32, List.range_succ]
theorem mk32_at (c : Int) (k j : Nat) (h : j < (mk32 c k).length) : (mk32 c k)[j] = ⟨(j : Int) + 1, c, (j : Int) + 1, 1, 0⟩ := by simp [mk32]
theorem pend_all {l : List TicketM} (h : ∀ t ∈ l, t.state = 1) : pend l = l := List.filter_eq_self.2 fun t ht => by simp [h t ht]
theorem mk32_state {c : Int} {k : Nat} : ∀ t ∈ mk32 c k, t.state = 1 := fun t ht => by
  simp only [mk32, List.mem_map] at ht
  obtain ⟨j, _, rfl⟩ := ht
  rfl
theorem mk32_client {c : Int} {k : Nat} : ∀ t ∈ mk32 c k, t.client = c := fun t ht => by
  simp only [mk32, List.mem_map] at ht
  obtain ⟨j, _, rfl⟩ := ht
  rfl
theorem mk32_issue (c : Int) (h0 : 0 ≤ c) (h1 : c ≤ 63) (k : Nat) (hk : k < 256) : Book.issue (mk32 c k) c ((k : Int) + 1) = (mk32 c (k + 1), (k : Int) + 1, 0) := by
  have hr : Ticket.right ⟨(k : Int) + 1, c, (k : Int) + 1, 1, 0⟩ = true := by simp [Ticket.right, Ticket.win]; omega
  unfold Book.issue Ticket.new
  rw [mk32_len, if_pos hr, pend_all mk32_state, mk32_len, if_neg (by simp), if_neg (by omega), mk32_succ]
theorem mk32_full (c : Int) (h0 : 0 ≤ c) (h1 : c ≤ 63) : Book.issue (mk32 c 256) c 1 = (mk32 c 256, 0, 10) := by
  have hr : Ticket.right ⟨((256 : Nat) : Int) + 1, c, 1, 1, 0⟩ = true := by simp [Ticket.right, Ticket.win]; omega
  unfold Book.issue Ticket.new
  rw [mk32_len, if_pos hr, pend_all mk32_state, mk32_len, if_neg (by simp), if_pos (by omega)]
def mk32c (c : Int) (d : Nat) : List TicketM := (mk32 c 256).set d ⟨(d : Int) + 1, c, (d : Int) + 1, 3, 0⟩
theorem mk32_cancel (c : Int) (h0 : 0 ≤ c) (h1 : c ≤ 63) (d : Nat) (hd : d < 256) : Book.turn (mk32 c 256) (1 + d) 3 = (mk32c c d, 0) := by
  have hg : Book.get (mk32 c 256) (1 + d) = (⟨(d : Int) + 1, c, (d : Int) + 1, 1, 0⟩, 0) := by
    unfold Book.get
    rw [mk32_len, if_neg (by omega), show ((1 : Int) + d - 1).toNat = d by omega, List.getD_eq_getElem?_getD, List.getElem?_eq_getElem (by rw [mk32_len]; exact hd), mk32_at]
    rfl
  have hr : Ticket.right ⟨(d : Int) + 1, c, (d : Int) + 1, 1, 0⟩ = true := by simp [Ticket.right, Ticket.win]; omega
  unfold Book.turn
  rw [hg]
  simp [Ticket.turn, Ticket.check, hr, mk32c, show ((1 : Int) + d - 1).toNat = d by omega]
theorem filter_set_one {α : Type} (p : α → Bool) : ∀ (l : List α) (k : Nat) (hk : k < l.length) (u : α), p l[k] = true → p u = false → ((l.set k u).filter p).length + 1 = (l.filter p).length
  | a :: l, 0, _, u, h1, h2 => by simp at h1; simp [h1, h2]
  | a :: l, k + 1, hk, u, h1, h2 => by
    have := filter_set_one p l k (by simpa using hk) u (by simpa using h1) h2
    by_cases ha : p a = true <;> simp [ha] <;> omega
  | [], k, hk, _, _, _ => by simp at hk
theorem mk32c_pend (c : Int) (d : Nat) (hd : d < 256) : (pend (mk32c c d)).length = 255 := by
  have := filter_set_one (fun t : TicketM => t.state == 1) (mk32 c 256) d (by rw [mk32_len]; exact hd) ⟨(d : Int) + 1, c, (d : Int) + 1, 3, 0⟩ (by rw [mk32_at]; rfl) rfl
  have h2 : ((mk32 c 256).filter fun t : TicketM => t.state == 1).length = 256 := by
    have := congrArg List.length (pend_all (l := mk32 c 256) mk32_state)
    rw [mk32_len] at this
    exact this
  unfold pend mk32c
  omega
theorem mk32c_len (c : Int) (d : Nat) : (mk32c c d).length = 256 := by simp [mk32c, mk32_len]
def mk32d (c : Int) (d : Nat) : List TicketM := mk32c c d ++ [⟨257, c, 1, 1, 0⟩]
theorem mk32c_issue (c : Int) (h0 : 0 ≤ c) (h1 : c ≤ 63) (d : Nat) (hd : d < 256) : Book.issue (mk32c c d) c 1 = (mk32d c d, 257, 0) := by
  have hr : Ticket.right ⟨((256 : Nat) : Int) + 1, c, 1, 1, 0⟩ = true := by simp [Ticket.right, Ticket.win]; omega
  unfold Book.issue Ticket.new
  rw [mk32c_len, if_pos hr, mk32c_pend c d hd, if_neg (by simp), if_neg (by omega)]
  rfl
theorem mk32d_len (c : Int) (d : Nat) : (mk32d c d).length = 257 := by simp [mk32d, mk32c_len]
theorem mk32d_get (c : Int) (d : Nat) (hd : d < 256) : Book.get (mk32d c d) (1 + d) = (⟨(d : Int) + 1, c, (d : Int) + 1, 3, 0⟩, 0) := by
  unfold Book.get
  rw [mk32d_len, if_neg (by omega), show ((1 : Int) + d - 1).toNat = d by omega, List.getD_eq_getElem?_getD]
  unfold mk32d mk32c
  rw [List.getElem?_append_left (by simp [mk32_len]; omega), List.getElem?_set_self (by rw [mk32_len]; exact hd)]
  rfl
theorem mk32d_pend (c : Int) (d : Nat) (hd : d < 256) : (pend (mk32d c d)).length = 256 := by
  have := mk32c_pend c d hd
  unfold pend at *
  unfold mk32d
  rw [List.filter_append]
  simp [this]
theorem mk32d_of (c : Int) (d : Nat) (hd : d < 256) : (Book.of (mk32d c d) c).length = 256 := by
  have h : ∀ t ∈ pend (mk32d c d), t.client = c := fun t ht => by
    have h1 := (pend_mem.1 ht).1
    unfold mk32d mk32c at h1
    rcases List.mem_append.1 h1 with h2 | h2
    · rcases List.mem_or_eq_of_mem_set h2 with h3 | h3
      · exact mk32_client t h3
      · subst h3; rfl
    · simp at h2; subst h2; rfl
  unfold Book.of ofTk ids
  rw [List.length_map, List.filter_eq_self.2 fun t ht => by simp [h t ht]]
  exact mk32d_pend c d hd

theorem law_TicketsMost (cl : Int) (c0 : 0 ≤ cl) (c1 : cl ≤ 255) (dn : Int) (d0 : 0 ≤ dn) (d1 : dn ≤ 255) (w : World) (F : List HProp) (hw : holds w F) :
    Calls Try.prog 7 #[.int .u8 cl, .int .u8 dn] w fun e w' => e = .returned (.bool true) ∧ holds w' F := by
  obtain ⟨d, rfl⟩ := Int.eq_ofNat_of_zero_le d0
  have hd : d < 256 := by omega
  have hm0 : 0 ≤ cl.tmod 64 := Int.tmod_nonneg _ c0
  have hm1 : cl.tmod 64 ≤ 63 := by have := Int.tmod_lt_of_pos cl (show (0 : Int) < 64 by omega); omega
  generalize hc : cl.tmod 64 = c at hm0 hm1
  have wrc : IntKind.i64.wrap cl = cl := IntWalk.i64_in _ (by omega)
  have wrd : IntKind.i64.wrap (d : Int) = d := IntWalk.i64_in _ (by omega)
  have wrm : IntKind.i64.wrap c = c := IntWalk.i64_in _ (by omega)
  have wr1 : IntKind.i64.wrap (1 + (d : Int)) = 1 + d := IntWalk.i64_in _ (by omega)
  have O1 := Lib.hid (show ∀ w v (k : Nat), k < 256 → ∀ F, holds w (bookAt v (mk32 c k) :: F) → Calls Try.prog 24 #[v, .int .i64 c, .int .i64 ((k : Int) + 1)] w fun e w' => e = .returned (.tuple #[.int .i64 ((k : Int) + 1), .int .i64 0]) ∧ holds w' (bookAt v (mk32 c (k + 1)) :: F) from fun w v k hk F h => by
    have := book_Issue w v (mk32 c k) c ((k : Int) + 1) F (by rw [mk32_len]; omega) h
    rw [mk32_issue c hm0 hm1 k hk] at this
    exact this)
  have O2 := Lib.hid (show ∀ w v F, holds w (bookAt v (mk32 c 256) :: F) → Calls Try.prog 24 #[v, .int .i64 c, .int .i64 1] w fun e w' => e = .returned (.tuple #[.int .i64 0, .int .i64 10]) ∧ holds w' (bookAt v (mk32 c 256) :: F) from fun w v F h => by
    have := book_Issue w v (mk32 c 256) c 1 F (by rw [mk32_len]; omega) h
    rw [mk32_full c hm0 hm1] at this
    exact this)
  have O3 := Lib.hid (show ∀ w v F, holds w (bookAt v (mk32 c 256) :: F) → Calls Try.prog 26 #[v, .int .i64 (1 + (d : Int))] w fun e w' => e = .returned (.int .i64 0) ∧ holds w' (bookAt v (mk32c c d) :: F) from fun w v F h => by
    have := book_Cancel w v (mk32 c 256) (1 + d) F (by rw [mk32_len]; omega) h
    rw [mk32_cancel c hm0 hm1 d hd] at this
    exact this)
  have O4 := Lib.hid (show ∀ w v F, holds w (bookAt v (mk32c c d) :: F) → Calls Try.prog 24 #[v, .int .i64 c, .int .i64 1] w fun e w' => e = .returned (.tuple #[.int .i64 257, .int .i64 0]) ∧ holds w' (bookAt v (mk32d c d) :: F) from fun w v F h => by
    have := book_Issue w v (mk32c c d) c 1 F (by rw [mk32c_len]; omega) h
    rw [mk32c_issue c hm0 hm1 d hd] at this
    exact this)
  have O5 := Lib.hid (show ∀ w v F, holds w (bookAt v (mk32d c d) :: F) → Calls Try.prog 29 #[v, .int .i64 (1 + (d : Int))] w fun e w' => e = .returned (.tuple #[.agg #[.int .i64 ((d : Int) + 1), .int .i64 c, .int .i64 ((d : Int) + 1), .int .i64 3, .int .i64 0], .int .i64 0]) ∧ holds w' (bookAt v (mk32d c d) :: F) from fun w v F h => by
    have := book_Get w v (mk32d c d) (1 + d) F (by rw [mk32d_len]; omega) h
    rw [mk32d_get c d hd] at this
    exact this)
  have O6 := Lib.hid (show ∀ w v F, holds w (bookAt v (mk32d c d) :: F) → Calls Try.prog 30 #[v] w fun e w' => ∃ (a : Option Addr) (cp : Nat), e = .returned (.slice a 256 cp) ∧ holds w' (bookAt v (mk32d c d) :: F) from fun w v F h => by
    refine (book_Pending w v (mk32d c d) F (by rw [mk32d_len]; omega) h).mono ?_
    rintro e w1 ⟨r, rfl, h1⟩
    obtain ⟨a, cp, rfl⟩ := ownRow_form h1
    rw [mk32d_pend c d hd]
    exact ⟨a, cp, rfl, h1.tail⟩)
  have O7 := Lib.hid (show ∀ w v F, holds w (bookAt v (mk32d c d) :: F) → Calls Try.prog 27 #[v, .int .i64 c] w fun e w' => ∃ (a : Option Addr) (cp : Nat), e = .returned (.slice a 256 cp) ∧ holds w' (bookAt v (mk32d c d) :: F) from fun w v F h => by
    refine (book_Of w v (mk32d c d) c F (by rw [mk32d_len]; omega) h).mono ?_
    rintro e w1 ⟨r, rfl, h1⟩
    obtain ⟨a, cp, rfl⟩ := ownInts_form h1
    rw [mk32d_of c d hd]
    exact ⟨a, cp, rfl, h1.tail⟩)
  have HCC := Lib.hid hc
  go_enter Try.func7, Try.ntmps7
  go_wp2_with fail
  refine (book_New _ _ hw).mono ?_
  rintro e w1 ⟨v, rfl, h1⟩
  obtain ⟨b, rfl⟩ : ∃ b, v = .pointer (some ⟨b, 0, none⟩) := by obtain ⟨b, _, _, _, _, e, _⟩ := open_book h1; exact ⟨b, e⟩
  have h1 : holds w1 (bookAt (.pointer (some ⟨b, 0, none⟩)) (mk32 c 0) :: F) := h1
  clear hw
  go_wp2_with fail
  go_loopw [7] (fun i wr => ∃ k : Nat, k ≤ 256 ∧ i = .int .i64 ((k : Int) + 1) ∧ holds wr (bookAt (.pointer (some ⟨b, 0, none⟩)) (mk32 c k) :: F)) (fun i _ => 257 - (intOf i).toNat)
  case atStart => exact ⟨0, by omega, rfl, h1⟩
  case round =>
    obtain ⟨k, hk, rfl, h2⟩ := hrel
    clear h1
    by_cases hlt : k < 256
    · have hle : ((k : Int) + 1 ≤ 256) := by omega
      have HK := Lib.hid hlt
      have HI := Lib.hid (fun w h => O1.out w (.pointer (some ⟨b, 0, none⟩)) k hlt F h)
      generalize hy : (k : Int) + 1 = y at HI hle ⊢
      have wry : IntKind.i64.wrap (y + 1) = y + 1 := IntWalk.i64_in _ (by omega)
      have HY := Lib.hid hy
      clear hy hlt
      go_wp2_with fail
      refine (HI.out _ h2).mono ?_
      rintro e w3 ⟨rfl, h3⟩
      go_wp2_with fail
      go_roundw
      case rel => exact ⟨k + 1, by have := HK.out; omega, by have := HY.out; rw [← this]; push_cast; rfl, h3⟩
      case measure => have := HY.out; simp [intOf]; omega
    · obtain rfl : k = 256 := by omega
      clear O1 hlt
      go_wp2_with fail
      refine (O2.out _ _ _ h2).mono ?_
      rintro e w3 ⟨rfl, h3⟩
      go_wp2_with fail
      refine (O3.out _ _ _ h3).mono ?_
      rintro e w4 ⟨rfl, h4⟩
      go_wp2_with fail
      refine (O4.out _ _ _ h4).mono ?_
      rintro e w5 ⟨rfl, h5⟩
      go_wp2_with fail
      refine (O5.out _ _ _ h5).mono ?_
      rintro e w6 ⟨rfl, h6⟩
      have h7 : holds _ (bookAt (.pointer (some ⟨b, 0, none⟩)) (mk32d c d) :: blk (w6.alloc _).heap.size (.cells #[.slice none 0 0, .map none] 62 (0, 0)) :: blk w6.heap.size _ :: F) := ((h6.alloc (.cells #[.int .i64 ((d : Int) + 1), .int .i64 c, .int .i64 ((d : Int) + 1), .int .i64 3, .int .i64 0] 43 (0, 0))).alloc (.cells #[.slice none 0 0, .map none] 62 (0, 0))).order [2, 0, 1]
      rw [World.size_alloc] at h7
      have hn : ∀ F, NoBook (.pointer none) F := fun F => .inl rfl
      have hz : NoBook (.pointer (some ⟨w6.heap.size + 1, 0, none⟩)) (bookAt (.pointer (some ⟨b, 0, none⟩)) (mk32d c d) :: blk (w6.heap.size + 1) (.cells #[.slice none 0 0, .map none] 62 (0, 0)) :: blk w6.heap.size (.cells #[.int .i64 ((d : Int) + 1), .int .i64 c, .int .i64 ((d : Int) + 1), .int .i64 3, .int .i64 0] 43 (0, 0)) :: F) := .inr ⟨_, rfl, fun w h => ⟨cellAt (h.pick 1).get_blk 0, cellAt (h.pick 1).get_blk 1⟩⟩
      have HN := Lib.hid hn
      have HZ := Lib.hid hz
      clear hn hz h1 h2 h3 h4 h5 h6 O2 O3 O4 O5
      go_wp2_with fail
      refine (nobook_Issue _ _ _ _ _ (HN.out _) h7).mono ?_
      rintro e w8 ⟨rfl, h8⟩
      go_wp2_with fail
      refine (nobook_Get _ _ _ _ HZ.out h8).mono ?_
      rintro e w9 ⟨rfl, h9⟩
      unfold tkR tkV
      have h10 := (h9.alloc (.cells (tkCells tk0) 43 (0, 0)))
      have x3 := cellAt (h10.pick 3).get_blk 3
      simp only [List.getElem?_toArray, List.getElem?_cons_succ, List.getElem?_cons_zero] at x3
      have h10 := h10.tail
      unfold tkCells tk0 at *
      clear h7 h8 h9
      go_wp2_with fail
      refine (O6.out _ _ _ h10).mono ?_
      rintro e w11 ⟨a1, p1, rfl, h11⟩
      go_wp2_with fail
      refine (O7.out _ _ _ h11).mono ?_
      rintro e w12 ⟨a2, p2, rfl, h12⟩
      go_wp2_with fail
      refine (nobook_Pass _ _ _ _ (HN.out _) h12).mono ?_
      rintro e w13 ⟨rfl, h13⟩
      clear x3 h10 h11 h12
      go_wp2_with fail
      refine (nobook_Grant _ _ _ _ HZ.out h13).mono ?_
      rintro e w14 ⟨rfl, h14⟩
      go_wp2_with fail
      refine (nobook_Pending _ _ _ (HN.out _) h14).mono ?_
      rintro e w15 ⟨rfl, h15⟩
      go_wp2_with fail
      refine (nobook_Of _ _ _ _ HZ.out h15).mono ?_
      rintro e w16 ⟨rfl, h16⟩
      go_wp2_with fail
      refine (nobook_Len _ _ _ (HN.out _) h16).mono ?_
      rintro e w17 ⟨rfl, h17⟩
      go_wp2_with fail
      refine (nobook_Len _ _ _ HZ.out h17).mono ?_
      rintro e w18 ⟨rfl, h18⟩
      go_wp2_with fail
      refine (nobook_Waits _ _ _ _ (HN.out _) h18).mono ?_
      rintro e w19 ⟨rfl, h19⟩
      go_wp2_with fail
      refine (law32_works _ _ h19).mono ?_
      rintro e w20 ⟨rfl, h20⟩
      go_wp2_with fail
      go_ret
      exact ⟨rfl, h20.tail.tail.tail⟩
end Go.Proofs.Ytdcekeclemgkcaa
