/- Contracts of package tickets: Pending, Of, Waits. -/
import Derived.Test.YtdcekeclemgkcaaBookB
namespace Go.Proofs.Ytdcekeclemgkcaa
open Go Go.RowKit Go.MapKept
set_option maxRecDepth 100000
set_option linter.unusedVariables false
set_option maxHeartbeats 1000000

theorem wpList_appendTk {ops : Array Oper} {rest : List Oper} {o : Oper} {a : Act} {Q : Exit → Act → World → Prop} {w : World} {F : List HProp} (hg : o.guard = none) (s x : Operand)
    (hop : o.op = .call { callee := .builtin .append, args := #[s, x], argTypes := #[46, 46] })
    {v : Value} {l : List TicketM} {t : TicketM} {nb c : Nat} {T : TypeId} (hs : a.eval s = v) (hw : holds w (ownTk v l :: F)) (hx : a.eval x = .slice (some ⟨nb, 0, none⟩) 1 c)
    (hb : w.heap[nb]? = some (.cells (tkCells t) T (0, 0))) (hlen : l.length < 100000000)
    (hK : ∀ v' w', holds w' (ownTk v' (l ++ [t]) :: F) → wpList Try.prog ops Q rest (a.put o.dst v') w') : wpList Try.prog ops Q (o :: rest) a w := by
  obtain ⟨i0, hi, hz0, hz1, hz2⟩ := info_parts Try.infoTk
  exact wpList_appendElem tkL_len hg s x _ hop Try.underlying46 hi hz0 hz1 hz2 rfl (by omega) hs hw hx hb (tkL_one t) (by unfold maxLen; omega) (by omega) hK

theorem book_Pending (w : World) (v : Value) (l : List TicketM) (F : List HProp) (hl : l.length ≤ 1048576) (hw : holds w (bookAt v l :: F)) :
    Calls Try.prog 30 #[v] w fun e w' => ∃ r, e = .returned r ∧ holds w' (ownTk r (pend l) :: bookAt v l :: F) := by
  go_enter Try.func30, Try.ntmps30
  go_wp2_with fail
  refine (book_is _ _ _ _ hw).mono ?_
  rintro e w1 ⟨rfl, h1⟩
  obtain ⟨b, a, c, bm, m, rfl, hm, h⟩ := open_book h1
  clear h1 hw
  have c0 := cellAt h.get_blk 0
  have c1 := cellAt h.get_blk 1
  simp at c0 c1
  have hpl := pend_le l
  have hpa := fun (k : Nat) (hk : k < (pend l).length) => pend_at hm.ok (List.getElem_mem hk)
  have hlen := fun ty => run_len_sl (P := Try.prog) (t := 60) (ty := ty) Try.underlying60 (h.pick 2)
  rw [hm.length] at hlen
  have HS := Lib.hid hm.sort
  have HW := Lib.hid (hm.wf hl)
  have HL := Lib.hid hm.length
  have HM := Lib.hid hm
  clear hm
  generalize hP : pend l = P at hpl hpa hlen HS HL
  have HPP := Lib.hid hP
  clear hP
  have HPA := Lib.hid hpa
  clear hpa
  obtain ⟨i0, hi, hz0, hz1, hz2⟩ := info_parts Try.infoTk
  have hmk := run_make_sl (P := Try.prog) (t := 46) Try.underlying46 hi hz0 hz1 h .i64 .i64 (x := 0) (c := P.length) (by omega) (by omega) (by rw [hz2]; omega) (by omega)
  obtain ⟨hmk, h3⟩ := hmk
  simp only [Int.toNat_natCast, Int.toNat_zero, Nat.zero_mul, List.take_zero] at hmk h3
  clear hi hz0 hz1 hz2
  generalize w1.alloc (.cells (madeCells (tkV tk0).cells (P.length * 5)) 43 (0, 0)) = w2 at hmk h3
  have d0 := cellAt (h3.pick 1).get_blk 0
  have d1 := cellAt (h3.pick 1).get_blk 1
  simp at d0 d1
  go_wp2_with fail
  clear h hlen hmk c0 c1
  refine (Try.keysIU_call _ bm _ h3).mono ?_
  rintro e w3 ⟨rfl, h4⟩
  have h5 : holds w3 (_ :: imap unitV bm m :: ownTk _ [] :: blk b _ :: ownTk _ l :: F) := h4.sel 5 [0, 4, 1, 2, 3]
  clear h3 h4
  go_wp2_with fail
  refine (Try.sortedIU_call unitV _ bm _ _ _ h5 HW.out (by rw [HL.out]; omega)).mono ?_
  rintro e w4 ⟨v', rfl, h6⟩
  rw [HS.out] at h6
  have hil : (ids P).length = P.length := by simp [ids]
  obtain ⟨a', c', rfl⟩ := ownInts_form h6
  rw [hil] at h6 ⊢
  clear h5 d0 d1
  go_wp2_with fail
  go_loopw [3, 5, 22] (fun out _ i wr => ∃ k : Nat, k ≤ P.length ∧ i = .int .i64 k ∧ holds wr (ownTk out (P.take k) :: ownInts (.slice a' P.length c') (ids P) :: imap unitV bm m :: blk b (.cells #[.slice a l.length c, .map (some bm)] 62 (0, 0)) :: ownTk (.slice a l.length c) l :: F)) (fun _ _ i _ => P.length - (intOf i).toNat)
  case atStart => exact ⟨0, Nat.zero_le _, rfl, h6.order [2, 0, 1]⟩
  case round =>
    obtain ⟨k, hk, rfl, h2⟩ := hrel
    clear h6
    by_cases hlt : k < P.length
    · obtain ⟨j, hj, hx, hlj⟩ := HPA.out k hlt
      obtain ⟨g, cp, he, hc1, hc2, k0, _⟩ := holds.intAt (h2.pick 1) k (by rw [hil]; exact hlt)
      rw [hil] at he
      cases he
      have hx2 : (ids P)[k]'(by rw [hil]; exact hlt) = (j : Int) + 1 := by simp [ids, hx]
      rw [hx2] at k0
      obtain ⟨g2, cp2, he, hc3, hc4, hcell⟩ := holds.tkAt (h2.pick 4) (by omega)
      cases he
      obtain ⟨k1, k2, k3, k4, k5⟩ := hcell j hj
      have c0 := cellAt (h2.pick 3).get_blk 0
      simp at c0
      generalize hy : (j : Int) + 1 = y at k0
      have wr2 : IntKind.i64.wrap (y - 1) = (j : Int) := by rw [← hy, Int.add_sub_cancel]; exact IntWalk.i64_in _ (by omega)
      have hs : P.take (k + 1) = P.take k ++ [l[j]] := by rw [hlj, List.take_succ_eq_append_getElem hlt]
      have HS2 := Lib.hid hs
      have hql : (P.take k).length ≤ P.length := by simp; omega
      generalize P.take k = q at h2 HS2 hql
      clear hy hx hx2 hlj hcell hs
      generalize l[j] = t at k1 k2 k3 k4 k5 HS2
      go_wp2_with (at_builtin; (refine wpList_appendTk (t := t) rfl _ _ rfl rfl (h2.alloc _).tail rfl (h2.alloc _).get_blk (by omega) ?_); clear k0 k1 k2 k3 k4 k5 c0; intro v4 w4 h4)
      go_roundw
      case rel => exact ⟨k + 1, by omega, by go_num, by rw [HS2.out]; exact h4⟩
      case measure => simp [intOf]; omega
    · have hkl : k = P.length := by omega
      subst hkl
      rw [List.take_length] at h2
      go_wp2_with fail
      go_ret
      have h9 : holds wr (bookAt _ l :: ownTk _ P :: F) := shut_book HM.out (h2.sel 5 [3, 4, 2, 0])
      rw [← HPP.out] at h9
      exact ⟨_, rfl, h9.sel 2 [1, 0]⟩

def ofTk (P : List TicketM) (c : Int) : List Int := ids (P.filter fun t => t.client == c)
def Book.of (l : List TicketM) (c : Int) : List Int := ofTk (pend l) c
theorem ofTk_succ (P : List TicketM) (c : Int) (k : Nat) (hk : k < P.length) : ofTk (P.take (k + 1)) c = ofTk (P.take k) c ++ if P[k].client = c then [P[k].id] else [] := by
  rw [List.take_succ_eq_append_getElem hk]
  unfold ofTk ids
  rw [List.filter_append, List.map_append]
  by_cases h : P[k].client = c <;> simp [h]
theorem ofTk_le (P : List TicketM) (c : Int) : (ofTk P c).length ≤ P.length := by
  unfold ofTk ids
  rw [List.length_map]
  exact List.length_filter_le _ _

theorem book_Of (w : World) (v : Value) (l : List TicketM) (cl : Int) (F : List HProp) (hl : l.length ≤ 1048576) (hw : holds w (bookAt v l :: F)) :
    Calls Try.prog 27 #[v, .int .i64 cl] w fun e w' => ∃ r, e = .returned r ∧ holds w' (ownInts r (Book.of l cl) :: bookAt v l :: F) := by
  have hpl := pend_le l
  have H := Lib.hid (book_Pending w v l F hl hw)
  unfold Book.of
  generalize pend l = P at hpl H ⊢
  go_enter Try.func27, Try.ntmps27
  go_wp2_with fail
  refine H.out.mono ?_
  rintro e w1 ⟨r, rfl, h1⟩
  clear H
  obtain ⟨a, c, rfl⟩ := ownRow_form h1
  clear hw
  go_wp2_with fail
  go_loopw [5, 11] (fun out i wr => ∃ k : Nat, k ≤ P.length ∧ i = .int .i64 k ∧ holds wr (ownInts out (ofTk (P.take k) cl) :: ownTk (.slice a P.length c) P :: bookAt v l :: F)) (fun _ i _ => P.length - (intOf i).toNat)
  case atStart => exact ⟨0, Nat.zero_le _, rfl, holds_ownRow_nil h1 _ _⟩
  case round =>
    obtain ⟨k, hk, rfl, h2⟩ := hrel
    clear h1
    by_cases hlt : k < P.length
    · obtain ⟨g2, cp2, he, hc3, hc4, hcell⟩ := holds.tkAt (h2.pick 1) (by omega)
      cases he
      obtain ⟨k1, k2, k3, k4, k5⟩ := hcell k hlt
      have hs := ofTk_succ P cl k hlt
      have hql := ofTk_le (P.take k) cl
      have hql2 : (P.take k).length ≤ P.length := by simp; omega
      generalize ofTk (P.take k) cl = q at h2 hs hql
      generalize P[k] = t at k1 k2 k3 k4 k5 hs
      clear hcell
      by_cases hx : t.client = cl
      · rw [if_pos hx] at hs
        have HS := Lib.hid hs
        rw [hx] at k2
        clear hs hx
        go_wp2_with (at_builtin; (refine wpList_appendInt (y := t.id) rfl _ _ rfl rfl ((h2.alloc _).tail.alloc _).tail rfl (by simp) (by omega) ?_); clear k1 k2 k3 k4 k5; intro v4 w4 h4)
        go_roundw
        case rel => exact ⟨k + 1, by omega, by go_num, by rw [HS.out]; exact h4⟩
        case measure => simp [intOf]; omega
      · have hb2 : (t.client == cl) = false := by simpa using hx
        rw [if_neg hx, List.append_nil] at hs
        have HS := Lib.hid hs
        clear hs
        go_wp2_with fail
        go_roundw
        case rel => exact ⟨k + 1, by omega, by go_num, by rw [HS.out]; exact (h2.alloc _).tail⟩
        case measure => simp [intOf]; omega
    · have hkl : k = P.length := by omega
      subst hkl
      rw [List.take_length] at h2
      go_wp2_with fail
      go_ret
      exact ⟨_, rfl, h2.sel 2 [0]⟩

theorem book_Waits (w : World) (v : Value) (l : List TicketM) (cl : Int) (F : List HProp) (hl : l.length ≤ 1048576) (hw : holds w (bookAt v l :: F)) :
    Calls Try.prog 28 #[v, .int .i64 cl] w fun e w' => e = .returned (.bool (decide (0 < (Book.of l cl).length))) ∧ holds w' (bookAt v l :: F) := by
  have H := Lib.hid (book_Of w v l cl F hl hw)
  generalize Book.of l cl = q at H ⊢
  go_enter Try.func28, Try.ntmps28
  go_wp2_with fail
  refine H.out.mono ?_
  rintro e w1 ⟨r, rfl, h1⟩
  obtain ⟨a, c, rfl⟩ := ownInts_form h1
  by_cases hn : 0 < q.length
  · go_wp2_with fail
    go_ret
    exact ⟨by simp [hn], h1.tail⟩
  · obtain rfl : q = [] := List.eq_nil_of_length_eq_zero (by omega)
    simp only [List.length_nil]
    go_wp2_with fail
    go_ret
    exact ⟨by simp, h1.tail⟩
end Go.Proofs.Ytdcekeclemgkcaa
