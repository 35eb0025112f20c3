/- Contracts of package tickets: Issue. -/
import Derived.Test.YtdcekeclemgkcaaBook
namespace Go.Proofs.Ytdcekeclemgkcaa
open Go Go.RowKit Go.MapKept
set_option maxRecDepth 100000
set_option linter.unusedVariables false
set_option maxHeartbeats 1000000
attribute [local go_sem] exactUpon looseUpon

theorem Try.infoTk : (Try.prog.info? 43).map (fun i => (i.zero, i.size, i.bytes)) = some (some (tkV tk0), 5, 40) := by kernel_rfl
/-- 'append(v, t)' at an operation, t boxed. -/
theorem tok_appTk {w : World} {G : List HProp} {o : Oper} {a : Act} (s x : Operand) (hop : o.op = .call { callee := .builtin .append, args := #[s, x], argTypes := #[46, 46] })
    {v : Value} {l : List TicketM} {t : TicketM} {nb cap : Nat} {T : TypeId} (hs : a.eval s = v) (hx : a.eval x = .slice (some ⟨nb, 0, none⟩) 1 cap) (hcap : 1 ≤ cap) (hw : holds w (ownTk v l :: blk nb (.cells (tkCells t) T (0, 0)) :: G)) (hl : l.length + 1 ≤ 100000000) :
    looseUpon Try.prog (fun u w' => (∃ (a : Option Addr) (cap : Nat), u = .slice a (l.length + 1) cap) ∧ holds w' (ownTk u (l ++ [t]) :: blk nb (.cells (tkCells t) T (0, 0)) :: G)) ((execOp a.eval o).run Try.prog w) := by
  obtain ⟨i0, hi, hz0, hz1, hz2⟩ := info_parts Try.infoTk
  refine tok_append s x _ hop Try.underlying46 hi hz0 hz1 hz2 rfl (by omega) hs hw hx (blk_reads (hw.pick 1) 5 1 cap (by simp [tkCells]) hcap) (tkL_one t) (by unfold maxLen; omega) (by omega) fun v' w' h => ?_
  have h2 : holds w' (ownTk v' (l ++ [t]) :: blk nb (.cells (tkCells t) T (0, 0)) :: G) := by
    unfold ownTk
    rw [List.length_append, List.flatMap_append]
    simpa [tkL] using h
  obtain ⟨a1, c1, e1⟩ := ownRow_form h2
  exact ⟨⟨a1, c1, by rw [e1, List.length_append]; rfl⟩, h2⟩

theorem ticket_new_ok {i c n : Int} (h : (Ticket.new i c n).2 = 0) : (Ticket.new i c n).1.id = i ∧ Ticket.right (Ticket.new i c n).1 = true ∧ (Ticket.new i c n).1.state = 1 ∧ (Ticket.new i c n).1.client = c := by
  unfold Ticket.new at *
  split at h
  · rename_i h1; rw [if_pos h1]; exact ⟨rfl, h1, rfl, rfl⟩
  · cases h
def Book.issue (l : List TicketM) (c n : Int) : List TicketM × Int × Int :=
  if (Ticket.new (l.length + 1) c n).2 ≠ 0 then (l, 0, (Ticket.new (l.length + 1) c n).2)
  else if 256 ≤ (pend l).length ∨ (1048576 : Int) < (l.length : Int) + 1 then (l, 0, 10) else (l ++ [(Ticket.new (l.length + 1) c n).1], l.length + 1, 0)
theorem Book.issue_ok {l : List TicketM} (h : TkOk l) (c n : Int) : TkOk (Book.issue l c n).1 := by
  unfold Book.issue
  split
  · exact h
  · rename_i h1
    split
    · exact h
    · have := ticket_new_ok (i := l.length + 1) (c := c) (n := n) (by simpa using h1)
      exact h.push this.1 this.2.1

theorem book_Issue (w : World) (v : Value) (l : List TicketM) (c n : Int) (F : List HProp) (hl : l.length ≤ 10000000) (hw : holds w (bookAt v l :: F)) :
    Calls Try.prog 24 #[v, .int .i64 c, .int .i64 n] w fun e w' => e = .returned (.tuple #[.int .i64 (Book.issue l c n).2.1, .int .i64 (Book.issue l c n).2.2]) ∧ holds w' (bookAt v (Book.issue l c n).1 :: F) := by
  have HT := Lib.hid (fun h => ticket_new_ok (i := l.length + 1) (c := c) (n := n) h)
  unfold Book.issue
  have H := Lib.hid (fun w F h => ticket_New (l.length + 1) c n w F h)
  generalize Ticket.new (l.length + 1) c n = r at H HT ⊢
  obtain ⟨u, e⟩ := r
  simp only at HT ⊢
  generalize hN : (l.length : Int) + 1 = N at H HT ⊢
  have HN := Lib.hid hN
  have wr : IntKind.i64.wrap ((l.length : Int) + 1) = N := by rw [hN]; exact IntWalk.i64_in _ (by omega)
  clear hN
  unfold tkR tkV tkCells at H
  by_cases h0 : e ≠ 0
  · rw [if_pos h0]
    have H0 := Lib.hid h0
    clear HT
    go_enter Try.func24, Try.ntmps24
    go_wp2_with fail
    refine (book_is _ _ _ _ hw).mono ?_
    rintro e w1 ⟨rfl, h1⟩
    obtain ⟨b, a, cp, bm, m, rfl, hm, h2⟩ := open_book h1
    have c0 := cellAt h2.get_blk 0
    simp at c0
    clear h2 hm
    go_wp2_with fail
    refine (H.out _ _ h1).mono ?_
    rintro e w2 ⟨rfl, h2⟩
    have h2 := (h2.alloc (.cells (tkCells u) 43 (0, 0))).tail
    unfold tkCells at h2
    go_wp2_with fail
    go_ret2
    exact ⟨rfl, h2⟩
  · rw [if_neg h0]
    obtain rfl : e = 0 := by simpa using h0
    have HT2 := Lib.hid (HT.out rfl)
    clear h0 HT
    by_cases hfull : 256 ≤ (pend l).length ∨ (1048576 : Int) < N
    · rw [if_pos hfull]
      go_enter Try.func24, Try.ntmps24
      have HF := Lib.hid hfull
      clear hfull
      go_wp2_with fail
      refine (book_is _ _ _ _ hw).mono ?_
      rintro e w1 ⟨rfl, h1⟩
      obtain ⟨b, a, cp, bm, m, rfl, hm, h2⟩ := open_book h1
      have c0 := cellAt h2.get_blk 0
      simp at c0
      clear h2 hm
      go_wp2_with fail
      refine (H.out _ _ h1).mono ?_
      rintro e w2 ⟨rfl, h2⟩
      have h2 := (h2.alloc (.cells (tkCells u) 43 (0, 0))).tail
      unfold tkCells at h2
      clear c0
      obtain ⟨b', a', cp', bm', m', hb, hm, h3⟩ := open_book h2
      have c1 := cellAt h3.get_blk 1
      have c0 := cellAt h3.get_blk 0
      cases hb
      simp at c1 c0
      have hlen := fun ty => run_len_sl (P := Try.prog) (t := 60) (ty := ty) Try.underlying60 (h3.pick 2)
      rw [hm.length] at hlen
      have hf := HF.out
      generalize (pend l).length = q at hlen hf
      have hN := HN.out
      by_cases hq : 256 ≤ q
      · clear hN hf
        go_wp2_with fail
        go_ret2
        exact ⟨rfl, h2⟩
      · have hN : (1048576 : Int) < N := by omega
        clear hf
        go_wp2_with fail
        go_ret2
        exact ⟨rfl, h2⟩
    · rw [if_neg hfull]
      go_enter Try.func24, Try.ntmps24
      have HF := Lib.hid hfull
      clear hfull
      go_wp2_with fail
      refine (book_is _ _ _ _ hw).mono ?_
      rintro e w1 ⟨rfl, h1⟩
      obtain ⟨b, a, cp, bm, m, rfl, hm, h2⟩ := open_book h1
      have c0 := cellAt h2.get_blk 0
      simp at c0
      clear h1
      have HM := Lib.hid hm
      clear hm
      go_wp2_with fail
      refine (H.out _ _ h2).mono ?_
      rintro e w2 ⟨rfl, h2⟩
      have h3 : holds _ (ownTk _ l :: blk b _ :: blk w2.heap.size _ :: imap unitV bm m :: F) := (h2.alloc (.cells (tkCells u) 43 (0, 0))).order [2, 1, 0, 3]
      unfold tkCells at h3
      clear h2 c0
      have c0 := cellAt (h3.pick 1).get_blk 0
      have c1 := cellAt (h3.pick 1).get_blk 1
      simp at c1 c0
      have hlen := fun ty => run_len_sl (P := Try.prog) (t := 60) (ty := ty) Try.underlying60 (h3.pick 3)
      rw [HM.out.length] at hlen
      have hf := HF.out
      generalize (pend l).length = q at hlen hf
      have hN := HN.out
      have hq : q < 256 := by omega
      have hN2 : N ≤ 1048576 := by omega
      have hl2 : l.length + 1 ≤ 100000000 := by omega
      clear hf hN
      have HSE := Lib.hid (show ∀ w, holds w (blk w2.heap.size (.cells (tkCells u) 43 (0, 0)) :: imap unitV bm m :: F) → _ from fun w h => tk_cells (t := u) h)
      go_wp2_with fail
      clear c0 c1 hlen
      refine wp_region_tok [⟨none, some 7, [], fun _ => ownTk (.slice a l.length cp) l⟩, ⟨some 7, none, [49], fun vs => ownTk (vs.getD 0 undef) (l ++ [u])⟩, ⟨none, some 10, [], fun _ => blk b (.cells #[.slice a l.length cp, .map (some bm)] 62 (0, 0))⟩, ⟨some 10, none, [49], fun vs => blk b (.cells #[vs.getD 0 undef, .map (some bm)] 62 (0, 0))⟩, ⟨some 6, none, [48], fun vs => blk (sliceBlk (vs.getD 0 undef)) (.cells (tkCells u) 43 (0, 0))⟩] (fun k => match k with | 4 => ⟨none, [], [2], []⟩ | 6 => ⟨some (fun u => ∃ n : Nat, u = .slice (some ⟨n, 0, none⟩) 1 1), [], [], [4]⟩ | 7 => ⟨some (fun u => ∃ (a : Option Addr) (cap : Nat), u = .slice a (l.length + 1) cap), [0], [4], [1]⟩ | 10 => ⟨some (fun u => u = undef), [2], [], [3]⟩ | _ => ⟨none, [], [], []⟩) (blk w2.heap.size (.cells (tkCells u) 43 (0, 0)) :: imap unitV bm m :: F) [0, 2] [1, 3, 4] (by kernel_rfl) (by kernel_rfl) h3 ?_
      iterate 4
        refine tok_exact rfl (fun K hK => ?_)
        go_simp
        first
          | (intro w hw
             obtain ⟨k0, k1, k2, k3, k4, k5, k6, k7, k8, k9⟩ := HSE.out _ hw
             go_simp
             refine hK _ ?_
             clear hK K k0 k1 k2 k3 k4 k5 k6 k7 k8 k9 hw w)
          | (intro w hw
             refine hK _ ?_
             clear hK K hw w)
          | (refine hK _ ?_; clear hK K)
      refine tok_sees (k := 4) ([blk b (.cells #[.slice a l.length cp, .map (some bm)] 62 (0, 0))]) (by rfl) rfl rfl (by go_simp) (fun K hK => ?_)
      intro w hw
      have hw : holds w (blk b _ :: _) := hw
      have c0 := cellAt hw.get_blk 0
      simp at c0
      go_simp
      refine hK _ ?_
      clear hK K
      iterate 1
        refine tok_exact rfl (fun K hK => ?_)
        go_simp
        first
          | (intro w hw
             obtain ⟨k0, k1, k2, k3, k4, k5, k6, k7, k8, k9⟩ := HSE.out _ hw
             go_simp
             refine hK _ ?_
             clear hK K k0 k1 k2 k3 k4 k5 k6 k7 k8 k9 hw w)
          | (intro w hw
             refine hK _ ?_
             clear hK K hw w)
          | (refine hK _ ?_; clear hK K)
      refine tok_op (k := 6) ([]) ([]) (fun v => [blk (sliceBlk v) (.cells (tkCells u) 43 (0, 0))]) (by rfl) (by rfl) rfl (by go_simp) (fun u hu => ?_) (fun w F hw => ?_) (fun u hu => ?_)
      · obtain ⟨nb, rfl⟩ := hu
        rfl
      · go_simp
        exact (show holds w (_) from hw).alloc _
      obtain ⟨nb, rfl⟩ := hu
      refine tok_op (k := 7) ([ownTk (.slice a l.length cp) l]) ([blk nb (.cells (tkCells u) 43 (0, 0))]) (fun v => [ownTk v (l ++ [u])]) (by rfl) (by rfl) rfl (by go_simp) (fun u hu => ?_) (fun w F hw => ?_) (fun u hu => ?_)
      · obtain ⟨av, cv, rfl⟩ := hu
        rfl
      · exact tok_appTk (t := u) (.tmp 46) (.tmp 48) rfl rfl rfl (by omega) hw hl2
      obtain ⟨av, cv, rfl⟩ := hu
      iterate 2
        refine tok_exact rfl (fun K hK => ?_)
        go_simp
        first
          | (intro w hw
             obtain ⟨k0, k1, k2, k3, k4, k5, k6, k7, k8, k9⟩ := HSE.out _ hw
             go_simp
             refine hK _ ?_
             clear hK K k0 k1 k2 k3 k4 k5 k6 k7 k8 k9 hw w)
          | (intro w hw
             refine hK _ ?_
             clear hK K hw w)
          | (refine hK _ ?_; clear hK K)
      refine tok_op (k := 10) ([blk b (.cells #[.slice a l.length cp, .map (some bm)] 62 (0, 0))]) ([]) (fun _ => [blk b (.cells #[.slice av (l.length + 1) cv, .map (some bm)] 62 (0, 0))]) (by rfl) (by rfl) rfl (by go_simp) (fun u hu => ?_) (fun w F hw => ?_) (fun u hu => ?_)
      · obtain rfl := hu
        rfl
      · have hw : holds w (blk b _ :: _) := hw
        have c0 := cellAt hw.get_blk 0
        have f0 := frozen_of_row _ b 0 _ _ hw.get_blk
        simp at c0
        go_simp
        exact hw.setCell 0 _
      obtain rfl := hu
      refine tok_nil ?_
      clear h3
      intro wq h3
      have h4 : holds wq (ownTk (.slice av (l.length + 1) cv) (l ++ [u]) :: blk b (.cells #[.slice av (l.length + 1) cv, .map (some bm)] 62 (0, 0)) :: blk nb _ :: blk w2.heap.size _ :: imap unitV bm m :: F) := h3
      have h5 : holds wq (imap unitV bm m :: blk b (.cells #[.slice av (l.length + 1) cv, .map (some bm)] 62 (0, 0)) :: ownTk (.slice av (l.length + 1) cv) (l ++ [u]) :: F) := h4.sel 5 [4, 1, 0]
      clear h4 h3
      have c1 := cellAt (h5.pick 1).get_blk 1
      simp at c1
      go_wp2_with (first
        | (at_mapUpdate; refine wpList_mapUpdate_sl (enc := unitV) rfl rfl _ _ _ _ rfl Try.underlying60 Try.underlying3 rfl _ () rfl rfl h5 ?_; intro w6 h6)
        | go_in)
      go_ret2
      refine ⟨rfl, ?_⟩
      have hN := HN.out
      obtain ⟨t1, t2, t3, _⟩ := HT2.out
      have hp := HM.out.push (t := u) (by rw [t1, hN]) t2 t3
      rw [hN] at hp
      exact shut_book hp (h6.order [1, 2, 0])
end Go.Proofs.Ytdcekeclemgkcaa
