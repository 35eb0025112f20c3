/- Contracts of the reference of chapter 32: Issue, Turn. -/
import Derived.Test.YtdcekeclemgkcaaRef32
import Derived.Test.YtdcekeclemgkcaaRef31B
namespace Go.Proofs.Ytdcekeclemgkcaa
open Go Go.RowKit Go.MapKept
set_option maxRecDepth 100000
set_option linter.unusedVariables false
set_option maxHeartbeats 1000000
attribute [local go_sem] exactUpon looseUpon

theorem holds.emptyTkAt {w : World} {F : List HProp} {n : Nat} (hw : holds w F) (hn : w.heap.size = n) : holds (w.alloc (.cells #[] 43)) (ownTk (.slice (some ⟨n, 0, none⟩) 0 0) [] :: F) := by
  subst hn
  exact (hw.alloc (.cells #[] 43 (0, 0))).mkRow (size := 5) (n := 0) (cap := 0) (Nat.le_refl _) (Nat.zero_le _) (by simp)
theorem tks_one (l : List TicketM) : ∀ u ∈ l.flatMap tkL, u.oneCell' = true := fun u hu => by
  obtain ⟨t, _, h⟩ := List.mem_flatMap.1 hu
  exact tkL_one t u h
/-- 'append(v, src...)' of tickets, v empty. -/
theorem tok_appTks {w : World} {G : List HProp} {o : Oper} {a : Act} (s x : Operand) (hop : o.op = .call { callee := .builtin .append, args := #[s, x], argTypes := #[46, 46] })
    {v va : Value} {l : List TicketM} (hs : a.eval s = v) (hx : a.eval x = va) (hw : holds w (ownTk v [] :: G)) (hr : reads w 5 va l.length (l.flatMap tkL)) (hl : l.length ≤ 100000000) :
    looseUpon Try.prog (fun u w' => (∃ (a : Option Addr) (cap : Nat), u = .slice a l.length cap) ∧ holds w' (ownTk u l :: G)) ((execOp a.eval o).run Try.prog w) := by
  obtain ⟨i0, hi, hz0, hz1, hz2⟩ := info_parts Try.infoTk
  refine tok_append s x _ hop Try.underlying46 hi hz0 hz1 hz2 rfl (by omega) hs hw hx hr (tks_one l) (by simp only [List.length_nil]; unfold maxLen; omega) (by simp only [List.length_nil]; omega) fun v' w' h => ?_
  have h2 : holds w' (ownTk v' l :: G) := by
    unfold ownTk
    simpa using h
  obtain ⟨a1, c1, e1⟩ := ownRow_form h2
  exact ⟨⟨a1, c1, e1⟩, h2⟩
theorem wpList_appendTks {ops : Array Oper} {rest : List Oper} {o : Oper} {a : Act} {Q : Exit → Act → World → Prop} {w : World} {F : List HProp} (hg : o.guard = none) (s x : Operand)
    (hop : o.op = .call { callee := .builtin .append, args := #[s, x], argTypes := #[46, 46] })
    {v src : Value} {m : List TicketM} (hs : a.eval s = v) (hw : holds w (ownTk v [] :: F)) (hx : a.eval x = src) (hr : reads w 5 src m.length (m.flatMap tkL)) (hlen : m.length < 100000000)
    (hK : ∀ v' w', holds w' (ownTk v' m :: F) → wpList Try.prog ops Q rest (a.put o.dst v') w') : wpList Try.prog ops Q (o :: rest) a w := by
  obtain ⟨i0, hi, hz0, hz1, hz2⟩ := info_parts Try.infoTk
  refine wpList_plain hg fun K' hK' => ?_
  obtain ⟨v', w', hrun, r1⟩ := run_append_reads (P := Try.prog) (ty := o.type) Try.underlying46 hi hz0 hz1 hz2 rfl (by omega) hw hr (tks_one m) (by simp only [List.length_nil]; unfold maxLen; omega) (by simp only [List.length_nil]; omega)
  unfold Oper.wp execOp
  simp only [hop, resolve, invoke, builtin, Sem.run_bind, Sem.run_pure, Result.andThen_ok, List.map_toArray, List.map_cons, List.map_nil, hs, hx, hrun]
  refine hK' _ _ (hK v' w' ?_)
  unfold ownTk
  simpa using r1

theorem ref32_Issue (w : World) (v : Value) (l : List TicketM) (c n : Int) (F : List HProp) (hl : l.length ≤ 1000000) (hw : holds w (roTk v l :: F)) :
    Calls Try.prog 31 #[v, .int .i64 c, .int .i64 n] w fun e w' => ∃ v', e = .returned (.tuple #[v', .int .i64 (Book.issue l c n).2.1, .int .i64 (Book.issue l c n).2.2]) ∧ holds w' (roTk v' (Book.issue l c n).1 :: roTk v l :: F) := by
  obtain ⟨a, cp, rfl, hcp⟩ := roTk_form hw
  unfold Book.issue
  have H := Lib.hid (fun w F h => ref31_New (l.length + 1) c n w F h)
  generalize Ticket.new (l.length + 1) c n = r at H ⊢
  obtain ⟨u, e⟩ := r
  simp only
  generalize hN : (l.length : Int) + 1 = N at H ⊢
  have HN := Lib.hid hN
  have wr : IntKind.i64.wrap ((l.length : Int) + 1) = N := by rw [hN]; exact IntWalk.i64_in _ (by omega)
  clear hN
  unfold tkR tkV tkCells at H
  by_cases h0 : e ≠ 0
  · rw [if_pos h0]
    have hb2 : (e != 0) = true := by simpa using h0
    clear h0
    go_enter Try.func31, Try.ntmps31
    go_wp2_with fail
    refine (H.out _ _ hw).mono ?_
    rintro e w2 ⟨rfl, h2⟩
    have h2 := (h2.alloc (.cells (tkCells u) 43 (0, 0))).tail
    unfold tkCells at h2
    go_wp2_with fail
    go_ret3
    exact ⟨_, rfl, h2.dupTk⟩
  · rw [if_neg h0]
    obtain rfl : e = 0 := by simpa using h0
    clear h0
    have HP := Lib.hid (fun w F (h : holds w (roTk (.slice a l.length cp) l :: F)) => ref32_Pending w _ l F (by omega) h)
    generalize pend l = P at HP ⊢
    by_cases hfull : 256 ≤ P.length ∨ (1048576 : Int) < N
    · rw [if_pos hfull]
      have HF := Lib.hid hfull
      clear hfull
      go_enter Try.func31, Try.ntmps31
      go_wp2_with fail
      refine (H.out _ _ hw).mono ?_
      rintro e w2 ⟨rfl, h2⟩
      have h2 := (h2.alloc (.cells (tkCells u) 43 (0, 0))).tail
      unfold tkCells at h2
      go_wp2_with fail
      refine (HP.out _ _ h2).mono ?_
      rintro e w3 ⟨r, rfl, h3⟩
      obtain ⟨a2, c2, rfl⟩ := ownRow_form h3
      have h3 := h3.tail
      have hf := HF.out
      have hN := HN.out
      by_cases hq : 256 ≤ P.length
      · clear hN hf
        go_wp2_with fail
        go_ret3
        exact ⟨_, rfl, h3.dupTk⟩
      · omega
    · rw [if_neg hfull]
      have HF := Lib.hid hfull
      clear hfull
      go_enter Try.func31, Try.ntmps31
      go_wp2_with fail
      refine (H.out _ _ hw).mono ?_
      rintro e w2 ⟨rfl, h2⟩
      have h3 : holds _ (roTk (.slice a l.length cp) l :: blk w2.heap.size _ :: F) := (h2.alloc (.cells (tkCells u) 43 (0, 0))).order [1, 0]
      unfold tkCells at h3
      clear h2
      go_wp2_with fail
      refine (HP.out _ _ h3).mono ?_
      rintro e w3 ⟨r, rfl, h4⟩
      obtain ⟨a2, c2, rfl⟩ := ownRow_form h4
      have h5 : holds w3 (blk w2.heap.size (.cells (tkCells u) 43 (0, 0)) :: roTk (.slice a l.length cp) l :: F) := h4.sel 3 [2, 1]
      clear h3 h4
      have hf := HF.out
      have hq : P.length < 256 := by omega
      have hl3 : l.length < 1048576 := by omega
      have hl2 : l.length + 1 ≤ 100000000 := by omega
      clear hf
      have HSE := Lib.hid (show ∀ x, holds x (blk w2.heap.size (.cells (tkCells u) 43 (0, 0)) :: roTk (.slice a l.length cp) l :: F) → _ from fun x h => tk_cells (t := u) h)
      go_wp2_with fail
      refine wp_region_tok [⟨some 0, some 2, [34], fun vs => ownTk (vs.getD 0 undef) []⟩, ⟨some 2, some 5, [36], fun vs => ownTk (vs.getD 0 undef) l⟩, ⟨some 5, none, [39], fun vs => ownTk (vs.getD 0 undef) (l ++ [u])⟩, ⟨some 4, none, [38], fun vs => blk (sliceBlk (vs.getD 0 undef)) (.cells (tkCells u) 43 (0, 0))⟩] (fun k => match k with | 0 => ⟨some (fun u => ∃ n : Nat, u = .slice (some ⟨n, 0, none⟩) 0 0), [], [], [0]⟩ | 2 => ⟨some (fun u => ∃ (a : Option Addr) (cap : Nat), u = .slice a l.length cap), [0], [], [1]⟩ | 4 => ⟨some (fun u => ∃ n : Nat, u = .slice (some ⟨n, 0, none⟩) 1 1), [], [], [3]⟩ | 5 => ⟨some (fun u => ∃ (a : Option Addr) (cap : Nat), u = .slice a (l.length + 1) cap), [1], [3], [2]⟩ | _ => ⟨none, [], [], []⟩) (blk w2.heap.size (.cells (tkCells u) 43 (0, 0)) :: roTk (.slice a l.length cp) l :: F) [] [2, 3] (by kernel_rfl) (by kernel_rfl) h5 ?_
      refine tok_op (k := 0) ([]) ([]) (fun v => [ownTk v []]) (by rfl) (by rfl) rfl (by go_simp) (fun u hu => ?_) (fun w F hw => ?_) (fun u hu => ?_)
      · obtain ⟨n0, rfl⟩ := hu
        rfl
      · go_simp
        exact (show holds w (_) from hw).emptyTkAt rfl
      obtain ⟨n0, rfl⟩ := hu
      iterate 1
        refine tok_exact rfl (fun K hK => ?_)
        go_simp
        first
          | (intro w hw
             obtain ⟨k0, k1, k2, k3, k4, k5, k6, k7, k8, k9⟩ := HSE.out _ hw
             go_simp
             refine hK _ ?_
             clear hK K k0 k1 k2 k3 k4 k5 k6 k7 k8 k9 hw w)
          | (intro w hw
             refine hK _ ?_
             clear hK K hw w)
          | (refine hK _ ?_; clear hK K)
      refine tok_op (k := 2) ([ownTk (.slice (some ⟨n0, 0, none⟩) 0 0) []]) ([]) (fun v => [ownTk v l]) (by rfl) (by rfl) rfl (by go_simp) (fun u hu => ?_) (fun w F hw => ?_) (fun u hu => ?_)
      · obtain ⟨av, cv, rfl⟩ := hu
        rfl
      · exact tok_appTks (.tmp 34) (.tmp 35) rfl rfl rfl hw (holds.roReads (hw.pick 2)) (by omega)
      obtain ⟨av, cv, rfl⟩ := hu
      iterate 1
        refine tok_exact rfl (fun K hK => ?_)
        go_simp
        first
          | (intro w hw
             obtain ⟨k0, k1, k2, k3, k4, k5, k6, k7, k8, k9⟩ := HSE.out _ hw
             go_simp
             refine hK _ ?_
             clear hK K k0 k1 k2 k3 k4 k5 k6 k7 k8 k9 hw w)
          | (intro w hw
             refine hK _ ?_
             clear hK K hw w)
          | (refine hK _ ?_; clear hK K)
      refine tok_op (k := 4) ([]) ([]) (fun v => [blk (sliceBlk v) (.cells (tkCells u) 43 (0, 0))]) (by rfl) (by rfl) rfl (by go_simp) (fun u hu => ?_) (fun w F hw => ?_) (fun u hu => ?_)
      · obtain ⟨nb, rfl⟩ := hu
        rfl
      · go_simp
        exact (show holds w (_) from hw).alloc _
      obtain ⟨nb, rfl⟩ := hu
      refine tok_op (k := 5) ([ownTk (.slice av l.length cv) l]) ([blk nb (.cells (tkCells u) 43 (0, 0))]) (fun v => [ownTk v (l ++ [u])]) (by rfl) (by rfl) rfl (by go_simp) (fun u hu => ?_) (fun w F hw => ?_) (fun u hu => ?_)
      · obtain ⟨au, cu, rfl⟩ := hu
        rfl
      · exact tok_appTk (t := u) (.tmp 36) (.tmp 38) rfl rfl rfl (by omega) hw hl2
      obtain ⟨au, cu, rfl⟩ := hu
      iterate 6
        refine tok_exact rfl (fun K hK => ?_)
        go_simp
        first
          | (intro w hw
             obtain ⟨k0, k1, k2, k3, k4, k5, k6, k7, k8, k9⟩ := HSE.out _ hw
             go_simp
             refine hK _ ?_
             clear hK K k0 k1 k2 k3 k4 k5 k6 k7 k8 k9 hw w)
          | (intro w hw
             refine hK _ ?_
             clear hK K hw w)
          | (refine hK _ ?_; clear hK K)
      refine tok_nil ?_
      clear h5
      intro wq h5
      have h6 : holds wq (ownTk (.slice au (l.length + 1) cu) (l ++ [u]) :: blk nb _ :: blk w2.heap.size _ :: roTk (.slice a l.length cp) l :: F) := h5
      go_wp2_with fail
      go_ret3
      exact ⟨_, rfl, (holds.shareTk h6).sel 4 [0, 3]⟩

theorem ref32_Turn (w : World) (v : Value) (l : List TicketM) (id s : Int) (F : List HProp) (hs1 : 1 ≤ s) (hs3 : s ≤ 3) (hok : TkOk l) (hl : l.length ≤ 1000000) (hw : holds w (roTk v l :: F)) :
    Calls Try.prog 32 #[v, .int .i64 id, .int .i64 s] w fun e w' => ∃ v', e = .returned (.tuple #[v', .int .i64 (Book.turn l id s).2]) ∧ holds w' (roTk v' (Book.turn l id s).1 :: roTk v l :: F) := by
  obtain ⟨a, cp, rfl, hcp⟩ := roTk_form hw
  have HG := Lib.hid (fun h => Book.get_ok (l := l) (id := id) h)
  unfold Book.turn
  have H := Lib.hid (fun w F (h : holds w (roTk (.slice a l.length cp) l :: F)) => ref32_Get w _ l id F hok (by omega) h)
  clear hok
  generalize Book.get l id = r at H HG ⊢
  obtain ⟨t, e⟩ := r
  simp only at HG ⊢
  unfold tkR tkV tkCells at H
  by_cases h0 : e ≠ 0
  · rw [if_pos h0]
    have hb2 : (e != 0) = true := by simpa using h0
    clear h0 HG
    go_enter Try.func32, Try.ntmps32
    go_wp2_with fail
    refine (H.out _ _ hw).mono ?_
    rintro e w1 ⟨rfl, h1⟩
    have h2 := (h1.alloc (.cells (tkCells t) 43 (0, 0))).tail
    unfold tkCells at h2
    go_wp2_with fail
    go_ret2
    exact ⟨_, rfl, h2.dupTk⟩
  · rw [if_neg h0]
    obtain rfl : e = 0 := by simpa using h0
    obtain ⟨k, hk, hid, htk⟩ := HG.out rfl
    clear h0 HG htk
    have HU := Lib.hid (fun w F h => ref31_Turn t s w F h)
    unfold tkR tkV tkCells at HU
    generalize Ticket.turn t s = r at HU ⊢
    obtain ⟨u, e⟩ := r
    simp only at HU ⊢
    by_cases hz : e ≠ 0
    · rw [if_pos hz]
      have hb2 : (e != 0) = true := by simpa using hz
      clear hz
      go_enter Try.func32, Try.ntmps32
      go_wp2_with fail
      refine (H.out _ _ hw).mono ?_
      rintro e w1 ⟨rfl, h1⟩
      have h2 := (h1.alloc (.cells (tkCells t) 43 (0, 0))).tail
      unfold tkCells at h2
      go_wp2_with fail
      refine (HU.out _ _ h2).mono ?_
      rintro e w2 ⟨rfl, h3⟩
      have h4 := (h3.alloc (.cells (tkCells u) 43 (0, 0))).tail
      unfold tkCells at h4
      go_wp2_with fail
      go_ret2
      exact ⟨_, rfl, h4.dupTk⟩
    · rw [if_neg hz]
      obtain rfl : e = 0 := by simpa using hz
      clear hz
      have e2 : (id - 1).toNat = k := by omega
      rw [e2]
      have wr : IntKind.i64.wrap (id - 1) = (k : Int) := by rw [hid]; exact IntWalk.i64_in _ (by omega)
      clear hid e2
      go_enter Try.func32, Try.ntmps32
      go_wp2_with fail
      refine (H.out _ _ hw).mono ?_
      rintro e w1 ⟨rfl, h1⟩
      have h2 := (h1.alloc (.cells (tkCells t) 43 (0, 0))).tail
      unfold tkCells at h2
      go_wp2_with fail
      refine (HU.out _ _ h2).mono ?_
      rintro e w2 ⟨rfl, h3⟩
      have h4 := h3.alloc (.cells (tkCells u) 43 (0, 0))
      have h5 := h4.emptyTkAt (n := w2.heap.size + 1) (by simp)
      have hr := holds.roReads (h5.pick 2)
      unfold tkCells at h5 hr
      clear H HU hw h1 h2 h3 h4
      go_wp2_with (first
        | (at_builtin; refine wpList_appendTks (m := l) rfl _ _ rfl rfl h5 rfl hr (by omega) ?_; clear hr; intro v6 w6 h6; obtain ⟨g, cap, he, hc1, hc2, -⟩ := holds.tkAt h6 (by omega); cases he; obtain ⟨k0, k1, k2, k3, k4, k5, k6, k7, k8, k9⟩ := tk_cells (t := u) (h6.pick 1))
        | (refine wpList_setElem tkL_len rfl rfl _ _ _ rfl (tkV u) u rfl rfl rfl (by kernel_rfl) (tkL_one u) h6 hk ?_; clear k0 k1 k2 k3 k4 k5 k6 k7 k8 k9; intro w7 h7))
      go_ret2
      exact ⟨_, rfl, by
        have h8 : holds w7 (ownTk _ (l.set k u) :: _) := h7
        rw [List.length_set] at h7
        exact (holds.shareTk h8).sel 3 [0, 2]⟩

theorem eqTk_run (t : TicketM) (w : World) : (Op.equalIn 10000 43 (tkV t) (tkV t)).run Try.prog w = .ok true w := by
  obtain ⟨i0, hi, hz0, hz1, hz2⟩ := info_parts Try.infoInt
  have hs : (sizeOf 3).run Try.prog w = .ok 1 w := by simp [sizeOf, typeInfo, hi, hz1]
  have he := fun (x : Int) => run_equalIn_int (P := Try.prog) w 9998 3 .i64 .i64 x x Try.underlying3
  show (Op.equalIn (9999 + 1) _ _ _).run _ w = _
  unfold Op.equalIn
  simp only [Sem.run_bind, run_underlying Try.underlying43, Result.andThen_ok, hs]
  simp [part, isAgg, tkV, tkCells, hs, run_underlying Try.underlying3, he, Result.andThen]
end Go.Proofs.Ytdcekeclemgkcaa
