/- Contracts of package accounts: Close, Do. -/
import Derived.Test.YtfiggkbclldccaaGreatAcctsB
namespace Go.Proofs.YtfiggkbclldccaaGreat
open Go Go.RowKit Go.MapKept
set_option maxRecDepth 100000
set_option linter.unusedVariables false
set_option maxHeartbeats 1000000
attribute [local go_sem] exactUpon looseUpon

theorem accs_Close (w : World) (v : Value) (t : AccsM) (k : Nat) (p g : Int) (F : List HProp) (ho : t.Ok k) (hk : k ≤ 1000) (hw : holds w (accsAt v t :: F)) :
    Calls Tryz.prog 174 #[v, .int .i64 p, .int .i64 g] w fun e w' => e = .returned (.int .i64 (Accs.close t p g).2) ∧ holds w' (accsAt v (Accs.close t p g).1 :: F) := by
  have hgd := ho.good
  have HG := Lib.hid (fun h => Accs.get_ok (p := p) (g := g) hgd.ok ho.len h)
  have HR := Lib.hid ho.right
  have HK := Lib.hid (And.intro hgd.ok.nodup (keys_pos hgd.ok))
  have HC := Lib.hid (fun w v F h => slots_Close w v t.s p g F hgd.ok (by have := hgd.clen; omega) (fun x hx => by have := hgd.gens x hx; omega) h)
  have H := Lib.hid (fun w v F h => accs_Get w v t p g F hgd.ok h)
  clear ho hgd
  unfold Accs.close
  generalize Accs.get t.s t.A p g = r at H HG ⊢
  obtain ⟨x, e⟩ := r
  unfold acR acV acCells at H
  simp only at H HG ⊢
  by_cases h0 : e ≠ 0
  · rw [if_pos h0]
    have hb2 : (e != 0) = true := by simpa using h0
    clear h0 HG HR HK HC
    go_enter Tryz.func174, Tryz.ntmps174
    go_wp2_with fail
    refine (H.out _ _ _ hw).mono ?_
    rintro e1 w1 ⟨rfl, h2⟩
    have h3 := (h2.alloc (.cells (acCells x) 162 (0, 0))).tail
    unfold acCells at h3
    go_wp2_with fail
    go_ret
    exact ⟨rfl, h3⟩
  · rw [if_neg h0]
    obtain rfl : e = 0 := by simpa using h0
    obtain ⟨hr, q, hq, rfl, hx⟩ := HG.out rfl
    have hxr := HR.out x (by rw [hx]; exact List.getElem_mem hq)
    have hxp : 0 ≤ x.held ∧ x.held ≤ 1048576 ∧ 0 ≤ x.credits ∧ x.credits ≤ 1048576 := by
      rcases hxr with h1 | h1
      · have := (Acct.right_iff x).1 h1; omega
      · rw [h1]; simp [ac0]
    have wr : IntKind.i64.wrap (x.held + x.credits) = x.held + x.credits := IntWalk.i64_in _ (by omega)
    clear h0 HG hx hxr HR
    by_cases hb : 0 < x.held ∨ 0 < x.credits
    · rw [if_pos hb]
      have hs : 0 < x.held + x.credits := by omega
      clear hb hxp HK HC hr
      go_enter Tryz.func174, Tryz.ntmps174
      go_wp2_with fail
      refine (H.out _ _ _ hw).mono ?_
      rintro e1 w1 ⟨rfl, h2⟩
      have h3 := h2.alloc (.cells (acCells x) 162 (0, 0))
      unfold acCells at h3
      obtain ⟨x0, x1, x2, -⟩ := ac_cells (a := x) h3
      go_wp2_with fail
      go_ret
      exact ⟨rfl, h3.tail⟩
    · rw [if_neg hb]
      have hs : ¬ 0 < x.held + x.credits := by omega
      have HC2 := Lib.hid (HC.out)
      rw [hr] at HC2
      simp only [if_true] at HC2
      rw [Int.toNat_natCast]
      have HM0 := Lib.hid (fun m (hm : AccOk t m) => hm.close (p := q) HK.out.1 HK.out.2)
      clear hb hxp HC HK hr
      go_enter Tryz.func174, Tryz.ntmps174
      go_wp2_with fail
      refine (H.out _ _ _ hw).mono ?_
      rintro e1 w1 ⟨rfl, h2⟩
      have h3 : holds _ (accsAt v t :: blk w1.heap.size _ :: F) := (h2.alloc (.cells (acCells x) 162 (0, 0))).order [1, 0]
      unfold acCells at h3
      obtain ⟨x0, x1, x2, -⟩ := ac_cells (a := x) (h3.pick 1)
      obtain ⟨b, b2, bm, m, rfl, hm, h4⟩ := open_accs h3
      have HM := Lib.hid (HM0.out m hm)
      clear hm HM0
      have c0 := cellAt h4.get_blk 0
      have c1 := cellAt h4.get_blk 1
      simp at c0 c1
      have h5 := h4.order [2, 0, 1]
      go_wp2_with (first
        | (at_delete; refine wpList_delete_sl rfl rfl _ _ _ rfl Tryz.underlying170 Tryz.underlying3 rfl _ rfl h5 ?_; clear c0 c1 x0 x1 x2; intro w7 h7; have c0 := cellAt (h7.pick 1).get_blk 0; simp at c0)
        | fail)
      refine (HC2.out _ _ _ (h7.order [2, 0, 1])).mono ?_
      rintro e8 w8 ⟨rfl, h8⟩
      go_wp2_with fail
      go_ret
      exact ⟨rfl, (shut_accs HM.out (h8.order [2, 0, 1])).sel 2 [0]⟩

/-- The call of a number: its function, and what it does. -/
theorem call_at (c : Int) (c1 : 1 ≤ c) (c4 : c ≤ 4) : ∃ (k : Nat) (fid : FuncId), c = k ∧ k < 5 ∧ callsArr[k]? = some (.func (.func fid) #[] #[]) ∧ (∀ args w, (callFunc fid args).run Tryz.prog w = .ok (.enter fid args) w) ∧
    ∀ (a : AcM) (hbd : acBd a) (n : Int) (w : World) (F : List HProp) (hw : holds w F), Calls Tryz.prog fid #[acV a, .int .i64 n] w fun e w' => e = .returned (acR (Acct.act c a n)) ∧ holds w' F := by
  obtain rfl | rfl | rfl | rfl : c = 1 ∨ c = 2 ∨ c = 3 ∨ c = 4 := by omega
  · exact ⟨1, 303, rfl, by omega, rfl, fun _ _ => rfl, account_Reserve⟩
  · exact ⟨2, 289, rfl, by omega, rfl, fun _ _ => rfl, account_GrantO⟩
  · exact ⟨3, 304, rfl, by omega, rfl, fun _ _ => rfl, account_Cancel⟩
  · exact ⟨4, 305, rfl, by omega, rfl, fun _ _ => rfl, account_Give⟩

theorem accs_Do (w : World) (v : Value) (t : AccsM) (k : Nat) (c p g n : Int) (F : List HProp) (ho : t.Ok k) (hk : k ≤ 1000) (hw : holds w (accsAt v t :: F)) :
    Calls Tryz.prog 242 #[v, .int .i64 c, .int .i64 p, .int .i64 g, .int .i64 n] w fun e w' => e = .returned (.int .i64 (Accs.act t c p g n).2) ∧ holds w' (accsAt v (Accs.act t c p g n).1 :: F) := by
  have hgd := ho.good
  have HG := Lib.hid (fun h => Accs.get_ok (p := p) (g := g) hgd.ok ho.len h)
  have HBD := Lib.hid ho.bd
  have HRO := Lib.hid (fun h => (SlotsM.right_open (s := t.s) (p := p) (g := g) hgd.ok h).1)
  have HK := Lib.hid (keys_pos hgd.ok)
  have H := Lib.hid (fun w v F h => accs_Get w v t p g F hgd.ok h)
  clear ho hgd
  unfold Accs.act
  by_cases hc : c < 1 ∨ 4 < c
  · rw [if_pos hc]
    have HC := Lib.hid hc
    clear hc H HG HBD HK HRO
    by_cases cc1 : c < 1
    · go_enter Tryz.func242, Tryz.ntmps242
      go_wp2_with fail
      refine (accs_calls _ _ hw).mono ?_
      rintro e1 w1 ⟨rfl, h1⟩
      have h2 := h1.alloc (.cells #[.nilFunc, .nilFunc, .nilFunc, .nilFunc, .nilFunc] 366 (0, 0))
      clear h1
      go_wp2_with (refine wpList_store_sl rfl rfl _ _ _ rfl (off := 0) (.agg callsArr) rfl rfl Tryz.size190 (by simp [callsArr, Value.cells, Value.oneCell']) h2 (by simp [callsArr, Value.cells]) ?_; intro w3 h3)
      have h3 : holds w3 (accsAt v t :: blk w1.heap.size (.cells callsArr 366 (0, 0)) :: F) := (show holds w3 (blk w1.heap.size (.cells callsArr 366 (0, 0)) :: accsAt v t :: F) from h3).order [1, 0]
      refine (accs_is _ _ _ _ h3).mono ?_
      rintro e4 w4 ⟨rfl, h4⟩
      clear h2 h3
      go_wp2_with fail
      go_ret
      exact ⟨rfl, h4.sel 2 [0]⟩
    · have cc2 : 5 ≤ c := by have := HC.out; omega
      go_enter Tryz.func242, Tryz.ntmps242
      go_wp2_with fail
      refine (accs_calls _ _ hw).mono ?_
      rintro e1 w1 ⟨rfl, h1⟩
      have h2 := h1.alloc (.cells #[.nilFunc, .nilFunc, .nilFunc, .nilFunc, .nilFunc] 366 (0, 0))
      clear h1
      go_wp2_with (refine wpList_store_sl rfl rfl _ _ _ rfl (off := 0) (.agg callsArr) rfl rfl Tryz.size190 (by simp [callsArr, Value.cells, Value.oneCell']) h2 (by simp [callsArr, Value.cells]) ?_; intro w3 h3)
      have h3 : holds w3 (accsAt v t :: blk w1.heap.size (.cells callsArr 366 (0, 0)) :: F) := (show holds w3 (blk w1.heap.size (.cells callsArr 366 (0, 0)) :: accsAt v t :: F) from h3).order [1, 0]
      refine (accs_is _ _ _ _ h3).mono ?_
      rintro e4 w4 ⟨rfl, h4⟩
      clear h2 h3
      go_wp2_with fail
      go_ret
      exact ⟨rfl, h4.sel 2 [0]⟩
  rw [if_neg hc]
  have cl : ¬ c < 1 := fun h => hc (.inl h)
  have ch : ¬ 5 ≤ c := fun h => hc (.inr (by omega))
  have HCA := Lib.hid (call_at c (by omega) (by omega))
  clear hc
  generalize Accs.get t.s t.A p g = r at H HG ⊢
  obtain ⟨x, e⟩ := r
  unfold acR acV acCells at H
  simp only at H HG ⊢
  by_cases h0 : e ≠ 0
  · rw [if_pos h0]
    have hb2 : (e != 0) = true := by simpa using h0
    clear h0 HG HBD HRO HK HCA
    go_enter Tryz.func242, Tryz.ntmps242
    go_wp2_with fail
    refine (accs_calls _ _ hw).mono ?_
    rintro e1 w1 ⟨rfl, h1⟩
    have h2 := h1.alloc (.cells #[.nilFunc, .nilFunc, .nilFunc, .nilFunc, .nilFunc] 366 (0, 0))
    clear h1
    go_wp2_with (refine wpList_store_sl rfl rfl _ _ _ rfl (off := 0) (.agg callsArr) rfl rfl Tryz.size190 (by simp [callsArr, Value.cells, Value.oneCell']) h2 (by simp [callsArr, Value.cells]) ?_; intro w3 h3)
    have h3 : holds w3 (accsAt v t :: blk w1.heap.size (.cells callsArr 366 (0, 0)) :: F) := (show holds w3 (blk w1.heap.size (.cells callsArr 366 (0, 0)) :: accsAt v t :: F) from h3).order [1, 0]
    refine (accs_is _ _ _ _ h3).mono ?_
    rintro e4 w4 ⟨rfl, h4⟩
    clear h2 h3
    go_wp2_with fail
    refine (H.out _ _ _ h4).mono ?_
    rintro e5 w5 ⟨rfl, h5⟩
    have h6 := (h5.alloc (.cells (acCells x) 162 (0, 0))).tail
    unfold acCells at h6
    go_wp2_with fail
    go_ret
    exact ⟨rfl, h6.sel 2 [0]⟩
  · rw [if_neg h0]
    obtain rfl : e = 0 := by simpa using h0
    obtain ⟨hr, q, hq, rfl, hx⟩ := HG.out rfl
    have hbx := (HBD.out x (by rw [hx]; exact List.getElem_mem hq)).1
    have HPO := Lib.hid (HRO.out hr)
    obtain ⟨kc, fid, hkc, hk5, harr, hcf, HCT⟩ := HCA.out
    have HU := Lib.hid (HCT x hbx n)
    have HKC := Lib.hid hkc
    clear h0 HG hx hr HBD HRO hbx HCT HCA
    have HAP := Lib.hid (fun m (hm : AccOk t m) y => hm.put (x := y) hq HPO.out HK.out)
    clear HK HPO hq
    generalize Acct.act c x n = r at HU ⊢
    obtain ⟨y, e⟩ := r
    unfold acR acV acCells at HU
    simp only at HU ⊢
    subst hkc
    by_cases hz : e ≠ 0
    · rw [if_pos hz]
      have hb3 : (e == 0) = false := by simpa using hz
      clear hz HAP
      go_enter Tryz.func242, Tryz.ntmps242
      go_wp2_with fail
      refine (accs_calls _ _ hw).mono ?_
      rintro e1 w1 ⟨rfl, h1⟩
      have h2 := h1.alloc (.cells #[.nilFunc, .nilFunc, .nilFunc, .nilFunc, .nilFunc] 366 (0, 0))
      clear h1
      go_wp2_with (refine wpList_store_sl rfl rfl _ _ _ rfl (off := 0) (.agg callsArr) rfl rfl Tryz.size190 (by simp [callsArr, Value.cells, Value.oneCell']) h2 (by simp [callsArr, Value.cells]) ?_; intro w3 h3)
      have h3 : holds w3 (accsAt v t :: blk w1.heap.size (.cells callsArr 366 (0, 0)) :: F) := (show holds w3 (blk w1.heap.size (.cells callsArr 366 (0, 0)) :: accsAt v t :: F) from h3).order [1, 0]
      refine (accs_is _ _ _ _ h3).mono ?_
      rintro e4 w4 ⟨rfl, h4⟩
      clear h2 h3
      go_wp2_with fail
      refine (H.out _ _ _ h4).mono ?_
      rintro e5 w5 ⟨rfl, h5⟩
      have h6 : holds _ (blk w5.heap.size (.cells #[.int .i64 x.claim, .int .i64 x.held, .int .i64 x.credits] 162 (0, 0)) :: blk w1.heap.size (.cells callsArr 366 (0, 0)) :: accsAt v t :: F) := (h5.alloc (.cells (acCells x) 162 (0, 0))).order [0, 2, 1]
      unfold acCells at h6
      have HSE := Lib.hid (show ∀ z, holds z (blk w1.heap.size (.cells callsArr 366 (0, 0)) :: accsAt v t :: F) → z.cell? ⟨w1.heap.size, kc, none⟩ = some (.func (.func fid) #[] #[]) ∧ True from fun z h => ⟨by rw [cellAt h.get_blk]; exact harr, trivial⟩)
      clear harr h4 h5
      go_wp2_with fail
      refine wp_region_tok [⟨none, some 9, [], fun _ => blk w5.heap.size (.cells #[.int .i64 x.claim, .int .i64 x.held, .int .i64 x.credits] 162 (0, 0))⟩, ⟨some 9, none, [], fun _ => blk w5.heap.size (.cells #[.int .i64 y.claim, .int .i64 y.held, .int .i64 y.credits] 162 (0, 0))⟩] (fun k => match k with | 3 => ⟨none, [], [0], []⟩ | 5 => ⟨some (fun u => u = .tuple #[.agg #[.int .i64 y.claim, .int .i64 y.held, .int .i64 y.credits], .int .i64 e]), [], [], []⟩ | 9 => ⟨some (fun u => u = undef), [0], [], [1]⟩ | _ => ⟨none, [], [], []⟩) (blk w1.heap.size (.cells callsArr 366 (0, 0)) :: accsAt v t :: F) [0] [1] (by kernel_rfl) (by kernel_rfl) h6 ?_
      iterate 3
        refine tok_exact rfl (fun K hK => ?_)
        go_simp
        first
          | (intro w hw
             obtain ⟨q1, q2⟩ := HSE.out _ hw
             go_simp
             refine hK _ ?_
             clear hK K q1 q2 hw w)
          | (intro w hw
             refine hK _ ?_
             clear hK K hw w)
          | (refine hK _ ?_; clear hK K)
      refine tok_sees (k := 3) ([blk w5.heap.size (.cells #[.int .i64 x.claim, .int .i64 x.held, .int .i64 x.credits] 162 (0, 0))]) (by rfl) rfl rfl (by go_simp) (fun K hK => ?_)
      intro w hw
      obtain ⟨x0, x1, x2, -⟩ := ac_cells (a := x) (show holds w (blk _ _ :: _) from hw)
      go_simp
      refine hK _ ?_
      clear hK K
      iterate 1
        refine tok_exact rfl (fun K hK => ?_)
        go_simp
        first
          | (intro w hw
             obtain ⟨q1, q2⟩ := HSE.out _ hw
             go_simp
             refine hK _ ?_
             clear hK K q1 q2 hw w)
          | (intro w hw
             refine hK _ ?_
             clear hK K hw w)
          | (refine hK _ ?_; clear hK K)
      refine tok_op (k := 5) ([]) ([]) (fun _ => []) (by rfl) (by rfl) rfl (by go_simp) (fun u hu => ?_) (fun w F hw => ?_) (fun u hu => ?_)
      · obtain rfl := hu
        rfl
      · go_simp
        exact (HU.out _ _ hw).mono fun e w1 ⟨he, hh⟩ => ⟨_, he, rfl, hh⟩
      obtain rfl := hu
      iterate 3
        refine tok_exact rfl (fun K hK => ?_)
        go_simp
        first
          | (intro w hw
             obtain ⟨q1, q2⟩ := HSE.out _ hw
             go_simp
             refine hK _ ?_
             clear hK K q1 q2 hw w)
          | (intro w hw
             refine hK _ ?_
             clear hK K hw w)
          | (refine hK _ ?_; clear hK K)
      refine tok_op (k := 9) ([blk w5.heap.size (.cells #[.int .i64 x.claim, .int .i64 x.held, .int .i64 x.credits] 162 (0, 0))]) ([]) (fun _ => [blk w5.heap.size (.cells #[.int .i64 y.claim, .int .i64 y.held, .int .i64 y.credits] 162 (0, 0))]) (by rfl) (by rfl) rfl (by go_simp) (fun u hu => ?_) (fun w F hw => ?_) (fun u hu => ?_)
      · obtain rfl := hu
        rfl
      · have hw : holds w (blk _ _ :: _) := hw
        obtain ⟨r0, r1, r2, f0, f1, f2⟩ := ac_cells (a := x) hw
        go_simp
        exact storeAc (a := x) hw y
      obtain rfl := hu
      iterate 1
        refine tok_exact rfl (fun K hK => ?_)
        go_simp
        first
          | (intro w hw
             obtain ⟨q1, q2⟩ := HSE.out _ hw
             go_simp
             refine hK _ ?_
             clear hK K q1 q2 hw w)
          | (intro w hw
             refine hK _ ?_
             clear hK K hw w)
          | (refine hK _ ?_; clear hK K)
      refine tok_nil ?_
      clear h6
      intro wq h6
      have h7 : holds wq (accsAt v t :: blk w5.heap.size (.cells #[.int .i64 y.claim, .int .i64 y.held, .int .i64 y.credits] 162 (0, 0)) :: blk w1.heap.size (.cells callsArr 366 (0, 0)) :: F) := (show holds wq (blk _ _ :: blk _ _ :: accsAt v t :: F) from h6).order [2, 0, 1]
      clear h6 HSE HU
      go_wp2_with fail
      go_ret
      exact ⟨rfl, h7.sel 3 [0]⟩
    · rw [if_neg hz]
      obtain rfl : e = 0 := by simpa using hz
      rw [Int.toNat_natCast]
      clear hz
      go_enter Tryz.func242, Tryz.ntmps242
      go_wp2_with fail
      refine (accs_calls _ _ hw).mono ?_
      rintro e1 w1 ⟨rfl, h1⟩
      have h2 := h1.alloc (.cells #[.nilFunc, .nilFunc, .nilFunc, .nilFunc, .nilFunc] 366 (0, 0))
      clear h1
      go_wp2_with (refine wpList_store_sl rfl rfl _ _ _ rfl (off := 0) (.agg callsArr) rfl rfl Tryz.size190 (by simp [callsArr, Value.cells, Value.oneCell']) h2 (by simp [callsArr, Value.cells]) ?_; intro w3 h3)
      have h3 : holds w3 (accsAt v t :: blk w1.heap.size (.cells callsArr 366 (0, 0)) :: F) := (show holds w3 (blk w1.heap.size (.cells callsArr 366 (0, 0)) :: accsAt v t :: F) from h3).order [1, 0]
      refine (accs_is _ _ _ _ h3).mono ?_
      rintro e4 w4 ⟨rfl, h4⟩
      clear h2 h3
      go_wp2_with fail
      refine (H.out _ _ _ h4).mono ?_
      rintro e5 w5 ⟨rfl, h5⟩
      have h6 : holds _ (blk w5.heap.size (.cells #[.int .i64 x.claim, .int .i64 x.held, .int .i64 x.credits] 162 (0, 0)) :: blk w1.heap.size (.cells callsArr 366 (0, 0)) :: accsAt v t :: F) := (h5.alloc (.cells (acCells x) 162 (0, 0))).order [0, 2, 1]
      unfold acCells at h6
      have HSE := Lib.hid (show ∀ z, holds z (blk w1.heap.size (.cells callsArr 366 (0, 0)) :: accsAt v t :: F) → z.cell? ⟨w1.heap.size, kc, none⟩ = some (.func (.func fid) #[] #[]) ∧ True from fun z h => ⟨by rw [cellAt h.get_blk]; exact harr, trivial⟩)
      clear harr h4 h5
      go_wp2_with fail
      refine wp_region_tok [⟨none, some 9, [], fun _ => blk w5.heap.size (.cells #[.int .i64 x.claim, .int .i64 x.held, .int .i64 x.credits] 162 (0, 0))⟩, ⟨some 9, none, [], fun _ => blk w5.heap.size (.cells #[.int .i64 y.claim, .int .i64 y.held, .int .i64 y.credits] 162 (0, 0))⟩] (fun k => match k with | 3 => ⟨none, [], [0], []⟩ | 5 => ⟨some (fun u => u = .tuple #[.agg #[.int .i64 y.claim, .int .i64 y.held, .int .i64 y.credits], .int .i64 0]), [], [], []⟩ | 9 => ⟨some (fun u => u = undef), [0], [], [1]⟩ | _ => ⟨none, [], [], []⟩) (blk w1.heap.size (.cells callsArr 366 (0, 0)) :: accsAt v t :: F) [0] [1] (by kernel_rfl) (by kernel_rfl) h6 ?_
      iterate 3
        refine tok_exact rfl (fun K hK => ?_)
        go_simp
        first
          | (intro w hw
             obtain ⟨q1, q2⟩ := HSE.out _ hw
             go_simp
             refine hK _ ?_
             clear hK K q1 q2 hw w)
          | (intro w hw
             refine hK _ ?_
             clear hK K hw w)
          | (refine hK _ ?_; clear hK K)
      refine tok_sees (k := 3) ([blk w5.heap.size (.cells #[.int .i64 x.claim, .int .i64 x.held, .int .i64 x.credits] 162 (0, 0))]) (by rfl) rfl rfl (by go_simp) (fun K hK => ?_)
      intro w hw
      obtain ⟨x0, x1, x2, -⟩ := ac_cells (a := x) (show holds w (blk _ _ :: _) from hw)
      go_simp
      refine hK _ ?_
      clear hK K
      iterate 1
        refine tok_exact rfl (fun K hK => ?_)
        go_simp
        first
          | (intro w hw
             obtain ⟨q1, q2⟩ := HSE.out _ hw
             go_simp
             refine hK _ ?_
             clear hK K q1 q2 hw w)
          | (intro w hw
             refine hK _ ?_
             clear hK K hw w)
          | (refine hK _ ?_; clear hK K)
      refine tok_op (k := 5) ([]) ([]) (fun _ => []) (by rfl) (by rfl) rfl (by go_simp) (fun u hu => ?_) (fun w F hw => ?_) (fun u hu => ?_)
      · obtain rfl := hu
        rfl
      · go_simp
        exact (HU.out _ _ hw).mono fun e w1 ⟨he, hh⟩ => ⟨_, he, rfl, hh⟩
      obtain rfl := hu
      iterate 3
        refine tok_exact rfl (fun K hK => ?_)
        go_simp
        first
          | (intro w hw
             obtain ⟨q1, q2⟩ := HSE.out _ hw
             go_simp
             refine hK _ ?_
             clear hK K q1 q2 hw w)
          | (intro w hw
             refine hK _ ?_
             clear hK K hw w)
          | (refine hK _ ?_; clear hK K)
      refine tok_op (k := 9) ([blk w5.heap.size (.cells #[.int .i64 x.claim, .int .i64 x.held, .int .i64 x.credits] 162 (0, 0))]) ([]) (fun _ => [blk w5.heap.size (.cells #[.int .i64 y.claim, .int .i64 y.held, .int .i64 y.credits] 162 (0, 0))]) (by rfl) (by rfl) rfl (by go_simp) (fun u hu => ?_) (fun w F hw => ?_) (fun u hu => ?_)
      · obtain rfl := hu
        rfl
      · have hw : holds w (blk _ _ :: _) := hw
        obtain ⟨r0, r1, r2, f0, f1, f2⟩ := ac_cells (a := x) hw
        go_simp
        exact storeAc (a := x) hw y
      obtain rfl := hu
      iterate 1
        refine tok_exact rfl (fun K hK => ?_)
        go_simp
        first
          | (intro w hw
             obtain ⟨q1, q2⟩ := HSE.out _ hw
             go_simp
             refine hK _ ?_
             clear hK K q1 q2 hw w)
          | (intro w hw
             refine hK _ ?_
             clear hK K hw w)
          | (refine hK _ ?_; clear hK K)
      refine tok_nil ?_
      clear h6
      intro wq h6
      have h7 : holds wq (accsAt v t :: blk w5.heap.size (.cells #[.int .i64 y.claim, .int .i64 y.held, .int .i64 y.credits] 162 (0, 0)) :: blk w1.heap.size (.cells callsArr 366 (0, 0)) :: F) := (show holds wq (blk _ _ :: blk _ _ :: accsAt v t :: F) from h6).order [2, 0, 1]
      clear h6 HSE HU
      obtain ⟨b, b2, bm, m, rfl, hm, h8⟩ := open_accs h7
      have HM := Lib.hid (HAP.out m hm y)
      clear hm HAP
      have h9 : holds wq (imap acV bm m :: blk b (.cells #[.pointer (some ⟨b2, 0, none⟩), .map (some bm)] 172 (0, 0)) :: blk w5.heap.size (.cells #[.int .i64 y.claim, .int .i64 y.held, .int .i64 y.credits] 162 (0, 0)) :: slotsAt (.pointer (some ⟨b2, 0, none⟩)) t.s :: blk w1.heap.size (.cells callsArr 366 (0, 0)) :: F) := h8.order [2, 0, 3, 1]
      clear h8 h7
      have HSE := Lib.hid (show ∀ z, holds z (imap acV bm m :: blk b (.cells #[.pointer (some ⟨b2, 0, none⟩), .map (some bm)] 172 (0, 0)) :: blk w5.heap.size (.cells #[.int .i64 y.claim, .int .i64 y.held, .int .i64 y.credits] 162 (0, 0)) :: slotsAt (.pointer (some ⟨b2, 0, none⟩)) t.s :: blk w1.heap.size (.cells callsArr 366 (0, 0)) :: F) → z.cell? ⟨b, 1, none⟩ = some (.map (some bm)) ∧ _ from fun z h => ⟨cellAt (h.pick 1).get_blk 1, ac_cells (a := y) (h.pick 2)⟩)
      go_wp2_with fail
      refine wp_region_loose_tail 6 (fun k => match k with  | _ => none) (imap acV bm m :: blk b (.cells #[.pointer (some ⟨b2, 0, none⟩), .map (some bm)] 172 (0, 0)) :: blk w5.heap.size (.cells #[.int .i64 y.claim, .int .i64 y.held, .int .i64 y.credits] 162 (0, 0)) :: slotsAt (.pointer (some ⟨b2, 0, none⟩)) t.s :: blk w1.heap.size (.cells callsArr 366 (0, 0)) :: F) (by kernel_rfl) (by kernel_rfl) h9 ?_
      simp only [List.take_succ_cons, List.take_zero, List.drop_succ_cons, List.drop_zero]
      refine loose_seal ?_
      iterate 6
        refine sealed_exact rfl (fun K hK => ?_)
        go_simp
        first
          | (intro w hw
             obtain ⟨c1, k0, k1, k2, k3, k4, k5⟩ := HSE.out _ hw
             go_simp
             refine hK _ ?_
             clear hK K c1 k0 k1 k2 k3 k4 k5 hw w)
          | (intro w hw
             refine hK _ ?_
             clear hK K hw w)
          | (refine hK _ ?_; clear hK K)
      refine sealed_nil ?_
      clear h9
      intro wq h9
      go_wp2_with (at_mapUpdate; refine wpList_mapUpdate_sl (enc := acV) rfl rfl _ _ _ _ rfl Tryz.underlying170 Tryz.underlying3 rfl _ y rfl rfl h9 ?_; intro w7 h10)
      go_ret
      exact ⟨rfl, (shut_accs HM.out (h10.order [1, 3, 0, 2])).sel 3 [0]⟩
end Go.Proofs.YtfiggkbclldccaaGreat
