/- Contracts of package account: the steps, and the calls. -/
import Derived.Test.YtfiggkbclldccaaGreatAcct
import Derived.Test.YtfiggkbclldccaaGreatStrT
namespace Go.Proofs.YtfiggkbclldccaaGreat
open Go Go.RowKit Go.MapKept
attribute [local go_sem] exactUpon looseUpon
set_option maxRecDepth 100000
set_option linter.unusedVariables false
set_option maxHeartbeats 1000000

theorem account_Reserve1 (a : AcM) (n : Int) (ha : Acct.right a = true) (n1 : 1 ≤ n) (n2 : n ≤ 1048576) (w : World) (F : List HProp) (hw : holds w F) :
    Calls Tryz.prog 322 #[acV a, .int .i64 n] w fun e w' => e = .returned (acV (Acct.step 1 a n)) ∧ holds w' F := by
  obtain ⟨hc1, hc2, hh, hd, hs⟩ := (Acct.right_iff a).1 ha
  have wra : IntKind.i64.wrap (a.credits + n) = a.credits + n := IntWalk.i64_in _ (by omega)
  have wrb : IntKind.i64.wrap (a.credits - n) = a.credits - n := IntWalk.i64_in _ (by omega)
  have wrc : IntKind.i64.wrap (a.held + n) = a.held + n := IntWalk.i64_in _ (by omega)
  have wrd : IntKind.i64.wrap (a.held - n) = a.held - n := IntWalk.i64_in _ (by omega)
  have hb := (hw.alloc (.cells (acCells a) 162 (0, 0))).alloc (.cells (acCells ac0) 162 (0, 0))
  rw [World.size_alloc] at hb
  have e : Acct.step 1 a n = ⟨a.claim, a.held, a.credits + n⟩ := rfl
  rw [e]
  clear e ha hc1 hc2 hh hd hs
  obtain ⟨b0, b1, b2, g0, g1, g2⟩ := ac_cells (a := a) (hb.pick 1)
  obtain ⟨r0, r1, r2, f0, f1, f2⟩ := ac_cells (a := ac0) hb
  have h4 := (hw.alloc (.cells (acCells ⟨a.claim, a.held, a.credits + n⟩) 162 (0, 0))).alloc (.cells (acCells ⟨a.claim, a.held, a.credits + n⟩) 162 (0, 0))
  rw [World.size_alloc] at h4
  unfold acV acCells ac0 at *
  go_enter Tryz.func322, Tryz.ntmps322
  go_wp2_with fail
  refine bodyPost_ret (v := acV ⟨a.claim, a.held, a.credits + n⟩) ?_ rfl ⟨rfl, h4.tail.tail⟩
  exact results_row Tryz.results322 _ _ (w.heap.size + 1) _ _ _ _ rfl h4.get_blk Tryz.underlying162 rfl Tryz.sizeAc
theorem account_Grant1O (a : AcM) (n : Int) (ha : Acct.right a = true) (n1 : 1 ≤ n) (n2 : n ≤ 1048576) (w : World) (F : List HProp) (hw : holds w F) :
    Calls Tryz.prog 307 #[acV a, .int .i64 n] w fun e w' => e = .returned (acV (Acct.step 2 a n)) ∧ holds w' F := by
  obtain ⟨hc1, hc2, hh, hd, hs⟩ := (Acct.right_iff a).1 ha
  have wra : IntKind.i64.wrap (a.credits + n) = a.credits + n := IntWalk.i64_in _ (by omega)
  have wrb : IntKind.i64.wrap (a.credits - n) = a.credits - n := IntWalk.i64_in _ (by omega)
  have wrc : IntKind.i64.wrap (a.held + n) = a.held + n := IntWalk.i64_in _ (by omega)
  have wrd : IntKind.i64.wrap (a.held - n) = a.held - n := IntWalk.i64_in _ (by omega)
  have hb := (hw.alloc (.cells (acCells a) 162 (0, 0))).alloc (.cells (acCells ac0) 162 (0, 0))
  rw [World.size_alloc] at hb
  have e : Acct.step 2 a n = ⟨a.claim, a.held + n, a.credits - n⟩ := rfl
  rw [e]
  clear e ha hc1 hc2 hh hd hs
  obtain ⟨b0, b1, b2, g0, g1, g2⟩ := ac_cells (a := a) (hb.pick 1)
  obtain ⟨r0, r1, r2, f0, f1, f2⟩ := ac_cells (a := ac0) hb
  have h4 := (hw.alloc (.cells (acCells ⟨a.claim, a.held + n, a.credits - n⟩) 162 (0, 0))).alloc (.cells (acCells ⟨a.claim, a.held + n, a.credits - n⟩) 162 (0, 0))
  rw [World.size_alloc] at h4
  unfold acV acCells ac0 at *
  go_enter Tryz.func307, Tryz.ntmps307
  go_wp2_with fail
  refine bodyPost_ret (v := acV ⟨a.claim, a.held + n, a.credits - n⟩) ?_ rfl ⟨rfl, h4.tail.tail⟩
  exact results_row Tryz.results307 _ _ (w.heap.size + 1) _ _ _ _ rfl h4.get_blk Tryz.underlying162 rfl Tryz.sizeAc
theorem account_Cancel1 (a : AcM) (n : Int) (ha : Acct.right a = true) (n1 : 1 ≤ n) (n2 : n ≤ 1048576) (w : World) (F : List HProp) (hw : holds w F) :
    Calls Tryz.prog 323 #[acV a, .int .i64 n] w fun e w' => e = .returned (acV (Acct.step 3 a n)) ∧ holds w' F := by
  obtain ⟨hc1, hc2, hh, hd, hs⟩ := (Acct.right_iff a).1 ha
  have wra : IntKind.i64.wrap (a.credits + n) = a.credits + n := IntWalk.i64_in _ (by omega)
  have wrb : IntKind.i64.wrap (a.credits - n) = a.credits - n := IntWalk.i64_in _ (by omega)
  have wrc : IntKind.i64.wrap (a.held + n) = a.held + n := IntWalk.i64_in _ (by omega)
  have wrd : IntKind.i64.wrap (a.held - n) = a.held - n := IntWalk.i64_in _ (by omega)
  have hb := (hw.alloc (.cells (acCells a) 162 (0, 0))).alloc (.cells (acCells ac0) 162 (0, 0))
  rw [World.size_alloc] at hb
  have e : Acct.step 3 a n = ⟨a.claim, a.held, a.credits - n⟩ := rfl
  rw [e]
  clear e ha hc1 hc2 hh hd hs
  obtain ⟨b0, b1, b2, g0, g1, g2⟩ := ac_cells (a := a) (hb.pick 1)
  obtain ⟨r0, r1, r2, f0, f1, f2⟩ := ac_cells (a := ac0) hb
  have h4 := (hw.alloc (.cells (acCells ⟨a.claim, a.held, a.credits - n⟩) 162 (0, 0))).alloc (.cells (acCells ⟨a.claim, a.held, a.credits - n⟩) 162 (0, 0))
  rw [World.size_alloc] at h4
  unfold acV acCells ac0 at *
  go_enter Tryz.func323, Tryz.ntmps323
  go_wp2_with fail
  refine bodyPost_ret (v := acV ⟨a.claim, a.held, a.credits - n⟩) ?_ rfl ⟨rfl, h4.tail.tail⟩
  exact results_row Tryz.results323 _ _ (w.heap.size + 1) _ _ _ _ rfl h4.get_blk Tryz.underlying162 rfl Tryz.sizeAc
theorem account_Give1 (a : AcM) (n : Int) (ha : Acct.right a = true) (n1 : 1 ≤ n) (n2 : n ≤ 1048576) (w : World) (F : List HProp) (hw : holds w F) :
    Calls Tryz.prog 324 #[acV a, .int .i64 n] w fun e w' => e = .returned (acV (Acct.step 4 a n)) ∧ holds w' F := by
  obtain ⟨hc1, hc2, hh, hd, hs⟩ := (Acct.right_iff a).1 ha
  have wra : IntKind.i64.wrap (a.credits + n) = a.credits + n := IntWalk.i64_in _ (by omega)
  have wrb : IntKind.i64.wrap (a.credits - n) = a.credits - n := IntWalk.i64_in _ (by omega)
  have wrc : IntKind.i64.wrap (a.held + n) = a.held + n := IntWalk.i64_in _ (by omega)
  have wrd : IntKind.i64.wrap (a.held - n) = a.held - n := IntWalk.i64_in _ (by omega)
  have hb := (hw.alloc (.cells (acCells a) 162 (0, 0))).alloc (.cells (acCells ac0) 162 (0, 0))
  rw [World.size_alloc] at hb
  have e : Acct.step 4 a n = ⟨a.claim, a.held - n, a.credits⟩ := rfl
  rw [e]
  clear e ha hc1 hc2 hh hd hs
  obtain ⟨b0, b1, b2, g0, g1, g2⟩ := ac_cells (a := a) (hb.pick 1)
  obtain ⟨r0, r1, r2, f0, f1, f2⟩ := ac_cells (a := ac0) hb
  have h4 := (hw.alloc (.cells (acCells ⟨a.claim, a.held - n, a.credits⟩) 162 (0, 0))).alloc (.cells (acCells ⟨a.claim, a.held - n, a.credits⟩) 162 (0, 0))
  rw [World.size_alloc] at h4
  unfold acV acCells ac0 at *
  go_enter Tryz.func324, Tryz.ntmps324
  go_wp2_with fail
  refine bodyPost_ret (v := acV ⟨a.claim, a.held - n, a.credits⟩) ?_ rfl ⟨rfl, h4.tail.tail⟩
  exact results_row Tryz.results324 _ _ (w.heap.size + 1) _ _ _ _ rfl h4.get_blk Tryz.underlying162 rfl Tryz.sizeAc

theorem account_applyO (fid : FuncId) (hcf : ∀ args w, (callFunc fid args).run Tryz.prog w = .ok (.enter fid args) w) (c : Int) (HF : ∀ a n, Acct.right a = true → 1 ≤ n → n ≤ 1048576 → ∀ w F, holds w F → Calls Tryz.prog fid #[acV a, .int .i64 n] w fun e w' => e = .returned (acV (Acct.step c a n)) ∧ holds w' F)
    (a : AcM) (hbd : acBd a) (n : Int) (w : World) (F : List HProp) (hw : holds w F) :
    Calls Tryz.prog 306 #[acV a, .int .i64 n, .agg #[.func (.func fid) #[] #[], .int .i64 (Acct.wrong c)]] w fun e w' => e = .returned (acR (Acct.act c a n)) ∧ holds w' F := by
  have hb : holds (((w.alloc (.cells (acCells a) 162 (0, 0))).alloc (.cells #[.func (.func fid) #[] #[], .int .i64 (Acct.wrong c)] 379 (0, 0))).alloc (.cells (acCells ac0) 162 (0, 0))) (blk (w.heap.size + 1 + 1) (.cells (acCells ac0) 162 (0, 0)) :: blk (w.heap.size + 1) (.cells #[.func (.func fid) #[] #[], .int .i64 (Acct.wrong c)] 379 (0, 0)) :: blk w.heap.size (.cells (acCells a) 162 (0, 0)) :: F) := by
    have := ((hw.alloc (.cells (acCells a) 162 (0, 0))).alloc (.cells #[.func (.func fid) #[] #[], .int .i64 (Acct.wrong c)] 379 (0, 0))).alloc (.cells (acCells ac0) 162 (0, 0))
    simp only [World.size_alloc] at this
    exact this
  have HF' := Lib.hid HF
  have H := Lib.hid (account_RightO a hbd _ _ hb)
  unfold Acct.act
  have HBS := Lib.hid (fun h => acBd_step (a := a) h c n)
  generalize Acct.wrong c = wg at hb H ⊢
  cases hr : Acct.right a with
  | false =>
    rw [if_pos (.inl rfl)]
    rw [hr] at H
    clear hr HF' HBS
    unfold acV acCells ac0 at *
    go_enter Tryz.func306, Tryz.ntmps306
    go_wp2_with fail
    refine H.out.mono ?_
    rintro e w1 ⟨rfl, h1⟩
    obtain ⟨r0, r1, r2, f0, f1, f2⟩ := ac_cells (a := ac0) h1
    go_wp2_with fail
    have h4 := storeAc (a := ac0) h1 ac0
    refine bodyPost_ret (v := acR (ac0, 2)) ?_ rfl ⟨rfl, h4.tail.tail.tail⟩
    exact results_row_tmp Tryz.results306 _ _ (w.heap.size + 1 + 1) _ _ _ _ _ rfl rfl h4.get_blk Tryz.underlying162 rfl Tryz.sizeAc
  | true =>
    have HU := Lib.hid (HF'.out a n hr)
    have HBS2 := Lib.hid (HBS.out hr)
    rw [hr] at H
    clear hr HF' HBS
    by_cases h1 : n < 1
    · rw [if_pos (.inr h1)]
      clear HU HBS2
      unfold acV acCells ac0 at *
      go_enter Tryz.func306, Tryz.ntmps306
      go_wp2_with fail
      refine H.out.mono ?_
      rintro e w1 ⟨rfl, h1⟩
      obtain ⟨r0, r1, r2, f0, f1, f2⟩ := ac_cells (a := ac0) h1
      go_wp2_with fail
      have h4 := storeAc (a := ac0) h1 ac0
      refine bodyPost_ret (v := acR (ac0, 2)) ?_ rfl ⟨rfl, h4.tail.tail.tail⟩
      exact results_row_tmp Tryz.results306 _ _ (w.heap.size + 1 + 1) _ _ _ _ _ rfl rfl h4.get_blk Tryz.underlying162 rfl Tryz.sizeAc
    rw [if_neg (by simpa using h1)]
    by_cases h2 : 1048576 < n
    · rw [if_pos h2]
      clear HU HBS2
      unfold acV acCells ac0 at *
      go_enter Tryz.func306, Tryz.ntmps306
      go_wp2_with fail
      refine H.out.mono ?_
      rintro e w1 ⟨rfl, h1⟩
      have HSE := Lib.hid (show ∀ z, holds z (blk (w.heap.size + 1) (.cells #[.func (.func fid) #[] #[], .int .i64 wg] 379 (0, 0)) :: blk w.heap.size (.cells #[.int .i64 a.claim, .int .i64 a.held, .int .i64 a.credits] 162 (0, 0)) :: F) → z.cell? ⟨w.heap.size + 1, 1, none⟩ = some (.int .i64 wg) ∧ True from fun z h => ⟨cellAt h.get_blk 1, trivial⟩)
      have h1 : holds w1 (blk (w.heap.size + 1 + 1) (.cells #[.int .i64 0, .int .i64 0, .int .i64 0] 162 (0, 0)) :: blk (w.heap.size + 1) (.cells #[.func (.func fid) #[] #[], .int .i64 wg] 379 (0, 0)) :: blk w.heap.size (.cells #[.int .i64 a.claim, .int .i64 a.held, .int .i64 a.credits] 162 (0, 0)) :: F) := h1
      go_wp2_with fail
      refine wp_region_tok [⟨none, some 3, [], fun _ => blk (w.heap.size + 1 + 1) (.cells #[.int .i64 0, .int .i64 0, .int .i64 0] 162 (0, 0))⟩, ⟨some 3, none, [], fun _ => blk (w.heap.size + 1 + 1) (.cells #[.int .i64 0, .int .i64 0, .int .i64 0] 162 (0, 0))⟩] (fun k => match k with | 3 => ⟨some (fun u => u = undef), [0], [], [1]⟩ | _ => ⟨none, [], [], []⟩) (blk (w.heap.size + 1) (.cells #[.func (.func fid) #[] #[], .int .i64 wg] 379 (0, 0)) :: blk w.heap.size (.cells #[.int .i64 a.claim, .int .i64 a.held, .int .i64 a.credits] 162 (0, 0)) :: F) [0] [1] (by kernel_rfl) (by kernel_rfl) h1 ?_
      iterate 3
        refine tok_exact rfl (fun K hK => ?_)
        go_simp
        first
          | (intro w hw
             obtain ⟨q1, q2⟩ := HSE.out _ hw
             go_simp
             refine hK _ ?_
             clear hK K q1 q2 hw w)
          | (intro w hw
             refine hK _ ?_
             clear hK K hw w)
          | (refine hK _ ?_; clear hK K)
      refine tok_op (k := 3) ([blk (w.heap.size + 1 + 1) (.cells #[.int .i64 0, .int .i64 0, .int .i64 0] 162 (0, 0))]) ([]) (fun _ => [blk (w.heap.size + 1 + 1) (.cells #[.int .i64 0, .int .i64 0, .int .i64 0] 162 (0, 0))]) (by rfl) (by rfl) rfl (by go_simp) (fun u hu => ?_) (fun w F hw => ?_) (fun u hu => ?_)
      · obtain rfl := hu
        rfl
      · have hw : holds w (blk _ _ :: _) := hw
        obtain ⟨r0, r1, r2, f0, f1, f2⟩ := ac_cells (a := ac0) hw
        go_simp
        exact storeAc (a := ac0) hw ac0
      obtain rfl := hu
      iterate 1
        refine tok_exact rfl (fun K hK => ?_)
        go_simp
        first
          | (intro w hw
             obtain ⟨q1, q2⟩ := HSE.out _ hw
             go_simp
             refine hK _ ?_
             clear hK K q1 q2 hw w)
          | (intro w hw
             refine hK _ ?_
             clear hK K hw w)
          | (refine hK _ ?_; clear hK K)
      refine tok_nil ?_
      clear h1
      intro wq h1
      have h5 : holds wq (blk (w.heap.size + 1 + 1) (.cells (acCells ac0) 162 (0, 0)) :: blk (w.heap.size + 1) (.cells #[.func (.func fid) #[] #[], .int .i64 wg] 379 (0, 0)) :: blk w.heap.size (.cells #[.int .i64 a.claim, .int .i64 a.held, .int .i64 a.credits] 162 (0, 0)) :: F) := h1
      go_wp2_with fail
      refine bodyPost_ret (v := acR (ac0, wg)) ?_ rfl ⟨rfl, h5.tail.tail.tail⟩
      exact results_row_tmp Tryz.results306 _ _ (w.heap.size + 1 + 1) _ _ _ _ _ rfl rfl h5.get_blk Tryz.underlying162 rfl Tryz.sizeAc
    rw [if_neg h2]
    have HU2 := Lib.hid (HU.out (by omega) (by omega))
    have hb2 := HBS2.out (by omega) (by omega)
    clear HU HBS2
    generalize Acct.step c a n = b at HU2 hb2 ⊢
    have HR := Lib.hid (fun w F h => account_RightO b hb2 w F h)
    clear hb2
    cases hr : Acct.right b with
    | false =>
      rw [hr] at HR
      rw [if_neg (by simp)]
      clear hr
      unfold acV acCells ac0 at *
      go_enter Tryz.func306, Tryz.ntmps306
      go_wp2_with fail
      refine H.out.mono ?_
      rintro e w1 ⟨rfl, h1⟩
      have h1 : holds w1 (blk (w.heap.size + 1 + 1) (.cells #[.int .i64 0, .int .i64 0, .int .i64 0] 162 (0, 0)) :: blk (w.heap.size + 1) (.cells #[.func (.func fid) #[] #[], .int .i64 wg] 379 (0, 0)) :: blk w.heap.size (.cells #[.int .i64 a.claim, .int .i64 a.held, .int .i64 a.credits] 162 (0, 0)) :: F) := h1
      obtain ⟨b0, b1, b2, -⟩ := ac_cells (a := a) (h1.pick 2)
      have p0 := cellAt (h1.pick 1).get_blk 0
      simp only [List.getElem?_toArray, List.getElem?_cons_succ, List.getElem?_cons_zero] at p0
      go_wp2_with fail
      refine (HU2.out _ _ h1).mono ?_
      rintro e w2 ⟨rfl, h2⟩
      have h3 := h2.alloc (.cells #[.int .i64 b.claim, .int .i64 b.held, .int .i64 b.credits] 162 (0, 0))
      clear b0 b1 b2 p0 h1
      obtain ⟨b0, b1, b2, -⟩ := ac_cells (a := b) h3
      go_wp2_with fail
      refine (HR.out _ _ h3).mono ?_
      rintro e w3 ⟨rfl, h4⟩
      clear b0 b1 b2 h2 h3
      have HSE := Lib.hid (show ∀ z, holds z (blk w2.heap.size (.cells #[.int .i64 b.claim, .int .i64 b.held, .int .i64 b.credits] 162 (0, 0)) :: blk (w.heap.size + 1) (.cells #[.func (.func fid) #[] #[], .int .i64 wg] 379 (0, 0)) :: blk w.heap.size (.cells #[.int .i64 a.claim, .int .i64 a.held, .int .i64 a.credits] 162 (0, 0)) :: F) → z.cell? ⟨w.heap.size + 1, 1, none⟩ = some (.int .i64 wg) ∧ True from fun z h => ⟨cellAt (h.pick 1).get_blk 1, trivial⟩)
      have h4 : holds w3 (blk (w.heap.size + 1 + 1) (.cells #[.int .i64 0, .int .i64 0, .int .i64 0] 162 (0, 0)) :: blk w2.heap.size (.cells #[.int .i64 b.claim, .int .i64 b.held, .int .i64 b.credits] 162 (0, 0)) :: blk (w.heap.size + 1) (.cells #[.func (.func fid) #[] #[], .int .i64 wg] 379 (0, 0)) :: blk w.heap.size (.cells #[.int .i64 a.claim, .int .i64 a.held, .int .i64 a.credits] 162 (0, 0)) :: F) := h4.order [1, 0]
      go_wp2_with fail
      refine wp_region_tok [⟨none, some 3, [], fun _ => blk (w.heap.size + 1 + 1) (.cells #[.int .i64 0, .int .i64 0, .int .i64 0] 162 (0, 0))⟩, ⟨some 3, none, [], fun _ => blk (w.heap.size + 1 + 1) (.cells #[.int .i64 0, .int .i64 0, .int .i64 0] 162 (0, 0))⟩] (fun k => match k with | 3 => ⟨some (fun u => u = undef), [0], [], [1]⟩ | _ => ⟨none, [], [], []⟩) (blk w2.heap.size (.cells #[.int .i64 b.claim, .int .i64 b.held, .int .i64 b.credits] 162 (0, 0)) :: blk (w.heap.size + 1) (.cells #[.func (.func fid) #[] #[], .int .i64 wg] 379 (0, 0)) :: blk w.heap.size (.cells #[.int .i64 a.claim, .int .i64 a.held, .int .i64 a.credits] 162 (0, 0)) :: F) [0] [1] (by kernel_rfl) (by kernel_rfl) h4 ?_
      iterate 3
        refine tok_exact rfl (fun K hK => ?_)
        go_simp
        first
          | (intro w hw
             obtain ⟨q1, q2⟩ := HSE.out _ hw
             go_simp
             refine hK _ ?_
             clear hK K q1 q2 hw w)
          | (intro w hw
             refine hK _ ?_
             clear hK K hw w)
          | (refine hK _ ?_; clear hK K)
      refine tok_op (k := 3) ([blk (w.heap.size + 1 + 1) (.cells #[.int .i64 0, .int .i64 0, .int .i64 0] 162 (0, 0))]) ([]) (fun _ => [blk (w.heap.size + 1 + 1) (.cells #[.int .i64 0, .int .i64 0, .int .i64 0] 162 (0, 0))]) (by rfl) (by rfl) rfl (by go_simp) (fun u hu => ?_) (fun w F hw => ?_) (fun u hu => ?_)
      · obtain rfl := hu
        rfl
      · have hw : holds w (blk _ _ :: _) := hw
        obtain ⟨r0, r1, r2, f0, f1, f2⟩ := ac_cells (a := ac0) hw
        go_simp
        exact storeAc (a := ac0) hw ac0
      obtain rfl := hu
      iterate 1
        refine tok_exact rfl (fun K hK => ?_)
        go_simp
        first
          | (intro w hw
             obtain ⟨q1, q2⟩ := HSE.out _ hw
             go_simp
             refine hK _ ?_
             clear hK K q1 q2 hw w)
          | (intro w hw
             refine hK _ ?_
             clear hK K hw w)
          | (refine hK _ ?_; clear hK K)
      refine tok_nil ?_
      clear h4
      intro wq h4
      have h5 : holds wq (blk (w.heap.size + 1 + 1) (.cells (acCells ac0) 162 (0, 0)) :: blk w2.heap.size _ :: blk (w.heap.size + 1) (.cells #[.func (.func fid) #[] #[], .int .i64 wg] 379 (0, 0)) :: blk w.heap.size (.cells #[.int .i64 a.claim, .int .i64 a.held, .int .i64 a.credits] 162 (0, 0)) :: F) := h4
      go_wp2_with fail
      refine bodyPost_ret (v := acR (ac0, wg)) ?_ rfl ⟨rfl, h5.tail.tail.tail.tail⟩
      exact results_row_tmp Tryz.results306 _ _ (w.heap.size + 1 + 1) _ _ _ _ _ rfl rfl h5.get_blk Tryz.underlying162 rfl Tryz.sizeAc
    | true =>
      rw [hr] at HR
      rw [if_pos rfl]
      clear hr
      unfold acV acCells ac0 at *
      go_enter Tryz.func306, Tryz.ntmps306
      go_wp2_with fail
      refine H.out.mono ?_
      rintro e w1 ⟨rfl, h1⟩
      have h1 : holds w1 (blk (w.heap.size + 1 + 1) (.cells #[.int .i64 0, .int .i64 0, .int .i64 0] 162 (0, 0)) :: blk (w.heap.size + 1) (.cells #[.func (.func fid) #[] #[], .int .i64 wg] 379 (0, 0)) :: blk w.heap.size (.cells #[.int .i64 a.claim, .int .i64 a.held, .int .i64 a.credits] 162 (0, 0)) :: F) := h1
      obtain ⟨b0, b1, b2, -⟩ := ac_cells (a := a) (h1.pick 2)
      have p0 := cellAt (h1.pick 1).get_blk 0
      simp only [List.getElem?_toArray, List.getElem?_cons_succ, List.getElem?_cons_zero] at p0
      go_wp2_with fail
      refine (HU2.out _ _ h1).mono ?_
      rintro e w2 ⟨rfl, h2⟩
      have h3 := h2.alloc (.cells #[.int .i64 b.claim, .int .i64 b.held, .int .i64 b.credits] 162 (0, 0))
      clear b0 b1 b2 p0 h1
      obtain ⟨b0, b1, b2, -⟩ := ac_cells (a := b) h3
      go_wp2_with fail
      refine (HR.out _ _ h3).mono ?_
      rintro e w3 ⟨rfl, h4⟩
      clear b0 b1 b2 h2 h3
      obtain ⟨b0, b1, b2, -⟩ := ac_cells (a := b) h4
      obtain ⟨r0, r1, r2, f0, f1, f2⟩ := ac_cells (a := ac0) (h4.pick 1)
      have h5 : holds _ (blk (w.heap.size + 1 + 1) (.cells (acCells b) 162 (0, 0)) :: blk w2.heap.size _ :: blk (w.heap.size + 1) (.cells #[.func (.func fid) #[] #[], .int .i64 wg] 379 (0, 0)) :: blk w.heap.size (.cells #[.int .i64 a.claim, .int .i64 a.held, .int .i64 a.credits] 162 (0, 0)) :: F) := storeAc (a := ac0) (h4.pick 1) b
      go_wp2_with fail
      refine bodyPost_ret (v := acR (b, 0)) ?_ rfl ⟨rfl, h5.tail.tail.tail.tail⟩
      exact results_row_tmp Tryz.results306 _ _ (w.heap.size + 1 + 1) _ _ _ _ _ rfl rfl h5.get_blk Tryz.underlying162 rfl Tryz.sizeAc

theorem account_Reserve (a : AcM) (hbd : acBd a) (n : Int) (w : World) (F : List HProp) (hw : holds w F) :
    Calls Tryz.prog 303 #[acV a, .int .i64 n] w fun e w' => e = .returned (acR (Acct.act 1 a n)) ∧ holds w' F := by
  have hb := (hw.alloc (.cells (acCells a) 162 (0, 0))).alloc (.cells (acCells ac0) 162 (0, 0))
  rw [World.size_alloc] at hb
  have H := Lib.hid (account_applyO 322 (fun _ _ => rfl) 1 (fun a n h1 h2 h3 w F h => account_Reserve1 a n h1 h2 h3 w F h) a hbd n _ _ hb)
  clear hbd
  generalize Acct.act 1 a n = r at H ⊢
  obtain ⟨b, e⟩ := r
  unfold acR at *
  simp only at H ⊢
  unfold acV acCells ac0 Acct.wrong at *
  simp only [if_true, reduceIte, Int.reduceEq] at H
  go_enter Tryz.func303, Tryz.ntmps303
  go_wp2_with fail
  refine H.out.mono ?_
  rintro e1 w1 ⟨rfl, h1⟩
  obtain ⟨r0, r1, r2, f0, f1, f2⟩ := ac_cells (a := ac0) h1
  go_wp2_with fail
  have h5 := storeAc (a := ac0) h1 b
  refine bodyPost_ret (v := .tuple #[acV b, .int .i64 e]) ?_ rfl ⟨rfl, h5.tail.tail⟩
  exact results_row_tmp Tryz.results303 _ _ (w.heap.size + 1) _ _ _ _ _ rfl rfl h5.get_blk Tryz.underlying162 rfl Tryz.sizeAc
theorem account_GrantO (a : AcM) (hbd : acBd a) (n : Int) (w : World) (F : List HProp) (hw : holds w F) :
    Calls Tryz.prog 289 #[acV a, .int .i64 n] w fun e w' => e = .returned (acR (Acct.act 2 a n)) ∧ holds w' F := by
  have hb := (hw.alloc (.cells (acCells a) 162 (0, 0))).alloc (.cells (acCells ac0) 162 (0, 0))
  rw [World.size_alloc] at hb
  have H := Lib.hid (account_applyO 307 (fun _ _ => rfl) 2 (fun a n h1 h2 h3 w F h => account_Grant1O a n h1 h2 h3 w F h) a hbd n _ _ hb)
  clear hbd
  generalize Acct.act 2 a n = r at H ⊢
  obtain ⟨b, e⟩ := r
  unfold acR at *
  simp only at H ⊢
  unfold acV acCells ac0 Acct.wrong at *
  simp only [if_true, reduceIte, Int.reduceEq] at H
  go_enter Tryz.func289, Tryz.ntmps289
  go_wp2_with fail
  refine H.out.mono ?_
  rintro e1 w1 ⟨rfl, h1⟩
  obtain ⟨r0, r1, r2, f0, f1, f2⟩ := ac_cells (a := ac0) h1
  go_wp2_with fail
  have h5 := storeAc (a := ac0) h1 b
  refine bodyPost_ret (v := .tuple #[acV b, .int .i64 e]) ?_ rfl ⟨rfl, h5.tail.tail⟩
  exact results_row_tmp Tryz.results289 _ _ (w.heap.size + 1) _ _ _ _ _ rfl rfl h5.get_blk Tryz.underlying162 rfl Tryz.sizeAc
theorem account_Cancel (a : AcM) (hbd : acBd a) (n : Int) (w : World) (F : List HProp) (hw : holds w F) :
    Calls Tryz.prog 304 #[acV a, .int .i64 n] w fun e w' => e = .returned (acR (Acct.act 3 a n)) ∧ holds w' F := by
  have hb := (hw.alloc (.cells (acCells a) 162 (0, 0))).alloc (.cells (acCells ac0) 162 (0, 0))
  rw [World.size_alloc] at hb
  have H := Lib.hid (account_applyO 323 (fun _ _ => rfl) 3 (fun a n h1 h2 h3 w F h => account_Cancel1 a n h1 h2 h3 w F h) a hbd n _ _ hb)
  clear hbd
  generalize Acct.act 3 a n = r at H ⊢
  obtain ⟨b, e⟩ := r
  unfold acR at *
  simp only at H ⊢
  unfold acV acCells ac0 Acct.wrong at *
  simp only [if_true, reduceIte, Int.reduceEq] at H
  go_enter Tryz.func304, Tryz.ntmps304
  go_wp2_with fail
  refine H.out.mono ?_
  rintro e1 w1 ⟨rfl, h1⟩
  obtain ⟨r0, r1, r2, f0, f1, f2⟩ := ac_cells (a := ac0) h1
  go_wp2_with fail
  have h5 := storeAc (a := ac0) h1 b
  refine bodyPost_ret (v := .tuple #[acV b, .int .i64 e]) ?_ rfl ⟨rfl, h5.tail.tail⟩
  exact results_row_tmp Tryz.results304 _ _ (w.heap.size + 1) _ _ _ _ _ rfl rfl h5.get_blk Tryz.underlying162 rfl Tryz.sizeAc
theorem account_Give (a : AcM) (hbd : acBd a) (n : Int) (w : World) (F : List HProp) (hw : holds w F) :
    Calls Tryz.prog 305 #[acV a, .int .i64 n] w fun e w' => e = .returned (acR (Acct.act 4 a n)) ∧ holds w' F := by
  have hb := (hw.alloc (.cells (acCells a) 162 (0, 0))).alloc (.cells (acCells ac0) 162 (0, 0))
  rw [World.size_alloc] at hb
  have H := Lib.hid (account_applyO 324 (fun _ _ => rfl) 4 (fun a n h1 h2 h3 w F h => account_Give1 a n h1 h2 h3 w F h) a hbd n _ _ hb)
  clear hbd
  generalize Acct.act 4 a n = r at H ⊢
  obtain ⟨b, e⟩ := r
  unfold acR at *
  simp only at H ⊢
  unfold acV acCells ac0 Acct.wrong at *
  simp only [if_true, reduceIte, Int.reduceEq] at H
  go_enter Tryz.func305, Tryz.ntmps305
  go_wp2_with fail
  refine H.out.mono ?_
  rintro e1 w1 ⟨rfl, h1⟩
  obtain ⟨r0, r1, r2, f0, f1, f2⟩ := ac_cells (a := ac0) h1
  go_wp2_with fail
  have h5 := storeAc (a := ac0) h1 b
  refine bodyPost_ret (v := .tuple #[acV b, .int .i64 e]) ?_ rfl ⟨rfl, h5.tail.tail⟩
  exact results_row_tmp Tryz.results305 _ _ (w.heap.size + 1) _ _ _ _ _ rfl rfl h5.get_blk Tryz.underlying162 rfl Tryz.sizeAc
end Go.Proofs.YtfiggkbclldccaaGreat
