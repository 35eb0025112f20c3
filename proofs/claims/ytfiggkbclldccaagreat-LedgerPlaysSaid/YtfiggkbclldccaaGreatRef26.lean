/- Contracts of the reference of chapter 26. -/
import Derived.Test.YtfiggkbclldccaaGreatAcctB
namespace Go.Proofs.YtfiggkbclldccaaGreat
open Go Go.RowKit Go.MapKept
set_option maxRecDepth 100000
set_option linter.unusedVariables false
set_option maxHeartbeats 1000000

def acBd2 (a : AcM) : Prop := acBd a ∧ -1099511627776 ≤ a.claim ∧ a.claim ≤ 1099511627776
theorem acBd2_right {a : AcM} (h : Acct.right a = true) : acBd2 a := ⟨acBd_right h, by have := (Acct.right_iff a).1 h; omega⟩
theorem acBd2_zero : acBd2 ac0 := by simp [acBd2, acBd, ac0]
theorem Acct.act_bad {c : Int} {a : AcM} {n : Int} (h : Acct.right a = false ∨ n < 1) : Acct.act c a n = (ac0, 2) := by unfold Acct.act; rw [if_pos h]
theorem Acct.act_1 {a : AcM} {n : Int} (h : Acct.right a = true) (h1 : 1 ≤ n) : Acct.act 1 a n = if a.claim - a.held - a.credits < n then (ac0, 7) else (⟨a.claim, a.held, a.credits + n⟩, 0) := by
  have hr := (Acct.right_iff a).1 h
  unfold Acct.act
  rw [if_neg (by simp [h]; omega)]
  have hs := Acct.right_iff (Acct.step 1 a n)
  simp only [Acct.step, if_true, Acct.wrong] at hs ⊢
  by_cases h2 : a.claim - a.held - a.credits < n
  · rw [if_pos h2]
    split
    · rfl
    · rw [if_neg (by rw [hs]; omega)]
  · rw [if_neg h2, if_neg (by omega), if_pos (by rw [hs]; omega)]
theorem Acct.act_2 {a : AcM} {n : Int} (h : Acct.right a = true) (h1 : 1 ≤ n) : Acct.act 2 a n = if a.credits < n then (ac0, 20) else (⟨a.claim, a.held + n, a.credits - n⟩, 0) := by
  have hr := (Acct.right_iff a).1 h
  unfold Acct.act
  rw [if_neg (by simp [h]; omega)]
  have hs := Acct.right_iff (Acct.step 2 a n)
  have e : Acct.step 2 a n = ⟨a.claim, a.held + n, a.credits - n⟩ := rfl
  have ew : Acct.wrong 2 = 20 := rfl
  rw [e] at hs ⊢
  rw [ew]
  simp only at hs
  by_cases h2 : a.credits < n
  · rw [if_pos h2]
    split
    · rfl
    · rw [if_neg (by rw [hs]; omega)]
  · rw [if_neg h2, if_neg (by omega), if_pos (by rw [hs]; omega)]
theorem Acct.act_3 {a : AcM} {n : Int} (h : Acct.right a = true) (h1 : 1 ≤ n) : Acct.act 3 a n = if a.credits < n then (ac0, 20) else (⟨a.claim, a.held, a.credits - n⟩, 0) := by
  have hr := (Acct.right_iff a).1 h
  unfold Acct.act
  rw [if_neg (by simp [h]; omega)]
  have hs := Acct.right_iff (Acct.step 3 a n)
  have e : Acct.step 3 a n = ⟨a.claim, a.held, a.credits - n⟩ := rfl
  have ew : Acct.wrong 3 = 20 := rfl
  rw [e] at hs ⊢
  rw [ew]
  simp only at hs
  by_cases h2 : a.credits < n
  · rw [if_pos h2]
    split
    · rfl
    · rw [if_neg (by rw [hs]; omega)]
  · rw [if_neg h2, if_neg (by omega), if_pos (by rw [hs]; omega)]
theorem Acct.act_4 {a : AcM} {n : Int} (h : Acct.right a = true) (h1 : 1 ≤ n) : Acct.act 4 a n = if a.held < n then (ac0, 20) else (⟨a.claim, a.held - n, a.credits⟩, 0) := by
  have hr := (Acct.right_iff a).1 h
  unfold Acct.act
  rw [if_neg (by simp [h]; omega)]
  have hs := Acct.right_iff (Acct.step 4 a n)
  have e : Acct.step 4 a n = ⟨a.claim, a.held - n, a.credits⟩ := rfl
  have ew : Acct.wrong 4 = 20 := rfl
  rw [e] at hs ⊢
  rw [ew]
  simp only at hs
  by_cases h2 : a.held < n
  · rw [if_pos h2]
    split
    · rfl
    · rw [if_neg (by rw [hs]; omega)]
  · rw [if_neg h2, if_neg (by omega), if_pos (by rw [hs]; omega)]
theorem Acct.act_right {c : Int} {a b : AcM} {n : Int} (h : Acct.act c a n = (b, 0)) : Acct.right b = true := by
  unfold Acct.act at h
  split at h
  · injection h with _ h; cases h
  · split at h
    · injection h with _ h; unfold Acct.wrong at h; split at h <;> cases h
    · split at h
      · rename_i h2; injection h with h _; rw [← h]; exact h2
      · injection h with _ h; unfold Acct.wrong at h; split at h <;> cases h

theorem ref26_Right (a : AcM) (hbd : acBd2 a) (w : World) (F : List HProp) (hw : holds w F) :
    Calls Tryz.prog 251 #[acV a] w fun e w' => e = .returned (.bool (Acct.right a)) ∧ holds w' F := by
  obtain ⟨r, hr⟩ : ∃ r, Acct.right a = r := ⟨_, rfl⟩
  rw [hr]
  obtain ⟨c, h, d⟩ := a
  have HR := Lib.hid hr
  clear hr
  have hb := hw.alloc (.cells (acCells ⟨c, h, d⟩) 162 (0, 0))
  unfold acBd2 acBd at hbd
  simp only at hbd
  have wr : IntKind.i64.wrap (c - h) = c - h := IntWalk.i64_in _ (by omega)
  clear hbd
  unfold acV acCells at *
  simp only at hb ⊢
  go_enter Tryz.func251, Tryz.ntmps251
  go_wp2_with fail
  all_goals
    go_ret
    refine ⟨?_, hb.tail⟩
    rw [← HR.out]
    refine congrArg (fun b => Ending.returned (Value.bool b)) (?_ : (_ : Bool) = Acct.right _)
    rw [Bool.eq_iff_iff]
    simp [Acct.right]
    try omega
theorem ref26_New (claim : Int) (w : World) (F : List HProp) (hw : holds w F) :
    Calls Tryz.prog 178 #[.int .i64 claim] w fun e w' => e = .returned (acR (Acct.new claim)) ∧ holds w' F := by
  have hb := hw.alloc (.cells (acCells ac0) 162 (0, 0))
  have HH := Lib.hid (Acct.right_iff ⟨claim, 0, 0⟩)
  unfold Acct.new
  by_cases g1 : claim < 1
  · rw [if_neg (fun h => by have := HH.out.1 h; simp at this; omega)]
    unfold acCells ac0 at *
    go_enter Tryz.func178, Tryz.ntmps178
    go_wp2_with fail
    refine bodyPost_ret (v := acR (ac0, 2)) ?_ rfl ⟨rfl, hb.tail⟩
    exact results_row_tmp Tryz.results178 _ _ w.heap.size _ _ _ _ _ rfl rfl hb.get_blk Tryz.underlying162 rfl Tryz.sizeAc
  by_cases g5 : 1048576 < claim
  · rw [if_neg (fun h => by have := HH.out.1 h; simp at this; omega)]
    unfold acCells ac0 at *
    go_enter Tryz.func178, Tryz.ntmps178
    go_wp2_with fail
    refine bodyPost_ret (v := acR (ac0, 2)) ?_ rfl ⟨rfl, hb.tail⟩
    exact results_row_tmp Tryz.results178 _ _ w.heap.size _ _ _ _ _ rfl rfl hb.get_blk Tryz.underlying162 rfl Tryz.sizeAc
  rw [if_pos (HH.out.2 ⟨by simp; omega, by simp; omega, by simp, by simp, by simp; omega⟩)]
  have h4 := hw.alloc (.cells (acCells ⟨claim, 0, 0⟩) 162 (0, 0))
  unfold acCells ac0 at *
  simp only at h4
  go_enter Tryz.func178, Tryz.ntmps178
  go_wp2_with fail
  refine bodyPost_ret (v := acR (⟨claim, 0, 0⟩, 0)) ?_ rfl ⟨rfl, h4.tail⟩
  exact results_row_tmp Tryz.results178 _ _ w.heap.size _ _ _ _ _ rfl rfl h4.get_blk Tryz.underlying162 rfl Tryz.sizeAc

theorem ref26_Do (c : Int) (c1 : 1 ≤ c) (c4 : c ≤ 4) (a : AcM) (hbd : acBd2 a) (n : Int) (w : World) (F : List HProp) (hw : holds w F) :
    Calls Tryz.prog 189 #[.int .i64 c, acV a, .int .i64 n] w fun e w' => e = .returned (acR (Acct.act c a n)) ∧ holds w' F := by
  have hb := (hw.alloc (.cells (acCells a) 162 (0, 0))).alloc (.cells (acCells ac0) 162 (0, 0))
  rw [World.size_alloc] at hb
  have H := Lib.hid (ref26_Right a hbd _ _ hb)
  clear hbd
  cases hr : Acct.right a with
  | false =>
    rw [Acct.act_bad (.inl hr)]
    rw [hr] at H
    clear hr
    unfold acV acCells ac0 at *
    go_enter Tryz.func189, Tryz.ntmps189
    go_wp2_with fail
    refine H.out.mono ?_
    rintro e w1 ⟨rfl, h1⟩
    obtain ⟨b0, b1, b2, -⟩ := ac_cells (a := a) (h1.pick 1)
    obtain ⟨r0, r1, r2, f0, f1, f2⟩ := ac_cells (a := ac0) h1
    go_wp2_with fail
    have h5 := storeAc (a := ac0) h1 ac0
    refine bodyPost_ret (v := acR (ac0, 2)) ?_ rfl ⟨rfl, h5.tail.tail⟩
    exact results_row_tmp Tryz.results189 _ _ (w.heap.size + 1) _ _ _ _ _ rfl rfl h5.get_blk Tryz.underlying162 rfl Tryz.sizeAc
  | true =>
    by_cases h1 : n < 1
    · rw [Acct.act_bad (.inr h1)]
      rw [hr] at H
      clear hr
      unfold acV acCells ac0 at *
      go_enter Tryz.func189, Tryz.ntmps189
      go_wp2_with fail
      refine H.out.mono ?_
      rintro e w1 ⟨rfl, h1⟩
      obtain ⟨b0, b1, b2, -⟩ := ac_cells (a := a) (h1.pick 1)
      obtain ⟨r0, r1, r2, f0, f1, f2⟩ := ac_cells (a := ac0) h1
      go_wp2_with fail
      have h5 := storeAc (a := ac0) h1 ac0
      refine bodyPost_ret (v := acR (ac0, 2)) ?_ rfl ⟨rfl, h5.tail.tail⟩
      exact results_row_tmp Tryz.results189 _ _ (w.heap.size + 1) _ _ _ _ _ rfl rfl h5.get_blk Tryz.underlying162 rfl Tryz.sizeAc
    have hri := (Acct.right_iff a).1 hr
    have wr1 : IntKind.i64.wrap (a.claim - a.held) = a.claim - a.held := IntWalk.i64_in _ (by omega)
    have wr2 : IntKind.i64.wrap (a.claim - a.held - a.credits) = a.claim - a.held - a.credits := IntWalk.i64_in _ (by omega)
    have HRI := Lib.hid hri
    clear hri
    obtain rfl | rfl | rfl | rfl : c = 1 ∨ c = 2 ∨ c = 3 ∨ c = 4 := by omega
    · rw [Acct.act_1 hr (by omega)]
      rw [hr] at H
      clear hr
      by_cases h2 : a.claim - a.held - a.credits < n
      · rw [if_pos h2]
        unfold acV acCells ac0 at *
        go_enter Tryz.func189, Tryz.ntmps189
        go_wp2_with fail
        refine H.out.mono ?_
        rintro e w1 ⟨rfl, h1⟩
        obtain ⟨b0, b1, b2, -⟩ := ac_cells (a := a) (h1.pick 1)
        obtain ⟨r0, r1, r2, f0, f1, f2⟩ := ac_cells (a := ac0) h1
        go_wp2_with fail
        have h5 := storeAc (a := ac0) h1 ac0
        refine bodyPost_ret (v := acR (ac0, 7)) ?_ rfl ⟨rfl, h5.tail.tail⟩
        exact results_row_tmp Tryz.results189 _ _ (w.heap.size + 1) _ _ _ _ _ rfl rfl h5.get_blk Tryz.underlying162 rfl Tryz.sizeAc
      · rw [if_neg h2]
        have hri := HRI.out
        have wra : n ≤ 2097152 → IntKind.i64.wrap (a.credits + n) = a.credits + n := fun _ => IntWalk.i64_in _ (by omega)
        have hn2 : n ≤ 2097152 := by omega
        have wra := wra hn2
        have wrb : IntKind.i64.wrap (a.credits - n) = a.credits - n := IntWalk.i64_in _ (by omega)
        have wrc : IntKind.i64.wrap (a.held + n) = a.held + n := IntWalk.i64_in _ (by omega)
        have wrd : IntKind.i64.wrap (a.held - n) = a.held - n := IntWalk.i64_in _ (by omega)
        clear hri
        unfold acV acCells ac0 at *
        go_enter Tryz.func189, Tryz.ntmps189
        go_wp2_with fail
        refine H.out.mono ?_
        rintro e w1 ⟨rfl, h1⟩
        obtain ⟨b0, b1, b2, -⟩ := ac_cells (a := a) (h1.pick 1)
        obtain ⟨r0, r1, r2, f0, f1, f2⟩ := ac_cells (a := ac0) h1
        go_wp2_with fail
        have h5 := storeAc (a := ac0) h1 ⟨a.claim, a.held, a.credits + n⟩
        refine bodyPost_ret (v := acR (⟨a.claim, a.held, a.credits + n⟩, 0)) ?_ rfl ⟨rfl, h5.tail.tail⟩
        exact results_row_tmp Tryz.results189 _ _ (w.heap.size + 1) _ _ _ _ _ rfl rfl h5.get_blk Tryz.underlying162 rfl Tryz.sizeAc
    · rw [Acct.act_2 hr (by omega)]
      rw [hr] at H
      clear hr
      by_cases h2 : a.credits < n
      · rw [if_pos h2]
        unfold acV acCells ac0 at *
        go_enter Tryz.func189, Tryz.ntmps189
        go_wp2_with fail
        refine H.out.mono ?_
        rintro e w1 ⟨rfl, h1⟩
        obtain ⟨b0, b1, b2, -⟩ := ac_cells (a := a) (h1.pick 1)
        obtain ⟨r0, r1, r2, f0, f1, f2⟩ := ac_cells (a := ac0) h1
        go_wp2_with fail
        have h5 := storeAc (a := ac0) h1 ac0
        refine bodyPost_ret (v := acR (ac0, 20)) ?_ rfl ⟨rfl, h5.tail.tail⟩
        exact results_row_tmp Tryz.results189 _ _ (w.heap.size + 1) _ _ _ _ _ rfl rfl h5.get_blk Tryz.underlying162 rfl Tryz.sizeAc
      · rw [if_neg h2]
        have hri := HRI.out
        have wra : n ≤ 2097152 → IntKind.i64.wrap (a.credits + n) = a.credits + n := fun _ => IntWalk.i64_in _ (by omega)
        have hn2 : n ≤ 2097152 := by omega
        have wra := wra hn2
        have wrb : IntKind.i64.wrap (a.credits - n) = a.credits - n := IntWalk.i64_in _ (by omega)
        have wrc : IntKind.i64.wrap (a.held + n) = a.held + n := IntWalk.i64_in _ (by omega)
        have wrd : IntKind.i64.wrap (a.held - n) = a.held - n := IntWalk.i64_in _ (by omega)
        clear hri
        unfold acV acCells ac0 at *
        go_enter Tryz.func189, Tryz.ntmps189
        go_wp2_with fail
        refine H.out.mono ?_
        rintro e w1 ⟨rfl, h1⟩
        obtain ⟨b0, b1, b2, -⟩ := ac_cells (a := a) (h1.pick 1)
        obtain ⟨r0, r1, r2, f0, f1, f2⟩ := ac_cells (a := ac0) h1
        go_wp2_with fail
        have h5 := storeAc (a := ac0) h1 ⟨a.claim, a.held + n, a.credits - n⟩
        refine bodyPost_ret (v := acR (⟨a.claim, a.held + n, a.credits - n⟩, 0)) ?_ rfl ⟨rfl, h5.tail.tail⟩
        exact results_row_tmp Tryz.results189 _ _ (w.heap.size + 1) _ _ _ _ _ rfl rfl h5.get_blk Tryz.underlying162 rfl Tryz.sizeAc
    · rw [Acct.act_3 hr (by omega)]
      rw [hr] at H
      clear hr
      by_cases h2 : a.credits < n
      · rw [if_pos h2]
        unfold acV acCells ac0 at *
        go_enter Tryz.func189, Tryz.ntmps189
        go_wp2_with fail
        refine H.out.mono ?_
        rintro e w1 ⟨rfl, h1⟩
        obtain ⟨b0, b1, b2, -⟩ := ac_cells (a := a) (h1.pick 1)
        obtain ⟨r0, r1, r2, f0, f1, f2⟩ := ac_cells (a := ac0) h1
        go_wp2_with fail
        have h5 := storeAc (a := ac0) h1 ac0
        refine bodyPost_ret (v := acR (ac0, 20)) ?_ rfl ⟨rfl, h5.tail.tail⟩
        exact results_row_tmp Tryz.results189 _ _ (w.heap.size + 1) _ _ _ _ _ rfl rfl h5.get_blk Tryz.underlying162 rfl Tryz.sizeAc
      · rw [if_neg h2]
        have hri := HRI.out
        have wra : n ≤ 2097152 → IntKind.i64.wrap (a.credits + n) = a.credits + n := fun _ => IntWalk.i64_in _ (by omega)
        have hn2 : n ≤ 2097152 := by omega
        have wra := wra hn2
        have wrb : IntKind.i64.wrap (a.credits - n) = a.credits - n := IntWalk.i64_in _ (by omega)
        have wrc : IntKind.i64.wrap (a.held + n) = a.held + n := IntWalk.i64_in _ (by omega)
        have wrd : IntKind.i64.wrap (a.held - n) = a.held - n := IntWalk.i64_in _ (by omega)
        clear hri
        unfold acV acCells ac0 at *
        go_enter Tryz.func189, Tryz.ntmps189
        go_wp2_with fail
        refine H.out.mono ?_
        rintro e w1 ⟨rfl, h1⟩
        obtain ⟨b0, b1, b2, -⟩ := ac_cells (a := a) (h1.pick 1)
        obtain ⟨r0, r1, r2, f0, f1, f2⟩ := ac_cells (a := ac0) h1
        go_wp2_with fail
        have h5 := storeAc (a := ac0) h1 ⟨a.claim, a.held, a.credits - n⟩
        refine bodyPost_ret (v := acR (⟨a.claim, a.held, a.credits - n⟩, 0)) ?_ rfl ⟨rfl, h5.tail.tail⟩
        exact results_row_tmp Tryz.results189 _ _ (w.heap.size + 1) _ _ _ _ _ rfl rfl h5.get_blk Tryz.underlying162 rfl Tryz.sizeAc
    · rw [Acct.act_4 hr (by omega)]
      rw [hr] at H
      clear hr
      by_cases h2 : a.held < n
      · rw [if_pos h2]
        unfold acV acCells ac0 at *
        go_enter Tryz.func189, Tryz.ntmps189
        go_wp2_with fail
        refine H.out.mono ?_
        rintro e w1 ⟨rfl, h1⟩
        obtain ⟨b0, b1, b2, -⟩ := ac_cells (a := a) (h1.pick 1)
        obtain ⟨r0, r1, r2, f0, f1, f2⟩ := ac_cells (a := ac0) h1
        go_wp2_with fail
        have h5 := storeAc (a := ac0) h1 ac0
        refine bodyPost_ret (v := acR (ac0, 20)) ?_ rfl ⟨rfl, h5.tail.tail⟩
        exact results_row_tmp Tryz.results189 _ _ (w.heap.size + 1) _ _ _ _ _ rfl rfl h5.get_blk Tryz.underlying162 rfl Tryz.sizeAc
      · rw [if_neg h2]
        have hri := HRI.out
        have wra : n ≤ 2097152 → IntKind.i64.wrap (a.credits + n) = a.credits + n := fun _ => IntWalk.i64_in _ (by omega)
        have hn2 : n ≤ 2097152 := by omega
        have wra := wra hn2
        have wrb : IntKind.i64.wrap (a.credits - n) = a.credits - n := IntWalk.i64_in _ (by omega)
        have wrc : IntKind.i64.wrap (a.held + n) = a.held + n := IntWalk.i64_in _ (by omega)
        have wrd : IntKind.i64.wrap (a.held - n) = a.held - n := IntWalk.i64_in _ (by omega)
        clear hri
        unfold acV acCells ac0 at *
        go_enter Tryz.func189, Tryz.ntmps189
        go_wp2_with fail
        refine H.out.mono ?_
        rintro e w1 ⟨rfl, h1⟩
        obtain ⟨b0, b1, b2, -⟩ := ac_cells (a := a) (h1.pick 1)
        obtain ⟨r0, r1, r2, f0, f1, f2⟩ := ac_cells (a := ac0) h1
        go_wp2_with fail
        have h5 := storeAc (a := ac0) h1 ⟨a.claim, a.held - n, a.credits⟩
        refine bodyPost_ret (v := acR (⟨a.claim, a.held - n, a.credits⟩, 0)) ?_ rfl ⟨rfl, h5.tail.tail⟩
        exact results_row_tmp Tryz.results189 _ _ (w.heap.size + 1) _ _ _ _ _ rfl rfl h5.get_blk Tryz.underlying162 rfl Tryz.sizeAc
end Go.Proofs.YtfiggkbclldccaaGreat
