/- Contracts of the reference of chapter 26. -/
import Derived.Test.YtfiggkbclldccaaAcctB
namespace Go.Proofs.Ytfiggkbclldccaa
open Go Go.RowKit Go.MapKept
set_option maxRecDepth 100000
set_option linter.unusedVariables false
set_option maxHeartbeats 1000000

def acBd2 (a : AcM) : Prop := acBd a ∧ -1099511627776 ≤ a.claim ∧ a.claim ≤ 1099511627776
theorem acBd2_right {a : AcM} (h : Acct.right a = true) : acBd2 a := ⟨acBd_right h, by have := (Acct.right_iff a).1 h; omega⟩
theorem acBd2_zero : acBd2 ac0 := by simp [acBd2, acBd, ac0]
theorem Acct.act_bad {c : Int} {a : AcM} {n : Int} (h : Acct.right a = false ∨ n < 1) : Acct.act c a n = (ac0, 2) := by unfold Acct.act; rw [if_pos h]
theorem Acct.act_1 {a : AcM} {n : Int} (h : Acct.right a = true) (h1 : 1 ≤ n) : Acct.act 1 a n = if a.claim - a.held - a.credits < n then (ac0, 7) else (⟨a.claim, a.held, a.credits + n⟩, 0) := by
  have hr := (Acct.right_iff a).1 h
  unfold Acct.act
  rw [if_neg (by simp [h]; omega)]
  have hs := Acct.right_iff (Acct.step 1 a n)
  simp only [Acct.step, if_true, Acct.wrong] at hs ⊢
  by_cases h2 : a.claim - a.held - a.credits < n
  · rw [if_pos h2]
    split
    · rfl
    · rw [if_neg (by rw [hs]; omega)]
  · rw [if_neg h2, if_neg (by omega), if_pos (by rw [hs]; omega)]
theorem Acct.act_2 {a : AcM} {n : Int} (h : Acct.right a = true) (h1 : 1 ≤ n) : Acct.act 2 a n = if a.credits < n then (ac0, 20) else (⟨a.claim, a.held + n, a.credits - n⟩, 0) := by
  have hr := (Acct.right_iff a).1 h
  unfold Acct.act
  rw [if_neg (by simp [h]; omega)]
  have hs := Acct.right_iff (Acct.step 2 a n)
  have e : Acct.step 2 a n = ⟨a.claim, a.held + n, a.credits - n⟩ := rfl
  have ew : Acct.wrong 2 = 20 := rfl
  rw [e] at hs ⊢
  rw [ew]
  simp only at hs
  by_cases h2 : a.credits < n
  · rw [if_pos h2]
    split
    · rfl
    · rw [if_neg (by rw [hs]; omega)]
  · rw [if_neg h2, if_neg (by omega), if_pos (by rw [hs]; omega)]
theorem Acct.act_3 {a : AcM} {n : Int} (h : Acct.right a = true) (h1 : 1 ≤ n) : Acct.act 3 a n = if a.credits < n then (ac0, 20) else (⟨a.claim, a.held, a.credits - n⟩, 0) := by
  have hr := (Acct.right_iff a).1 h
  unfold Acct.act
  rw [if_neg (by simp [h]; omega)]
  have hs := Acct.right_iff (Acct.step 3 a n)
  have e : Acct.step 3 a n = ⟨a.claim, a.held, a.credits - n⟩ := rfl
  have ew : Acct.wrong 3 = 20 := rfl
  rw [e] at hs ⊢
  rw [ew]
  simp only at hs
  by_cases h2 : a.credits < n
  · rw [if_pos h2]
    split
    · rfl
    · rw [if_neg (by rw [hs]; omega)]
  · rw [if_neg h2, if_neg (by omega), if_pos (by rw [hs]; omega)]
theorem Acct.act_4 {a : AcM} {n : Int} (h : Acct.right a = true) (h1 : 1 ≤ n) : Acct.act 4 a n = if a.held < n then (ac0, 20) else (⟨a.claim, a.held - n, a.credits⟩, 0) := by
  have hr := (Acct.right_iff a).1 h
  unfold Acct.act
  rw [if_neg (by simp [h]; omega)]
  have hs := Acct.right_iff (Acct.step 4 a n)
  have e : Acct.step 4 a n = ⟨a.claim, a.held - n, a.credits⟩ := rfl
  have ew : Acct.wrong 4 = 20 := rfl
  rw [e] at hs ⊢
  rw [ew]
  simp only at hs
  by_cases h2 : a.held < n
  · rw [if_pos h2]
    split
    · rfl
    · rw [if_neg (by rw [hs]; omega)]
  · rw [if_neg h2, if_neg (by omega), if_pos (by rw [hs]; omega)]
theorem Acct.act_right {c : Int} {a b : AcM} {n : Int} (h : Acct.act c a n = (b, 0)) : Acct.right b = true := by
  unfold Acct.act at h
  split at h
  · injection h with _ h; cases h
  · split at h
    · injection h with _ h; unfold Acct.wrong at h; split at h <;> cases h
    · split at h
      · rename_i h2; injection h with h _; rw [← h]; exact h2
      · injection h with _ h; unfold Acct.wrong at h; split at h <;> cases h

theorem ref26_Right (a : AcM) (hbd : acBd2 a) (w : World) (F : List HProp) (hw : holds w F) :
    Calls Try.prog 26 #[acV a] w fun e w' => e = .returned (.bool (Acct.right a)) ∧ holds w' F := by
  obtain ⟨r, hr⟩ : ∃ r, Acct.right a = r := ⟨_, rfl⟩
  rw [hr]
  obtain ⟨c, h, d⟩ := a
  have HR := Lib.hid hr
  clear hr
  have hb := hw.alloc (.cells (acCells ⟨c, h, d⟩) 55 (0, 0))
  unfold acBd2 acBd at hbd
  simp only at hbd
  have wr : IntKind.i64.wrap (c - h) = c - h := IntWalk.i64_in _ (by omega)
  clear hbd
  unfold acV acCells at *
  simp only at hb ⊢
  go_enter Try.func26, Try.ntmps26
  go_wp2_with fail
  all_goals
    go_ret
    refine ⟨?_, hb.tail⟩
    rw [← HR.out]
    refine congrArg (fun b => Ending.returned (Value.bool b)) (?_ : (_ : Bool) = Acct.right _)
    rw [Bool.eq_iff_iff]
    simp [Acct.right]
    try omega

end Go.Proofs.Ytfiggkbclldccaa
