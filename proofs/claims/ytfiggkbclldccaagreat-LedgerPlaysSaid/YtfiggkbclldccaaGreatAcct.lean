/- Contracts of package account: what is right, and one step. -/
import Derived.Test.YtfiggkbclldccaaGreatElems
import Derived.IntWalk
namespace Go.Proofs.YtfiggkbclldccaaGreat
open Go Go.RowKit Go.MapKept
set_option maxRecDepth 100000
set_option linter.unusedVariables false
set_option maxHeartbeats 1000000

structure AcM where
  claim : Int
  held : Int
  credits : Int
deriving DecidableEq
def acCells (a : AcM) : Array Value := #[.int .i64 a.claim, .int .i64 a.held, .int .i64 a.credits]
def acV (a : AcM) : Value := .agg (acCells a)
def ac0 : AcM := ⟨0, 0, 0⟩
theorem Tryz.sizeAc : (Tryz.prog.info? 162).map (·.size) = some 3 := by kernel_rfl
namespace Acct
def right (a : AcM) : Bool := decide (1 ≤ a.claim) && decide (a.claim ≤ 1048576) && decide (0 ≤ a.held) && decide (0 ≤ a.credits) && decide (a.held + a.credits ≤ a.claim)
theorem right_iff (a : AcM) : right a = true ↔ 1 ≤ a.claim ∧ a.claim ≤ 1048576 ∧ 0 ≤ a.held ∧ 0 ≤ a.credits ∧ a.held + a.credits ≤ a.claim := by simp [right, and_assoc]
def step (c : Int) (a : AcM) (n : Int) : AcM :=
  if c = 1 then ⟨a.claim, a.held, a.credits + n⟩ else if c = 2 then ⟨a.claim, a.held + n, a.credits - n⟩ else if c = 3 then ⟨a.claim, a.held, a.credits - n⟩ else ⟨a.claim, a.held - n, a.credits⟩
def wrong (c : Int) : Int := if c = 1 then 7 else 20
def act (c : Int) (a : AcM) (n : Int) : AcM × Int :=
  if right a = false ∨ n < 1 then (ac0, 2) else if 1048576 < n then (ac0, wrong c) else if right (step c a n) then (step c a n, 0) else (ac0, wrong c)
def new (claim : Int) : AcM × Int := if right ⟨claim, 0, 0⟩ then (⟨claim, 0, 0⟩, 0) else (ac0, 2)
end Acct
/-- Not so great that a sum leaves the range. -/
def acBd (a : AcM) : Prop := -1099511627776 ≤ a.held ∧ a.held ≤ 1099511627776 ∧ -1099511627776 ≤ a.credits ∧ a.credits ≤ 1099511627776
theorem acBd_right {a : AcM} (h : Acct.right a = true) : acBd a := by
  have := (Acct.right_iff a).1 h
  unfold acBd; omega
theorem acBd_step {a : AcM} (h : Acct.right a = true) (c n : Int) (h1 : 1 ≤ n) (h2 : n ≤ 1048576) : acBd (Acct.step c a n) := by
  have := (Acct.right_iff a).1 h
  unfold acBd Acct.step
  split
  · simp only; omega
  · split
    · simp only; omega
    · split <;> simp only <;> omega

theorem num_AddO (a b : Int) (a0 : -4611686018427387904 ≤ a) (a1 : a ≤ 4611686018427387903) (b0 : -4611686018427387904 ≤ b) (b1 : b ≤ 4611686018427387903) (w : World) (F : List HProp) (hw : holds w F) :
    Calls Tryz.prog 273 #[.int .i64 a, .int .i64 b] w fun e w' => e = .returned (.tuple #[.int .i64 (a + b), .bool true]) ∧ holds w' F := by
  have wr : IntKind.i64.wrap (a + b) = a + b := IntWalk.i64_in _ (by omega)
  by_cases ha : 0 ≤ a <;> by_cases hb : 0 ≤ b
  · have hs : ¬ a + b < 0 := by omega
    go_enter Tryz.func273, Tryz.ntmps273
    go_wp2_with fail
    go_ret2
    exact ⟨rfl, hw⟩
  · have hb2 : b < 0 := by omega
    go_enter Tryz.func273, Tryz.ntmps273
    go_wp2_with fail
    go_ret2
    exact ⟨rfl, hw⟩
  · have ha2 : a < 0 := by omega
    go_enter Tryz.func273, Tryz.ntmps273
    go_wp2_with fail
    go_ret2
    exact ⟨rfl, hw⟩
  · have ha2 : a < 0 := by omega
    have hb2 : b < 0 := by omega
    have hs : ¬ 0 ≤ a + b := by omega
    go_enter Tryz.func273, Tryz.ntmps273
    go_wp2_with fail
    go_ret2
    exact ⟨rfl, hw⟩

theorem ac_cells {w : World} {n : Nat} {T : TypeId} {a : AcM} {F : List HProp} (h : holds w (blk n (.cells (acCells a) T (0, 0)) :: F)) :
    w.cell? ⟨n, 0, none⟩ = some (.int .i64 a.claim) ∧ w.cell? ⟨n, 1, none⟩ = some (.int .i64 a.held) ∧ w.cell? ⟨n, 2, none⟩ = some (.int .i64 a.credits) ∧
    w.frozen? ⟨n, 0, none⟩ = false ∧ w.frozen? ⟨n, 1, none⟩ = false ∧ w.frozen? ⟨n, 2, none⟩ = false := by
  have r := h.get_blk
  exact ⟨cellAt r 0, cellAt r 1, cellAt r 2, frozen_of_row _ _ _ _ _ r, frozen_of_row _ _ _ _ _ r, frozen_of_row _ _ _ _ _ r⟩
theorem storeAc {w : World} {n : Nat} {T : TypeId} {a : AcM} {F : List HProp} (h : holds w (blk n (.cells (acCells a) T (0, 0)) :: F)) (u : AcM) :
    holds (((w.setCell ⟨n, 0, none⟩ (.int .i64 u.claim)).setCell ⟨n, 1, none⟩ (.int .i64 u.held)).setCell ⟨n, 2, none⟩ (.int .i64 u.credits)) (blk n (.cells (acCells u) T (0, 0)) :: F) :=
  ((h.setCell 0 (.int .i64 u.claim)).setCell 1 (.int .i64 u.held)).setCell 2 (.int .i64 u.credits)

theorem account_RightO (a : AcM) (hbd : acBd a) (w : World) (F : List HProp) (hw : holds w F) :
    Calls Tryz.prog 248 #[acV a] w fun e w' => e = .returned (.bool (Acct.right a)) ∧ holds w' F := by
  obtain ⟨r, hr⟩ : ∃ r, Acct.right a = r := ⟨_, rfl⟩
  rw [hr]
  obtain ⟨c, h, d⟩ := a
  have HR := Lib.hid hr
  clear hr
  have hb := hw.alloc (.cells (acCells ⟨c, h, d⟩) 162 (0, 0))
  unfold acBd at hbd
  simp only at hbd
  have H := Lib.hid (num_AddO h d (by omega) (by omega) (by omega) (by omega) _ _ hb)
  clear hbd
  unfold acV acCells at *
  simp only at hb H ⊢
  generalize hs : h + d = s at H
  have HS := Lib.hid hs
  clear hs
  go_enter Tryz.func248, Tryz.ntmps248
  go_wp2_with fail
  refine H.out.mono ?_
  rintro e w1 ⟨rfl, h1⟩
  obtain ⟨b0, b1, b2, -⟩ := ac_cells (a := ⟨c, h, d⟩) h1
  simp only at b0 b1 b2
  go_wp2_with fail
  all_goals
    go_ret
    refine ⟨?_, h1.tail⟩
    rw [← HR.out]
    have hs := HS.out
    refine congrArg (fun b => Ending.returned (Value.bool b)) (?_ : (_ : Bool) = Acct.right _)
    rw [Bool.eq_iff_iff]
    simp [Acct.right]
    try omega

def acR (r : AcM × Int) : Value := .tuple #[acV r.1, .int .i64 r.2]
theorem account_New (claim : Int) (w : World) (F : List HProp) (hw : holds w F) :
    Calls Tryz.prog 183 #[.int .i64 claim] w fun e w' => e = .returned (acR (Acct.new claim)) ∧ holds w' F := by
  have hb2 := (hw.alloc (.cells (acCells ac0) 162 (0, 0))).alloc (.cells #[.int .i64 claim, .int .i64 0, .int .i64 0] 162 (0, 0))
  rw [World.size_alloc] at hb2
  have H : Hid (∀ w F, holds w F → Calls Tryz.prog 248 #[.agg #[.int .i64 claim, .int .i64 0, .int .i64 0]] w fun e w' => e = .returned (.bool (Acct.right ⟨claim, 0, 0⟩)) ∧ holds w' F) := Lib.hid (fun w F h => account_RightO ⟨claim, 0, 0⟩ (by simp [acBd]) w F h)
  unfold Acct.new
  cases hr : Acct.right ⟨claim, 0, 0⟩ with
  | false =>
    rw [if_neg (by simp)]
    simp only [hr] at H
    clear hr
    unfold acCells ac0 at *
    go_enter Tryz.func183, Tryz.ntmps183
    go_wp2_with fail
    refine (H.out _ _ hb2).mono ?_
    rintro e w1 ⟨rfl, h1⟩
    obtain ⟨r0, r1, r2, f0, f1, f2⟩ := ac_cells (a := ac0) h1.tail
    go_wp2_with fail
    have h4 := storeAc (a := ac0) h1.tail ac0
    refine bodyPost_ret (v := acR (ac0, 2)) ?_ rfl ⟨rfl, h4.tail⟩
    exact results_row_tmp Tryz.results183 _ _ w.heap.size _ _ _ _ _ rfl rfl h4.get_blk Tryz.underlying162 rfl Tryz.sizeAc
  | true =>
    rw [if_pos rfl]
    simp only [hr] at H
    clear hr
    unfold acCells ac0 at *
    go_enter Tryz.func183, Tryz.ntmps183
    go_wp2_with fail
    refine (H.out _ _ hb2).mono ?_
    rintro e w1 ⟨rfl, h1⟩
    obtain ⟨b0, b1, b2, -⟩ := ac_cells (a := ⟨claim, 0, 0⟩) h1
    simp only at b0 b1 b2
    obtain ⟨r0, r1, r2, f0, f1, f2⟩ := ac_cells (a := ac0) h1.tail
    go_wp2_with fail
    have h4 := storeAc (a := ac0) h1.tail ⟨claim, 0, 0⟩
    refine bodyPost_ret (v := acR (⟨claim, 0, 0⟩, 0)) ?_ rfl ⟨rfl, h4.tail⟩
    exact results_row_tmp Tryz.results183 _ _ w.heap.size _ _ _ _ _ rfl rfl h4.get_blk Tryz.underlying162 rfl Tryz.sizeAc
end Go.Proofs.YtfiggkbclldccaaGreat
