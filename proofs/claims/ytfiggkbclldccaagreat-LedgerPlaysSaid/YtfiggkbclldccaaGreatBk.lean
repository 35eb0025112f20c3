/- Package bank, of any numbers: the walks. -/
import Derived.Test.YtfiggkbclldccaaGreatFrOr
import Derived.Test.YtfiggkbclldccaaGreatAcctB
namespace Go.Proofs.YtfiggkbclldccaaGreat
open Go Go.RowKit Go.MapKept
set_option linter.unusedVariables false
set_option linter.unusedSimpArgs false
set_option maxRecDepth 100000
set_option maxHeartbeats 2000000
namespace Bnk
def both (free waiting : Int) : Prop := 0 ≤ free ∧ 0 ≤ waiting ∧ free ≤ 1048576 ∧ waiting ≤ 1048576 - free
instance (a b : Int) : Decidable (both a b) := by unfold both; infer_instance
def mayAt (free waiting : Int) (ms : List MbM) (n : Int) (m : MbM) (i : Nat) : Bool := decide (n ≤ m.acc.credits) && Ord.safe (ms.set i ⟨m.id, Acc.gr m.acc n⟩) (free - n + waiting)
/-- May so many be granted to the member at a place? -/
def may (free waiting : Int) (ms : List MbM) (at_ n : Int) : Bool := decide (1 ≤ n ∧ n ≤ free ∧ both free waiting ∧ 0 ≤ at_) && match ms[at_.toNat]? with | none => false | some m => mayAt free waiting ms n m at_.toNat
end Bnk
def oldAc (a : AccM) : AcM := ⟨a.claim, a.held, a.credits⟩
theorem oldAc_right {a : AccM} : Acct.right (oldAc a) = decide (Acc.Right a) := by
  rw [Bool.eq_iff_iff, Acct.right_iff, decide_eq_true_eq]; exact Iff.rfl
theorem oldAc_bd {a : AccM} (h : Acc.Right a) : acBd (oldAc a) := acBd_right (by rw [oldAc_right, decide_eq_true h])
theorem bank_both (free waiting : Int) (w : World) (F : List HProp) (hw : holds w F) :
    Ct Tryz.prog 244 #[.int .i64 free, .int .i64 waiting] w fun e w' => e = .returned (.tuple #[.int .i64 (if Bnk.both free waiting then free + waiting else 0), .bool (decide (Bnk.both free waiting))]) ∧ holds w' F := by
  refine Ct.go (args := [.int .i64 free, .int .i64 waiting]) Tryz.func244 rfl rfl rfl hw ?_
  by_cases hb : Bnk.both free waiting
  · rw [if_pos hb, decide_eq_true hb]
    obtain ⟨h0, h1, h2, h3⟩ := hb
    repeat' (first | (apply GL.isAny; first | refine GL.runA rfl ?_ | (apply GL.isStore; first | refine GL.storeBlk rfl rfl rfl rfl rfl ?_ | refine GL.storeWhole rfl rfl rfl rfl rfl ?_ | refine GL.storeBlkA rfl rfl rfl rfl rfl ?_) | refine GL.guardY rfl rfl ?_ | refine GL.guardN rfl rfl rfl ?_ | refine GL.guardU rfl rfl rfl ?_ | (apply GL.isBox; first | refine GL.boxA rfl rfl (fun _ => ?_) | refine GL.box1 rfl rfl rfl (fun _ => ?_) | refine GL.box rfl rfl (fun _ => ?_)) | (apply GL.isBuildS; first | refine GL.buildSlice1A rfl rfl rfl rfl rfl (fun _ => ?_) | refine GL.buildSlice1 rfl rfl rfl rfl rfl (fun _ => ?_)) | (apply GL.isCall; refine GL.append1 _ rfl rfl rfl rfl (by rfl) (by omega) (by omega) rfl (fun _ => ?_)) | (apply GL.isAlloc; refine GL.alloc rfl (fun _ => ?_))) | apply GL.nil | first | apply G.seq | apply G.region | apply G.block | apply G.skip | apply G.exit | apply G.ret | (apply G.isCond; first | refine G.condT rfl ?_ | refine G.condF rfl ?_) | refine G.draw (by kernel_rfl) (by kernel_rfl) ?_ | (apply GE.isAny; first | apply GE.again | apply GE.thenG | apply GE.blockN | apply GE.blockE | apply GE.thenE | apply GE.thenR | apply GE.blockR | refine GE.blockO rfl ?_ | apply GE.only) | (apply GD.isAny; first | refine GD.runA rfl ?_ | refine GD.guardY rfl rfl ?_ | refine GD.guardN rfl rfl rfl ?_ | refine GD.guardU rfl rfl rfl ?_) | apply GD.nilE | apply GD.nilL | (apply GT.isAny; refine GT.runA rfl rfl ?_) | ((first | (apply GL.isAny; refine GL.guard rfl rfl (fun hc => ?_) (fun hc => ?_)) | (apply G.isCond; refine G.cond rfl (fun hc => ?_) (fun hc => ?_)) | (apply GD.isAny; refine GD.guard rfl rfl (fun hc => ?_) (fun hc => ?_))) <;> ((try simp only [decide_eq_true_eq, decide_eq_false_iff_not, Bool.not_true, Bool.not_false, ne_eq, Classical.not_not, Int.not_lt, Int.not_le] at hc); (try (exfalso; first | omega | exact hc trivial | exact hc rfl)))))
    all_goals (first | (exfalso; omega) | (refine GE.resMany rfl (by (repeat (first | apply Res.nil | (apply Res.tmp; rfl) | (refine Res.cellA rfl rfl rfl ?_) | (refine Res.cell1 rfl rfl ?_)))) (fun w h => ?_); exact ⟨rfl, h.sub⟩))
  · rw [if_neg hb, decide_eq_false hb]
    unfold Bnk.both at hb
    repeat' (first | (apply GL.isAny; first | refine GL.runA rfl ?_ | (apply GL.isStore; first | refine GL.storeBlk rfl rfl rfl rfl rfl ?_ | refine GL.storeWhole rfl rfl rfl rfl rfl ?_ | refine GL.storeBlkA rfl rfl rfl rfl rfl ?_) | refine GL.guardY rfl rfl ?_ | refine GL.guardN rfl rfl rfl ?_ | refine GL.guardU rfl rfl rfl ?_ | (apply GL.isBox; first | refine GL.boxA rfl rfl (fun _ => ?_) | refine GL.box1 rfl rfl rfl (fun _ => ?_) | refine GL.box rfl rfl (fun _ => ?_)) | (apply GL.isBuildS; first | refine GL.buildSlice1A rfl rfl rfl rfl rfl (fun _ => ?_) | refine GL.buildSlice1 rfl rfl rfl rfl rfl (fun _ => ?_)) | (apply GL.isCall; refine GL.append1 _ rfl rfl rfl rfl (by rfl) (by omega) (by omega) rfl (fun _ => ?_)) | (apply GL.isAlloc; refine GL.alloc rfl (fun _ => ?_))) | apply GL.nil | first | apply G.seq | apply G.region | apply G.block | apply G.skip | apply G.exit | apply G.ret | (apply G.isCond; first | refine G.condT rfl ?_ | refine G.condF rfl ?_) | refine G.draw (by kernel_rfl) (by kernel_rfl) ?_ | (apply GE.isAny; first | apply GE.again | apply GE.thenG | apply GE.blockN | apply GE.blockE | apply GE.thenE | apply GE.thenR | apply GE.blockR | refine GE.blockO rfl ?_ | apply GE.only) | (apply GD.isAny; first | refine GD.runA rfl ?_ | refine GD.guardY rfl rfl ?_ | refine GD.guardN rfl rfl rfl ?_ | refine GD.guardU rfl rfl rfl ?_) | apply GD.nilE | apply GD.nilL | (apply GT.isAny; refine GT.runA rfl rfl ?_) | ((first | (apply GL.isAny; refine GL.guard rfl rfl (fun hc => ?_) (fun hc => ?_)) | (apply G.isCond; refine G.cond rfl (fun hc => ?_) (fun hc => ?_)) | (apply GD.isAny; refine GD.guard rfl rfl (fun hc => ?_) (fun hc => ?_))) <;> ((try simp only [decide_eq_true_eq, decide_eq_false_iff_not, Bool.not_true, Bool.not_false, ne_eq, Classical.not_not, Int.not_lt, Int.not_le] at hc); (try (exfalso; first | omega | exact hc trivial | exact hc rfl)))))
    all_goals (first | (exfalso; omega) | (refine GE.resMany rfl (by (repeat (first | apply Res.nil | (apply Res.tmp; rfl) | (refine Res.cellA rfl rfl rfl ?_) | (refine Res.cell1 rfl rfl ?_)))) (fun w h => ?_); exact ⟨rfl, h.sub⟩))
theorem account_GrantT (a : AccM) (ha : Acc.Right a) (n : Int) (w : World) (F : List HProp) (hw : holds w F) :
    Ct Tryz.prog 289 #[.agg (encAcc a).toArray, .int .i64 n] w fun e w' => e = .returned (.tuple #[acV (Acct.act 2 (oldAc a) n).1, .int .i64 (Acct.act 2 (oldAc a) n).2]) ∧ holds w' F :=
  ⟨account_GrantO (oldAc a) (oldAc_bd ha) n w F hw⟩
theorem act2_no {a : AccM} (ha : Acc.Right a) {n : Int} (h : n < 1 ∨ a.credits < n) : ∃ e : Int, Acct.act 2 (oldAc a) n = (ac0, e) ∧ e ≠ 0 := by
  by_cases h1 : n < 1
  · exact ⟨2, by unfold Acct.act; rw [if_pos (.inr h1)], by decide⟩
  · have hr : Acct.right (oldAc a) = true := by rw [oldAc_right, decide_eq_true ha]
    refine ⟨20, ?_, by decide⟩
    have h2 : a.credits < n := by omega
    have h3 : ¬ Acct.right (Acct.step 2 (oldAc a) n) = true := by
      rw [Acct.right_iff]; simp only [Acct.step, oldAc]; simp; omega
    unfold Acct.act
    rw [if_neg (by rw [hr]; simp; omega)]
    simp [h3, Acct.wrong]
/-- No: the place or the number is not right. -/
theorem bank_AfterN (v : Value) (ms : List MbM) (hr : ∀ m ∈ ms, Acc.Right m.acc) (at_ n : Int) (hn : ms.length ≤ 1048576) (hno : at_ < 0 ∨ (ms.length : Int) ≤ at_ ∨ n < 1 ∨ ∀ (h : at_.toNat < ms.length), (ms[at_.toNat]).acc.credits < n) (w : World) (F : List HProp) [hrd : Reads F v encMb 4 ms] (hw : holds w F) :
    Ct Tryz.prog 245 #[v, .int .i64 at_, .int .i64 n] w fun e w' => e = .returned (.tuple #[.slice none 0 0, .bool false]) ∧ holds w' F := by
  obtain ⟨va, vc, rfl, _⟩ := (hrd.at_ w hw).form
  refine Ct.go (args := [.slice va ms.length vc, .int .i64 at_, .int .i64 n]) Tryz.func245 rfl rfl rfl hw ?_
  by_cases hin : 0 ≤ at_ ∧ at_ < ms.length
  · obtain ⟨i, rfl⟩ : ∃ i : Nat, at_ = i := ⟨at_.toNat, by omega⟩
    have hi : i < ms.length := by omega
    have hm := hr _ (List.getElem_mem hi)
    have hno2 : n < 1 ∨ (ms[i]).acc.credits < n := by
      rcases hno with h | h | h | h
      · omega
      · omega
      · exact .inl h
      · exact .inr (h hi)
    obtain ⟨e, he, hne⟩ := act2_no hm hno2
    have CG := account_GrantT (ms[i]).acc hm n
    rw [he] at CG
    repeat' (first | first | (apply GL.isAny; first | refine GL.runA rfl ?_ | (apply GL.isStore; first | refine GL.storeBlk rfl rfl rfl rfl rfl ?_ | refine GL.storeWhole rfl rfl rfl rfl rfl ?_ | refine GL.storeBlkA rfl rfl rfl rfl rfl ?_) | refine GL.guardY rfl rfl ?_ | refine GL.guardN rfl rfl rfl ?_ | refine GL.guardU rfl rfl rfl ?_ | (apply GL.isBox; first | refine GL.boxA rfl rfl (fun _ => ?_) | refine GL.box1 rfl rfl rfl (fun _ => ?_) | refine GL.box rfl rfl (fun _ => ?_)) | (apply GL.isBuildS; first | refine GL.buildSlice1A rfl rfl rfl rfl rfl (fun _ => ?_) | refine GL.buildSlice1 rfl rfl rfl rfl rfl (fun _ => ?_)) | (apply GL.isCall; refine GL.append1 _ rfl rfl rfl rfl (by rfl) (by omega) (by omega) rfl (fun _ => ?_)) | (apply GL.isAlloc; refine GL.alloc rfl (fun _ => ?_))) | apply GL.nil | first | apply G.seq | apply G.region | apply G.block | apply G.skip | apply G.exit | apply G.ret | (apply G.isCond; first | refine G.condT rfl ?_ | refine G.condF rfl ?_) | refine G.draw (by kernel_rfl) (by kernel_rfl) ?_ | (apply GE.isAny; first | apply GE.again | apply GE.thenG | apply GE.blockN | apply GE.blockE | apply GE.thenE | apply GE.thenR | apply GE.blockR | refine GE.blockO rfl ?_ | apply GE.only) | (apply GD.isAny; first | refine GD.runA rfl ?_ | refine GD.guardY rfl rfl ?_ | refine GD.guardN rfl rfl rfl ?_ | refine GD.guardU rfl rfl rfl ?_) | apply GD.nilE | apply GD.nilL | (apply GT.isAny; refine GT.runA rfl rfl ?_) | ((first | (apply GL.isAny; refine GL.guard rfl rfl (fun hc => ?_) (fun hc => ?_)) | (apply G.isCond; refine G.cond rfl (fun hc => ?_) (fun hc => ?_)) | (apply GD.isAny; refine GD.guard rfl rfl (fun hc => ?_) (fun hc => ?_))) <;> ((try simp only [decide_eq_true_eq, decide_eq_false_iff_not, Bool.not_true, Bool.not_false, ne_eq, Classical.not_not, Int.not_lt, Int.not_le] at hc); (try (exfalso; first | omega | exact hc trivial | exact hc rfl)))) | (first | (apply GL.isAny; refine GL.run (by apply Runs.isLoad; exact Runs.loadRowA rfl (by first | omega | decide) rfl rfl) rfl ?_) | (apply GL.isCall; refine GL.call1 (vs := [.agg (encAcc (ms[i]).acc).toArray, .int .i64 n]) rfl rfl (fun w h => CG w _ h) ?_)))
    all_goals (first | (exfalso; omega) | (refine GE.resMany rfl (by (repeat (first | apply Res.nil | (apply Res.tmp; rfl) | (refine Res.cellA rfl rfl rfl ?_) | (refine Res.cell1 rfl rfl ?_)))) (fun w h => ?_); exact ⟨rfl, h.sub⟩) | (exfalso; exact hne (by assumption)))
  · repeat' (first | (apply GL.isAny; first | refine GL.runA rfl ?_ | (apply GL.isStore; first | refine GL.storeBlk rfl rfl rfl rfl rfl ?_ | refine GL.storeWhole rfl rfl rfl rfl rfl ?_ | refine GL.storeBlkA rfl rfl rfl rfl rfl ?_) | refine GL.guardY rfl rfl ?_ | refine GL.guardN rfl rfl rfl ?_ | refine GL.guardU rfl rfl rfl ?_ | (apply GL.isBox; first | refine GL.boxA rfl rfl (fun _ => ?_) | refine GL.box1 rfl rfl rfl (fun _ => ?_) | refine GL.box rfl rfl (fun _ => ?_)) | (apply GL.isBuildS; first | refine GL.buildSlice1A rfl rfl rfl rfl rfl (fun _ => ?_) | refine GL.buildSlice1 rfl rfl rfl rfl rfl (fun _ => ?_)) | (apply GL.isCall; refine GL.append1 _ rfl rfl rfl rfl (by rfl) (by omega) (by omega) rfl (fun _ => ?_)) | (apply GL.isAlloc; refine GL.alloc rfl (fun _ => ?_))) | apply GL.nil | first | apply G.seq | apply G.region | apply G.block | apply G.skip | apply G.exit | apply G.ret | (apply G.isCond; first | refine G.condT rfl ?_ | refine G.condF rfl ?_) | refine G.draw (by kernel_rfl) (by kernel_rfl) ?_ | (apply GE.isAny; first | apply GE.again | apply GE.thenG | apply GE.blockN | apply GE.blockE | apply GE.thenE | apply GE.thenR | apply GE.blockR | refine GE.blockO rfl ?_ | apply GE.only) | (apply GD.isAny; first | refine GD.runA rfl ?_ | refine GD.guardY rfl rfl ?_ | refine GD.guardN rfl rfl rfl ?_ | refine GD.guardU rfl rfl rfl ?_) | apply GD.nilE | apply GD.nilL | (apply GT.isAny; refine GT.runA rfl rfl ?_) | ((first | (apply GL.isAny; refine GL.guard rfl rfl (fun hc => ?_) (fun hc => ?_)) | (apply G.isCond; refine G.cond rfl (fun hc => ?_) (fun hc => ?_)) | (apply GD.isAny; refine GD.guard rfl rfl (fun hc => ?_) (fun hc => ?_))) <;> ((try simp only [decide_eq_true_eq, decide_eq_false_iff_not, Bool.not_true, Bool.not_false, ne_eq, Classical.not_not, Int.not_lt, Int.not_le] at hc); (try (exfalso; first | omega | exact hc trivial | exact hc rfl)))))
    all_goals (first | (exfalso; omega) | (refine GE.resMany rfl (by (repeat (first | apply Res.nil | (apply Res.tmp; rfl) | (refine Res.cellA rfl rfl rfl ?_) | (refine Res.cell1 rfl rfl ?_)))) (fun w h => ?_); exact ⟨rfl, h.sub⟩))
theorem bank_May (v : Value) (ms : List MbM) (hr : ∀ m ∈ ms, Acc.Right m.acc) (free waiting at_ n : Int) (hn : ms.length ≤ 1048576) (w : World) (F : List HProp) [hrd : Reads F v encMb 4 ms] (hw : holds w F) :
    Ct Tryz.prog 175 #[.int .i64 free, .int .i64 waiting, v, .int .i64 at_, .int .i64 n] w fun e w' => e = .returned (.bool (Bnk.may free waiting ms at_ n)) ∧ holds w' F := by
  have CN := fun (hno : at_ < 0 ∨ (ms.length : Int) ≤ at_ ∨ n < 1 ∨ ∀ (h : at_.toNat < ms.length), (ms[at_.toNat]).acc.credits < n) w F [Reads F v encMb 4 ms] hw => bank_AfterN v ms hr at_ n hn hno w F hw
  by_cases hb : Bnk.both free waiting
  · by_cases hnf : n ≤ free
    · by_cases hin : 0 ≤ at_ ∧ at_ < ms.length
      · obtain ⟨i, rfl⟩ : ∃ i : Nat, at_ = i := ⟨at_.toNat, by omega⟩
        have hi : i < ms.length := by omega
        have hm := hr _ (List.getElem_mem hi)
        by_cases hy : 1 ≤ n ∧ n ≤ (ms[i]).acc.credits
        · have hr2 : Acc.Right (Acc.gr (ms[i]).acc n) := by unfold Acc.Right at hm ⊢; simp only [Acc.gr]; omega
          have e1 : Bnk.may free waiting ms i n = Ord.safe (ms.set i ⟨(ms[i]).id, Acc.gr (ms[i]).acc n⟩) (free - n + waiting) := by
            unfold Bnk.may Bnk.mayAt
            rw [decide_eq_true ⟨hy.1, hnf, hb, by omega⟩, Int.toNat_natCast, List.getElem?_eq_getElem hi]
            simp only [decide_eq_true hy.2, Bool.true_and]
          rw [e1]
          unfold Bnk.both at hb
          exact bank_MayY v ms hr i hi n hy.1 (by omega) hr2 free waiting (by omega) (by omega) hnf hn w F hw
        · have e1 : Bnk.may free waiting ms i n = false := by
            unfold Bnk.may Bnk.mayAt
            rw [Int.toNat_natCast, List.getElem?_eq_getElem hi]
            by_cases h1 : 1 ≤ n
            · dsimp only
              rw [decide_eq_false (p := n ≤ (ms[i]).acc.credits) (by omega), Bool.false_and, Bool.and_false]
            · rw [decide_eq_false (by omega), Bool.false_and]
          rw [e1]
          have C := CN (by
            by_cases h1 : 1 ≤ n
            · exact .inr (.inr (.inr fun h => by simp only [Int.toNat_natCast]; omega))
            · exact .inr (.inr (.inl (by omega))))
          have CB := bank_both free waiting
          rw [decide_eq_true hb] at CB
          refine Ct.go (args := [.int .i64 free, .int .i64 waiting, v, .int .i64 i, .int .i64 n]) Tryz.func175 rfl rfl rfl hw ?_
          repeat' (first | (first | (apply GL.isCall; refine GL.call1 rfl rfl (fun w h => CB w _ h) ?_) | (apply GL.isCall; refine GL.call1 rfl rfl (fun w h => C w _ h) ?_)) | first | (apply GL.isAny; first | refine GL.runA rfl ?_ | (apply GL.isStore; first | refine GL.storeBlk rfl rfl rfl rfl rfl ?_ | refine GL.storeWhole rfl rfl rfl rfl rfl ?_ | refine GL.storeBlkA rfl rfl rfl rfl rfl ?_) | refine GL.guardY rfl rfl ?_ | refine GL.guardN rfl rfl rfl ?_ | refine GL.guardU rfl rfl rfl ?_ | (apply GL.isBox; first | refine GL.boxA rfl rfl (fun _ => ?_) | refine GL.box1 rfl rfl rfl (fun _ => ?_) | refine GL.box rfl rfl (fun _ => ?_)) | (apply GL.isBuildS; first | refine GL.buildSlice1A rfl rfl rfl rfl rfl (fun _ => ?_) | refine GL.buildSlice1 rfl rfl rfl rfl rfl (fun _ => ?_)) | (apply GL.isCall; refine GL.append1 _ rfl rfl rfl rfl (by rfl) (by omega) (by omega) rfl (fun _ => ?_)) | (apply GL.isAlloc; refine GL.alloc rfl (fun _ => ?_))) | apply GL.nil | first | apply G.seq | apply G.region | apply G.block | apply G.skip | apply G.exit | apply G.ret | (apply G.isCond; first | refine G.condT rfl ?_ | refine G.condF rfl ?_) | refine G.draw (by kernel_rfl) (by kernel_rfl) ?_ | (apply GE.isAny; first | apply GE.again | apply GE.thenG | apply GE.blockN | apply GE.blockE | apply GE.thenE | apply GE.thenR | apply GE.blockR | refine GE.blockO rfl ?_ | apply GE.only) | (apply GD.isAny; first | refine GD.runA rfl ?_ | refine GD.guardY rfl rfl ?_ | refine GD.guardN rfl rfl rfl ?_ | refine GD.guardU rfl rfl rfl ?_) | apply GD.nilE | apply GD.nilL | (apply GT.isAny; refine GT.runA rfl rfl ?_) | ((first | (apply GL.isAny; refine GL.guard rfl rfl (fun hc => ?_) (fun hc => ?_)) | (apply G.isCond; refine G.cond rfl (fun hc => ?_) (fun hc => ?_)) | (apply GD.isAny; refine GD.guard rfl rfl (fun hc => ?_) (fun hc => ?_))) <;> ((try simp only [decide_eq_true_eq, decide_eq_false_iff_not, Bool.not_true, Bool.not_false, ne_eq, Classical.not_not, Int.not_lt, Int.not_le] at hc); (try (exfalso; first | omega | exact hc trivial | exact hc rfl)))))
          all_goals (first | (exfalso; omega) | (refine GE.resOne rfl (by (repeat (first | apply Res.nil | (apply Res.tmp; rfl) | (refine Res.cellA rfl rfl rfl ?_) | (refine Res.cell1 rfl rfl ?_)))) (fun w h => ?_); exact ⟨rfl, h.sub⟩))
      · have e1 : Bnk.may free waiting ms at_ n = false := by
          unfold Bnk.may
          by_cases h1 : 0 ≤ at_
          · rw [List.getElem?_eq_none (by omega), Bool.and_false]
          · rw [decide_eq_false (by omega), Bool.false_and]
        rw [e1]
        have C := CN (if h1 : at_ < 0 then .inl h1 else .inr (.inl (Int.not_lt.1 fun h2 => hin ⟨Int.not_lt.1 h1, h2⟩)))
        have CB := bank_both free waiting
        rw [decide_eq_true hb] at CB
        refine Ct.go (args := [.int .i64 free, .int .i64 waiting, v, .int .i64 at_, .int .i64 n]) Tryz.func175 rfl rfl rfl hw ?_
        repeat' (first | (first | (apply GL.isCall; refine GL.call1 rfl rfl (fun w h => CB w _ h) ?_) | (apply GL.isCall; refine GL.call1 rfl rfl (fun w h => C w _ h) ?_)) | first | (apply GL.isAny; first | refine GL.runA rfl ?_ | (apply GL.isStore; first | refine GL.storeBlk rfl rfl rfl rfl rfl ?_ | refine GL.storeWhole rfl rfl rfl rfl rfl ?_ | refine GL.storeBlkA rfl rfl rfl rfl rfl ?_) | refine GL.guardY rfl rfl ?_ | refine GL.guardN rfl rfl rfl ?_ | refine GL.guardU rfl rfl rfl ?_ | (apply GL.isBox; first | refine GL.boxA rfl rfl (fun _ => ?_) | refine GL.box1 rfl rfl rfl (fun _ => ?_) | refine GL.box rfl rfl (fun _ => ?_)) | (apply GL.isBuildS; first | refine GL.buildSlice1A rfl rfl rfl rfl rfl (fun _ => ?_) | refine GL.buildSlice1 rfl rfl rfl rfl rfl (fun _ => ?_)) | (apply GL.isCall; refine GL.append1 _ rfl rfl rfl rfl (by rfl) (by omega) (by omega) rfl (fun _ => ?_)) | (apply GL.isAlloc; refine GL.alloc rfl (fun _ => ?_))) | apply GL.nil | first | apply G.seq | apply G.region | apply G.block | apply G.skip | apply G.exit | apply G.ret | (apply G.isCond; first | refine G.condT rfl ?_ | refine G.condF rfl ?_) | refine G.draw (by kernel_rfl) (by kernel_rfl) ?_ | (apply GE.isAny; first | apply GE.again | apply GE.thenG | apply GE.blockN | apply GE.blockE | apply GE.thenE | apply GE.thenR | apply GE.blockR | refine GE.blockO rfl ?_ | apply GE.only) | (apply GD.isAny; first | refine GD.runA rfl ?_ | refine GD.guardY rfl rfl ?_ | refine GD.guardN rfl rfl rfl ?_ | refine GD.guardU rfl rfl rfl ?_) | apply GD.nilE | apply GD.nilL | (apply GT.isAny; refine GT.runA rfl rfl ?_) | ((first | (apply GL.isAny; refine GL.guard rfl rfl (fun hc => ?_) (fun hc => ?_)) | (apply G.isCond; refine G.cond rfl (fun hc => ?_) (fun hc => ?_)) | (apply GD.isAny; refine GD.guard rfl rfl (fun hc => ?_) (fun hc => ?_))) <;> ((try simp only [decide_eq_true_eq, decide_eq_false_iff_not, Bool.not_true, Bool.not_false, ne_eq, Classical.not_not, Int.not_lt, Int.not_le] at hc); (try (exfalso; first | omega | exact hc trivial | exact hc rfl)))))
        all_goals (first | (exfalso; omega) | (refine GE.resOne rfl (by (repeat (first | apply Res.nil | (apply Res.tmp; rfl) | (refine Res.cellA rfl rfl rfl ?_) | (refine Res.cell1 rfl rfl ?_)))) (fun w h => ?_); exact ⟨rfl, h.sub⟩))
    · have e1 : Bnk.may free waiting ms at_ n = false := by unfold Bnk.may; rw [decide_eq_false (by omega), Bool.false_and]
      rw [e1]
      have CB := bank_both free waiting
      rw [decide_eq_true hb] at CB
      refine Ct.go (args := [.int .i64 free, .int .i64 waiting, v, .int .i64 at_, .int .i64 n]) Tryz.func175 rfl rfl rfl hw ?_
      repeat' (first | ((apply GL.isCall; refine GL.call1 rfl rfl (fun w h => CB w _ h) ?_)) | first | (apply GL.isAny; first | refine GL.runA rfl ?_ | (apply GL.isStore; first | refine GL.storeBlk rfl rfl rfl rfl rfl ?_ | refine GL.storeWhole rfl rfl rfl rfl rfl ?_ | refine GL.storeBlkA rfl rfl rfl rfl rfl ?_) | refine GL.guardY rfl rfl ?_ | refine GL.guardN rfl rfl rfl ?_ | refine GL.guardU rfl rfl rfl ?_ | (apply GL.isBox; first | refine GL.boxA rfl rfl (fun _ => ?_) | refine GL.box1 rfl rfl rfl (fun _ => ?_) | refine GL.box rfl rfl (fun _ => ?_)) | (apply GL.isBuildS; first | refine GL.buildSlice1A rfl rfl rfl rfl rfl (fun _ => ?_) | refine GL.buildSlice1 rfl rfl rfl rfl rfl (fun _ => ?_)) | (apply GL.isCall; refine GL.append1 _ rfl rfl rfl rfl (by rfl) (by omega) (by omega) rfl (fun _ => ?_)) | (apply GL.isAlloc; refine GL.alloc rfl (fun _ => ?_))) | apply GL.nil | first | apply G.seq | apply G.region | apply G.block | apply G.skip | apply G.exit | apply G.ret | (apply G.isCond; first | refine G.condT rfl ?_ | refine G.condF rfl ?_) | refine G.draw (by kernel_rfl) (by kernel_rfl) ?_ | (apply GE.isAny; first | apply GE.again | apply GE.thenG | apply GE.blockN | apply GE.blockE | apply GE.thenE | apply GE.thenR | apply GE.blockR | refine GE.blockO rfl ?_ | apply GE.only) | (apply GD.isAny; first | refine GD.runA rfl ?_ | refine GD.guardY rfl rfl ?_ | refine GD.guardN rfl rfl rfl ?_ | refine GD.guardU rfl rfl rfl ?_) | apply GD.nilE | apply GD.nilL | (apply GT.isAny; refine GT.runA rfl rfl ?_) | ((first | (apply GL.isAny; refine GL.guard rfl rfl (fun hc => ?_) (fun hc => ?_)) | (apply G.isCond; refine G.cond rfl (fun hc => ?_) (fun hc => ?_)) | (apply GD.isAny; refine GD.guard rfl rfl (fun hc => ?_) (fun hc => ?_))) <;> ((try simp only [decide_eq_true_eq, decide_eq_false_iff_not, Bool.not_true, Bool.not_false, ne_eq, Classical.not_not, Int.not_lt, Int.not_le] at hc); (try (exfalso; first | omega | exact hc trivial | exact hc rfl)))))
      all_goals (first | (exfalso; omega) | (refine GE.resOne rfl (by (repeat (first | apply Res.nil | (apply Res.tmp; rfl) | (refine Res.cellA rfl rfl rfl ?_) | (refine Res.cell1 rfl rfl ?_)))) (fun w h => ?_); exact ⟨rfl, h.sub⟩))
  · have e1 : Bnk.may free waiting ms at_ n = false := by unfold Bnk.may; rw [decide_eq_false (fun h => hb h.2.2.1), Bool.false_and]
    rw [e1]
    have CB := bank_both free waiting
    rw [decide_eq_false hb] at CB
    refine Ct.go (args := [.int .i64 free, .int .i64 waiting, v, .int .i64 at_, .int .i64 n]) Tryz.func175 rfl rfl rfl hw ?_
    repeat' (first | ((apply GL.isCall; refine GL.call1 rfl rfl (fun w h => CB w _ h) ?_)) | first | (apply GL.isAny; first | refine GL.runA rfl ?_ | (apply GL.isStore; first | refine GL.storeBlk rfl rfl rfl rfl rfl ?_ | refine GL.storeWhole rfl rfl rfl rfl rfl ?_ | refine GL.storeBlkA rfl rfl rfl rfl rfl ?_) | refine GL.guardY rfl rfl ?_ | refine GL.guardN rfl rfl rfl ?_ | refine GL.guardU rfl rfl rfl ?_ | (apply GL.isBox; first | refine GL.boxA rfl rfl (fun _ => ?_) | refine GL.box1 rfl rfl rfl (fun _ => ?_) | refine GL.box rfl rfl (fun _ => ?_)) | (apply GL.isBuildS; first | refine GL.buildSlice1A rfl rfl rfl rfl rfl (fun _ => ?_) | refine GL.buildSlice1 rfl rfl rfl rfl rfl (fun _ => ?_)) | (apply GL.isCall; refine GL.append1 _ rfl rfl rfl rfl (by rfl) (by omega) (by omega) rfl (fun _ => ?_)) | (apply GL.isAlloc; refine GL.alloc rfl (fun _ => ?_))) | apply GL.nil | first | apply G.seq | apply G.region | apply G.block | apply G.skip | apply G.exit | apply G.ret | (apply G.isCond; first | refine G.condT rfl ?_ | refine G.condF rfl ?_) | refine G.draw (by kernel_rfl) (by kernel_rfl) ?_ | (apply GE.isAny; first | apply GE.again | apply GE.thenG | apply GE.blockN | apply GE.blockE | apply GE.thenE | apply GE.thenR | apply GE.blockR | refine GE.blockO rfl ?_ | apply GE.only) | (apply GD.isAny; first | refine GD.runA rfl ?_ | refine GD.guardY rfl rfl ?_ | refine GD.guardN rfl rfl rfl ?_ | refine GD.guardU rfl rfl rfl ?_) | apply GD.nilE | apply GD.nilL | (apply GT.isAny; refine GT.runA rfl rfl ?_) | ((first | (apply GL.isAny; refine GL.guard rfl rfl (fun hc => ?_) (fun hc => ?_)) | (apply G.isCond; refine G.cond rfl (fun hc => ?_) (fun hc => ?_)) | (apply GD.isAny; refine GD.guard rfl rfl (fun hc => ?_) (fun hc => ?_))) <;> ((try simp only [decide_eq_true_eq, decide_eq_false_iff_not, Bool.not_true, Bool.not_false, ne_eq, Classical.not_not, Int.not_lt, Int.not_le] at hc); (try (exfalso; first | omega | exact hc trivial | exact hc rfl)))))
    all_goals (first | (exfalso; omega) | (refine GE.resOne rfl (by (repeat (first | apply Res.nil | (apply Res.tmp; rfl) | (refine Res.cellA rfl rfl rfl ?_) | (refine Res.cell1 rfl rfl ?_)))) (fun w h => ?_); exact ⟨rfl, h.sub⟩))
end Go.Proofs.YtfiggkbclldccaaGreat
