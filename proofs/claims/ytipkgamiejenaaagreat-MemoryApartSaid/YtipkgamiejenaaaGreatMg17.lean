import Derived.Test.YtipkgamiejenaaaGreatMg16
import Derived.Test.YtipkgamiejenaaaGreatMg12
import Derived.Test.YtipkgamiejenaaaGreatTypes

import Derived.Test.YtipkgamiejenaaaGreatMg6
import Derived.Test.YtipkgamiejenaaaGreatChecked
/- Package store: what a store tells of itself. -/
namespace Go.Proofs.YtipkgamiejenaaaGreat
open Go Go.RowKit Go.MapKept
set_option linter.unusedVariables false
set_option linter.unusedSectionVars false
set_option linter.unusedSimpArgs false
set_option maxRecDepth 100000
set_option maxHeartbeats 4000000
def St.clean (t : St.S) (i : Int) : Bool := decide (t.out i ∨ ∀ y ∈ t.x i, y = 0)
section
variable (sb : Nat) (t : St.S) (K : Nat) (hI : St.Inv t K) (hK : K ≤ 1000000)
include hI hK
theorem store_Size (w : World) (F : List HProp) (hw : holds w (storeP sb t :: F)) :
    Ct Tryz.prog 18 #[.pointer (some ⟨sb, 0, none⟩)] w fun e w' => e = .returned (.int .i64 (t.size : Nat)) ∧ holds w' (storeP sb t :: F) := by
  obtain ⟨q, hq, h1⟩ := storeP.open hw
  refine Ct.go (args := [.pointer (some ⟨sb, 0, none⟩)]) Tryz.func18 rfl rfl rfl h1 ?_
  repeat' (first | (apply GL.isAny; first | refine GL.runA rfl ?_ | (apply GL.isStore; first | refine GL.storeBlk rfl rfl rfl rfl rfl ?_ | refine GL.storeWhole rfl rfl rfl rfl rfl ?_ | refine GL.storeBlkA rfl rfl rfl rfl rfl ?_) | refine GL.guardY rfl rfl ?_ | refine GL.guardN rfl rfl rfl ?_ | refine GL.guardU rfl rfl rfl ?_ | (apply GL.isBox; first | refine GL.boxA rfl rfl (fun _ => ?_) | refine GL.box1 rfl rfl rfl (fun _ => ?_) | refine GL.box rfl rfl (fun _ => ?_)) | (apply GL.isBuildS; first | refine GL.buildSlice1A rfl rfl rfl rfl rfl (fun _ => ?_) | refine GL.buildSlice1 rfl rfl rfl rfl rfl (fun _ => ?_)) | (apply GL.isCall; refine GL.append1 _ rfl rfl rfl rfl (by rfl) (by omega) (by omega) rfl (fun _ => ?_)) | (apply GL.isAlloc; refine GL.alloc rfl (fun _ => ?_))) | apply GL.nil | first | apply G.seq | apply G.region | apply G.block | apply G.skip | apply G.exit | apply G.ret | (apply G.isCond; first | refine G.condT rfl ?_ | refine G.condF rfl ?_) | refine G.draw (by kernel_rfl) (by kernel_rfl) ?_ | (apply GE.isAny; first | apply GE.again | apply GE.thenG | apply GE.blockN | apply GE.blockE | apply GE.thenE | apply GE.thenR | apply GE.blockR | refine GE.blockO rfl ?_ | apply GE.only) | (apply GD.isAny; first | refine GD.runA rfl ?_ | refine GD.guardY rfl rfl ?_ | refine GD.guardN rfl rfl rfl ?_ | refine GD.guardU rfl rfl rfl ?_) | apply GD.nilE | apply GD.nilL | (apply GT.isAny; refine GT.runA rfl rfl ?_) | ((first | (apply GL.isAny; refine GL.guard rfl rfl (fun hc => ?_) (fun hc => ?_)) | (apply G.isCond; refine G.cond rfl (fun hc => ?_) (fun hc => ?_)) | (apply GD.isAny; refine GD.guard rfl rfl (fun hc => ?_) (fun hc => ?_))) <;> ((try simp only [decide_eq_true_eq, decide_eq_false_iff_not, Bool.not_true, Bool.not_false, ne_eq, Classical.not_not, Int.not_lt, Int.not_le] at hc); (try (exfalso; first | omega | exact hc trivial | exact hc rfl)))))
  refine GE.resOne rfl (by (repeat (first | apply Res.nil | (apply Res.tmp; rfl) | (refine Res.cellA rfl rfl rfl ?_) | (refine Res.cell1 rfl rfl ?_)))) (fun w h => ?_)
  exact ⟨rfl, storeP.shut q hq h.sub⟩
end
end Go.Proofs.YtipkgamiejenaaaGreat

/- Powers of two: how many bits are set, and the reference's way. -/
namespace Go.Proofs.YtipkgamiejenaaaGreat
open Go Go.RowKit Go.MapKept
set_option linter.unusedVariables false
set_option linter.unusedSimpArgs false
set_option maxRecDepth 100000
set_option maxHeartbeats 1000000
namespace Pw
def wr (x : Int) : Int := x % 18446744073709551616
def a1 (x : Int) : Int := wr (andI (x / 2) 6148914691236517205 + andI x 6148914691236517205)
def a2 (x : Int) : Int := wr (andI (x / 4) 3689348814741910323 + andI x 3689348814741910323)
def a3 (x : Int) : Int := andI (wr (x / 16 + x)) 1085102592571150095
def a4 (x : Int) : Int := wr (x + x / 256)
def a5 (x : Int) : Int := wr (x + x / 65536)
def a6 (x : Int) : Int := wr (x + x / 4294967296)
def oc (x : Int) : Int := a6 (a5 (a4 (a3 (a2 (a1 x))))) % 128
def isP : Nat → Nat → Bool
  | 0, _ => false
  | k + 1, n => n == 1 || (n % 2 == 0 && isP k (n / 2))
def pow (n : Nat) : Bool := isP n n
theorem tab : (List.range 257).all (fun n => decide (oc n = 1) == (n != 0 && pow n)) = true := by kernel_rfl
theorem oc_pow (n : Nat) (h : n ≤ 256) (h0 : 0 < n) : decide (oc n = 1) = pow n := by
  have := List.all_eq_true.1 tab n (List.mem_range.2 (by omega))
  have h1 : (n != 0) = true := by simp; omega
  rw [h1, Bool.true_and] at this
  simpa using this
end Pw
theorem bits_OnesCount64 (x : Int) (hx : 0 ≤ x ∧ x ≤ 18446744073709551615) (w : World) (F : List HProp) (hw : holds w F) :
    Ct Tryz.prog 195 #[.int .u64 x] w fun e w' => e = .returned (.int .i64 (Pw.oc x)) ∧ holds w' F := by
  refine Ct.go (args := [.int .u64 x]) Tryz.func195 rfl rfl rfl hw ?_
  have h1 : ∀ y, IntKind.u64.wrap y = Pw.wr y := fun y => wrapU y
  repeat' (first | (first | (apply GL.isAny; refine GL.run (Runs.shrC rfl rfl (by omega)) rfl ?_) | (apply GL.isAny; refine GL.run (Runs.andU rfl rfl) rfl ?_) | (apply GL.isAny; refine GL.run (Runs.addK (k := .u64) rfl rfl) rfl ?_) | (apply GL.isAny; refine GL.run (Runs.convW rfl) rfl ?_) | (apply GL.isAny; refine GL.run (Runs.and127 rfl rfl) rfl ?_)) | first | (apply GL.isAny; first | refine GL.runA rfl ?_ | (apply GL.isStore; first | refine GL.storeBlk rfl rfl rfl rfl rfl ?_ | refine GL.storeWhole rfl rfl rfl rfl rfl ?_ | refine GL.storeBlkA rfl rfl rfl rfl rfl ?_) | refine GL.guardY rfl rfl ?_ | refine GL.guardN rfl rfl rfl ?_ | refine GL.guardU rfl rfl rfl ?_ | (apply GL.isBox; first | refine GL.boxA rfl rfl (fun _ => ?_) | refine GL.box1 rfl rfl rfl (fun _ => ?_) | refine GL.box rfl rfl (fun _ => ?_)) | (apply GL.isBuildS; first | refine GL.buildSlice1A rfl rfl rfl rfl rfl (fun _ => ?_) | refine GL.buildSlice1 rfl rfl rfl rfl rfl (fun _ => ?_)) | (apply GL.isCall; refine GL.append1 _ rfl rfl rfl rfl (by rfl) (by omega) (by omega) rfl (fun _ => ?_)) | (apply GL.isAlloc; refine GL.alloc rfl (fun _ => ?_))) | apply GL.nil | first | apply G.seq | apply G.region | apply G.block | apply G.skip | apply G.exit | apply G.ret | (apply G.isCond; first | refine G.condT rfl ?_ | refine G.condF rfl ?_) | refine G.draw (by kernel_rfl) (by kernel_rfl) ?_ | (apply GE.isAny; first | apply GE.again | apply GE.thenG | apply GE.blockN | apply GE.blockE | apply GE.thenE | apply GE.thenR | apply GE.blockR | refine GE.blockO rfl ?_ | apply GE.only) | (apply GD.isAny; first | refine GD.runA rfl ?_ | refine GD.guardY rfl rfl ?_ | refine GD.guardN rfl rfl rfl ?_ | refine GD.guardU rfl rfl rfl ?_) | apply GD.nilE | apply GD.nilL | (apply GT.isAny; refine GT.runA rfl rfl ?_) | ((first | (apply GL.isAny; refine GL.guard rfl rfl (fun hc => ?_) (fun hc => ?_)) | (apply G.isCond; refine G.cond rfl (fun hc => ?_) (fun hc => ?_)) | (apply GD.isAny; refine GD.guard rfl rfl (fun hc => ?_) (fun hc => ?_))) <;> ((try simp only [decide_eq_true_eq, decide_eq_false_iff_not, Bool.not_true, Bool.not_false, ne_eq, Classical.not_not, Int.not_lt, Int.not_le] at hc); (try (exfalso; first | omega | exact hc trivial | exact hc rfl)))))
  refine GE.resOne rfl (by (repeat (first | apply Res.nil | (apply Res.tmp; rfl) | (refine Res.cellA rfl rfl rfl ?_) | (refine Res.cell1 rfl rfl ?_)))) (fun w h => ?_)
  refine ⟨?_, h.sub⟩
  simp only [h1]
  congr 2
  unfold Pw.oc
  have h2 : ∀ y : Int, IntKind.i64.wrap (Pw.wr y) % 128 = Pw.wr y % 128 := fun y => by
    simp [IntKind.wrap, IntKind.bits, IntKind.signed, Pw.wr]
    omega
  exact h2 _
theorem bits_OnesCount (x : Int) (hx : 0 ≤ x ∧ x ≤ 18446744073709551615) (w : World) (F : List HProp) (hw : holds w F) :
    Ct Tryz.prog 136 #[.int .u64 x] w fun e w' => e = .returned (.int .i64 (Pw.oc x)) ∧ holds w' F := by
  refine Ct.go (args := [.int .u64 x]) Tryz.func136 rfl rfl rfl hw ?_
  repeat' (first | (first | (apply GL.isCall; refine GL.call1 rfl rfl (fun w h => bits_OnesCount64 x hx w _ h) ?_) | (apply GD.isAny; refine GD.call rfl rfl (fun w F' h => bits_OnesCount64 x hx w _ h) ?_)) | first | (apply GL.isAny; first | refine GL.runA rfl ?_ | (apply GL.isStore; first | refine GL.storeBlk rfl rfl rfl rfl rfl ?_ | refine GL.storeWhole rfl rfl rfl rfl rfl ?_ | refine GL.storeBlkA rfl rfl rfl rfl rfl ?_) | refine GL.guardY rfl rfl ?_ | refine GL.guardN rfl rfl rfl ?_ | refine GL.guardU rfl rfl rfl ?_ | (apply GL.isBox; first | refine GL.boxA rfl rfl (fun _ => ?_) | refine GL.box1 rfl rfl rfl (fun _ => ?_) | refine GL.box rfl rfl (fun _ => ?_)) | (apply GL.isBuildS; first | refine GL.buildSlice1A rfl rfl rfl rfl rfl (fun _ => ?_) | refine GL.buildSlice1 rfl rfl rfl rfl rfl (fun _ => ?_)) | (apply GL.isCall; refine GL.append1 _ rfl rfl rfl rfl (by rfl) (by omega) (by omega) rfl (fun _ => ?_)) | (apply GL.isAlloc; refine GL.alloc rfl (fun _ => ?_))) | apply GL.nil | first | apply G.seq | apply G.region | apply G.block | apply G.skip | apply G.exit | apply G.ret | (apply G.isCond; first | refine G.condT rfl ?_ | refine G.condF rfl ?_) | refine G.draw (by kernel_rfl) (by kernel_rfl) ?_ | (apply GE.isAny; first | apply GE.again | apply GE.thenG | apply GE.blockN | apply GE.blockE | apply GE.thenE | apply GE.thenR | apply GE.blockR | refine GE.blockO rfl ?_ | apply GE.only) | (apply GD.isAny; first | refine GD.runA rfl ?_ | refine GD.guardY rfl rfl ?_ | refine GD.guardN rfl rfl rfl ?_ | refine GD.guardU rfl rfl rfl ?_) | apply GD.nilE | apply GD.nilL | (apply GT.isAny; refine GT.runA rfl rfl ?_) | ((first | (apply GL.isAny; refine GL.guard rfl rfl (fun hc => ?_) (fun hc => ?_)) | (apply G.isCond; refine G.cond rfl (fun hc => ?_) (fun hc => ?_)) | (apply GD.isAny; refine GD.guard rfl rfl (fun hc => ?_) (fun hc => ?_))) <;> ((try simp only [decide_eq_true_eq, decide_eq_false_iff_not, Bool.not_true, Bool.not_false, ne_eq, Classical.not_not, Int.not_lt, Int.not_le] at hc); (try (exfalso; first | omega | exact hc trivial | exact hc rfl)))))
  refine GE.resOne rfl (by (repeat (first | apply Res.nil | (apply Res.tmp; rfl) | (refine Res.cellA rfl rfl rfl ?_) | (refine Res.cell1 rfl rfl ?_)))) (fun w h => ?_); exact ⟨rfl, h.sub⟩
theorem num_Power (n : Nat) (hn : n ≤ 256) (h0 : 0 < n) (w : World) (F : List HProp) (hw : holds w F) :
    Ct Tryz.prog 64 #[.int .i64 (n : Nat)] w fun e w' => e = .returned (.bool (Pw.pow n)) ∧ holds w' F := by
  refine Ct.go (args := [.int .i64 (n : Nat)]) Tryz.func64 rfl rfl rfl hw ?_
  have e := Pw.oc_pow n hn h0
  repeat' (first | (first | (apply GL.isCall; refine GL.call1 rfl rfl (fun w h => bits_OnesCount n (by omega) w _ h) ?_) | (apply GD.isAny; refine GD.call rfl rfl (fun w F' h => bits_OnesCount n (by omega) w _ h) ?_)) | first | (apply GL.isAny; first | refine GL.runA rfl ?_ | (apply GL.isStore; first | refine GL.storeBlk rfl rfl rfl rfl rfl ?_ | refine GL.storeWhole rfl rfl rfl rfl rfl ?_ | refine GL.storeBlkA rfl rfl rfl rfl rfl ?_) | refine GL.guardY rfl rfl ?_ | refine GL.guardN rfl rfl rfl ?_ | refine GL.guardU rfl rfl rfl ?_ | (apply GL.isBox; first | refine GL.boxA rfl rfl (fun _ => ?_) | refine GL.box1 rfl rfl rfl (fun _ => ?_) | refine GL.box rfl rfl (fun _ => ?_)) | (apply GL.isBuildS; first | refine GL.buildSlice1A rfl rfl rfl rfl rfl (fun _ => ?_) | refine GL.buildSlice1 rfl rfl rfl rfl rfl (fun _ => ?_)) | (apply GL.isCall; refine GL.append1 _ rfl rfl rfl rfl (by rfl) (by omega) (by omega) rfl (fun _ => ?_)) | (apply GL.isAlloc; refine GL.alloc rfl (fun _ => ?_))) | apply GL.nil | first | apply G.seq | apply G.region | apply G.block | apply G.skip | apply G.exit | apply G.ret | (apply G.isCond; first | refine G.condT rfl ?_ | refine G.condF rfl ?_) | refine G.draw (by kernel_rfl) (by kernel_rfl) ?_ | (apply GE.isAny; first | apply GE.again | apply GE.thenG | apply GE.blockN | apply GE.blockE | apply GE.thenE | apply GE.thenR | apply GE.blockR | refine GE.blockO rfl ?_ | apply GE.only) | (apply GD.isAny; first | refine GD.runA rfl ?_ | refine GD.guardY rfl rfl ?_ | refine GD.guardN rfl rfl rfl ?_ | refine GD.guardU rfl rfl rfl ?_) | apply GD.nilE | apply GD.nilL | (apply GT.isAny; refine GT.runA rfl rfl ?_) | ((first | (apply GL.isAny; refine GL.guard rfl rfl (fun hc => ?_) (fun hc => ?_)) | (apply G.isCond; refine G.cond rfl (fun hc => ?_) (fun hc => ?_)) | (apply GD.isAny; refine GD.guard rfl rfl (fun hc => ?_) (fun hc => ?_))) <;> ((try simp only [decide_eq_true_eq, decide_eq_false_iff_not, Bool.not_true, Bool.not_false, ne_eq, Classical.not_not, Int.not_lt, Int.not_le] at hc); (try (exfalso; first | omega | exact hc trivial | exact hc rfl)))))
  all_goals (first | (exfalso; omega) | (refine GE.resOne rfl (by (repeat (first | apply Res.nil | (apply Res.tmp; rfl) | (refine Res.cellA rfl rfl rfl ?_) | (refine Res.cell1 rfl rfl ?_)))) (fun w h => ?_); exact ⟨by rw [← e], h.sub⟩))
end Go.Proofs.YtipkgamiejenaaaGreat

/- Package store: Make. -/
namespace Go.Proofs.YtipkgamiejenaaaGreat
open Go Go.RowKit Go.MapKept
set_option linter.unusedVariables false
set_option linter.unusedSectionVars false
set_option linter.unusedSimpArgs false
set_option maxRecDepth 100000
set_option maxHeartbeats 4000000
section
variable {P : Program} {n : Nat} {env : Env} {F : List HProp}
/-- A box that takes pieces with it. -/
theorem DoesW.boxTake {e : TypeId} {x : Operand} {cs : Array Value} {T L : List HProp} (pc : Nat → HProp) (hx : opnd env x = some (.agg cs)) (hpc : ∀ b w G, holds w (blk b (.cells cs e (0, 0)) :: (T ++ G)) → holds w (pc b :: G)) :
    DoesW P n env F T L (.box e x) IsPt (fun u => pc (ptB u)) := ⟨fun ac w F' ty pos aft g d hf hw => by
  have hr : (execOp ac.eval ⟨d, .box e x, ty, pos, aft, g⟩).run P w = .ok (.value (.pointer (some ⟨w.heap.size, 0, none⟩))) (w.alloc (.cells cs e (0, 0))) := by
    simp [execOp, hf.eval hx, Instr.box, newVar, newRow, run_newObj, Value.cells, Result.andThen]
  rw [hr]
  exact ⟨⟨_, rfl⟩, hpc _ _ _ (hw.alloc (.cells cs e (0, 0)))⟩⟩
/-- A value is told, and pieces are put together under it. -/
theorem DoesW.gather {op : Op} {v : Value} {T L : List HProp} (R : Value → Prop) (pc : Value → HProp) (hr : Runs P n env F op v) (hR : R v) (hp : ∀ w G, holds w (T ++ G) → holds w (pc v :: G)) : DoesW P n env F T L op R pc := ⟨fun a w F' ty pos aft g d hf hw => by
  have hF : holds w F := by
    obtain ⟨f, hf', hs⟩ := hw
    obtain ⟨f1, f2, _, h2, j⟩ := (sep_append T _ f).1 hs
    obtain ⟨f3, f4, _, h4, j2⟩ := (sep_append L _ f2).1 h2
    obtain ⟨f5, f6, h5, _, j3⟩ := (sep_append F F' f4).1 h4
    exact ⟨f, hf', sep_sub F f2 f j.symm (sep_sub F f4 f2 j2.symm (sep_sub F f5 f4 j3 h5))⟩
  rw [hr a w _ _ _ _ _ hf hF]
  exact ⟨hR, hp _ _ hw⟩⟩
end
def ptr (b : Nat) : Value := .pointer (some ⟨b, 0, none⟩)
theorem tags_NewP (n : Nat) (hn : n ≤ 1048576) (w : World) (G : List HProp) (hw : holds w G) :
    Ct Tryz.prog 65 #[.int .i64 (n : Nat)] w fun e w' => ∃ b : Nat, e = .returned (.pointer (some ⟨b, 0, none⟩)) ∧ holds w' (tagsAt (ptr b) (List.replicate n (0, 0)) :: G) := by
  refine ⟨(tags_New w n G (by omega) (by omega) hw).mono fun e w' ⟨v, he, h⟩ => ?_⟩
  rw [Int.toNat_natCast] at h
  obtain ⟨b, g, bm, m, rfl, hm, h2⟩ := open_tags h
  exact ⟨b, he, h⟩
def newCells (n sz tb fb cb kb : Nat) (m0 : Int) : Array Value := #[ptr tb, ptr fb, .slice (some ⟨cb, 0, none⟩) n n, .int .i64 (sz : Nat), .int .i64 m0, .int .i64 0, .int .i64 0, .int .i64 0, ptr kb]
def IsNew (n sz : Nat) (u : Value) : Prop := ∃ x : Nat × Nat × Nat × Nat, u = .agg (newCells n sz x.1 x.2.1 x.2.2.1 x.2.2.2 0)
theorem IsNew.defd {n sz : Nat} {u : Value} (h : IsNew n sz u) : isUndef u = false := by obtain ⟨x, rfl⟩ := h; rfl
def partsP (n sz : Nat) (u : Value) : HProp := fun f => ∃ x : Nat × Nat × Nat × Nat, u = .agg (newCells n sz x.1 x.2.1 x.2.2.1 x.2.2.2 0) ∧ sep [tagsAt (ptr x.1) (List.replicate n (0, 0)), freeP (ptr x.2.1) n (((List.range n).reverse).map (Nat.cast : Nat → Int)), owns 148 encCell 6 (.slice (some ⟨x.2.2.1, 0, none⟩) n n) (List.replicate n cell0), bookP (ptr x.2.2.2) 4 (List.replicate 4 0)] f
def newP (n sz sb : Nat) : HProp := fun f => ∃ x : Nat × Nat × Nat × Nat, sep [blk sb (.cells (newCells n sz x.1 x.2.1 x.2.2.1 x.2.2.2 0) 123 (0, 0)), tagsAt (ptr x.1) (List.replicate n (0, 0)), freeP (ptr x.2.1) n (((List.range n).reverse).map (Nat.cast : Nat → Int)), owns 148 encCell 6 (.slice (some ⟨x.2.2.1, 0, none⟩) n n) (List.replicate n cell0), bookP (ptr x.2.2.2) 4 (List.replicate 4 0)] f
theorem newP.open {w : World} {n sz sb : Nat} {F : List HProp} (h : holds w (newP n sz sb :: F)) : ∃ x : Nat × Nat × Nat × Nat, holds w ([blk sb (.cells (newCells n sz x.1 x.2.1 x.2.2.1 x.2.2.2 0) 123 (0, 0)), tagsAt (ptr x.1) (List.replicate n (0, 0)), freeP (ptr x.2.1) n (((List.range n).reverse).map (Nat.cast : Nat → Int)), owns 148 encCell 6 (.slice (some ⟨x.2.2.1, 0, none⟩) n n) (List.replicate n cell0), bookP (ptr x.2.2.2) 4 (List.replicate 4 0)] ++ F) := by
  obtain ⟨x, h⟩ := holds.open_ex h
  exact ⟨x, holds_sep.1 h⟩
theorem newP.shut {w : World} {n sz sb : Nat} {cs : Array Value} {G : List HProp} (h : holds w (blk sb (.cells cs 123 (0, 0)) :: partsP n sz (.agg cs) :: G)) : holds w (newP n sz sb :: G) := by
  obtain ⟨x, h⟩ := holds.open_ex (h.order [1, 0])
  obtain ⟨e, h⟩ := holds.open_pure h
  cases e
  have h2 : holds w ([blk sb (.cells (newCells n sz x.1 x.2.1 x.2.2.1 x.2.2.2 0) 123 (0, 0)), tagsAt (ptr x.1) (List.replicate n (0, 0)), freeP (ptr x.2.1) n (((List.range n).reverse).map (Nat.cast : Nat → Int)), owns 148 encCell 6 (.slice (some ⟨x.2.2.1, 0, none⟩) n n) (List.replicate n cell0), bookP (ptr x.2.2.2) 4 (List.replicate 4 0)] ++ G) := (holds_sep.1 h).perm (List.perm_middle (l₁ := [tagsAt (ptr x.1) (List.replicate n (0, 0)), freeP (ptr x.2.1) n (((List.range n).reverse).map (Nat.cast : Nat → Int)), owns 148 encCell 6 (.slice (some ⟨x.2.2.1, 0, none⟩) n n) (List.replicate n cell0), bookP (ptr x.2.2.2) 4 (List.replicate 4 0)]) (l₂ := G))
  exact (holds_sep.2 h2).mono fun f hf => ⟨x, hf⟩
theorem bigF_new (n : Nat) (sz : Nat) : ∀ (m : Nat) (w : World) (F : List HProp), m ≤ n → holds w F → holds w ((List.range m).map (chunkF (St.new n sz) (List.replicate n cell0)) ++ F)
  | 0, w, F, _, h => h
  | m + 1, w, F, hm, h => by
    rw [List.range_succ, List.map_append, List.append_assoc]
    refine bigF_new n sz m w _ (by omega) ?_
    show holds w (chunkF (St.new n sz) (List.replicate n cell0) m :: F)
    unfold chunkF
    have e1 : (List.replicate n cell0).getD m cell0 = cell0 := by rw [List.getD_eq_getElem?_getD, List.getElem?_replicate]; split <;> rfl
    have e2 : (St.new n sz).c m = St.ch0 := by
      show (List.replicate n St.ch0).getD ((m : Int)).toNat St.ch0 = _
      rw [Int.toNat_natCast, List.getD_eq_getElem?_getD, List.getElem?_replicate]; split <;> rfl
    have e3 : (St.new n sz).x m = St.zeros sz := by
      show (List.replicate n (St.zeros sz)).getD ((m : Int)).toNat [] = _
      rw [Int.toNat_natCast, List.getD_eq_getElem?_getD, List.getElem?_replicate, if_pos (by omega)]; rfl
    rw [e1, e2, e3]
    refine chunkP.shut ⟨rfl, rfl, rfl, fun h => absurd rfl h, by simp [cell0, St.ch0]⟩ ?_
    have h2 := h.addNil.addNil
    exact h2.mono fun f _ y hy => (List.mem_replicate.1 hy).2
theorem cntP_new (n : Nat) (p : Int) : St.cntP (List.replicate n St.ch0) p = if p = 0 then (n : Int) else 0 := by
  unfold St.cntP
  by_cases hp : p = 0
  · subst hp; rw [if_pos rfl, List.filter_eq_self.2 (fun a ha => by rw [(List.mem_replicate.1 ha).2]; rfl), List.length_replicate]
  · rw [if_neg hp, List.filter_eq_nil_iff.2 (fun a ha => by rw [(List.mem_replicate.1 ha).2]; simp [St.ch0]; omega)]; rfl
theorem store_Make (n sz : Nat) (h0 : 0 < n) (hn : n ≤ 1048576) (hs0 : 64 ≤ sz) (hs1 : sz ≤ 256) (hp : Pw.pow sz = true) (w : World) (F : List HProp) (hw : holds w F) :
    Ct Tryz.prog 11 #[.int .i64 (n : Nat), .int .i64 (sz : Nat)] w fun e w' => ∃ sb : Nat, e = .returned (.tuple #[.pointer (some ⟨sb, 0, none⟩), .int .i64 0]) ∧ holds w' (storeP sb (St.new n sz) :: F) := by
  refine Ct.go (args := [.int .i64 (n : Nat), .int .i64 (sz : Nat)]) Tryz.func11 rfl rfl rfl hw ?_
  have hP := fun w (F : List HProp) h => num_Power sz hs1 (by omega) w F h
  rw [hp] at hP
  repeat' (first | (first | first | (apply GL.isCall; refine GL.call1 rfl rfl (fun w h => hP w _ h) ?_) | (apply GD.isAny; refine GD.call rfl rfl (fun w F' h => hP w _ h) ?_) | (refine G.isRegion 3 ?_; refine G.drawW [⟨some 1, [], some 8, some 27, IsPt, fun u => tagsAt (ptr (ptB u)) (List.replicate n (0, 0))⟩, ⟨some 3, [], some 8, some 29, IsPt, fun u => freeP (ptr (ptB u)) n (((List.range n).reverse).map (Nat.cast : Nat → Int))⟩, ⟨some 5, [], some 8, some 31, IsSl n n, fun u => owns 148 encCell 6 u (List.replicate n cell0)⟩, ⟨some 7, [], some 8, some 33, IsPt, fun u => bookP (ptr (ptB u)) 4 (List.replicate 4 0)⟩, ⟨some 8, [0, 1, 2, 3], some 9, some 34, IsNew n sz, fun u => partsP n sz u⟩, ⟨some 9, [4], none, some 35, IsPt, fun u => newP n sz (ptB u)⟩] [] [] [5] (by kernel_rfl) (by kernel_rfl) rfl trivial ?_) | (apply GW.isAny; first | refine GW.runA rfl rfl ?_ | refine GW.seeA rfl rfl ⟨⟨_, rfl, .inl rfl⟩, trivial⟩ rfl ?_) | (apply GW.isAny; refine GW.eff rfl rfl rfl rfl rfl trivial rfl trivial (fun u hu => hu.defd) (DoesW.callPt (vs := [.int .i64 (n : Nat)]) (fun b => tagsAt (ptr b) (List.replicate n (0, 0))) rfl (fun w G h => tags_NewP n hn w G h)) rfl (fun u hu => ?_); obtain ⟨tb, rfl⟩ := hu) | (apply GW.isAny; refine GW.eff rfl rfl rfl rfl rfl trivial rfl trivial (fun u hu => hu.defd) (DoesW.callPt (vs := [.int .i64 (n : Nat)]) (fun b => freeP (ptr b) n (((List.range n).reverse).map (Nat.cast : Nat → Int))) rfl (fun w G h => free_New n h0 hn w G h)) rfl (fun u hu => ?_); obtain ⟨fb, rfl⟩ := hu) | (apply GW.isAny; refine GW.eff rfl rfl rfl rfl rfl trivial rfl trivial (fun u hu => hu.defd) (DoesW.makeSl encCell cell0 n n rfl rfl rfl rfl rfl (Nat.le_refl _) (by omega) (by unfold maxLen; omega)) rfl (fun u hu => ?_); obtain ⟨cb, rfl⟩ := hu) | (apply GW.isAny; refine GW.eff rfl rfl rfl rfl rfl trivial rfl trivial (fun u hu => hu.defd) (DoesW.callPt (vs := [.int .i64 ((4 : Nat) : Int)]) (fun b => bookP (ptr b) 4 (List.replicate 4 0)) rfl (fun w G h => count_New 4 (by omega) (by omega) w G h)) rfl (fun u hu => ?_); obtain ⟨kb, rfl⟩ := hu) | (apply GW.isAny; refine GW.eff rfl rfl rfl rfl rfl ⟨⟨_, rfl, .inr (.inr ⟨_, _, rfl, rfl, rfl⟩)⟩, ⟨_, rfl, .inr (.inr ⟨_, _, rfl, rfl, rfl⟩)⟩, ⟨_, rfl, .inr (.inr ⟨_, _, rfl, rfl, rfl⟩)⟩, ⟨_, rfl, .inr (.inr ⟨_, _, rfl, rfl, rfl⟩)⟩, trivial⟩ rfl trivial (fun u hu => hu.defd) (DoesW.gather (v := .agg (newCells n sz tb fb cb kb 0)) (IsNew n sz) (partsP n sz) (by apply Runs.isBuild; exact Runs.build rfl rfl) ⟨(tb, fb, cb, kb), rfl⟩ (fun w G h => (holds_sep.2 (show holds w ([tagsAt (ptr tb) (List.replicate n (0, 0)), freeP (ptr fb) n (((List.range n).reverse).map (Nat.cast : Nat → Int)), owns 148 encCell 6 (.slice (some ⟨cb, 0, none⟩) n n) (List.replicate n cell0), bookP (ptr kb) 4 (List.replicate 4 0)] ++ G) from h)).mono fun f hf => ⟨(tb, fb, cb, kb), rfl, hf⟩)) rfl (fun u hu => ?_); obtain ⟨x, rfl⟩ := hu) | (apply GW.isAny; refine GW.eff rfl rfl rfl rfl rfl ⟨⟨_, rfl, .inr (.inr ⟨_, _, rfl, rfl, rfl⟩)⟩, trivial⟩ rfl trivial (fun u hu => hu.defd) (DoesW.boxTake (fun b => newP n sz b) rfl (fun b w G h => newP.shut h)) rfl (fun u hu => ?_); obtain ⟨sb, rfl⟩ := hu) | (refine GW.nilE rfl ⟨⟨_, rfl, .inr (.inr ⟨_, _, rfl, rfl, rfl⟩)⟩, trivial⟩ ?_; refine GE.imp (F' := newP n sz sb :: F) ?_ (fun w h => h)) | (refine G.isRegion 4 ?_; refine G.case (F' := fun x : Nat × Nat × Nat × Nat => blk sb (.cells #[.pointer (some ⟨x.1, 0, none⟩), .pointer (some ⟨x.2.1, 0, none⟩), .slice (some ⟨x.2.2.1, 0, none⟩) n n, .int .i64 (sz : Nat), .int .i64 0, .int .i64 0, .int .i64 0, .int .i64 0, .pointer (some ⟨x.2.2.2, 0, none⟩)] 123 (0, 0)) :: tagsAt (ptr x.1) (List.replicate n (0, 0)) :: freeP (ptr x.2.1) n (((List.range n).reverse).map (Nat.cast : Nat → Int)) :: owns 148 encCell 6 (.slice (some ⟨x.2.2.1, 0, none⟩) n n) (List.replicate n cell0) :: bookP (ptr x.2.2.2) 4 (List.replicate 4 0) :: F) (fun x => ?_) (fun w h => newP.open h); apply G.region)) | first | (apply GL.isAny; first | refine GL.runA rfl ?_ | (apply GL.isStore; first | refine GL.storeBlk rfl rfl rfl rfl rfl ?_ | refine GL.storeWhole rfl rfl rfl rfl rfl ?_ | refine GL.storeBlkA rfl rfl rfl rfl rfl ?_) | refine GL.guardY rfl rfl ?_ | refine GL.guardN rfl rfl rfl ?_ | refine GL.guardU rfl rfl rfl ?_ | (apply GL.isBox; first | refine GL.boxA rfl rfl (fun _ => ?_) | refine GL.box1 rfl rfl rfl (fun _ => ?_) | refine GL.box rfl rfl (fun _ => ?_)) | (apply GL.isBuildS; first | refine GL.buildSlice1A rfl rfl rfl rfl rfl (fun _ => ?_) | refine GL.buildSlice1 rfl rfl rfl rfl rfl (fun _ => ?_)) | (apply GL.isCall; refine GL.append1 _ rfl rfl rfl rfl (by rfl) (by omega) (by omega) rfl (fun _ => ?_)) | (apply GL.isAlloc; refine GL.alloc rfl (fun _ => ?_))) | apply GL.nil | first | apply G.seq | apply G.region | apply G.block | apply G.skip | apply G.exit | apply G.ret | (apply G.isCond; first | refine G.condT rfl ?_ | refine G.condF rfl ?_) | refine G.draw (by kernel_rfl) (by kernel_rfl) ?_ | (apply GE.isAny; first | apply GE.again | apply GE.thenG | apply GE.blockN | apply GE.blockE | apply GE.thenE | apply GE.thenR | apply GE.blockR | refine GE.blockO rfl ?_ | apply GE.only) | (apply GD.isAny; first | refine GD.runA rfl ?_ | refine GD.guardY rfl rfl ?_ | refine GD.guardN rfl rfl rfl ?_ | refine GD.guardU rfl rfl rfl ?_) | apply GD.nilE | apply GD.nilL | (apply GT.isAny; refine GT.runA rfl rfl ?_) | ((first | (apply GL.isAny; refine GL.guard rfl rfl (fun hc => ?_) (fun hc => ?_)) | (apply G.isCond; refine G.cond rfl (fun hc => ?_) (fun hc => ?_)) | (apply GD.isAny; refine GD.guard rfl rfl (fun hc => ?_) (fun hc => ?_))) <;> ((try simp only [decide_eq_true_eq, decide_eq_false_iff_not, Bool.not_true, Bool.not_false, ne_eq, Classical.not_not, Int.not_lt, Int.not_le] at hc); (try (exfalso; first | omega | exact hc trivial | exact hc rfl)))))
  all_goals (first | (exfalso; omega) | (exfalso; simp at hc; done) | skip)
  refine GE.resMany rfl (by (repeat (first | apply Res.nil | (apply Res.tmp; rfl) | (refine Res.cellA rfl rfl rfl ?_) | (refine Res.cell1 rfl rfl ?_)))) (fun w h => ?_)
  refine ⟨sb, rfl, ?_⟩
  rename_i x
  have h2 : holds w (blk sb (.cells #[.pointer (some ⟨x.1, 0, none⟩), .pointer (some ⟨x.2.1, 0, none⟩), .slice (some ⟨x.2.2.1, 0, none⟩) n n, .int .i64 (sz : Nat), .int .i64 (n : Nat), .int .i64 0, .int .i64 0, .int .i64 0, .pointer (some ⟨x.2.2.2, 0, none⟩)] 123 (0, 0)) :: tagsAt (ptr x.1) (List.replicate n (0, 0)) :: freeP (ptr x.2.1) n (((List.range n).reverse).map (Nat.cast : Nat → Int)) :: owns 148 encCell 6 (.slice (some ⟨x.2.2.1, 0, none⟩) n n) (List.replicate n cell0) :: bookP (ptr x.2.2.2) 4 (List.replicate 4 0) :: F) := h
  have h3 := (holds_sep (l := (List.range n).map (chunkF (St.new n sz) (List.replicate n cell0)))).2 (bigF_new n sz n w _ (Nat.le_refl _) h2)
  refine storeP.make (St.new n sz) ⟨x.1, x.2.1, x.2.2.1, x.2.2.2, []⟩ (List.replicate n cell0) n (n : Nat) 0 0 0 (List.replicate n (0, 0)) (by simp [St.new]) (cntP_new n 0) (cntP_new n 1) (cntP_new n 2) (cntP_new n 3) (by simp [St.new, St.ch0]) (by simp) ?_
  exact h3.order [1, 2, 3, 4, 0, 5]
end Go.Proofs.YtipkgamiejenaaaGreat

/- Package store: a store that Make did not give; and the law's example. -/
namespace Go.Proofs.YtipkgamiejenaaaGreat
open Go Go.RowKit Go.MapKept
set_option linter.unusedVariables false
set_option linter.unusedSectionVars false
set_option linter.unusedSimpArgs false
set_option maxRecDepth 100000
set_option maxHeartbeats 4000000
theorem st_SizeN (w : World) (F : List HProp) (hw : holds w F) :
    Ct Tryz.prog 18 #[.pointer none] w fun e w' => e = .returned (.int .i64 0) ∧ holds w' F := by
  refine Ct.go (args := [.pointer none]) Tryz.func18 rfl rfl rfl hw ?_
  repeat' (first | (apply GL.isAny; first | refine GL.runA rfl ?_ | (apply GL.isStore; first | refine GL.storeBlk rfl rfl rfl rfl rfl ?_ | refine GL.storeWhole rfl rfl rfl rfl rfl ?_ | refine GL.storeBlkA rfl rfl rfl rfl rfl ?_) | refine GL.guardY rfl rfl ?_ | refine GL.guardN rfl rfl rfl ?_ | refine GL.guardU rfl rfl rfl ?_ | (apply GL.isBox; first | refine GL.boxA rfl rfl (fun _ => ?_) | refine GL.box1 rfl rfl rfl (fun _ => ?_) | refine GL.box rfl rfl (fun _ => ?_)) | (apply GL.isBuildS; first | refine GL.buildSlice1A rfl rfl rfl rfl rfl (fun _ => ?_) | refine GL.buildSlice1 rfl rfl rfl rfl rfl (fun _ => ?_)) | (apply GL.isCall; refine GL.append1 _ rfl rfl rfl rfl (by rfl) (by omega) (by omega) rfl (fun _ => ?_)) | (apply GL.isAlloc; refine GL.alloc rfl (fun _ => ?_))) | apply GL.nil | first | apply G.seq | apply G.region | apply G.block | apply G.skip | apply G.exit | apply G.ret | (apply G.isCond; first | refine G.condT rfl ?_ | refine G.condF rfl ?_) | refine G.draw (by kernel_rfl) (by kernel_rfl) ?_ | (apply GE.isAny; first | apply GE.again | apply GE.thenG | apply GE.blockN | apply GE.blockE | apply GE.thenE | apply GE.thenR | apply GE.blockR | refine GE.blockO rfl ?_ | apply GE.only) | (apply GD.isAny; first | refine GD.runA rfl ?_ | refine GD.guardY rfl rfl ?_ | refine GD.guardN rfl rfl rfl ?_ | refine GD.guardU rfl rfl rfl ?_) | apply GD.nilE | apply GD.nilL | (apply GT.isAny; refine GT.runA rfl rfl ?_) | ((first | (apply GL.isAny; refine GL.guard rfl rfl (fun hc => ?_) (fun hc => ?_)) | (apply G.isCond; refine G.cond rfl (fun hc => ?_) (fun hc => ?_)) | (apply GD.isAny; refine GD.guard rfl rfl (fun hc => ?_) (fun hc => ?_))) <;> ((try simp only [decide_eq_true_eq, decide_eq_false_iff_not, Bool.not_true, Bool.not_false, ne_eq, Classical.not_not, Int.not_lt, Int.not_le] at hc); (try (exfalso; first | omega | exact hc trivial | exact hc rfl)))))
  all_goals (first | (exfalso; simp at hc; done) | (exfalso; omega) | (refine GE.resOne rfl (by (repeat (first | apply Res.nil | (apply Res.tmp; rfl) | (refine Res.cellA rfl rfl rfl ?_) | (refine Res.cell1 rfl rfl ?_)))) (fun w h => ?_); exact ⟨rfl, h.sub⟩))
end Go.Proofs.YtipkgamiejenaaaGreat

/- The laws of chapter 19: the example, and StoreNone. -/
namespace Go.Proofs.YtipkgamiejenaaaGreat
open Go Go.RowKit Go.MapKept
set_option linter.unusedVariables false
set_option linter.unusedSectionVars false
set_option linter.unusedSimpArgs false
set_option maxRecDepth 100000
set_option maxHeartbeats 4000000
namespace St
def w1 : S := (take (new 2 64) 7).1
def w2 : S := (put w1 0 0 3 [97, 98, 99]).1
def w3 : S := (give w2 0 7).1
def w4 : S := (start w3 0).1
def w5 : S := (step w4 0 64).1
theorem wr1 : (take (new 2 64) 7).2.1 = 0 ∧ (take (new 2 64) 7).2.2 = 0 := by decide +kernel
theorem wr2 : (put w1 0 0 3 [97, 98, 99]).2 = 0 := by decide +kernel
end St
end Go.Proofs.YtipkgamiejenaaaGreat

/- '==' and '!=' of bools. -/
namespace Go.Proofs.YtipkgamiejenaaaGreat
open Go Go.RowKit Go.MapKept
set_option linter.unusedVariables false
section
variable {P : Program} {n : Nat} {env : Env} {F : List HProp} {x y : Operand} {xT yT : TypeId}
class BoT (P : Program) (t : TypeId) : Prop where
  ok : P.underlying t = some .bool
end
instance : BoT Tryz.prog 4 := ⟨by kernel_rfl⟩
end Go.Proofs.YtipkgamiejenaaaGreat

/- The law StoreRound of chapter 19. -/
namespace Go.Proofs.YtipkgamiejenaaaGreat
open Go Go.RowKit Go.MapKept
set_option linter.unusedVariables false
set_option linter.unusedSectionVars false
set_option linter.unusedSimpArgs false
set_option maxRecDepth 100000
set_option maxHeartbeats 4000000
section
variable {P : Program} {n k d : Nat} {env : Env} {F F0 : List HProp} {ops : Array Oper} {rest : List Oper} {ty : TypeId} {pos : String} {aft : Array Edge} {Z : Act → Prop}
end
structure ActM where
  kd : Int
  i : Int
  ow : Int
  ge : Int
  at_ : Int
  n : Int
  tx : List UInt8
def encAct (a : ActM) : List Value := [.int .i64 a.kd, .int .i64 a.i, .int .i64 a.ow, .int .i64 a.ge, .int .i64 a.at_, .int .i64 a.n, .string (bs a.tx)]
instance : Enc encAct 7 := ⟨fun _ => rfl, fun _ => by simp [encAct, Value.oneCell'], by omega⟩
namespace St
end St
end Go.Proofs.YtipkgamiejenaaaGreat

/- Spans: contracts of package spans and of its reference, at spans that are in order. -/
namespace Go.Proofs.YtipkgamiejenaaaGreat
open Go Go.RowKit Go.MapKept
set_option linter.unusedVariables false
set_option linter.unusedSimpArgs false
set_option maxRecDepth 100000
set_option maxHeartbeats 4000000

structure SpanM where
  pos : Int
  len : Int
deriving DecidableEq
def encSp (s : SpanM) : List Value := [.int .i64 s.pos, .int .i64 s.len]
instance {s : SpanM} : IntsL (encSp s) [s.pos, s.len] := ⟨rfl⟩
instance : Enc encSp 2 := ⟨fun _ => rfl, fun _ => by simp [encSp, Value.oneCell'], by omega⟩
/-- A span as they lie here. -/
structure SpOk (s : SpanM) : Prop where
  p0 : 0 ≤ s.pos
  p1 : s.pos ≤ 1048575
  l0 : 1 ≤ s.len
  l1 : s.len ≤ 1048576
/-- Spans in order. -/
structure SpR (l : List SpanM) : Prop where
  ok : ∀ (i : Nat) (h : i < l.length), SpOk l[i]
  ord : ∀ (i j : Nat) (h : i < j) (hj : j < l.length), l[i].pos + l[i].len ≤ l[j].pos
  few : l.length ≤ 1048576
abbrev Spn.Meet (a b : SpanM) : Prop := a.pos < b.pos + b.len ∧ b.pos < a.pos + a.len

theorem num_Add (a b : Int) (h : 0 ≤ a ∧ a ≤ 1099511627776 ∧ 0 ≤ b ∧ b ≤ 1099511627776) (w : World) (F : List HProp) (hw : holds w F) :
    Ct Tryz.prog 184 #[.int .i64 a, .int .i64 b] w fun e w' => e = .returned (.tuple #[.int .i64 (a + b), .bool true]) ∧ holds w' F := by
  refine Ct.go (args := [.int .i64 a, .int .i64 b]) Tryz.func184 rfl rfl rfl hw ?_
  repeat' (first | (apply GL.isAny; first | refine GL.runA rfl ?_ | (apply GL.isStore; first | refine GL.storeBlk rfl rfl rfl rfl rfl ?_ | refine GL.storeWhole rfl rfl rfl rfl rfl ?_ | refine GL.storeBlkA rfl rfl rfl rfl rfl ?_) | refine GL.guardY rfl rfl ?_ | refine GL.guardN rfl rfl rfl ?_ | refine GL.guardU rfl rfl rfl ?_ | (apply GL.isBox; first | refine GL.boxA rfl rfl (fun _ => ?_) | refine GL.box1 rfl rfl rfl (fun _ => ?_) | refine GL.box rfl rfl (fun _ => ?_)) | (apply GL.isBuildS; first | refine GL.buildSlice1A rfl rfl rfl rfl rfl (fun _ => ?_) | refine GL.buildSlice1 rfl rfl rfl rfl rfl (fun _ => ?_)) | (apply GL.isCall; refine GL.append1 _ rfl rfl rfl rfl (by rfl) (by omega) (by omega) rfl (fun _ => ?_)) | (apply GL.isAlloc; refine GL.alloc rfl (fun _ => ?_))) | apply GL.nil | first | apply G.seq | apply G.region | apply G.block | apply G.skip | apply G.exit | apply G.ret | (apply G.isCond; first | refine G.condT rfl ?_ | refine G.condF rfl ?_) | refine G.draw (by kernel_rfl) (by kernel_rfl) ?_ | (apply GE.isAny; first | apply GE.again | apply GE.thenG | apply GE.blockN | apply GE.blockE | apply GE.thenE | apply GE.thenR | apply GE.blockR | refine GE.blockO rfl ?_ | apply GE.only) | (apply GD.isAny; first | refine GD.runA rfl ?_ | refine GD.guardY rfl rfl ?_ | refine GD.guardN rfl rfl rfl ?_ | refine GD.guardU rfl rfl rfl ?_) | apply GD.nilE | apply GD.nilL | (apply GT.isAny; refine GT.runA rfl rfl ?_) | ((first | (apply GL.isAny; refine GL.guard rfl rfl (fun hc => ?_) (fun hc => ?_)) | (apply G.isCond; refine G.cond rfl (fun hc => ?_) (fun hc => ?_)) | (apply GD.isAny; refine GD.guard rfl rfl (fun hc => ?_) (fun hc => ?_))) <;> ((try simp only [decide_eq_true_eq, decide_eq_false_iff_not, Bool.not_true, Bool.not_false, ne_eq, Classical.not_not, Int.not_lt, Int.not_le] at hc); (try (exfalso; first | omega | exact hc trivial | exact hc rfl)))))
  all_goals
    refine GE.resMany rfl (by (repeat (first | apply Res.nil | (apply Res.tmp; rfl) | (refine Res.cellA rfl rfl rfl ?_) | (refine Res.cell1 rfl rfl ?_)))) (fun w h => ?_)
    exact ⟨rfl, h⟩
theorem spans_whole (s : SpanM) (hs : SpOk s) (w : World) (F : List HProp) (hw : holds w F) :
    Ct Tryz.prog 154 #[.agg (encSp s).toArray] w fun e w' => e = .returned (.bool true) ∧ holds w' F := by
  obtain ⟨p0, p1, l0, l1⟩ := hs
  refine Ct.go (args := [.agg (encSp s).toArray]) Tryz.func154 rfl rfl rfl hw ?_
  repeat' (first | first | (apply GL.isAny; first | refine GL.runA rfl ?_ | (apply GL.isStore; first | refine GL.storeBlk rfl rfl rfl rfl rfl ?_ | refine GL.storeWhole rfl rfl rfl rfl rfl ?_ | refine GL.storeBlkA rfl rfl rfl rfl rfl ?_) | refine GL.guardY rfl rfl ?_ | refine GL.guardN rfl rfl rfl ?_ | refine GL.guardU rfl rfl rfl ?_ | (apply GL.isBox; first | refine GL.boxA rfl rfl (fun _ => ?_) | refine GL.box1 rfl rfl rfl (fun _ => ?_) | refine GL.box rfl rfl (fun _ => ?_)) | (apply GL.isBuildS; first | refine GL.buildSlice1A rfl rfl rfl rfl rfl (fun _ => ?_) | refine GL.buildSlice1 rfl rfl rfl rfl rfl (fun _ => ?_)) | (apply GL.isCall; refine GL.append1 _ rfl rfl rfl rfl (by rfl) (by omega) (by omega) rfl (fun _ => ?_)) | (apply GL.isAlloc; refine GL.alloc rfl (fun _ => ?_))) | apply GL.nil | first | apply G.seq | apply G.region | apply G.block | apply G.skip | apply G.exit | apply G.ret | (apply G.isCond; first | refine G.condT rfl ?_ | refine G.condF rfl ?_) | refine G.draw (by kernel_rfl) (by kernel_rfl) ?_ | (apply GE.isAny; first | apply GE.again | apply GE.thenG | apply GE.blockN | apply GE.blockE | apply GE.thenE | apply GE.thenR | apply GE.blockR | refine GE.blockO rfl ?_ | apply GE.only) | (apply GD.isAny; first | refine GD.runA rfl ?_ | refine GD.guardY rfl rfl ?_ | refine GD.guardN rfl rfl rfl ?_ | refine GD.guardU rfl rfl rfl ?_) | apply GD.nilE | apply GD.nilL | (apply GT.isAny; refine GT.runA rfl rfl ?_) | ((first | (apply GL.isAny; refine GL.guard rfl rfl (fun hc => ?_) (fun hc => ?_)) | (apply G.isCond; refine G.cond rfl (fun hc => ?_) (fun hc => ?_)) | (apply GD.isAny; refine GD.guard rfl rfl (fun hc => ?_) (fun hc => ?_))) <;> ((try simp only [decide_eq_true_eq, decide_eq_false_iff_not, Bool.not_true, Bool.not_false, ne_eq, Classical.not_not, Int.not_lt, Int.not_le] at hc); (try (exfalso; first | omega | exact hc trivial | exact hc rfl)))) | (first | (apply GL.isCall; refine GL.call1 rfl rfl (fun w h => num_Add _ _ (by omega) w _ h) ?_) | (apply GD.isAny; refine GD.call rfl rfl (fun w F' h => num_Add _ _ (by omega) w _ h) ?_)))
  all_goals
    refine GE.resOne rfl (by (repeat (first | apply Res.nil | (apply Res.tmp; rfl) | (refine Res.cellA rfl rfl rfl ?_) | (refine Res.cell1 rfl rfl ?_)))) (fun w h => ?_)
    exact ⟨by congr 2; try simp [*], h.sub⟩
theorem spans_Meet (s t : SpanM) (hs : SpOk s) (ht : SpOk t) (w : World) (F : List HProp) (hw : holds w F) :
    Ct Tryz.prog 156 #[.agg (encSp s).toArray, .agg (encSp t).toArray] w fun e w' => e = .returned (.bool (decide (Spn.Meet s t))) ∧ holds w' F := by
  have hs' := hs
  have ht' := ht
  obtain ⟨p0, p1, l0, l1⟩ := hs
  obtain ⟨q0, q1, m0, m1⟩ := ht
  refine Ct.go (args := [.agg (encSp s).toArray, .agg (encSp t).toArray]) Tryz.func156 rfl rfl rfl hw ?_
  repeat' (first | first | (apply GL.isAny; first | refine GL.runA rfl ?_ | (apply GL.isStore; first | refine GL.storeBlk rfl rfl rfl rfl rfl ?_ | refine GL.storeWhole rfl rfl rfl rfl rfl ?_ | refine GL.storeBlkA rfl rfl rfl rfl rfl ?_) | refine GL.guardY rfl rfl ?_ | refine GL.guardN rfl rfl rfl ?_ | refine GL.guardU rfl rfl rfl ?_ | (apply GL.isBox; first | refine GL.boxA rfl rfl (fun _ => ?_) | refine GL.box1 rfl rfl rfl (fun _ => ?_) | refine GL.box rfl rfl (fun _ => ?_)) | (apply GL.isBuildS; first | refine GL.buildSlice1A rfl rfl rfl rfl rfl (fun _ => ?_) | refine GL.buildSlice1 rfl rfl rfl rfl rfl (fun _ => ?_)) | (apply GL.isCall; refine GL.append1 _ rfl rfl rfl rfl (by rfl) (by omega) (by omega) rfl (fun _ => ?_)) | (apply GL.isAlloc; refine GL.alloc rfl (fun _ => ?_))) | apply GL.nil | first | apply G.seq | apply G.region | apply G.block | apply G.skip | apply G.exit | apply G.ret | (apply G.isCond; first | refine G.condT rfl ?_ | refine G.condF rfl ?_) | refine G.draw (by kernel_rfl) (by kernel_rfl) ?_ | (apply GE.isAny; first | apply GE.again | apply GE.thenG | apply GE.blockN | apply GE.blockE | apply GE.thenE | apply GE.thenR | apply GE.blockR | refine GE.blockO rfl ?_ | apply GE.only) | (apply GD.isAny; first | refine GD.runA rfl ?_ | refine GD.guardY rfl rfl ?_ | refine GD.guardN rfl rfl rfl ?_ | refine GD.guardU rfl rfl rfl ?_) | apply GD.nilE | apply GD.nilL | (apply GT.isAny; refine GT.runA rfl rfl ?_) | ((first | (apply GL.isAny; refine GL.guard rfl rfl (fun hc => ?_) (fun hc => ?_)) | (apply G.isCond; refine G.cond rfl (fun hc => ?_) (fun hc => ?_)) | (apply GD.isAny; refine GD.guard rfl rfl (fun hc => ?_) (fun hc => ?_))) <;> ((try simp only [decide_eq_true_eq, decide_eq_false_iff_not, Bool.not_true, Bool.not_false, ne_eq, Classical.not_not, Int.not_lt, Int.not_le] at hc); (try (exfalso; first | omega | exact hc trivial | exact hc rfl)))) | (first | (apply GL.isCall; refine GL.call1 rfl rfl (fun w h => spans_whole _ (by assumption) w _ h) ?_) | (apply GD.isAny; refine GD.call rfl rfl (fun w F' h => spans_whole _ (by assumption) w _ h) ?_)))
  all_goals
    refine GE.resOne rfl (by (repeat (first | apply Res.nil | (apply Res.tmp; rfl) | (refine Res.cellA rfl rfl rfl ?_) | (refine Res.cell1 rfl rfl ?_)))) (fun w h => ?_)
    exact ⟨by congr 2; simp [Spn.Meet]; try omega, h.sub⟩
theorem spans_Right (v : Value) (l : List SpanM) (hR : SpR l) (w : World) (F : List HProp) [Reads F v encSp 2 l] (hw : holds w F) :
    Ct Tryz.prog 153 #[v] w fun e w' => e = .returned (.bool true) ∧ holds w' F := by
  have hfew := hR.few
  refine Ct.go (args := [v]) Tryz.func153 rfl rfl rfl hw ?_
  repeat' (first | (apply GL.isAny; first | refine GL.runA rfl ?_ | (apply GL.isStore; first | refine GL.storeBlk rfl rfl rfl rfl rfl ?_ | refine GL.storeWhole rfl rfl rfl rfl rfl ?_ | refine GL.storeBlkA rfl rfl rfl rfl rfl ?_) | refine GL.guardY rfl rfl ?_ | refine GL.guardN rfl rfl rfl ?_ | refine GL.guardU rfl rfl rfl ?_ | (apply GL.isBox; first | refine GL.boxA rfl rfl (fun _ => ?_) | refine GL.box1 rfl rfl rfl (fun _ => ?_) | refine GL.box rfl rfl (fun _ => ?_)) | (apply GL.isBuildS; first | refine GL.buildSlice1A rfl rfl rfl rfl rfl (fun _ => ?_) | refine GL.buildSlice1 rfl rfl rfl rfl rfl (fun _ => ?_)) | (apply GL.isCall; refine GL.append1 _ rfl rfl rfl rfl (by rfl) (by omega) (by omega) rfl (fun _ => ?_)) | (apply GL.isAlloc; refine GL.alloc rfl (fun _ => ?_))) | apply GL.nil | first | apply G.seq | apply G.region | apply G.block | apply G.skip | apply G.exit | apply G.ret | (apply G.isCond; first | refine G.condT rfl ?_ | refine G.condF rfl ?_) | refine G.draw (by kernel_rfl) (by kernel_rfl) ?_ | (apply GE.isAny; first | apply GE.again | apply GE.thenG | apply GE.blockN | apply GE.blockE | apply GE.thenE | apply GE.thenR | apply GE.blockR | refine GE.blockO rfl ?_ | apply GE.only) | (apply GD.isAny; first | refine GD.runA rfl ?_ | refine GD.guardY rfl rfl ?_ | refine GD.guardN rfl rfl rfl ?_ | refine GD.guardU rfl rfl rfl ?_) | apply GD.nilE | apply GD.nilL | (apply GT.isAny; refine GT.runA rfl rfl ?_) | ((first | (apply GL.isAny; refine GL.guard rfl rfl (fun hc => ?_) (fun hc => ?_)) | (apply G.isCond; refine G.cond rfl (fun hc => ?_) (fun hc => ?_)) | (apply GD.isAny; refine GD.guard rfl rfl (fun hc => ?_) (fun hc => ?_))) <;> ((try simp only [decide_eq_true_eq, decide_eq_false_iff_not, Bool.not_true, Bool.not_false, ne_eq, Classical.not_not, Int.not_lt, Int.not_le] at hc); (try (exfalso; first | omega | exact hc trivial | exact hc rfl)))))
  refine G.loop (α := Nat × Int) (fun x => [(6, v), (7, .int .i64 l.length), (8, .int .i64 x.1), (3, .int .i64 x.2)]) (fun x => F) (fun x => x.1 ≤ l.length ∧ 0 ≤ x.2 ∧ ∀ j (h : j < l.length), x.1 ≤ j → x.2 ≤ l[j].pos) (fun x => l.length - x.1) (0, 0) ⟨by simp, by simp, fun j h _ => (hR.ok j h).p0⟩ ⟨rfl, rfl, rfl, rfl, trivial⟩ (fun w h => h) ?_
  rintro ⟨k, z⟩ ⟨hk, hz, hall⟩
  simp only at hk hz hall ⊢
  by_cases hlt : k < l.length
  · have hok := hR.ok k hlt
    have hzk := hall k hlt (Nat.le_refl _)
    obtain ⟨p0, p1, l0, l1⟩ := id hok
    repeat' (first | first | (apply GL.isAny; first | refine GL.runA rfl ?_ | (apply GL.isStore; first | refine GL.storeBlk rfl rfl rfl rfl rfl ?_ | refine GL.storeWhole rfl rfl rfl rfl rfl ?_ | refine GL.storeBlkA rfl rfl rfl rfl rfl ?_) | refine GL.guardY rfl rfl ?_ | refine GL.guardN rfl rfl rfl ?_ | refine GL.guardU rfl rfl rfl ?_ | (apply GL.isBox; first | refine GL.boxA rfl rfl (fun _ => ?_) | refine GL.box1 rfl rfl rfl (fun _ => ?_) | refine GL.box rfl rfl (fun _ => ?_)) | (apply GL.isBuildS; first | refine GL.buildSlice1A rfl rfl rfl rfl rfl (fun _ => ?_) | refine GL.buildSlice1 rfl rfl rfl rfl rfl (fun _ => ?_)) | (apply GL.isCall; refine GL.append1 _ rfl rfl rfl rfl (by rfl) (by omega) (by omega) rfl (fun _ => ?_)) | (apply GL.isAlloc; refine GL.alloc rfl (fun _ => ?_))) | apply GL.nil | first | apply G.seq | apply G.region | apply G.block | apply G.skip | apply G.exit | apply G.ret | (apply G.isCond; first | refine G.condT rfl ?_ | refine G.condF rfl ?_) | refine G.draw (by kernel_rfl) (by kernel_rfl) ?_ | (apply GE.isAny; first | apply GE.again | apply GE.thenG | apply GE.blockN | apply GE.blockE | apply GE.thenE | apply GE.thenR | apply GE.blockR | refine GE.blockO rfl ?_ | apply GE.only) | (apply GD.isAny; first | refine GD.runA rfl ?_ | refine GD.guardY rfl rfl ?_ | refine GD.guardN rfl rfl rfl ?_ | refine GD.guardU rfl rfl rfl ?_) | apply GD.nilE | apply GD.nilL | (apply GT.isAny; refine GT.runA rfl rfl ?_) | ((first | (apply GL.isAny; refine GL.guard rfl rfl (fun hc => ?_) (fun hc => ?_)) | (apply G.isCond; refine G.cond rfl (fun hc => ?_) (fun hc => ?_)) | (apply GD.isAny; refine GD.guard rfl rfl (fun hc => ?_) (fun hc => ?_))) <;> ((try simp only [decide_eq_true_eq, decide_eq_false_iff_not, Bool.not_true, Bool.not_false, ne_eq, Classical.not_not, Int.not_lt, Int.not_le] at hc); (try (exfalso; first | omega | exact hc trivial | exact hc rfl)))) | (first | (apply GL.isCall; refine GL.call1 rfl rfl (fun w h => spans_whole _ (by assumption) w _ h) ?_) | (apply GD.isAny; refine GD.call rfl rfl (fun w F' h => spans_whole _ (by assumption) w _ h) ?_)))
    refine GE.round (k + 1, l[k].pos + l[k].len) ⟨by simp only []; omega, by simp only []; omega, fun j h hj => hR.ord k j hj h⟩ ⟨rfl, rfl, rfl, rfl, trivial⟩ (fun w h => h.sub) (by simp only []; omega)
  · repeat' (first | (apply GL.isAny; first | refine GL.runA rfl ?_ | (apply GL.isStore; first | refine GL.storeBlk rfl rfl rfl rfl rfl ?_ | refine GL.storeWhole rfl rfl rfl rfl rfl ?_ | refine GL.storeBlkA rfl rfl rfl rfl rfl ?_) | refine GL.guardY rfl rfl ?_ | refine GL.guardN rfl rfl rfl ?_ | refine GL.guardU rfl rfl rfl ?_ | (apply GL.isBox; first | refine GL.boxA rfl rfl (fun _ => ?_) | refine GL.box1 rfl rfl rfl (fun _ => ?_) | refine GL.box rfl rfl (fun _ => ?_)) | (apply GL.isBuildS; first | refine GL.buildSlice1A rfl rfl rfl rfl rfl (fun _ => ?_) | refine GL.buildSlice1 rfl rfl rfl rfl rfl (fun _ => ?_)) | (apply GL.isCall; refine GL.append1 _ rfl rfl rfl rfl (by rfl) (by omega) (by omega) rfl (fun _ => ?_)) | (apply GL.isAlloc; refine GL.alloc rfl (fun _ => ?_))) | apply GL.nil | first | apply G.seq | apply G.region | apply G.block | apply G.skip | apply G.exit | apply G.ret | (apply G.isCond; first | refine G.condT rfl ?_ | refine G.condF rfl ?_) | refine G.draw (by kernel_rfl) (by kernel_rfl) ?_ | (apply GE.isAny; first | apply GE.again | apply GE.thenG | apply GE.blockN | apply GE.blockE | apply GE.thenE | apply GE.thenR | apply GE.blockR | refine GE.blockO rfl ?_ | apply GE.only) | (apply GD.isAny; first | refine GD.runA rfl ?_ | refine GD.guardY rfl rfl ?_ | refine GD.guardN rfl rfl rfl ?_ | refine GD.guardU rfl rfl rfl ?_) | apply GD.nilE | apply GD.nilL | (apply GT.isAny; refine GT.runA rfl rfl ?_) | ((first | (apply GL.isAny; refine GL.guard rfl rfl (fun hc => ?_) (fun hc => ?_)) | (apply G.isCond; refine G.cond rfl (fun hc => ?_) (fun hc => ?_)) | (apply GD.isAny; refine GD.guard rfl rfl (fun hc => ?_) (fun hc => ?_))) <;> ((try simp only [decide_eq_true_eq, decide_eq_false_iff_not, Bool.not_true, Bool.not_false, ne_eq, Classical.not_not, Int.not_lt, Int.not_le] at hc); (try (exfalso; first | omega | exact hc trivial | exact hc rfl)))))
    refine GE.resOne rfl (by (repeat (first | apply Res.nil | (apply Res.tmp; rfl) | (refine Res.cellA rfl rfl rfl ?_) | (refine Res.cell1 rfl rfl ?_)))) (fun w h => ?_)
    exact ⟨rfl, h.sub⟩
end Go.Proofs.YtipkgamiejenaaaGreat
