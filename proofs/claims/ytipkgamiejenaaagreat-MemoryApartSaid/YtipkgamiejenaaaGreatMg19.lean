import Derived.Test.YtipkgamiejenaaaGreatMg18
import Derived.Test.YtipkgamiejenaaaGreatGoTE

import Derived.Test.YtipkgamiejenaaaGreatMg7
import Derived.Test.YtipkgamiejenaaaGreatMg6
import Derived.Test.YtipkgamiejenaaaGreatMg8
import Derived.Test.YtipkgamiejenaaaGreatMg9
import Derived.Test.YtipkgamiejenaaaGreatMg16
/- The memory of package live: pieces as a map of chunks. -/
namespace Go.Proofs.YtipkgamiejenaaaGreat
open Go Go.RowKit Go.MapKept
set_option linter.unusedVariables false
set_option linter.unusedSimpArgs false
set_option maxRecDepth 100000
set_option maxHeartbeats 4000000

/-- A chunk. -/
structure ChM where
  gen : Int
  sp : List SpanM
  reg : List (Int × Int)
def encC (q : Nat × ChM) : Value := .pointer (some ⟨q.1, 0, none⟩)
def chH (q : Int × (Nat × ChM)) : HProp := fun f => ∃ x : Value × Nat, sep [blk q.2.1 (.cells #[x.1, .int .i64 q.2.2.gen, .map (some x.2)] 161 (0, 0)), owns 165 encSp 2 x.1 q.2.2.sp, imap encI x.2 q.2.2.reg] f
abbrev LvM := List (Int × (Nat × ChM))
def livP (p : Nat) (M : LvM) : HProp := fun f => ∃ mb : Nat, sep (blk p (.cells #[.map (some mb)] 154 (0, 0)) :: imap encC mb M :: M.map chH) f
theorem liv_open {w : World} {F : List HProp} {p : Nat} {M : LvM} (h : holds w (livP p M :: F)) : ∃ mb : Nat, holds w (blk p (.cells #[.map (some mb)] 154 (0, 0)) :: imap encC mb M :: sep (M.map chH) :: F) := by
  obtain ⟨mb, h1⟩ := h.open_ex
  refine ⟨mb, ?_⟩
  have h2 := holds_sep.1 h1
  have h3 : holds w (([blk p (.cells #[.map (some mb)] 154 (0, 0)), imap encC mb M] ++ M.map chH) ++ F) := h2
  rw [List.append_assoc] at h3
  have h4 : holds w (M.map chH ++ ([blk p (.cells #[.map (some mb)] 154 (0, 0)), imap encC mb M] ++ F)) := h3.perm (by
    rw [← List.append_assoc, ← List.append_assoc]
    exact List.perm_append_comm.append_right F)
  exact (show holds w (sep (M.map chH) :: blk p (.cells #[.map (some mb)] 154 (0, 0)) :: imap encC mb M :: F) from holds_sep.2 h4).sub
theorem liv_close {w : World} {F : List HProp} {p mb : Nat} {M : LvM} (h : holds w (blk p (.cells #[.map (some mb)] 154 (0, 0)) :: imap encC mb M :: sep (M.map chH) :: F)) : holds w (livP p M :: F) := by
  have h1 : holds w (sep (M.map chH) :: blk p (.cells #[.map (some mb)] 154 (0, 0)) :: imap encC mb M :: F) := h.sub
  have h2 : holds w (M.map chH ++ ([blk p (.cells #[.map (some mb)] 154 (0, 0)), imap encC mb M] ++ F)) := holds_sep.1 h1
  have h3 : holds w (([blk p (.cells #[.map (some mb)] 154 (0, 0)), imap encC mb M] ++ M.map chH) ++ F) := h2.perm (by
    rw [List.append_assoc]
    exact (List.perm_append_comm_assoc _ _ _))
  have h4 := holds_sep.2 h3
  exact h4.mono fun f hf => ⟨mb, hf⟩
theorem alFind_perm {β γ : Type} (g : Int × β → γ) (x : Int) (M : List (Int × β)) (j : Nat) (u : β) (h : alFind x M 0 = some (j, u)) : (M.map g).Perm (g (x, u) :: (alDel M x).map g) := by
  obtain ⟨g1, _, g3⟩ := alFind_spec x M j u h
  rw [g3]
  obtain ⟨hj, hv⟩ := List.getElem?_eq_some_iff.1 g1
  have : M = M.take j ++ (x, u) :: M.drop (j + 1) := by
    rw [← hv, List.getElem_cons_drop hj, List.take_append_drop]
  rw [List.eraseIdx_eq_take_drop_succ]
  conv => lhs; rw [this]
  simp only [List.map_append, List.map_cons]
  exact List.perm_middle
/-- One chunk out of the others. -/
theorem chunk_open {w : World} {F : List HProp} {M : LvM} {x : Int} {cb : Nat} {c : ChM} (hx : alGet M x = some (cb, c)) (h : holds w (sep (M.map chH) :: F)) :
    ∃ y : Value × Nat, holds w (blk cb (.cells #[y.1, .int .i64 c.gen, .map (some y.2)] 161 (0, 0)) :: owns 165 encSp 2 y.1 c.sp :: imap encI y.2 c.reg :: sep ((alDel M x).map chH) :: F) := by
  unfold alGet at hx
  simp only [Option.map_eq_some_iff] at hx
  obtain ⟨⟨j, u⟩, hf, rfl⟩ := hx
  have h1 := (holds_sep.1 h).perm ((alFind_perm chH x M j _ hf).append_right F)
  have h2 : holds w (chH (x, (cb, c)) :: ((alDel M x).map chH ++ F)) := h1
  obtain ⟨y, h3⟩ := h2.open_ex
  have h4 := holds_sep.1 h3
  refine ⟨y, ?_⟩
  have h5 : holds w ((alDel M x).map chH ++ ([blk cb (.cells #[y.1, .int .i64 c.gen, .map (some y.2)] 161 (0, 0)), owns 165 encSp 2 y.1 c.sp, imap encI y.2 c.reg] ++ F)) := h4.perm (List.perm_append_comm_assoc _ _ _)
  exact (show holds w (sep ((alDel M x).map chH) :: blk cb (.cells #[y.1, .int .i64 c.gen, .map (some y.2)] 161 (0, 0)) :: owns 165 encSp 2 y.1 c.sp :: imap encI y.2 c.reg :: F) from holds_sep.2 h5).sub
/-- .. and back. -/
theorem chunk_close {w : World} {F : List HProp} {M : LvM} {x : Int} {cb : Nat} {c : ChM} (hx : alGet M x = some (cb, c)) {y : Value × Nat} (h : holds w (blk cb (.cells #[y.1, .int .i64 c.gen, .map (some y.2)] 161 (0, 0)) :: owns 165 encSp 2 y.1 c.sp :: imap encI y.2 c.reg :: sep ((alDel M x).map chH) :: F)) : holds w (sep (M.map chH) :: F) := by
  unfold alGet at hx
  simp only [Option.map_eq_some_iff] at hx
  obtain ⟨⟨j, u⟩, hf, rfl⟩ := hx
  have h1 : holds w (sep ((alDel M x).map chH) :: blk cb (.cells #[y.1, .int .i64 c.gen, .map (some y.2)] 161 (0, 0)) :: owns 165 encSp 2 y.1 c.sp :: imap encI y.2 c.reg :: F) := h.sub
  have h2 : holds w ((alDel M x).map chH ++ ([blk cb (.cells #[y.1, .int .i64 c.gen, .map (some y.2)] 161 (0, 0)), owns 165 encSp 2 y.1 c.sp, imap encI y.2 c.reg] ++ F)) := holds_sep.1 h1
  have h3 : holds w ([blk cb (.cells #[y.1, .int .i64 c.gen, .map (some y.2)] 161 (0, 0)), owns 165 encSp 2 y.1 c.sp, imap encI y.2 c.reg] ++ ((alDel M x).map chH ++ F)) := h2.perm (List.perm_append_comm_assoc _ _ _)
  have h4 : holds w (chH (x, (cb, c)) :: ((alDel M x).map chH ++ F)) := (holds_sep.2 h3).mono (B := chH (x, (cb, c))) fun f hf => ⟨y, hf⟩
  have h5 : holds w ((chH (x, (cb, c)) :: (alDel M x).map chH) ++ F) := h4
  exact holds_sep.2 (h5.perm ((alFind_perm chH x M j _ hf).symm.append_right F))

theorem live_small (x : Int) (w : World) (F : List HProp) (hw : holds w F) :
    Ct Tryz.prog 88 #[.int .i64 x] w fun e w' => e = .returned (.bool (decide (0 ≤ x ∧ x ≤ 1048575))) ∧ holds w' F := by
  refine Ct.go (args := [.int .i64 x]) Tryz.func88 rfl rfl rfl hw ?_
  repeat' (first | (apply GL.isAny; first | refine GL.runA rfl ?_ | (apply GL.isStore; first | refine GL.storeBlk rfl rfl rfl rfl rfl ?_ | refine GL.storeWhole rfl rfl rfl rfl rfl ?_ | refine GL.storeBlkA rfl rfl rfl rfl rfl ?_) | refine GL.guardY rfl rfl ?_ | refine GL.guardN rfl rfl rfl ?_ | refine GL.guardU rfl rfl rfl ?_ | (apply GL.isBox; first | refine GL.boxA rfl rfl (fun _ => ?_) | refine GL.box1 rfl rfl rfl (fun _ => ?_) | refine GL.box rfl rfl (fun _ => ?_)) | (apply GL.isBuildS; first | refine GL.buildSlice1A rfl rfl rfl rfl rfl (fun _ => ?_) | refine GL.buildSlice1 rfl rfl rfl rfl rfl (fun _ => ?_)) | (apply GL.isCall; refine GL.append1 _ rfl rfl rfl rfl (by rfl) (by omega) (by omega) rfl (fun _ => ?_)) | (apply GL.isAlloc; refine GL.alloc rfl (fun _ => ?_))) | apply GL.nil | first | apply G.seq | apply G.region | apply G.block | apply G.skip | apply G.exit | apply G.ret | (apply G.isCond; first | refine G.condT rfl ?_ | refine G.condF rfl ?_) | refine G.draw (by kernel_rfl) (by kernel_rfl) ?_ | (apply GE.isAny; first | apply GE.again | apply GE.thenG | apply GE.blockN | apply GE.blockE | apply GE.thenE | apply GE.thenR | apply GE.blockR | refine GE.blockO rfl ?_ | apply GE.only) | (apply GD.isAny; first | refine GD.runA rfl ?_ | refine GD.guardY rfl rfl ?_ | refine GD.guardN rfl rfl rfl ?_ | refine GD.guardU rfl rfl rfl ?_) | apply GD.nilE | apply GD.nilL | (apply GT.isAny; refine GT.runA rfl rfl ?_) | ((first | (apply GL.isAny; refine GL.guard rfl rfl (fun hc => ?_) (fun hc => ?_)) | (apply G.isCond; refine G.cond rfl (fun hc => ?_) (fun hc => ?_)) | (apply GD.isAny; refine GD.guard rfl rfl (fun hc => ?_) (fun hc => ?_))) <;> ((try simp only [decide_eq_true_eq, decide_eq_false_iff_not, Bool.not_true, Bool.not_false, ne_eq, Classical.not_not, Int.not_lt, Int.not_le] at hc); (try (exfalso; first | omega | exact hc trivial | exact hc rfl)))))
  all_goals
    refine GE.resOne rfl (by (repeat (first | apply Res.nil | (apply Res.tmp; rfl) | (refine Res.cellA rfl rfl rfl ?_) | (refine Res.cell1 rfl rfl ?_)))) (fun w h => ?_)
    exact ⟨by congr 2; (first | rfl | (rw [decide_eq_decide]; omega) | (symm; rw [decide_eq_false_iff_not]; omega) | (symm; rw [decide_eq_true_eq]; omega)), h.sub⟩
theorem live_is_nil (w : World) (F : List HProp) (hw : holds w F) :
    Ct Tryz.prog 87 #[.pointer none] w fun e w' => e = .returned (.bool false) ∧ holds w' F := by
  refine Ct.go (args := [.pointer none]) Tryz.func87 rfl rfl rfl hw ?_
  repeat' (first | (apply GL.isAny; first | refine GL.runA rfl ?_ | (apply GL.isStore; first | refine GL.storeBlk rfl rfl rfl rfl rfl ?_ | refine GL.storeWhole rfl rfl rfl rfl rfl ?_ | refine GL.storeBlkA rfl rfl rfl rfl rfl ?_) | refine GL.guardY rfl rfl ?_ | refine GL.guardN rfl rfl rfl ?_ | refine GL.guardU rfl rfl rfl ?_ | (apply GL.isBox; first | refine GL.boxA rfl rfl (fun _ => ?_) | refine GL.box1 rfl rfl rfl (fun _ => ?_) | refine GL.box rfl rfl (fun _ => ?_)) | (apply GL.isBuildS; first | refine GL.buildSlice1A rfl rfl rfl rfl rfl (fun _ => ?_) | refine GL.buildSlice1 rfl rfl rfl rfl rfl (fun _ => ?_)) | (apply GL.isCall; refine GL.append1 _ rfl rfl rfl rfl (by rfl) (by omega) (by omega) rfl (fun _ => ?_)) | (apply GL.isAlloc; refine GL.alloc rfl (fun _ => ?_))) | apply GL.nil | first | apply G.seq | apply G.region | apply G.block | apply G.skip | apply G.exit | apply G.ret | (apply G.isCond; first | refine G.condT rfl ?_ | refine G.condF rfl ?_) | refine G.draw (by kernel_rfl) (by kernel_rfl) ?_ | (apply GE.isAny; first | apply GE.again | apply GE.thenG | apply GE.blockN | apply GE.blockE | apply GE.thenE | apply GE.thenR | apply GE.blockR | refine GE.blockO rfl ?_ | apply GE.only) | (apply GD.isAny; first | refine GD.runA rfl ?_ | refine GD.guardY rfl rfl ?_ | refine GD.guardN rfl rfl rfl ?_ | refine GD.guardU rfl rfl rfl ?_) | apply GD.nilE | apply GD.nilL | (apply GT.isAny; refine GT.runA rfl rfl ?_) | ((first | (apply GL.isAny; refine GL.guard rfl rfl (fun hc => ?_) (fun hc => ?_)) | (apply G.isCond; refine G.cond rfl (fun hc => ?_) (fun hc => ?_)) | (apply GD.isAny; refine GD.guard rfl rfl (fun hc => ?_) (fun hc => ?_))) <;> ((try simp only [decide_eq_true_eq, decide_eq_false_iff_not, Bool.not_true, Bool.not_false, ne_eq, Classical.not_not, Int.not_lt, Int.not_le] at hc); (try (exfalso; first | omega | exact hc trivial | exact hc rfl)))))
  all_goals
    refine GE.resOne rfl (by (repeat (first | apply Res.nil | (apply Res.tmp; rfl) | (refine Res.cellA rfl rfl rfl ?_) | (refine Res.cell1 rfl rfl ?_)))) (fun w h => ?_)
    exact ⟨rfl, h.sub⟩
theorem live_is (p : Nat) (mb : Option Nat) (w : World) (F : List HProp) [SeesBlk F p #[.map mb]] (hw : holds w F) :
    Ct Tryz.prog 87 #[.pointer (some ⟨p, 0, none⟩)] w fun e w' => e = .returned (.bool mb.isSome) ∧ holds w' F := by
  refine Ct.go (args := [.pointer (some ⟨p, 0, none⟩)]) Tryz.func87 rfl rfl rfl hw ?_
  repeat' (first | (apply GL.isAny; first | refine GL.runA rfl ?_ | (apply GL.isStore; first | refine GL.storeBlk rfl rfl rfl rfl rfl ?_ | refine GL.storeWhole rfl rfl rfl rfl rfl ?_ | refine GL.storeBlkA rfl rfl rfl rfl rfl ?_) | refine GL.guardY rfl rfl ?_ | refine GL.guardN rfl rfl rfl ?_ | refine GL.guardU rfl rfl rfl ?_ | (apply GL.isBox; first | refine GL.boxA rfl rfl (fun _ => ?_) | refine GL.box1 rfl rfl rfl (fun _ => ?_) | refine GL.box rfl rfl (fun _ => ?_)) | (apply GL.isBuildS; first | refine GL.buildSlice1A rfl rfl rfl rfl rfl (fun _ => ?_) | refine GL.buildSlice1 rfl rfl rfl rfl rfl (fun _ => ?_)) | (apply GL.isCall; refine GL.append1 _ rfl rfl rfl rfl (by rfl) (by omega) (by omega) rfl (fun _ => ?_)) | (apply GL.isAlloc; refine GL.alloc rfl (fun _ => ?_))) | apply GL.nil | first | apply G.seq | apply G.region | apply G.block | apply G.skip | apply G.exit | apply G.ret | (apply G.isCond; first | refine G.condT rfl ?_ | refine G.condF rfl ?_) | refine G.draw (by kernel_rfl) (by kernel_rfl) ?_ | (apply GE.isAny; first | apply GE.again | apply GE.thenG | apply GE.blockN | apply GE.blockE | apply GE.thenE | apply GE.thenR | apply GE.blockR | refine GE.blockO rfl ?_ | apply GE.only) | (apply GD.isAny; first | refine GD.runA rfl ?_ | refine GD.guardY rfl rfl ?_ | refine GD.guardN rfl rfl rfl ?_ | refine GD.guardU rfl rfl rfl ?_) | apply GD.nilE | apply GD.nilL | (apply GT.isAny; refine GT.runA rfl rfl ?_) | ((first | (apply GL.isAny; refine GL.guard rfl rfl (fun hc => ?_) (fun hc => ?_)) | (apply G.isCond; refine G.cond rfl (fun hc => ?_) (fun hc => ?_)) | (apply GD.isAny; refine GD.guard rfl rfl (fun hc => ?_) (fun hc => ?_))) <;> ((try simp only [decide_eq_true_eq, decide_eq_false_iff_not, Bool.not_true, Bool.not_false, ne_eq, Classical.not_not, Int.not_lt, Int.not_le] at hc); (try (exfalso; first | omega | exact hc trivial | exact hc rfl)))))
  all_goals
    refine GE.resOne rfl (by (repeat (first | apply Res.nil | (apply Res.tmp; rfl) | (refine Res.cellA rfl rfl rfl ?_) | (refine Res.cell1 rfl rfl ?_)))) (fun w h => ?_)
    exact ⟨by cases mb <;> rfl, h.sub⟩
theorem live_New (w : World) (F : List HProp) (hw : holds w F) :
    Ct Tryz.prog 26 #[] w fun e w' => ∃ p : Nat, e = .returned (.pointer (some ⟨p, 0, none⟩)) ∧ holds w' (livP p [] :: F) := by
  refine Ct.go (args := []) Tryz.func26 rfl rfl rfl hw ?_
  repeat' (first | first | (apply GL.isAny; first | refine GL.runA rfl ?_ | (apply GL.isStore; first | refine GL.storeBlk rfl rfl rfl rfl rfl ?_ | refine GL.storeWhole rfl rfl rfl rfl rfl ?_ | refine GL.storeBlkA rfl rfl rfl rfl rfl ?_) | refine GL.guardY rfl rfl ?_ | refine GL.guardN rfl rfl rfl ?_ | refine GL.guardU rfl rfl rfl ?_ | (apply GL.isBox; first | refine GL.boxA rfl rfl (fun _ => ?_) | refine GL.box1 rfl rfl rfl (fun _ => ?_) | refine GL.box rfl rfl (fun _ => ?_)) | (apply GL.isBuildS; first | refine GL.buildSlice1A rfl rfl rfl rfl rfl (fun _ => ?_) | refine GL.buildSlice1 rfl rfl rfl rfl rfl (fun _ => ?_)) | (apply GL.isCall; refine GL.append1 _ rfl rfl rfl rfl (by rfl) (by omega) (by omega) rfl (fun _ => ?_)) | (apply GL.isAlloc; refine GL.alloc rfl (fun _ => ?_))) | apply GL.nil | first | apply G.seq | apply G.region | apply G.block | apply G.skip | apply G.exit | apply G.ret | (apply G.isCond; first | refine G.condT rfl ?_ | refine G.condF rfl ?_) | refine G.draw (by kernel_rfl) (by kernel_rfl) ?_ | (apply GE.isAny; first | apply GE.again | apply GE.thenG | apply GE.blockN | apply GE.blockE | apply GE.thenE | apply GE.thenR | apply GE.blockR | refine GE.blockO rfl ?_ | apply GE.only) | (apply GD.isAny; first | refine GD.runA rfl ?_ | refine GD.guardY rfl rfl ?_ | refine GD.guardN rfl rfl rfl ?_ | refine GD.guardU rfl rfl rfl ?_) | apply GD.nilE | apply GD.nilL | (apply GT.isAny; refine GT.runA rfl rfl ?_) | ((first | (apply GL.isAny; refine GL.guard rfl rfl (fun hc => ?_) (fun hc => ?_)) | (apply G.isCond; refine G.cond rfl (fun hc => ?_) (fun hc => ?_)) | (apply GD.isAny; refine GD.guard rfl rfl (fun hc => ?_) (fun hc => ?_))) <;> ((try simp only [decide_eq_true_eq, decide_eq_false_iff_not, Bool.not_true, Bool.not_false, ne_eq, Classical.not_not, Int.not_lt, Int.not_le] at hc); (try (exfalso; first | omega | exact hc trivial | exact hc rfl)))) | ((refine GL.makeMap encC rfl (fun mb => ?_))))
  refine GE.resOne rfl (by (repeat (first | apply Res.nil | (apply Res.tmp; rfl) | (refine Res.cellA rfl rfl rfl ?_) | (refine Res.cell1 rfl rfl ?_)))) (fun w h => ?_)
  have h2 : holds w (blk _ (.cells #[.map (some _)] 154 (0, 0)) :: imap encC _ [] :: F) := h
  have h3 : holds w (sep (([] : LvM).map chH) :: blk _ (.cells #[.map (some _)] 154 (0, 0)) :: imap encC _ [] :: F) := holds_sep.2 h2
  exact ⟨_, rfl, liv_close (mb := mb) h3.sub⟩
theorem live_laid (cb : Nat) (v : Value) (rb : Nat) (g : Int) (m : List (Int × Int)) (i : Int) (s : SpanM) (w : World) (F F' : List HProp) [SeesBlk F cb #[v, .int .i64 g, .map (some rb)]] [HasMap F rb encI m F'] (hw : holds w F) :
    Ct Tryz.prog 161 #[.pointer (some ⟨cb, 0, none⟩), .int .i64 i, .agg (encSp s).toArray] w fun e w' => e = .returned (.agg (encLaid ⟨i, g, (alGet m s.pos).getD 0, s.pos, s.len⟩).toArray) ∧ holds w' F := by
  refine Ct.go (args := [.pointer (some ⟨cb, 0, none⟩), .int .i64 i, .agg (encSp s).toArray]) Tryz.func161 rfl rfl rfl hw ?_
  repeat' (first | (first | (refine G.isRegion 1 ?_; refine G.drawTail 17 (by kernel_rfl) (by simp only [List.take_succ_cons, List.take_zero]; rfl) (by simp only [List.drop_succ_cons, List.drop_zero]; rfl) (by kernel_rfl) ?_) | first | (apply GL.isAny; refine GL.run (by (apply Runs.isLookup; first | exact Runs.lookupI rfl rfl | exact Runs.lookupS rfl rfl (by assumption) | exact Runs.lookupN rfl rfl (by assumption))) rfl ?_) | (apply GD.isAny; refine GD.run (by (apply Runs.isLookup; first | exact Runs.lookupI rfl rfl | exact Runs.lookupS rfl rfl (by assumption) | exact Runs.lookupN rfl rfl (by assumption))) rfl ?_)) | first | (apply GL.isAny; first | refine GL.runA rfl ?_ | (apply GL.isStore; first | refine GL.storeBlk rfl rfl rfl rfl rfl ?_ | refine GL.storeWhole rfl rfl rfl rfl rfl ?_ | refine GL.storeBlkA rfl rfl rfl rfl rfl ?_) | refine GL.guardY rfl rfl ?_ | refine GL.guardN rfl rfl rfl ?_ | refine GL.guardU rfl rfl rfl ?_ | (apply GL.isBox; first | refine GL.boxA rfl rfl (fun _ => ?_) | refine GL.box1 rfl rfl rfl (fun _ => ?_) | refine GL.box rfl rfl (fun _ => ?_)) | (apply GL.isBuildS; first | refine GL.buildSlice1A rfl rfl rfl rfl rfl (fun _ => ?_) | refine GL.buildSlice1 rfl rfl rfl rfl rfl (fun _ => ?_)) | (apply GL.isCall; refine GL.append1 _ rfl rfl rfl rfl (by rfl) (by omega) (by omega) rfl (fun _ => ?_)) | (apply GL.isAlloc; refine GL.alloc rfl (fun _ => ?_))) | apply GL.nil | first | apply G.seq | apply G.region | apply G.block | apply G.skip | apply G.exit | apply G.ret | (apply G.isCond; first | refine G.condT rfl ?_ | refine G.condF rfl ?_) | refine G.draw (by kernel_rfl) (by kernel_rfl) ?_ | (apply GE.isAny; first | apply GE.again | apply GE.thenG | apply GE.blockN | apply GE.blockE | apply GE.thenE | apply GE.thenR | apply GE.blockR | refine GE.blockO rfl ?_ | apply GE.only) | (apply GD.isAny; first | refine GD.runA rfl ?_ | refine GD.guardY rfl rfl ?_ | refine GD.guardN rfl rfl rfl ?_ | refine GD.guardU rfl rfl rfl ?_) | apply GD.nilE | apply GD.nilL | (apply GT.isAny; refine GT.runA rfl rfl ?_) | ((first | (apply GL.isAny; refine GL.guard rfl rfl (fun hc => ?_) (fun hc => ?_)) | (apply G.isCond; refine G.cond rfl (fun hc => ?_) (fun hc => ?_)) | (apply GD.isAny; refine GD.guard rfl rfl (fun hc => ?_) (fun hc => ?_))) <;> ((try simp only [decide_eq_true_eq, decide_eq_false_iff_not, Bool.not_true, Bool.not_false, ne_eq, Classical.not_not, Int.not_lt, Int.not_le] at hc); (try (exfalso; first | omega | exact hc trivial | exact hc rfl)))))
  refine GE.resOne rfl (by (repeat (first | apply Res.nil | (apply Res.tmp; rfl) | (refine Res.cellA rfl rfl rfl ?_) | (refine Res.cell1 rfl rfl ?_)))) (fun w h => ?_)
  exact ⟨rfl, h.sub⟩
end Go.Proofs.YtipkgamiejenaaaGreat

/- Contracts of package live: In, Find, Drop. -/
namespace Go.Proofs.YtipkgamiejenaaaGreat
open Go Go.RowKit Go.MapKept
set_option linter.unusedVariables false
set_option linter.unusedSimpArgs false
set_option maxRecDepth 100000
set_option maxHeartbeats 4000000

instance (priority := 400) SeesBlk.appendL {F F2 : List HProp} {b : Nat} {c : Array Value} [h : SeesBlk F b c] : SeesBlk (F ++ F2) b c := ⟨fun w hw => h.at_ w (by obtain ⟨f, hf, hs⟩ := hw; obtain ⟨f1, f2, h1, h2, j⟩ := (sep_append F F2 f).1 hs; exact ⟨f, hf, sep_sub F f1 f j h1⟩)⟩
instance (priority := 400) HasMap.appendL {β : Type} {b : Nat} {enc : β → Value} {m : List (Int × β)} {F F' F2 : List HProp} [h : HasMap F b enc m F'] : HasMap (F ++ F2) b enc m (F' ++ F2) := ⟨h.perm.append_right F2⟩
namespace Lv
def laid (i : Int) (c : ChM) (s : SpanM) : LaidM := ⟨i, c.gen, (alGet c.reg s.pos).getD 0, s.pos, s.len⟩
def inM (M : LvM) (i : Int) : List LaidM := match alGet M i with
  | none => []
  | some q => q.2.sp.map (laid i q.2)
structure Ok (M : LvM) : Prop where
  right : ∀ i q, alGet M i = some q → SpR q.2.sp
end Lv
end Go.Proofs.YtipkgamiejenaaaGreat

/- Contracts of the reference of chapter 41. -/
namespace Go.Proofs.YtipkgamiejenaaaGreat
open Go Go.RowKit Go.MapKept
set_option linter.unusedVariables false
set_option linter.unusedSimpArgs false
set_option maxRecDepth 100000
set_option maxHeartbeats 4000000

namespace Live
def lin (l : List LaidM) (c : Int) : List LaidM := l.filter (fun x => decide (x.chunk = c))
def lout (l : List LaidM) (c : Int) : List LaidM := l.filter (fun x => !decide (x.chunk = c))
abbrev Is (c g o : Int) (x : LaidM) : Prop := x.chunk = c ∧ x.gen = g ∧ x.pos = o
def bytes (l : List LaidM) : Int := (l.map (·.len)).sum
def find (l : List LaidM) (x : Int) : LaidM × Int :=
  if ¬ ((Hdl.get x).ok = true) ∨ ¬ ((Hdl.get x).kind = 3) then (⟨0, 0, 0, 0, 0⟩, 20) else
    match l.find? (fun y => decide (Is (Hdl.get x).place (Hdl.get x).gen (Hdl.get x).off y)) with
    | some y => (y, 0)
    | none => (⟨0, 0, 0, 0, 0⟩, 4)
abbrev Has (c x : Int) (y : LaidM) : Prop := y.chunk = c ∧ y.pos ≤ x ∧ x - y.pos < y.len
def atOf (l : List LaidM) (c x : Int) : Int × Int :=
  match l.find? (fun y => decide (Has c x y)) with
  | some y => Hdl.put 3 y.chunk y.gen y.pos
  | none => (0, 20)
def spansOf (l : List LaidM) : List SpanM := l.map fun y => ⟨y.pos, y.len⟩
theorem hit {P : LaidM → Prop} [DecidablePred P] {l : List LaidM} (k : Nat) (h : k < l.length) (hp : P l[k]) (hn : ∀ (j : Nat) (h : j < l.length), j < k → ¬ P l[j]) : l.find? (fun y => decide (P y)) = some l[k] := by
  rw [List.find?_eq_some_iff_getElem]
  exact ⟨by simp [hp], k, h, rfl, fun j hj => by simp [hn j (by omega) hj]⟩
theorem nohit {P : LaidM → Prop} [DecidablePred P] {l : List LaidM} (hn : ∀ (j : Nat) (h : j < l.length), j < l.length → ¬ P l[j]) : l.find? (fun y => decide (P y)) = none := by
  rw [List.find?_eq_none]
  intro y hy
  obtain ⟨j, hj, rfl⟩ := List.getElem_of_mem hy
  simp [hn j hj hj]
end Live
end Go.Proofs.YtipkgamiejenaaaGreat

/- Contracts of package live: At, Find, Holes. (Under way.) -/
namespace Go.Proofs.YtipkgamiejenaaaGreat
open Go Go.RowKit Go.MapKept
set_option linter.unusedVariables false
set_option linter.unusedSimpArgs false
set_option maxRecDepth 100000
set_option maxHeartbeats 4000000

theorem Spn.firstHas {l : List SpanM} {x : Int} : ∀ n : Nat, (∃ (m : Nat) (h : m < l.length), m < n ∧ Spn.Has x l[m]) → ∃ (m : Nat) (h : m < l.length), Spn.Has x l[m] ∧ ∀ (j : Nat) (h : j < l.length), j < m → ¬ Spn.Has x l[j]
  | 0, ⟨m, h, hm, _⟩ => absurd hm (Nat.not_lt_zero m)
  | n + 1, ⟨m, h, hm, hh⟩ => by
    by_cases e : ∃ (m : Nat) (h : m < l.length), m < n ∧ Spn.Has x l[m]
    · exact Spn.firstHas n e
    · refine ⟨m, h, hh, fun j hj hjm hc => e ⟨j, hj, by omega, hc⟩⟩
theorem Spn.IsFind.or {l : List SpanM} {x r : Int} (h : Spn.IsFind l x r) : (r = -1 ∧ ∀ (m : Nat) (h : m < l.length), ¬ Spn.Has x l[m]) ∨ ∃ (m : Nat) (h : m < l.length), r = m ∧ Spn.Has x l[m] ∧ ∀ (j : Nat) (h : j < l.length), j < m → ¬ Spn.Has x l[j] := by
  by_cases e : ∃ (m : Nat) (h : m < l.length), Spn.Has x l[m]
  · obtain ⟨m, hm, hh⟩ := e
    obtain ⟨m, hm, hh, hn⟩ := Spn.firstHas (l := l) (x := x) (m + 1) ⟨m, hm, Nat.lt_succ_self m, hh⟩
    exact .inr ⟨m, hm, h.yes m hm hh hn, hh, hn⟩
  · have hn : ∀ (m : Nat) (h : m < l.length), ¬ Spn.Has x l[m] := fun m hm hh => e ⟨m, hm, hh⟩
    exact .inl ⟨h.no hn, hn⟩
theorem Spn.hit {α : Type} {P : α → Prop} [DecidablePred P] {l : List α} (k : Nat) (h : k < l.length) (hp : P l[k]) (hn : ∀ (j : Nat) (h : j < l.length), j < k → ¬ P l[j]) : l.find? (fun y => decide (P y)) = some l[k] := by
  rw [List.find?_eq_some_iff_getElem]
  exact ⟨by simp [hp], k, h, rfl, fun j hj => by simp [hn j (by omega) hj]⟩
theorem Spn.nohit {α : Type} {P : α → Prop} [DecidablePred P] {l : List α} (hn : ∀ (j : Nat) (h : j < l.length), ¬ P l[j]) : l.find? (fun y => decide (P y)) = none := by
  rw [List.find?_eq_none]
  intro y hy
  obtain ⟨j, hj, rfl⟩ := List.getElem_of_mem hy
  simp [hn j hj]
namespace Lv
def find (M : LvM) (h : Int) : LaidM × Int :=
  if ¬ ((Hdl.get h).ok = true) ∨ ¬ ((Hdl.get h).kind = 3) then (⟨0, 0, 0, 0, 0⟩, 20) else
  match alGet M (Hdl.get h).place with
  | none => (⟨0, 0, 0, 0, 0⟩, 4)
  | some q => if ¬ q.2.gen = (Hdl.get h).gen then (⟨0, 0, 0, 0, 0⟩, 4) else
    match q.2.sp.find? (fun s => decide (s.pos = (Hdl.get h).off)) with
    | none => (⟨0, 0, 0, 0, 0⟩, 4)
    | some s => (laid (Hdl.get h).place q.2 s, 0)
def holes (M : LvM) (i e : Int) : List SpanM := match alGet M i with
  | none => Spn.holes e []
  | some q => Spn.holes e q.2.sp
def atOf (M : LvM) (i x : Int) : Int × Int := match alGet M i with
  | none => (0, 20)
  | some q => match q.2.sp.find? (fun s => decide (Spn.Has x s)) with
    | none => (0, 20)
    | some s => Hdl.put 3 i q.2.gen s.pos
end Lv
theorem live_Find (p : Nat) (M : LvM) (hM : Lv.Ok M) (x : Int) (hx : x < 9223372036854775808) (w : World) (F : List HProp) (hw : holds w (livP p M :: F)) :
    Ct Tryz.prog 92 #[.pointer (some ⟨p, 0, none⟩), .int .i64 x] w fun e w' => e = .returned (.tuple #[.agg (encLaid (Lv.find M x).1).toArray, .int .i64 (Lv.find M x).2]) ∧ holds w' (livP p M :: F) := by
  have fno : ¬ ((Hdl.get x).ok = true) ∨ ¬ ((Hdl.get x).kind = 3) → Lv.find M x = (⟨0, 0, 0, 0, 0⟩, 20) := fun h => by
    unfold Lv.find
    rw [if_pos h]
  have ho : (Hdl.get x).off ≤ 1048575 := by
    unfold Hdl.get; split
    · dsimp only; omega
    · dsimp only; omega
  refine Ct.go (args := [.pointer (some ⟨p, 0, none⟩), .int .i64 x]) Tryz.func92 rfl rfl rfl hw ?_
  refine G.case (fun mb => ?_) (fun w h => liv_open h)
  cases hq : alGet M (Hdl.get x).place with
  | none =>
    repeat' (first | (first | first | (apply GL.isCall; refine GL.call1 rfl rfl (fun w h => live_is p (some mb) w _ h) ?_) | (apply GD.isAny; refine GD.call rfl rfl (fun w F' h => live_is p (some mb) w _ h) ?_) | first | (apply GL.isAny; refine GL.run (by (apply Runs.isLookup; first | exact Runs.lookupI rfl rfl | exact Runs.lookupS rfl rfl (by assumption) | exact Runs.lookupN rfl rfl (by assumption))) rfl ?_) | (apply GD.isAny; refine GD.run (by (apply Runs.isLookup; first | exact Runs.lookupI rfl rfl | exact Runs.lookupS rfl rfl (by assumption) | exact Runs.lookupN rfl rfl (by assumption))) rfl ?_) | first | (apply GL.isCall; refine GL.call1 rfl rfl (fun w h => handle_Get x hx w _ h) ?_) | (apply GD.isAny; refine GD.call rfl rfl (fun w F' h => handle_Get x hx w _ h) ?_)) | first | (apply GL.isAny; first | refine GL.runA rfl ?_ | (apply GL.isStore; first | refine GL.storeBlk rfl rfl rfl rfl rfl ?_ | refine GL.storeWhole rfl rfl rfl rfl rfl ?_ | refine GL.storeBlkA rfl rfl rfl rfl rfl ?_) | refine GL.guardY rfl rfl ?_ | refine GL.guardN rfl rfl rfl ?_ | refine GL.guardU rfl rfl rfl ?_ | (apply GL.isBox; first | refine GL.boxA rfl rfl (fun _ => ?_) | refine GL.box1 rfl rfl rfl (fun _ => ?_) | refine GL.box rfl rfl (fun _ => ?_)) | (apply GL.isBuildS; first | refine GL.buildSlice1A rfl rfl rfl rfl rfl (fun _ => ?_) | refine GL.buildSlice1 rfl rfl rfl rfl rfl (fun _ => ?_)) | (apply GL.isCall; refine GL.append1 _ rfl rfl rfl rfl (by rfl) (by omega) (by omega) rfl (fun _ => ?_)) | (apply GL.isAlloc; refine GL.alloc rfl (fun _ => ?_))) | apply GL.nil | first | apply G.seq | apply G.region | apply G.block | apply G.skip | apply G.exit | apply G.ret | (apply G.isCond; first | refine G.condT rfl ?_ | refine G.condF rfl ?_) | refine G.draw (by kernel_rfl) (by kernel_rfl) ?_ | (apply GE.isAny; first | apply GE.again | apply GE.thenG | apply GE.blockN | apply GE.blockE | apply GE.thenE | apply GE.thenR | apply GE.blockR | refine GE.blockO rfl ?_ | apply GE.only) | (apply GD.isAny; first | refine GD.runA rfl ?_ | refine GD.guardY rfl rfl ?_ | refine GD.guardN rfl rfl rfl ?_ | refine GD.guardU rfl rfl rfl ?_) | apply GD.nilE | apply GD.nilL | (apply GT.isAny; refine GT.runA rfl rfl ?_) | ((first | (apply GL.isAny; refine GL.guard rfl rfl (fun hc => ?_) (fun hc => ?_)) | (apply G.isCond; refine G.cond rfl (fun hc => ?_) (fun hc => ?_)) | (apply GD.isAny; refine GD.guard rfl rfl (fun hc => ?_) (fun hc => ?_))) <;> ((try simp only [decide_eq_true_eq, decide_eq_false_iff_not, Bool.not_true, Bool.not_false, ne_eq, Classical.not_not, Int.not_lt, Int.not_le] at hc); (try (exfalso; first | omega | exact hc trivial | exact hc rfl)))))
    all_goals
      refine GE.resMany rfl (by (repeat (first | apply Res.nil | (apply Res.tmp; rfl) | (refine Res.cellA rfl rfl rfl ?_) | (refine Res.cell1 rfl rfl ?_)))) (fun w h => ?_)
      have h3 := liv_close (mb := mb) (p := p) (M := M) (F := F) h.sub
      refine ⟨?_, h3⟩
      first
        | rw [fno (.inl (by simpa using hc))]
        | rw [fno (.inr hc)]
        | (unfold Lv.find; rw [if_neg (by simp_all), hq])
      rfl
  | some q =>
    obtain ⟨cb, c⟩ := q
    have hR := hM.right _ _ hq
    have hfew := hR.few
    simp only at hR hfew
    have fyes : (Hdl.get x).ok = true → (Hdl.get x).kind = 3 → c.gen = (Hdl.get x).gen → Lv.find M x = match c.sp.find? (fun s => decide (s.pos = (Hdl.get x).off)) with
        | none => (⟨0, 0, 0, 0, 0⟩, 4)
        | some s => (Lv.laid (Hdl.get x).place c s, 0) := fun h1 h2 h3 => by
      unfold Lv.find
      rw [if_neg (by simp [h1, h2]), hq]
      simp [h3]
    have hatoff : ∀ (m : Nat) (h : m < c.sp.length), c.sp[m].pos = (Hdl.get x).off → Spn.Has (Hdl.get x).off c.sp[m] := fun m h e => by
      have := (hR.ok m h).l0
      unfold Spn.Has; omega
    refine G.case (F' := fun y : Value × Nat => blk cb (.cells #[y.1, .int .i64 c.gen, .map (some y.2)] 161 (0, 0)) :: owns 165 encSp 2 y.1 c.sp :: imap encI y.2 c.reg :: sep ((alDel M (Hdl.get x).place).map chH) :: blk p (.cells #[.map (some mb)] 154 (0, 0)) :: imap encC mb M :: F) (fun ⟨v, rb⟩ => ?_) (fun w h => chunk_open hq h.sub)
    dsimp only
    repeat' (first | (first | first | (apply GL.isCall; refine GL.call1 rfl rfl (fun w h => live_is p (some mb) w _ h) ?_) | (apply GD.isAny; refine GD.call rfl rfl (fun w F' h => live_is p (some mb) w _ h) ?_) | first | (apply GL.isAny; refine GL.run (by (apply Runs.isLookup; first | exact Runs.lookupI rfl rfl | exact Runs.lookupS rfl rfl (by assumption) | exact Runs.lookupN rfl rfl (by assumption))) rfl ?_) | (apply GD.isAny; refine GD.run (by (apply Runs.isLookup; first | exact Runs.lookupI rfl rfl | exact Runs.lookupS rfl rfl (by assumption) | exact Runs.lookupN rfl rfl (by assumption))) rfl ?_) | first | (apply GL.isCall; refine GL.call1 rfl rfl (fun w h => handle_Get x hx w _ h) ?_) | (apply GD.isAny; refine GD.call rfl rfl (fun w F' h => handle_Get x hx w _ h) ?_) | (apply GL.isCall; refine GL.call rfl rfl (fun w h => spans_Find v c.sp hR _ (by omega) w _ h) (fun r => ?_); obtain ⟨r, hr⟩ := r; dsimp only; rcases hr.or with ⟨rfl, hn⟩ | ⟨m, hm, rfl, hh, hn⟩) | (apply GL.isCall; refine GL.call1 (vs := [.pointer (some ⟨cb, 0, none⟩), .int .i64 (Hdl.get x).place, .agg (encSp c.sp[m]).toArray]) rfl rfl (fun w h => live_laid cb v rb c.gen c.reg (Hdl.get x).place c.sp[m] w _ _ h) ?_)) | first | (apply GL.isAny; first | refine GL.runA rfl ?_ | (apply GL.isStore; first | refine GL.storeBlk rfl rfl rfl rfl rfl ?_ | refine GL.storeWhole rfl rfl rfl rfl rfl ?_ | refine GL.storeBlkA rfl rfl rfl rfl rfl ?_) | refine GL.guardY rfl rfl ?_ | refine GL.guardN rfl rfl rfl ?_ | refine GL.guardU rfl rfl rfl ?_ | (apply GL.isBox; first | refine GL.boxA rfl rfl (fun _ => ?_) | refine GL.box1 rfl rfl rfl (fun _ => ?_) | refine GL.box rfl rfl (fun _ => ?_)) | (apply GL.isBuildS; first | refine GL.buildSlice1A rfl rfl rfl rfl rfl (fun _ => ?_) | refine GL.buildSlice1 rfl rfl rfl rfl rfl (fun _ => ?_)) | (apply GL.isCall; refine GL.append1 _ rfl rfl rfl rfl (by rfl) (by omega) (by omega) rfl (fun _ => ?_)) | (apply GL.isAlloc; refine GL.alloc rfl (fun _ => ?_))) | apply GL.nil | first | apply G.seq | apply G.region | apply G.block | apply G.skip | apply G.exit | apply G.ret | (apply G.isCond; first | refine G.condT rfl ?_ | refine G.condF rfl ?_) | refine G.draw (by kernel_rfl) (by kernel_rfl) ?_ | (apply GE.isAny; first | apply GE.again | apply GE.thenG | apply GE.blockN | apply GE.blockE | apply GE.thenE | apply GE.thenR | apply GE.blockR | refine GE.blockO rfl ?_ | apply GE.only) | (apply GD.isAny; first | refine GD.runA rfl ?_ | refine GD.guardY rfl rfl ?_ | refine GD.guardN rfl rfl rfl ?_ | refine GD.guardU rfl rfl rfl ?_) | apply GD.nilE | apply GD.nilL | (apply GT.isAny; refine GT.runA rfl rfl ?_) | ((first | (apply GL.isAny; refine GL.guard rfl rfl (fun hc => ?_) (fun hc => ?_)) | (apply G.isCond; refine G.cond rfl (fun hc => ?_) (fun hc => ?_)) | (apply GD.isAny; refine GD.guard rfl rfl (fun hc => ?_) (fun hc => ?_))) <;> ((try simp only [decide_eq_true_eq, decide_eq_false_iff_not, Bool.not_true, Bool.not_false, ne_eq, Classical.not_not, Int.not_lt, Int.not_le] at hc); (try (exfalso; first | omega | exact hc trivial | exact hc rfl)))))
    all_goals
      refine GE.resMany rfl (by (repeat (first | apply Res.nil | (apply Res.tmp; rfl) | (refine Res.cellA rfl rfl rfl ?_) | (refine Res.cell1 rfl rfl ?_)))) (fun w h => ?_)
      have h3 := liv_close (mb := mb) (p := p) (M := M) (F := F) (chunk_close hq (y := (v, rb)) (F := blk p (.cells #[.map (some mb)] 154 (0, 0)) :: imap encC mb M :: F) h.sub).sub
      refine ⟨?_, h3⟩
    · rw [fno (.inr hc)]; rfl
    · rename_i h2 h3
      unfold Lv.find; rw [if_neg (by simp_all), hq]; simp [hc]; rfl
    · rename_i q1 q2 q3
      rw [fyes (by simp_all) (by assumption) (by assumption), Spn.nohit (P := fun s : SpanM => s.pos = (Hdl.get x).off) (fun j hj e => hn j hj (hatoff j hj e))]
      rfl
    · rw [fyes (by simp_all) (by assumption) (by assumption), Spn.nohit (P := fun s : SpanM => s.pos = (Hdl.get x).off) (fun j hj e => ?_)]
      · rfl
      · by_cases h1 : j < m
        · exact hn j hj h1 (hatoff j hj e)
        · by_cases h2 : j = m
          · subst h2; exact hc e
          · have := hR.ord m j (by omega) hj
            have := (hR.ok m hm).l0
            unfold Spn.Has at hh
            omega
    · rw [fyes (by simp_all) (by assumption) (by assumption), Spn.hit (P := fun s : SpanM => s.pos = (Hdl.get x).off) m hm hc (fun j hj hjm e => hn j hj hjm (hatoff j hj e))]
      rfl
    · rw [fno (.inl (by simpa using hc))]; rfl
end Go.Proofs.YtipkgamiejenaaaGreat

/- Reference 10 (bytes as strings): out, New, Load, Wipe, Store; reference 03, 17: rows of whole numbers. -/
namespace Go.Proofs.YtipkgamiejenaaaGreat
open Go Go.RowKit Go.MapKept
set_option linter.unusedVariables false
set_option linter.unusedSimpArgs false
set_option maxRecDepth 100000
set_option maxHeartbeats 2000000
end Go.Proofs.YtipkgamiejenaaaGreat

/- Reference 10: New, Wipe, Store. -/
namespace Go.Proofs.YtipkgamiejenaaaGreat
open Go Go.RowKit Go.MapKept
set_option linter.unusedVariables false
set_option linter.unusedSimpArgs false
set_option maxRecDepth 100000
set_option maxHeartbeats 2000000
end Go.Proofs.YtipkgamiejenaaaGreat

/- Reference 19: how its state lies; with. -/
namespace Go.Proofs.YtipkgamiejenaaaGreat
open Go Go.RowKit Go.MapKept
set_option linter.unusedVariables false
set_option linter.unusedSimpArgs false
set_option maxRecDepth 100000
set_option maxHeartbeats 2000000
def encTx (s : List UInt8) : List Value := [.string (bs s)]
instance : Enc encTx 1 := ⟨fun _ => rfl, fun _ => by simp [encTx, Value.oneCell'], by omega⟩
structure RfM where
  ca : Option Addr
  cc : Nat
  xa : Option Addr
  xc : Nat
  wa : Option Addr
  wc : Nat
  sa : Option Addr
  sc : Nat
  e0 : Int
  e1 : Int
  e2 : Int
  e3 : Int
/-- A store of the reference. -/
def refS (v : Value) (t : St.S) : HProp := fun f => ∃ q : RfM, (v = .agg #[.int .i64 (t.size : Nat), .slice q.ca t.ch.length q.cc, .slice q.xa t.tx.length q.xc, .slice q.wa t.wi.length q.wc, .slice q.sa t.stack.length q.sc, .int .i64 q.e0, .int .i64 q.e1, .int .i64 q.e2, .int .i64 q.e3] ∧ t.ev = [q.e0, q.e1, q.e2, q.e3]) ∧ sep (owns 84 encCk 3 (.slice q.ca t.ch.length q.cc) t.ch :: owns 9 encTx 1 (.slice q.xa t.tx.length q.xc) t.tx :: owns 3 encI1 1 (.slice q.wa t.wi.length q.wc) t.wi :: owns 3 encI1 1 (.slice q.sa t.stack.length q.sc) t.stack :: []) f
theorem refS.open {w : World} {v : Value} {t : St.S} {F : List HProp} (h : holds w (refS v t :: F)) : ∃ q : RfM, (v = .agg #[.int .i64 (t.size : Nat), .slice q.ca t.ch.length q.cc, .slice q.xa t.tx.length q.xc, .slice q.wa t.wi.length q.wc, .slice q.sa t.stack.length q.sc, .int .i64 q.e0, .int .i64 q.e1, .int .i64 q.e2, .int .i64 q.e3] ∧ t.ev = [q.e0, q.e1, q.e2, q.e3]) ∧ holds w (owns 84 encCk 3 (.slice q.ca t.ch.length q.cc) t.ch :: owns 9 encTx 1 (.slice q.xa t.tx.length q.xc) t.tx :: owns 3 encI1 1 (.slice q.wa t.wi.length q.wc) t.wi :: owns 3 encI1 1 (.slice q.sa t.stack.length q.sc) t.stack :: F) := by
  obtain ⟨q, h⟩ := holds.open_ex h
  obtain ⟨e, h⟩ := holds.open_pure h
  exact ⟨q, e, holds_sep.1 h⟩
/-- What owns a row is a slice of it. -/
theorem owns_slice {α : Type} {T : TypeId} {enc : α → List Value} {m : Nat} [Enc enc m] {v : Value} {l : List α} {w : World} {F : List HProp} (h : holds w (owns T enc m v l :: F)) : ∃ a c, v = .slice a l.length c := by
  obtain ⟨a, c, e, _⟩ := (Reads.at_ (v := v) (enc := enc) (n := m) (l := l) w h).form
  exact ⟨a, c, e⟩
theorem refS.shut {w : World} {t : St.S} {cv xv wv sv : Value} {e0 e1 e2 e3 : Int} {F : List HProp} (he : t.ev = [e0, e1, e2, e3]) (h : holds w (owns 84 encCk 3 cv t.ch :: owns 9 encTx 1 xv t.tx :: owns 3 encI1 1 wv t.wi :: owns 3 encI1 1 sv t.stack :: F)) : holds w (refS (.agg #[.int .i64 (t.size : Nat), cv, xv, wv, sv, .int .i64 e0, .int .i64 e1, .int .i64 e2, .int .i64 e3]) t :: F) := by
  obtain ⟨ca, cc, rfl⟩ := owns_slice h
  obtain ⟨xa, xc, rfl⟩ := owns_slice h.tail
  obtain ⟨wa, wc, rfl⟩ := owns_slice h.tail.tail
  obtain ⟨sa, sc, rfl⟩ := owns_slice h.tail.tail.tail
  exact (holds_sep (l := [owns 84 encCk 3 (.slice ca t.ch.length cc) t.ch, owns 9 encTx 1 (.slice xa t.tx.length xc) t.tx, owns 3 encI1 1 (.slice wa t.wi.length wc) t.wi, owns 3 encI1 1 (.slice sa t.stack.length sc) t.stack]).2 h).mono fun f hf => ⟨⟨ca, cc, xa, xc, wa, wc, sa, sc, e0, e1, e2, e3⟩, ⟨rfl, he⟩, hf⟩
end Go.Proofs.YtipkgamiejenaaaGreat

/- References 03, 17 (a stack of whole numbers), 19: Is, Stale, Take. -/
namespace Go.Proofs.YtipkgamiejenaaaGreat
open Go Go.RowKit Go.MapKept
set_option linter.unusedVariables false
set_option linter.unusedSimpArgs false
set_option maxRecDepth 100000
set_option maxHeartbeats 2000000
end Go.Proofs.YtipkgamiejenaaaGreat

/- Reference 19: Is, Stale, Defer. -/
namespace Go.Proofs.YtipkgamiejenaaaGreat
open Go Go.RowKit Go.MapKept
set_option linter.unusedVariables false
set_option linter.unusedSectionVars false
set_option linter.unusedSimpArgs false
set_option maxRecDepth 100000
set_option maxHeartbeats 4000000
section
variable (v : Value) (t : St.S) (K : Nat) (hI : St.Inv t K) (hK : K ≤ 1000000)
include hI hK
end
end Go.Proofs.YtipkgamiejenaaaGreat

/- Reference 19: Begin, Load, Put. -/
namespace Go.Proofs.YtipkgamiejenaaaGreat
open Go Go.RowKit Go.MapKept
set_option linter.unusedVariables false
set_option linter.unusedSectionVars false
set_option linter.unusedSimpArgs false
set_option maxRecDepth 100000
set_option maxHeartbeats 4000000
section
variable (v : Value) (t : St.S) (K : Nat) (hI : St.Inv t K) (hK : K ≤ 1000000)
include hI hK
end
end Go.Proofs.YtipkgamiejenaaaGreat

/- Reference 19: Put, Step. -/
namespace Go.Proofs.YtipkgamiejenaaaGreat
open Go Go.RowKit Go.MapKept
set_option linter.unusedVariables false
set_option linter.unusedSectionVars false
set_option linter.unusedSimpArgs false
set_option maxRecDepth 100000
set_option maxHeartbeats 4000000
section
variable (v : Value) (t : St.S) (K : Nat) (hI : St.Inv t K) (hK : K ≤ 1000000)
include hI hK
end
end Go.Proofs.YtipkgamiejenaaaGreat
