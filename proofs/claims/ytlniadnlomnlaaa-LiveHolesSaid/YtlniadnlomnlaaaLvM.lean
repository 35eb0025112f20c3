/- The memory of package live: pieces as a map of chunks. -/
import Derived.Test.YtlniadnlomnlaaaLvSpD
import Derived.Test.YtlniadnlomnlaaaLvHdl
import Derived.Test.YtlniadnlomnlaaaGoEnt
namespace Go.Proofs.Ytlniadnlomnlaaa
open Go Go.RowKit Go.MapKept
set_option linter.unusedVariables false
set_option linter.unusedSimpArgs false
set_option maxRecDepth 100000
set_option maxHeartbeats 4000000

structure LaidM where
  chunk : Int
  gen : Int
  region : Int
  pos : Int
  len : Int
deriving DecidableEq
def encLaid (l : LaidM) : List Value := [.int .i64 l.chunk, .int .i64 l.gen, .int .i64 l.region, .int .i64 l.pos, .int .i64 l.len]
instance {l : LaidM} : IntsL (encLaid l) [l.chunk, l.gen, l.region, l.pos, l.len] := ⟨rfl⟩
instance : Enc encLaid 5 := ⟨fun _ => rfl, fun _ => by simp [encLaid, Value.oneCell'], by omega⟩
/-- A chunk. -/
structure ChM where
  gen : Int
  sp : List SpanM
  reg : List (Int × Int)
def encC (q : Nat × ChM) : Value := .pointer (some ⟨q.1, 0, none⟩)
def chH (q : Int × (Nat × ChM)) : HProp := fun f => ∃ x : Value × Nat, sep [blk q.2.1 (.cells #[x.1, .int .i64 q.2.2.gen, .map (some x.2)] 99 (0, 0)), owns 50 encSp 2 x.1 q.2.2.sp, imap encI x.2 q.2.2.reg] f
abbrev LvM := List (Int × (Nat × ChM))
def livP (p : Nat) (M : LvM) : HProp := fun f => ∃ mb : Nat, sep (blk p (.cells #[.map (some mb)] 53 (0, 0)) :: imap encC mb M :: M.map chH) f
theorem liv_open {w : World} {F : List HProp} {p : Nat} {M : LvM} (h : holds w (livP p M :: F)) : ∃ mb : Nat, holds w (blk p (.cells #[.map (some mb)] 53 (0, 0)) :: imap encC mb M :: sep (M.map chH) :: F) := by
  obtain ⟨mb, h1⟩ := h.open_ex
  refine ⟨mb, ?_⟩
  have h2 := holds_sep.1 h1
  have h3 : holds w (([blk p (.cells #[.map (some mb)] 53 (0, 0)), imap encC mb M] ++ M.map chH) ++ F) := h2
  rw [List.append_assoc] at h3
  have h4 : holds w (M.map chH ++ ([blk p (.cells #[.map (some mb)] 53 (0, 0)), imap encC mb M] ++ F)) := h3.perm (by
    rw [← List.append_assoc, ← List.append_assoc]
    exact List.perm_append_comm.append_right F)
  exact (show holds w (sep (M.map chH) :: blk p (.cells #[.map (some mb)] 53 (0, 0)) :: imap encC mb M :: F) from holds_sep.2 h4).sub
theorem liv_close {w : World} {F : List HProp} {p mb : Nat} {M : LvM} (h : holds w (blk p (.cells #[.map (some mb)] 53 (0, 0)) :: imap encC mb M :: sep (M.map chH) :: F)) : holds w (livP p M :: F) := by
  have h1 : holds w (sep (M.map chH) :: blk p (.cells #[.map (some mb)] 53 (0, 0)) :: imap encC mb M :: F) := h.sub
  have h2 : holds w (M.map chH ++ ([blk p (.cells #[.map (some mb)] 53 (0, 0)), imap encC mb M] ++ F)) := holds_sep.1 h1
  have h3 : holds w (([blk p (.cells #[.map (some mb)] 53 (0, 0)), imap encC mb M] ++ M.map chH) ++ F) := h2.perm (by
    rw [List.append_assoc]
    exact (List.perm_append_comm_assoc _ _ _))
  have h4 := holds_sep.2 h3
  exact h4.mono fun f hf => ⟨mb, hf⟩
theorem alFind_perm {β γ : Type} (g : Int × β → γ) (x : Int) (M : List (Int × β)) (j : Nat) (u : β) (h : alFind x M 0 = some (j, u)) : (M.map g).Perm (g (x, u) :: (alDel M x).map g) := by
  obtain ⟨g1, _, g3⟩ := alFind_spec x M j u h
  rw [g3]
  obtain ⟨hj, hv⟩ := List.getElem?_eq_some_iff.1 g1
  have : M = M.take j ++ (x, u) :: M.drop (j + 1) := by
    rw [← hv, List.getElem_cons_drop hj, List.take_append_drop]
  rw [List.eraseIdx_eq_take_drop_succ]
  conv => lhs; rw [this]
  simp only [List.map_append, List.map_cons]
  exact List.perm_middle
/-- One chunk out of the others. -/
theorem chunk_open {w : World} {F : List HProp} {M : LvM} {x : Int} {cb : Nat} {c : ChM} (hx : alGet M x = some (cb, c)) (h : holds w (sep (M.map chH) :: F)) :
    ∃ y : Value × Nat, holds w (blk cb (.cells #[y.1, .int .i64 c.gen, .map (some y.2)] 99 (0, 0)) :: owns 50 encSp 2 y.1 c.sp :: imap encI y.2 c.reg :: sep ((alDel M x).map chH) :: F) := by
  unfold alGet at hx
  simp only [Option.map_eq_some_iff] at hx
  obtain ⟨⟨j, u⟩, hf, rfl⟩ := hx
  have h1 := (holds_sep.1 h).perm ((alFind_perm chH x M j _ hf).append_right F)
  have h2 : holds w (chH (x, (cb, c)) :: ((alDel M x).map chH ++ F)) := h1
  obtain ⟨y, h3⟩ := h2.open_ex
  have h4 := holds_sep.1 h3
  refine ⟨y, ?_⟩
  have h5 : holds w ((alDel M x).map chH ++ ([blk cb (.cells #[y.1, .int .i64 c.gen, .map (some y.2)] 99 (0, 0)), owns 50 encSp 2 y.1 c.sp, imap encI y.2 c.reg] ++ F)) := h4.perm (List.perm_append_comm_assoc _ _ _)
  exact (show holds w (sep ((alDel M x).map chH) :: blk cb (.cells #[y.1, .int .i64 c.gen, .map (some y.2)] 99 (0, 0)) :: owns 50 encSp 2 y.1 c.sp :: imap encI y.2 c.reg :: F) from holds_sep.2 h5).sub
/-- .. and back. -/
theorem chunk_close {w : World} {F : List HProp} {M : LvM} {x : Int} {cb : Nat} {c : ChM} (hx : alGet M x = some (cb, c)) {y : Value × Nat} (h : holds w (blk cb (.cells #[y.1, .int .i64 c.gen, .map (some y.2)] 99 (0, 0)) :: owns 50 encSp 2 y.1 c.sp :: imap encI y.2 c.reg :: sep ((alDel M x).map chH) :: F)) : holds w (sep (M.map chH) :: F) := by
  unfold alGet at hx
  simp only [Option.map_eq_some_iff] at hx
  obtain ⟨⟨j, u⟩, hf, rfl⟩ := hx
  have h1 : holds w (sep ((alDel M x).map chH) :: blk cb (.cells #[y.1, .int .i64 c.gen, .map (some y.2)] 99 (0, 0)) :: owns 50 encSp 2 y.1 c.sp :: imap encI y.2 c.reg :: F) := h.sub
  have h2 : holds w ((alDel M x).map chH ++ ([blk cb (.cells #[y.1, .int .i64 c.gen, .map (some y.2)] 99 (0, 0)), owns 50 encSp 2 y.1 c.sp, imap encI y.2 c.reg] ++ F)) := holds_sep.1 h1
  have h3 : holds w ([blk cb (.cells #[y.1, .int .i64 c.gen, .map (some y.2)] 99 (0, 0)), owns 50 encSp 2 y.1 c.sp, imap encI y.2 c.reg] ++ ((alDel M x).map chH ++ F)) := h2.perm (List.perm_append_comm_assoc _ _ _)
  have h4 : holds w (chH (x, (cb, c)) :: ((alDel M x).map chH ++ F)) := (holds_sep.2 h3).mono (B := chH (x, (cb, c))) fun f hf => ⟨y, hf⟩
  have h5 : holds w ((chH (x, (cb, c)) :: (alDel M x).map chH) ++ F) := h4
  exact holds_sep.2 (h5.perm ((alFind_perm chH x M j _ hf).symm.append_right F))

theorem live_small (x : Int) (w : World) (F : List HProp) (hw : holds w F) :
    Ct Try.prog 47 #[.int .i64 x] w fun e w' => e = .returned (.bool (decide (0 ≤ x ∧ x ≤ 1048575))) ∧ holds w' F := by
  refine Ct.go (args := [.int .i64 x]) Try.func47 rfl rfl rfl hw ?_
  repeat' (first | (apply GL.isAny; first | refine GL.runA rfl ?_ | (apply GL.isStore; first | refine GL.storeBlk rfl rfl rfl rfl rfl ?_ | refine GL.storeWhole rfl rfl rfl rfl rfl ?_ | refine GL.storeBlkA rfl rfl rfl rfl rfl ?_) | refine GL.guardY rfl rfl ?_ | refine GL.guardN rfl rfl rfl ?_ | refine GL.guardU rfl rfl rfl ?_ | (refine GL.guard rfl rfl (fun hc => ?_) (fun hc => ?_) <;> ((try simp only [decide_eq_true_eq, decide_eq_false_iff_not, Bool.not_true, Bool.not_false, ne_eq, Classical.not_not, Int.not_lt, Int.not_le] at hc); (try (exfalso; first | omega | exact hc trivial | exact hc rfl)))) | (apply GL.isBox; first | refine GL.boxA rfl rfl (fun _ => ?_) | refine GL.box1 rfl rfl rfl (fun _ => ?_) | refine GL.box rfl rfl (fun _ => ?_)) | (apply GL.isBuildS; first | refine GL.buildSlice1A rfl rfl rfl rfl rfl (fun _ => ?_) | refine GL.buildSlice1 rfl rfl rfl rfl rfl (fun _ => ?_)) | (apply GL.isCall; refine GL.append1 _ rfl rfl rfl rfl (by rfl) (by omega) (by omega) rfl (fun _ => ?_)) | (apply GL.isAlloc; refine GL.alloc rfl (fun _ => ?_))) | apply GL.nil | first | apply G.seq | apply G.region | apply G.block | apply G.skip | apply G.exit | apply G.ret | (apply G.isCond; first | refine G.condT rfl ?_ | refine G.condF rfl ?_ | (refine G.cond rfl (fun hc => ?_) (fun hc => ?_) <;> ((try simp only [decide_eq_true_eq, decide_eq_false_iff_not, Bool.not_true, Bool.not_false, ne_eq, Classical.not_not, Int.not_lt, Int.not_le] at hc); (try (exfalso; first | omega | exact hc trivial | exact hc rfl))))) | refine G.draw (by kernel_rfl) (by kernel_rfl) ?_ | (apply GE.isAny; first | apply GE.again | apply GE.thenG | apply GE.blockN | apply GE.blockE | apply GE.thenE | apply GE.thenR | apply GE.blockR | refine GE.blockO rfl ?_ | apply GE.only) | (apply GD.isAny; first | refine GD.runA rfl ?_ | refine GD.guardY rfl rfl ?_ | refine GD.guardN rfl rfl rfl ?_ | refine GD.guardU rfl rfl rfl ?_ | (refine GD.guard rfl rfl (fun hc => ?_) (fun hc => ?_) <;> ((try simp only [decide_eq_true_eq, decide_eq_false_iff_not, Bool.not_true, Bool.not_false, ne_eq, Classical.not_not, Int.not_lt, Int.not_le] at hc); (try (exfalso; first | omega | exact hc trivial | exact hc rfl))))) | apply GD.nilE | apply GD.nilL | (apply GT.isAny; refine GT.runA rfl rfl ?_))
  all_goals
    refine GE.resOne rfl (by (repeat (first | apply Res.nil | (apply Res.tmp; rfl) | (refine Res.cellA rfl rfl rfl ?_) | (refine Res.cell1 rfl rfl ?_)))) (fun w h => ?_)
    exact ⟨by congr 2; (first | rfl | (rw [decide_eq_decide]; omega) | (symm; rw [decide_eq_false_iff_not]; omega) | (symm; rw [decide_eq_true_eq]; omega)), h.sub⟩
theorem live_is_nil (w : World) (F : List HProp) (hw : holds w F) :
    Ct Try.prog 45 #[.pointer none] w fun e w' => e = .returned (.bool false) ∧ holds w' F := by
  refine Ct.go (args := [.pointer none]) Try.func45 rfl rfl rfl hw ?_
  repeat' (first | (apply GL.isAny; first | refine GL.runA rfl ?_ | (apply GL.isStore; first | refine GL.storeBlk rfl rfl rfl rfl rfl ?_ | refine GL.storeWhole rfl rfl rfl rfl rfl ?_ | refine GL.storeBlkA rfl rfl rfl rfl rfl ?_) | refine GL.guardY rfl rfl ?_ | refine GL.guardN rfl rfl rfl ?_ | refine GL.guardU rfl rfl rfl ?_ | (refine GL.guard rfl rfl (fun hc => ?_) (fun hc => ?_) <;> ((try simp only [decide_eq_true_eq, decide_eq_false_iff_not, Bool.not_true, Bool.not_false, ne_eq, Classical.not_not, Int.not_lt, Int.not_le] at hc); (try (exfalso; first | omega | exact hc trivial | exact hc rfl)))) | (apply GL.isBox; first | refine GL.boxA rfl rfl (fun _ => ?_) | refine GL.box1 rfl rfl rfl (fun _ => ?_) | refine GL.box rfl rfl (fun _ => ?_)) | (apply GL.isBuildS; first | refine GL.buildSlice1A rfl rfl rfl rfl rfl (fun _ => ?_) | refine GL.buildSlice1 rfl rfl rfl rfl rfl (fun _ => ?_)) | (apply GL.isCall; refine GL.append1 _ rfl rfl rfl rfl (by rfl) (by omega) (by omega) rfl (fun _ => ?_)) | (apply GL.isAlloc; refine GL.alloc rfl (fun _ => ?_))) | apply GL.nil | first | apply G.seq | apply G.region | apply G.block | apply G.skip | apply G.exit | apply G.ret | (apply G.isCond; first | refine G.condT rfl ?_ | refine G.condF rfl ?_ | (refine G.cond rfl (fun hc => ?_) (fun hc => ?_) <;> ((try simp only [decide_eq_true_eq, decide_eq_false_iff_not, Bool.not_true, Bool.not_false, ne_eq, Classical.not_not, Int.not_lt, Int.not_le] at hc); (try (exfalso; first | omega | exact hc trivial | exact hc rfl))))) | refine G.draw (by kernel_rfl) (by kernel_rfl) ?_ | (apply GE.isAny; first | apply GE.again | apply GE.thenG | apply GE.blockN | apply GE.blockE | apply GE.thenE | apply GE.thenR | apply GE.blockR | refine GE.blockO rfl ?_ | apply GE.only) | (apply GD.isAny; first | refine GD.runA rfl ?_ | refine GD.guardY rfl rfl ?_ | refine GD.guardN rfl rfl rfl ?_ | refine GD.guardU rfl rfl rfl ?_ | (refine GD.guard rfl rfl (fun hc => ?_) (fun hc => ?_) <;> ((try simp only [decide_eq_true_eq, decide_eq_false_iff_not, Bool.not_true, Bool.not_false, ne_eq, Classical.not_not, Int.not_lt, Int.not_le] at hc); (try (exfalso; first | omega | exact hc trivial | exact hc rfl))))) | apply GD.nilE | apply GD.nilL | (apply GT.isAny; refine GT.runA rfl rfl ?_))
  all_goals
    refine GE.resOne rfl (by (repeat (first | apply Res.nil | (apply Res.tmp; rfl) | (refine Res.cellA rfl rfl rfl ?_) | (refine Res.cell1 rfl rfl ?_)))) (fun w h => ?_)
    exact ⟨rfl, h.sub⟩
theorem live_is (p : Nat) (mb : Option Nat) (w : World) (F : List HProp) [SeesBlk F p #[.map mb]] (hw : holds w F) :
    Ct Try.prog 45 #[.pointer (some ⟨p, 0, none⟩)] w fun e w' => e = .returned (.bool mb.isSome) ∧ holds w' F := by
  refine Ct.go (args := [.pointer (some ⟨p, 0, none⟩)]) Try.func45 rfl rfl rfl hw ?_
  repeat' (first | (apply GL.isAny; first | refine GL.runA rfl ?_ | (apply GL.isStore; first | refine GL.storeBlk rfl rfl rfl rfl rfl ?_ | refine GL.storeWhole rfl rfl rfl rfl rfl ?_ | refine GL.storeBlkA rfl rfl rfl rfl rfl ?_) | refine GL.guardY rfl rfl ?_ | refine GL.guardN rfl rfl rfl ?_ | refine GL.guardU rfl rfl rfl ?_ | (refine GL.guard rfl rfl (fun hc => ?_) (fun hc => ?_) <;> ((try simp only [decide_eq_true_eq, decide_eq_false_iff_not, Bool.not_true, Bool.not_false, ne_eq, Classical.not_not, Int.not_lt, Int.not_le] at hc); (try (exfalso; first | omega | exact hc trivial | exact hc rfl)))) | (apply GL.isBox; first | refine GL.boxA rfl rfl (fun _ => ?_) | refine GL.box1 rfl rfl rfl (fun _ => ?_) | refine GL.box rfl rfl (fun _ => ?_)) | (apply GL.isBuildS; first | refine GL.buildSlice1A rfl rfl rfl rfl rfl (fun _ => ?_) | refine GL.buildSlice1 rfl rfl rfl rfl rfl (fun _ => ?_)) | (apply GL.isCall; refine GL.append1 _ rfl rfl rfl rfl (by rfl) (by omega) (by omega) rfl (fun _ => ?_)) | (apply GL.isAlloc; refine GL.alloc rfl (fun _ => ?_))) | apply GL.nil | first | apply G.seq | apply G.region | apply G.block | apply G.skip | apply G.exit | apply G.ret | (apply G.isCond; first | refine G.condT rfl ?_ | refine G.condF rfl ?_ | (refine G.cond rfl (fun hc => ?_) (fun hc => ?_) <;> ((try simp only [decide_eq_true_eq, decide_eq_false_iff_not, Bool.not_true, Bool.not_false, ne_eq, Classical.not_not, Int.not_lt, Int.not_le] at hc); (try (exfalso; first | omega | exact hc trivial | exact hc rfl))))) | refine G.draw (by kernel_rfl) (by kernel_rfl) ?_ | (apply GE.isAny; first | apply GE.again | apply GE.thenG | apply GE.blockN | apply GE.blockE | apply GE.thenE | apply GE.thenR | apply GE.blockR | refine GE.blockO rfl ?_ | apply GE.only) | (apply GD.isAny; first | refine GD.runA rfl ?_ | refine GD.guardY rfl rfl ?_ | refine GD.guardN rfl rfl rfl ?_ | refine GD.guardU rfl rfl rfl ?_ | (refine GD.guard rfl rfl (fun hc => ?_) (fun hc => ?_) <;> ((try simp only [decide_eq_true_eq, decide_eq_false_iff_not, Bool.not_true, Bool.not_false, ne_eq, Classical.not_not, Int.not_lt, Int.not_le] at hc); (try (exfalso; first | omega | exact hc trivial | exact hc rfl))))) | apply GD.nilE | apply GD.nilL | (apply GT.isAny; refine GT.runA rfl rfl ?_))
  all_goals
    refine GE.resOne rfl (by (repeat (first | apply Res.nil | (apply Res.tmp; rfl) | (refine Res.cellA rfl rfl rfl ?_) | (refine Res.cell1 rfl rfl ?_)))) (fun w h => ?_)
    exact ⟨by cases mb <;> rfl, h.sub⟩
theorem live_New (w : World) (F : List HProp) (hw : holds w F) :
    Ct Try.prog 10 #[] w fun e w' => ∃ p : Nat, e = .returned (.pointer (some ⟨p, 0, none⟩)) ∧ holds w' (livP p [] :: F) := by
  refine Ct.go (args := []) Try.func10 rfl rfl rfl hw ?_
  repeat' (first | first | (apply GL.isAny; first | refine GL.runA rfl ?_ | (apply GL.isStore; first | refine GL.storeBlk rfl rfl rfl rfl rfl ?_ | refine GL.storeWhole rfl rfl rfl rfl rfl ?_ | refine GL.storeBlkA rfl rfl rfl rfl rfl ?_) | refine GL.guardY rfl rfl ?_ | refine GL.guardN rfl rfl rfl ?_ | refine GL.guardU rfl rfl rfl ?_ | (refine GL.guard rfl rfl (fun hc => ?_) (fun hc => ?_) <;> ((try simp only [decide_eq_true_eq, decide_eq_false_iff_not, Bool.not_true, Bool.not_false, ne_eq, Classical.not_not, Int.not_lt, Int.not_le] at hc); (try (exfalso; first | omega | exact hc trivial | exact hc rfl)))) | (apply GL.isBox; first | refine GL.boxA rfl rfl (fun _ => ?_) | refine GL.box1 rfl rfl rfl (fun _ => ?_) | refine GL.box rfl rfl (fun _ => ?_)) | (apply GL.isBuildS; first | refine GL.buildSlice1A rfl rfl rfl rfl rfl (fun _ => ?_) | refine GL.buildSlice1 rfl rfl rfl rfl rfl (fun _ => ?_)) | (apply GL.isCall; refine GL.append1 _ rfl rfl rfl rfl (by rfl) (by omega) (by omega) rfl (fun _ => ?_)) | (apply GL.isAlloc; refine GL.alloc rfl (fun _ => ?_))) | apply GL.nil | first | apply G.seq | apply G.region | apply G.block | apply G.skip | apply G.exit | apply G.ret | (apply G.isCond; first | refine G.condT rfl ?_ | refine G.condF rfl ?_ | (refine G.cond rfl (fun hc => ?_) (fun hc => ?_) <;> ((try simp only [decide_eq_true_eq, decide_eq_false_iff_not, Bool.not_true, Bool.not_false, ne_eq, Classical.not_not, Int.not_lt, Int.not_le] at hc); (try (exfalso; first | omega | exact hc trivial | exact hc rfl))))) | refine G.draw (by kernel_rfl) (by kernel_rfl) ?_ | (apply GE.isAny; first | apply GE.again | apply GE.thenG | apply GE.blockN | apply GE.blockE | apply GE.thenE | apply GE.thenR | apply GE.blockR | refine GE.blockO rfl ?_ | apply GE.only) | (apply GD.isAny; first | refine GD.runA rfl ?_ | refine GD.guardY rfl rfl ?_ | refine GD.guardN rfl rfl rfl ?_ | refine GD.guardU rfl rfl rfl ?_ | (refine GD.guard rfl rfl (fun hc => ?_) (fun hc => ?_) <;> ((try simp only [decide_eq_true_eq, decide_eq_false_iff_not, Bool.not_true, Bool.not_false, ne_eq, Classical.not_not, Int.not_lt, Int.not_le] at hc); (try (exfalso; first | omega | exact hc trivial | exact hc rfl))))) | apply GD.nilE | apply GD.nilL | (apply GT.isAny; refine GT.runA rfl rfl ?_) | ((refine GL.makeMap encC rfl (fun mb => ?_))))
  refine GE.resOne rfl (by (repeat (first | apply Res.nil | (apply Res.tmp; rfl) | (refine Res.cellA rfl rfl rfl ?_) | (refine Res.cell1 rfl rfl ?_)))) (fun w h => ?_)
  have h2 : holds w (blk _ (.cells #[.map (some _)] 53 (0, 0)) :: imap encC _ [] :: F) := h
  have h3 : holds w (sep (([] : LvM).map chH) :: blk _ (.cells #[.map (some _)] 53 (0, 0)) :: imap encC _ [] :: F) := holds_sep.2 h2
  exact ⟨_, rfl, liv_close (mb := mb) h3.sub⟩
theorem live_laid (cb : Nat) (v : Value) (rb : Nat) (g : Int) (m : List (Int × Int)) (i : Int) (s : SpanM) (w : World) (F F' : List HProp) [SeesBlk F cb #[v, .int .i64 g, .map (some rb)]] [HasMap F rb encI m F'] (hw : holds w F) :
    Ct Try.prog 52 #[.pointer (some ⟨cb, 0, none⟩), .int .i64 i, .agg (encSp s).toArray] w fun e w' => e = .returned (.agg (encLaid ⟨i, g, (alGet m s.pos).getD 0, s.pos, s.len⟩).toArray) ∧ holds w' F := by
  refine Ct.go (args := [.pointer (some ⟨cb, 0, none⟩), .int .i64 i, .agg (encSp s).toArray]) Try.func52 rfl rfl rfl hw ?_
  repeat' (first | (first | (refine G.isRegion 1 ?_; refine G.drawTail 17 (by kernel_rfl) (by simp only [List.take_succ_cons, List.take_zero]; rfl) (by simp only [List.drop_succ_cons, List.drop_zero]; rfl) (by kernel_rfl) ?_) | first | (apply GL.isAny; refine GL.run (by (apply Runs.isLookup; first | exact Runs.lookupI rfl rfl | exact Runs.lookupS rfl rfl (by assumption) | exact Runs.lookupN rfl rfl (by assumption))) rfl ?_) | (apply GD.isAny; refine GD.run (by (apply Runs.isLookup; first | exact Runs.lookupI rfl rfl | exact Runs.lookupS rfl rfl (by assumption) | exact Runs.lookupN rfl rfl (by assumption))) rfl ?_)) | first | (apply GL.isAny; first | refine GL.runA rfl ?_ | (apply GL.isStore; first | refine GL.storeBlk rfl rfl rfl rfl rfl ?_ | refine GL.storeWhole rfl rfl rfl rfl rfl ?_ | refine GL.storeBlkA rfl rfl rfl rfl rfl ?_) | refine GL.guardY rfl rfl ?_ | refine GL.guardN rfl rfl rfl ?_ | refine GL.guardU rfl rfl rfl ?_ | (refine GL.guard rfl rfl (fun hc => ?_) (fun hc => ?_) <;> ((try simp only [decide_eq_true_eq, decide_eq_false_iff_not, Bool.not_true, Bool.not_false, ne_eq, Classical.not_not, Int.not_lt, Int.not_le] at hc); (try (exfalso; first | omega | exact hc trivial | exact hc rfl)))) | (apply GL.isBox; first | refine GL.boxA rfl rfl (fun _ => ?_) | refine GL.box1 rfl rfl rfl (fun _ => ?_) | refine GL.box rfl rfl (fun _ => ?_)) | (apply GL.isBuildS; first | refine GL.buildSlice1A rfl rfl rfl rfl rfl (fun _ => ?_) | refine GL.buildSlice1 rfl rfl rfl rfl rfl (fun _ => ?_)) | (apply GL.isCall; refine GL.append1 _ rfl rfl rfl rfl (by rfl) (by omega) (by omega) rfl (fun _ => ?_)) | (apply GL.isAlloc; refine GL.alloc rfl (fun _ => ?_))) | apply GL.nil | first | apply G.seq | apply G.region | apply G.block | apply G.skip | apply G.exit | apply G.ret | (apply G.isCond; first | refine G.condT rfl ?_ | refine G.condF rfl ?_ | (refine G.cond rfl (fun hc => ?_) (fun hc => ?_) <;> ((try simp only [decide_eq_true_eq, decide_eq_false_iff_not, Bool.not_true, Bool.not_false, ne_eq, Classical.not_not, Int.not_lt, Int.not_le] at hc); (try (exfalso; first | omega | exact hc trivial | exact hc rfl))))) | refine G.draw (by kernel_rfl) (by kernel_rfl) ?_ | (apply GE.isAny; first | apply GE.again | apply GE.thenG | apply GE.blockN | apply GE.blockE | apply GE.thenE | apply GE.thenR | apply GE.blockR | refine GE.blockO rfl ?_ | apply GE.only) | (apply GD.isAny; first | refine GD.runA rfl ?_ | refine GD.guardY rfl rfl ?_ | refine GD.guardN rfl rfl rfl ?_ | refine GD.guardU rfl rfl rfl ?_ | (refine GD.guard rfl rfl (fun hc => ?_) (fun hc => ?_) <;> ((try simp only [decide_eq_true_eq, decide_eq_false_iff_not, Bool.not_true, Bool.not_false, ne_eq, Classical.not_not, Int.not_lt, Int.not_le] at hc); (try (exfalso; first | omega | exact hc trivial | exact hc rfl))))) | apply GD.nilE | apply GD.nilL | (apply GT.isAny; refine GT.runA rfl rfl ?_))
  refine GE.resOne rfl (by (repeat (first | apply Res.nil | (apply Res.tmp; rfl) | (refine Res.cellA rfl rfl rfl ?_) | (refine Res.cell1 rfl rfl ?_)))) (fun w h => ?_)
  exact ⟨rfl, h.sub⟩
end Go.Proofs.Ytlniadnlomnlaaa
