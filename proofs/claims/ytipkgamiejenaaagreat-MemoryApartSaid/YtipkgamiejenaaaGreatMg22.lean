import Derived.Test.YtipkgamiejenaaaGreatMg21
import Derived.Test.YtipkgamiejenaaaGreatMg8
import Derived.Test.YtipkgamiejenaaaGreatMg6
import Derived.Test.YtipkgamiejenaaaGreatMg20

import Derived.Test.YtipkgamiejenaaaGreatMg19
/- Contracts of package live: Add. -/
namespace Go.Proofs.YtipkgamiejenaaaGreat
open Go Go.RowKit Go.MapKept
set_option linter.unusedVariables false
set_option linter.unusedSimpArgs false
set_option maxRecDepth 100000
set_option maxHeartbeats 4000000

theorem live_Add_bad (p : Nat) (M : LvM) (x : LaidM) (hx : Live.Bad x) (w : World) (F : List HProp) (hw : holds w (livP p M :: F)) :
    Ct Tryz.prog 27 #[.pointer (some ⟨p, 0, none⟩), .agg (encLaid x).toArray] w fun e w' => e = .returned (.tuple #[.int .i64 0, .int .i64 2]) ∧ holds w' (livP p M :: F) := by
  have hb : ¬ (0 ≤ x.chunk ∧ x.chunk ≤ 1048575) ∨ ¬ (0 ≤ x.gen ∧ x.gen ≤ 1048575) ∨ ¬ (0 ≤ x.pos ∧ x.pos ≤ 1048575) ∨ x.len < 1 ∨ 1048576 < x.len ∨ x.region < 0 := Classical.byContradiction fun hc => by
    simp only [not_or, Classical.not_not] at hc
    exact absurd hx (Lv.bad_of_not_good ⟨hc.1, hc.2.1, hc.2.2.1, by omega, by omega⟩)
  clear hx
  refine Ct.go (args := [.pointer (some ⟨p, 0, none⟩), .agg (encLaid x).toArray]) Tryz.func27 rfl rfl rfl hw ?_
  refine G.case (fun mb => ?_) (fun w h => liv_open h)
  repeat' (first | (first | first | (apply GL.isCall; refine GL.call1 rfl rfl (fun w h => live_is p (some mb) w _ h) ?_) | (apply GD.isAny; refine GD.call rfl rfl (fun w F' h => live_is p (some mb) w _ h) ?_) | first | (apply GL.isCall; refine GL.call1 rfl rfl (fun w h => live_small _ w _ h) ?_) | (apply GD.isAny; refine GD.call rfl rfl (fun w F' h => live_small _ w _ h) ?_)) | first | (apply GL.isAny; first | refine GL.runA rfl ?_ | (apply GL.isStore; first | refine GL.storeBlk rfl rfl rfl rfl rfl ?_ | refine GL.storeWhole rfl rfl rfl rfl rfl ?_ | refine GL.storeBlkA rfl rfl rfl rfl rfl ?_) | refine GL.guardY rfl rfl ?_ | refine GL.guardN rfl rfl rfl ?_ | refine GL.guardU rfl rfl rfl ?_ | (apply GL.isBox; first | refine GL.boxA rfl rfl (fun _ => ?_) | refine GL.box1 rfl rfl rfl (fun _ => ?_) | refine GL.box rfl rfl (fun _ => ?_)) | (apply GL.isBuildS; first | refine GL.buildSlice1A rfl rfl rfl rfl rfl (fun _ => ?_) | refine GL.buildSlice1 rfl rfl rfl rfl rfl (fun _ => ?_)) | (apply GL.isCall; refine GL.append1 _ rfl rfl rfl rfl (by rfl) (by omega) (by omega) rfl (fun _ => ?_)) | (apply GL.isAlloc; refine GL.alloc rfl (fun _ => ?_))) | apply GL.nil | first | apply G.seq | apply G.region | apply G.block | apply G.skip | apply G.exit | apply G.ret | (apply G.isCond; first | refine G.condT rfl ?_ | refine G.condF rfl ?_) | refine G.draw (by kernel_rfl) (by kernel_rfl) ?_ | (apply GE.isAny; first | apply GE.again | apply GE.thenG | apply GE.blockN | apply GE.blockE | apply GE.thenE | apply GE.thenR | apply GE.blockR | refine GE.blockO rfl ?_ | apply GE.only) | (apply GD.isAny; first | refine GD.runA rfl ?_ | refine GD.guardY rfl rfl ?_ | refine GD.guardN rfl rfl rfl ?_ | refine GD.guardU rfl rfl rfl ?_) | apply GD.nilE | apply GD.nilL | (apply GT.isAny; refine GT.runA rfl rfl ?_) | ((first | (apply GL.isAny; refine GL.guard rfl rfl (fun hc => ?_) (fun hc => ?_)) | (apply G.isCond; refine G.cond rfl (fun hc => ?_) (fun hc => ?_)) | (apply GD.isAny; refine GD.guard rfl rfl (fun hc => ?_) (fun hc => ?_))) <;> ((try simp only [decide_eq_true_eq, decide_eq_false_iff_not, Bool.not_true, Bool.not_false, ne_eq, Classical.not_not, Int.not_lt, Int.not_le] at hc); (try (exfalso; first | omega | exact hc trivial | exact hc rfl)))))
  all_goals first
    | (exfalso; simp only [Bool.not_eq_false', decide_eq_true_eq] at *; omega)
    | (refine GE.resMany rfl (by (repeat (first | apply Res.nil | (apply Res.tmp; rfl) | (refine Res.cellA rfl rfl rfl ?_) | (refine Res.cell1 rfl rfl ?_)))) (fun w h => ?_); exact ⟨rfl, liv_close (mb := mb) h.sub⟩)
theorem live_Add_old (p : Nat) (M : LvM) (hM : Lv.Ok M) (x : LaidM) (hx : Lv.Good x) (q : Nat × ChM) (hq : alGet M x.chunk = some q) (hg : ¬ q.2.gen = x.gen) (w : World) (F : List HProp) (hw : holds w (livP p M :: F)) :
    Ct Tryz.prog 27 #[.pointer (some ⟨p, 0, none⟩), .agg (encLaid x).toArray] w fun e w' => e = .returned (.tuple #[.int .i64 0, .int .i64 4]) ∧ holds w' (livP p M :: F) := by
  obtain ⟨⟨c0, c1⟩, ⟨g0, g1⟩, ⟨p0, p1⟩, ⟨l0, l1⟩, r0⟩ := hx
  obtain ⟨cb, c⟩ := q
  have d1 : decide (0 ≤ x.chunk ∧ x.chunk ≤ 1048575) = true := by simp; omega
  have d2 : decide (0 ≤ x.gen ∧ x.gen ≤ 1048575) = true := by simp; omega
  have d3 : decide (0 ≤ x.pos ∧ x.pos ≤ 1048575) = true := by simp; omega
  simp only at hg
  refine Ct.go (args := [.pointer (some ⟨p, 0, none⟩), .agg (encLaid x).toArray]) Tryz.func27 rfl rfl rfl hw ?_
  refine G.case (fun mb => ?_) (fun w h => liv_open h)
  refine G.case (F' := fun y : Value × Nat => blk cb (.cells #[y.1, .int .i64 c.gen, .map (some y.2)] 161 (0, 0)) :: owns 165 encSp 2 y.1 c.sp :: imap encI y.2 c.reg :: sep ((alDel M x.chunk).map chH) :: blk p (.cells #[.map (some mb)] 154 (0, 0)) :: imap encC mb M :: F) (fun ⟨v, rb⟩ => ?_) (fun w h => chunk_open hq h.sub)
  dsimp only
  repeat' (first | (first | first | (apply GL.isCall; refine GL.call1 rfl rfl (fun w h => live_is p (some mb) w _ h) ?_) | (apply GD.isAny; refine GD.call rfl rfl (fun w F' h => live_is p (some mb) w _ h) ?_) | first | (apply GL.isAny; refine GL.run (by (apply Runs.isLookup; first | exact Runs.lookupI rfl rfl | exact Runs.lookupS rfl rfl (by assumption) | exact Runs.lookupN rfl rfl (by assumption))) rfl ?_) | (apply GD.isAny; refine GD.run (by (apply Runs.isLookup; first | exact Runs.lookupI rfl rfl | exact Runs.lookupS rfl rfl (by assumption) | exact Runs.lookupN rfl rfl (by assumption))) rfl ?_) | first | (apply GL.isCall; refine GL.call1 rfl rfl (fun w h => live_small _ w _ h) ?_) | (apply GD.isAny; refine GD.call rfl rfl (fun w F' h => live_small _ w _ h) ?_)) | first | (apply GL.isAny; first | refine GL.runA rfl ?_ | (apply GL.isStore; first | refine GL.storeBlk rfl rfl rfl rfl rfl ?_ | refine GL.storeWhole rfl rfl rfl rfl rfl ?_ | refine GL.storeBlkA rfl rfl rfl rfl rfl ?_) | refine GL.guardY rfl rfl ?_ | refine GL.guardN rfl rfl rfl ?_ | refine GL.guardU rfl rfl rfl ?_ | (apply GL.isBox; first | refine GL.boxA rfl rfl (fun _ => ?_) | refine GL.box1 rfl rfl rfl (fun _ => ?_) | refine GL.box rfl rfl (fun _ => ?_)) | (apply GL.isBuildS; first | refine GL.buildSlice1A rfl rfl rfl rfl rfl (fun _ => ?_) | refine GL.buildSlice1 rfl rfl rfl rfl rfl (fun _ => ?_)) | (apply GL.isCall; refine GL.append1 _ rfl rfl rfl rfl (by rfl) (by omega) (by omega) rfl (fun _ => ?_)) | (apply GL.isAlloc; refine GL.alloc rfl (fun _ => ?_))) | apply GL.nil | first | apply G.seq | apply G.region | apply G.block | apply G.skip | apply G.exit | apply G.ret | (apply G.isCond; first | refine G.condT rfl ?_ | refine G.condF rfl ?_) | refine G.draw (by kernel_rfl) (by kernel_rfl) ?_ | (apply GE.isAny; first | apply GE.again | apply GE.thenG | apply GE.blockN | apply GE.blockE | apply GE.thenE | apply GE.thenR | apply GE.blockR | refine GE.blockO rfl ?_ | apply GE.only) | (apply GD.isAny; first | refine GD.runA rfl ?_ | refine GD.guardY rfl rfl ?_ | refine GD.guardN rfl rfl rfl ?_ | refine GD.guardU rfl rfl rfl ?_) | apply GD.nilE | apply GD.nilL | (apply GT.isAny; refine GT.runA rfl rfl ?_) | ((first | (apply GL.isAny; refine GL.guard rfl rfl (fun hc => ?_) (fun hc => ?_)) | (apply G.isCond; refine G.cond rfl (fun hc => ?_) (fun hc => ?_)) | (apply GD.isAny; refine GD.guard rfl rfl (fun hc => ?_) (fun hc => ?_))) <;> ((try simp only [decide_eq_true_eq, decide_eq_false_iff_not, Bool.not_true, Bool.not_false, ne_eq, Classical.not_not, Int.not_lt, Int.not_le] at hc); (try (exfalso; first | omega | exact hc trivial | exact hc rfl)))))
  all_goals first
    | (exfalso; revert hc; simp only [*]; decide)
    | skip
  all_goals
    refine GE.resMany rfl (by (repeat (first | apply Res.nil | (apply Res.tmp; rfl) | (refine Res.cellA rfl rfl rfl ?_) | (refine Res.cell1 rfl rfl ?_)))) (fun w h => ?_)
    have h3 := liv_close (mb := mb) (p := p) (M := M) (F := F) (chunk_close hq (y := (v, rb)) (F := blk p (.cells #[.map (some mb)] 154 (0, 0)) :: imap encC mb M :: F) h.sub).sub
    exact ⟨rfl, h3⟩
theorem live_Add_twice (p : Nat) (M : LvM) (hM : Lv.Ok M) (x : LaidM) (hx : Lv.Good x) (q : Nat × ChM) (hq : alGet M x.chunk = some q) (hg : q.2.gen = x.gen) (i : Nat) (hi : i < q.2.sp.length) (hm : Spn.Meet q.2.sp[i] ⟨x.pos, x.len⟩) (w : World) (F : List HProp) (hw : holds w (livP p M :: F)) :
    Ct Tryz.prog 27 #[.pointer (some ⟨p, 0, none⟩), .agg (encLaid x).toArray] w fun e w' => e = .returned (.tuple #[.int .i64 0, .int .i64 19]) ∧ holds w' (livP p M :: F) := by
  have hs := Lv.SpOk.of_good hx
  obtain ⟨⟨c0, c1⟩, ⟨g0, g1⟩, ⟨p0, p1⟩, ⟨l0, l1⟩, r0⟩ := hx
  have hR := hM.right _ _ hq
  obtain ⟨cb, c⟩ := q
  have d1 : decide (0 ≤ x.chunk ∧ x.chunk ≤ 1048575) = true := by simp; omega
  have d2 : decide (0 ≤ x.gen ∧ x.gen ≤ 1048575) = true := by simp; omega
  have d3 : decide (0 ≤ x.pos ∧ x.pos ≤ 1048575) = true := by simp; omega
  simp only at hg hi hm hR
  refine Ct.go (args := [.pointer (some ⟨p, 0, none⟩), .agg (encLaid x).toArray]) Tryz.func27 rfl rfl rfl hw ?_
  refine G.case (fun mb => ?_) (fun w h => liv_open h)
  refine G.case (F' := fun y : Value × Nat => blk cb (.cells #[y.1, .int .i64 c.gen, .map (some y.2)] 161 (0, 0)) :: owns 165 encSp 2 y.1 c.sp :: imap encI y.2 c.reg :: sep ((alDel M x.chunk).map chH) :: blk p (.cells #[.map (some mb)] 154 (0, 0)) :: imap encC mb M :: F) (fun ⟨v, rb⟩ => ?_) (fun w h => chunk_open hq h.sub)
  dsimp only
  repeat' (first | (first | (refine G.isRegion 10 ?_; refine G.drawTailX 10 [(13, 12), (14, 13)] (by kernel_rfl) (by simp only [List.take_succ_cons, List.take_zero]; rfl) (by simp only [List.drop_succ_cons, List.drop_zero]; rfl) (by kernel_rfl) ?_) | first | (apply GL.isCall; refine GL.call1 rfl rfl (fun w h => live_is p (some mb) w _ h) ?_) | (apply GD.isAny; refine GD.call rfl rfl (fun w F' h => live_is p (some mb) w _ h) ?_) | first | (apply GL.isAny; refine GL.run (by (apply Runs.isLookup; first | exact Runs.lookupI rfl rfl | exact Runs.lookupS rfl rfl (by assumption) | exact Runs.lookupN rfl rfl (by assumption))) rfl ?_) | (apply GD.isAny; refine GD.run (by (apply Runs.isLookup; first | exact Runs.lookupI rfl rfl | exact Runs.lookupS rfl rfl (by assumption) | exact Runs.lookupN rfl rfl (by assumption))) rfl ?_) | first | (apply GL.isCall; refine GL.call1 rfl rfl (fun w h => live_small _ w _ h) ?_) | (apply GD.isAny; refine GD.call rfl rfl (fun w F' h => live_small _ w _ h) ?_) | (apply GL.isCall; refine GL.call1 (vs := [v, .agg (encSp ⟨x.pos, x.len⟩).toArray]) rfl rfl (fun w h => spans_Add_no v c.sp ⟨x.pos, x.len⟩ hR hs i hi hm w _ h) ?_)) | first | (apply GL.isAny; first | refine GL.runA rfl ?_ | (apply GL.isStore; first | refine GL.storeBlk rfl rfl rfl rfl rfl ?_ | refine GL.storeWhole rfl rfl rfl rfl rfl ?_ | refine GL.storeBlkA rfl rfl rfl rfl rfl ?_) | refine GL.guardY rfl rfl ?_ | refine GL.guardN rfl rfl rfl ?_ | refine GL.guardU rfl rfl rfl ?_ | (apply GL.isBox; first | refine GL.boxA rfl rfl (fun _ => ?_) | refine GL.box1 rfl rfl rfl (fun _ => ?_) | refine GL.box rfl rfl (fun _ => ?_)) | (apply GL.isBuildS; first | refine GL.buildSlice1A rfl rfl rfl rfl rfl (fun _ => ?_) | refine GL.buildSlice1 rfl rfl rfl rfl rfl (fun _ => ?_)) | (apply GL.isCall; refine GL.append1 _ rfl rfl rfl rfl (by rfl) (by omega) (by omega) rfl (fun _ => ?_)) | (apply GL.isAlloc; refine GL.alloc rfl (fun _ => ?_))) | apply GL.nil | first | apply G.seq | apply G.region | apply G.block | apply G.skip | apply G.exit | apply G.ret | (apply G.isCond; first | refine G.condT rfl ?_ | refine G.condF rfl ?_) | refine G.draw (by kernel_rfl) (by kernel_rfl) ?_ | (apply GE.isAny; first | apply GE.again | apply GE.thenG | apply GE.blockN | apply GE.blockE | apply GE.thenE | apply GE.thenR | apply GE.blockR | refine GE.blockO rfl ?_ | apply GE.only) | (apply GD.isAny; first | refine GD.runA rfl ?_ | refine GD.guardY rfl rfl ?_ | refine GD.guardN rfl rfl rfl ?_ | refine GD.guardU rfl rfl rfl ?_) | apply GD.nilE | apply GD.nilL | (apply GT.isAny; refine GT.runA rfl rfl ?_) | ((first | (apply GL.isAny; refine GL.guard rfl rfl (fun hc => ?_) (fun hc => ?_)) | (apply G.isCond; refine G.cond rfl (fun hc => ?_) (fun hc => ?_)) | (apply GD.isAny; refine GD.guard rfl rfl (fun hc => ?_) (fun hc => ?_))) <;> ((try simp only [decide_eq_true_eq, decide_eq_false_iff_not, Bool.not_true, Bool.not_false, ne_eq, Classical.not_not, Int.not_lt, Int.not_le] at hc); (try (exfalso; first | omega | exact hc trivial | exact hc rfl)))))
  all_goals first
    | (exfalso; revert hc; simp only [*]; decide)
    | skip
  all_goals
    refine GE.resMany rfl (by (repeat (first | apply Res.nil | (apply Res.tmp; rfl) | (refine Res.cellA rfl rfl rfl ?_) | (refine Res.cell1 rfl rfl ?_)))) (fun w h => ?_)
    have h3 := liv_close (mb := mb) (p := p) (M := M) (F := F) (chunk_close hq (y := (v, rb)) (F := blk p (.cells #[.map (some mb)] 154 (0, 0)) :: imap encC mb M :: F) h.sub).sub
    exact ⟨rfl, h3⟩
theorem alDel_set {β : Type} (k : Int) (v : β) : ∀ m : List (Int × β), alDel (alSet m k v) k = alDel m k
  | [] => by simp [alSet, alDel]
  | (k', v') :: m => by
    unfold alSet
    split
    · rename_i e; subst e; simp [alDel]
    · rename_i e; simp only [alDel, if_neg e, alDel_set k v m]
theorem live_Add_in (p : Nat) (M : LvM) (hM : Lv.Ok M) (x : LaidM) (hx : Lv.Good x) (q : Nat × ChM) (hq : alGet M x.chunk = some q) (hg : q.2.gen = x.gen) (hm : ∀ (i : Nat) (hi : i < q.2.sp.length), ¬ Spn.Meet q.2.sp[i] ⟨x.pos, x.len⟩) (w : World) (F : List HProp) (hw : holds w (livP p M :: F)) :
    Ct Tryz.prog 27 #[.pointer (some ⟨p, 0, none⟩), .agg (encLaid x).toArray] w fun e w' => ∃ k : {k : Nat // Spn.IsLow q.2.sp x.pos k}, e = .returned (.tuple #[.int .i64 (Hdl.put 3 x.chunk x.gen x.pos).1, .int .i64 0]) ∧ holds w' (livP p (alSet M x.chunk (q.1, ⟨x.gen, q.2.sp.take k.1 ++ [⟨x.pos, x.len⟩] ++ q.2.sp.drop k.1, alSet q.2.reg x.pos x.region⟩)) :: F) := by
  have hs := Lv.SpOk.of_good hx
  have hput : (Hdl.put 3 x.chunk x.gen x.pos).2 = 0 := by have := Lv.bad_of_not_good hx; simp only [Live.Bad, not_or, Classical.not_not] at this; exact this.1
  obtain ⟨⟨c0, c1⟩, ⟨g0, g1⟩, ⟨p0, p1⟩, ⟨l0, l1⟩, r0⟩ := hx
  have hR := hM.right _ _ hq
  obtain ⟨cb, c⟩ := q
  have d1 : decide (0 ≤ x.chunk ∧ x.chunk ≤ 1048575) = true := by simp; omega
  have d2 : decide (0 ≤ x.gen ∧ x.gen ≤ 1048575) = true := by simp; omega
  have d3 : decide (0 ≤ x.pos ∧ x.pos ≤ 1048575) = true := by simp; omega
  simp only at hg hm hR
  refine Ct.go (args := [.pointer (some ⟨p, 0, none⟩), .agg (encLaid x).toArray]) Tryz.func27 rfl rfl rfl hw ?_
  refine G.case (fun mb => ?_) (fun w h => liv_open h)
  refine G.case (F' := fun y : Value × Nat => blk cb (.cells #[y.1, .int .i64 c.gen, .map (some y.2)] 161 (0, 0)) :: owns 165 encSp 2 y.1 c.sp :: imap encI y.2 c.reg :: sep ((alDel M x.chunk).map chH) :: blk p (.cells #[.map (some mb)] 154 (0, 0)) :: imap encC mb M :: F) (fun ⟨v, rb⟩ => ?_) (fun w h => chunk_open hq h.sub)
  dsimp only
  repeat' (first | (first | (refine G.isRegion 10 ?_; refine G.drawTailX 10 [(13, 12), (14, 13)] (by kernel_rfl) (by simp only [List.take_succ_cons, List.take_zero]; rfl) (by simp only [List.drop_succ_cons, List.drop_zero]; rfl) (by kernel_rfl) ?_) | first | (apply GL.isCall; refine GL.call1 rfl rfl (fun w h => live_is p (some mb) w _ h) ?_) | (apply GD.isAny; refine GD.call rfl rfl (fun w F' h => live_is p (some mb) w _ h) ?_) | first | (apply GL.isAny; refine GL.run (by (apply Runs.isLookup; first | exact Runs.lookupI rfl rfl | exact Runs.lookupS rfl rfl (by assumption) | exact Runs.lookupN rfl rfl (by assumption))) rfl ?_) | (apply GD.isAny; refine GD.run (by (apply Runs.isLookup; first | exact Runs.lookupI rfl rfl | exact Runs.lookupS rfl rfl (by assumption) | exact Runs.lookupN rfl rfl (by assumption))) rfl ?_) | first | (apply GL.isCall; refine GL.call1 rfl rfl (fun w h => live_small _ w _ h) ?_) | (apply GD.isAny; refine GD.call rfl rfl (fun w F' h => live_small _ w _ h) ?_) | (apply GL.isCall; refine GL.call (vs := [v, .agg (encSp ⟨x.pos, x.len⟩).toArray]) rfl rfl (fun w h => spans_Add_yes v c.sp ⟨x.pos, x.len⟩ hR hs hm w _ h) (fun y => ?_)) | (refine G.isRegion 13 ?_; refine G.pure (fun w hw => ?_); obtain ⟨hc1, hc2⟩ := owns_cells hw; refine G.drawW [⟨none, [], some 20, none, fun _ => True, fun _ => blk cb (.cells #[v, .int .i64 c.gen, .map (some rb)] 161 (0, 0))⟩, ⟨some 20, [0], none, none, fun _ => True, fun _ => blk cb (.cells #[y.2, .int .i64 c.gen, .map (some rb)] 161 (0, 0))⟩, ⟨none, [], some 21, none, fun _ => True, fun _ => imap encI rb c.reg⟩, ⟨some 21, [2], some 23, some 102, IsEntry, fun u => imapHole encI rb c.reg x.pos (stampV u)⟩, ⟨some 23, [3], none, none, fun _ => True, fun _ => imap encI rb (alSet c.reg x.pos x.region)⟩, ⟨none, [], some 24, none, fun _ => True, fun _ => imap encC mb M⟩, ⟨some 24, [5], some 26, some 104, IsEntry, fun u => imapHole encC mb M x.chunk (stampV u)⟩, ⟨some 26, [6], none, none, fun _ => True, fun _ => imap encC mb (alSet M x.chunk (cb, (⟨x.gen, c.sp.take y.1.1 ++ [⟨x.pos, x.len⟩] ++ c.sp.drop y.1.1, alSet c.reg x.pos x.region⟩ : ChM)))⟩] [(4, [0])] [0, 2, 5] [1, 4, 7] (by kernel_rfl) (by kernel_rfl) rfl ⟨⟨_, rfl, .inl rfl⟩, ⟨_, rfl, .inl rfl⟩, ⟨_, rfl, .inl rfl⟩, trivial⟩ ?_) | (apply GW.isAny; first | refine GW.runA rfl rfl ?_ | refine GW.seeA rfl rfl ⟨⟨_, rfl, .inl rfl⟩, trivial⟩ rfl ?_) | (apply GW.isAny; refine GW.store rfl rfl rfl rfl rfl ⟨⟨_, rfl, .inl rfl⟩, trivial⟩ rfl trivial rfl (DoesW.storeBlk (R := fun _ => True) rfl rfl (by first | rfl | assumption) (by first | rfl | assumption) rfl rfl) ?_) | (apply GW.isAny; refine GW.eff rfl rfl rfl rfl rfl ⟨⟨_, rfl, .inl rfl⟩, trivial⟩ rfl trivial (fun u hu => hu.defd) (DoesW.mapEntry rfl rfl) rfl (fun u hu => ?_); obtain ⟨u0, s0, rfl⟩ := hu) | (apply GW.isAny; refine GW.store rfl rfl rfl rfl rfl ⟨⟨_, rfl, .inr (.inr ⟨_, _, rfl, rfl, rfl⟩)⟩, trivial⟩ rfl trivial rfl (DoesW.entryStore (x.region) rfl rfl rfl rfl) ?_) | (apply GW.isAny; refine GW.store rfl rfl rfl rfl rfl ⟨⟨_, rfl, .inr (.inr ⟨_, _, rfl, rfl, rfl⟩)⟩, trivial⟩ rfl trivial rfl (DoesW.entryStore ((cb, (⟨x.gen, c.sp.take y.1.1 ++ [⟨x.pos, x.len⟩] ++ c.sp.drop y.1.1, alSet c.reg x.pos x.region⟩ : ChM))) rfl rfl rfl rfl) ?_) | (refine GW.nilE rfl ⟨⟨_, rfl, .inr (.inl rfl)⟩, ⟨_, rfl, .inr (.inl rfl)⟩, ⟨_, rfl, .inr (.inl rfl)⟩, trivial⟩ ?_) | first | (apply GL.isCall; refine GL.call1 rfl rfl (fun w h => handle_Put _ _ _ _ w _ h) ?_) | (apply GD.isAny; refine GD.call rfl rfl (fun w F' h => handle_Put _ _ _ _ w _ h) ?_)) | first | (apply GL.isAny; first | refine GL.runA rfl ?_ | (apply GL.isStore; first | refine GL.storeBlk rfl rfl rfl rfl rfl ?_ | refine GL.storeWhole rfl rfl rfl rfl rfl ?_ | refine GL.storeBlkA rfl rfl rfl rfl rfl ?_) | refine GL.guardY rfl rfl ?_ | refine GL.guardN rfl rfl rfl ?_ | refine GL.guardU rfl rfl rfl ?_ | (apply GL.isBox; first | refine GL.boxA rfl rfl (fun _ => ?_) | refine GL.box1 rfl rfl rfl (fun _ => ?_) | refine GL.box rfl rfl (fun _ => ?_)) | (apply GL.isBuildS; first | refine GL.buildSlice1A rfl rfl rfl rfl rfl (fun _ => ?_) | refine GL.buildSlice1 rfl rfl rfl rfl rfl (fun _ => ?_)) | (apply GL.isCall; refine GL.append1 _ rfl rfl rfl rfl (by rfl) (by omega) (by omega) rfl (fun _ => ?_)) | (apply GL.isAlloc; refine GL.alloc rfl (fun _ => ?_))) | apply GL.nil | first | apply G.seq | apply G.region | apply G.block | apply G.skip | apply G.exit | apply G.ret | (apply G.isCond; first | refine G.condT rfl ?_ | refine G.condF rfl ?_) | refine G.draw (by kernel_rfl) (by kernel_rfl) ?_ | (apply GE.isAny; first | apply GE.again | apply GE.thenG | apply GE.blockN | apply GE.blockE | apply GE.thenE | apply GE.thenR | apply GE.blockR | refine GE.blockO rfl ?_ | apply GE.only) | (apply GD.isAny; first | refine GD.runA rfl ?_ | refine GD.guardY rfl rfl ?_ | refine GD.guardN rfl rfl rfl ?_ | refine GD.guardU rfl rfl rfl ?_) | apply GD.nilE | apply GD.nilL | (apply GT.isAny; refine GT.runA rfl rfl ?_) | ((first | (apply GL.isAny; refine GL.guard rfl rfl (fun hc => ?_) (fun hc => ?_)) | (apply G.isCond; refine G.cond rfl (fun hc => ?_) (fun hc => ?_)) | (apply GD.isAny; refine GD.guard rfl rfl (fun hc => ?_) (fun hc => ?_))) <;> ((try simp only [decide_eq_true_eq, decide_eq_false_iff_not, Bool.not_true, Bool.not_false, ne_eq, Classical.not_not, Int.not_lt, Int.not_le] at hc); (try (exfalso; first | omega | exact hc trivial | exact hc rfl)))))
  all_goals first
    | (exfalso; revert hc; simp only [*]; decide)
    | skip
  refine GE.resMany rfl (by (repeat (first | apply Res.nil | (apply Res.tmp; rfl) | (refine Res.cellA rfl rfl rfl ?_) | (refine Res.cell1 rfl rfl ?_)))) (fun w h => ?_)
  have h1 : holds w (blk cb (.cells #[y.2, .int .i64 c.gen, .map (some rb)] 161 (0, 0)) :: imap encI rb (alSet c.reg x.pos x.region) :: imap encC mb (alSet M x.chunk (cb, ⟨x.gen, c.sp.take y.1.1 ++ [⟨x.pos, x.len⟩] ++ c.sp.drop y.1.1, alSet c.reg x.pos x.region⟩)) :: owns 165 encSp 2 y.2 (c.sp.take y.1.1 ++ [⟨x.pos, x.len⟩] ++ c.sp.drop y.1.1) :: blk _ (.cells (encLaid x).toArray 57 (0, 0)) :: owns 165 encSp 2 v c.sp :: sep ((alDel M x.chunk).map chH) :: blk p (.cells #[.map (some mb)] 154 (0, 0)) :: F) := h
  rw [hg] at h1
  generalize hc' : (⟨x.gen, c.sp.take y.1.1 ++ [⟨x.pos, x.len⟩] ++ c.sp.drop y.1.1, alSet c.reg x.pos x.region⟩ : ChM) = c' at h1 ⊢
  have hq' : alGet (alSet M x.chunk (cb, c')) x.chunk = some (cb, c') := by rw [alGet_set, if_pos rfl]
  have h2 := chunk_close (M := alSet M x.chunk (cb, c')) hq' (y := (y.2, rb)) (F := blk p (.cells #[.map (some mb)] 154 (0, 0)) :: imap encC mb (alSet M x.chunk (cb, c')) :: F) (by rw [alDel_set]; subst hc'; exact h1.sub)
  have h3 := liv_close (p := p) (mb := mb) (M := alSet M x.chunk (cb, c')) (F := F) h2.sub
  subst hc'
  exact ⟨y.1, by rw [hput], h3⟩
theorem live_Add_new (p : Nat) (M : LvM) (hM : Lv.Ok M) (x : LaidM) (hx : Lv.Good x) (hq : alGet M x.chunk = none) (w : World) (F : List HProp) (hw : holds w (livP p M :: F)) :
    Ct Tryz.prog 27 #[.pointer (some ⟨p, 0, none⟩), .agg (encLaid x).toArray] w fun e w' => ∃ k : Nat × {k : Nat // Spn.IsLow [] x.pos k}, e = .returned (.tuple #[.int .i64 (Hdl.put 3 x.chunk x.gen x.pos).1, .int .i64 0]) ∧ holds w' (livP p (alSet M x.chunk (k.1, ⟨x.gen, ([] : List SpanM).take k.2.1 ++ [⟨x.pos, x.len⟩] ++ ([] : List SpanM).drop k.2.1, alSet [] x.pos x.region⟩)) :: F) := by
  have hs := Lv.SpOk.of_good hx
  have hput : (Hdl.put 3 x.chunk x.gen x.pos).2 = 0 := by have := Lv.bad_of_not_good hx; simp only [Live.Bad, not_or, Classical.not_not] at this; exact this.1
  obtain ⟨⟨c0, c1⟩, ⟨g0, g1⟩, ⟨p0, p1⟩, ⟨l0, l1⟩, r0⟩ := hx
  have hR : SpR [] := ⟨fun i h => absurd h (Nat.not_lt_zero i), fun i j _ h => absurd h (Nat.not_lt_zero j), by simp⟩
  have hm : ∀ (i : Nat) (hi : i < ([] : List SpanM).length), ¬ Spn.Meet ([] : List SpanM)[i] ⟨x.pos, x.len⟩ := fun i hi => absurd hi (Nat.not_lt_zero i)
  have d1 : decide (0 ≤ x.chunk ∧ x.chunk ≤ 1048575) = true := by simp; omega
  have d2 : decide (0 ≤ x.gen ∧ x.gen ≤ 1048575) = true := by simp; omega
  have d3 : decide (0 ≤ x.pos ∧ x.pos ≤ 1048575) = true := by simp; omega
  have hdel : alDel M x.chunk = M := by
    apply (alFind_none x.chunk M ?_).2.2
    unfold alGet at hq
    simpa using hq
  refine Ct.go (args := [.pointer (some ⟨p, 0, none⟩), .agg (encLaid x).toArray]) Tryz.func27 rfl rfl rfl hw ?_
  refine G.case (fun mb => ?_) (fun w h => liv_open h)
  refine G.nilOwn 165 encSp 2 ?_
  repeat' (first | (first | (apply GL.isAny; apply GL.isBox; refine GL.boxA (cs := #[.slice none 0 0, .int .i64 x.gen, .map (some rb)]) rfl rfl (fun cb => ?_)) | (refine GL.makeMap encI rfl (fun rb => ?_)) | (refine G.isRegion 10 ?_; refine G.drawTailX 10 [(13, 12), (14, 13)] (by kernel_rfl) (by simp only [List.take_succ_cons, List.take_zero]; rfl) (by simp only [List.drop_succ_cons, List.drop_zero]; rfl) (by kernel_rfl) ?_) | first | (apply GL.isCall; refine GL.call1 rfl rfl (fun w h => live_is p (some mb) w _ h) ?_) | (apply GD.isAny; refine GD.call rfl rfl (fun w F' h => live_is p (some mb) w _ h) ?_) | first | (apply GL.isAny; refine GL.run (by (apply Runs.isLookup; first | exact Runs.lookupI rfl rfl | exact Runs.lookupS rfl rfl (by assumption) | exact Runs.lookupN rfl rfl (by assumption))) rfl ?_) | (apply GD.isAny; refine GD.run (by (apply Runs.isLookup; first | exact Runs.lookupI rfl rfl | exact Runs.lookupS rfl rfl (by assumption) | exact Runs.lookupN rfl rfl (by assumption))) rfl ?_) | first | (apply GL.isCall; refine GL.call1 rfl rfl (fun w h => live_small _ w _ h) ?_) | (apply GD.isAny; refine GD.call rfl rfl (fun w F' h => live_small _ w _ h) ?_) | (apply GL.isCall; refine GL.call (vs := [.slice none 0 0, .agg (encSp ⟨x.pos, x.len⟩).toArray]) rfl rfl (fun w h => spans_Add_yes (.slice none 0 0) ([] : List SpanM) ⟨x.pos, x.len⟩ hR hs hm w _ h) (fun y => ?_)) | (refine G.isRegion 13 ?_; refine G.pure (fun w hw => ?_); obtain ⟨hc1, hc2⟩ := owns_cells hw; refine G.drawW [⟨none, [], some 20, none, fun _ => True, fun _ => blk cb (.cells #[.slice none 0 0, .int .i64 x.gen, .map (some rb)] 161 (0, 0))⟩, ⟨some 20, [0], none, none, fun _ => True, fun _ => blk cb (.cells #[y.2, .int .i64 x.gen, .map (some rb)] 161 (0, 0))⟩, ⟨none, [], some 21, none, fun _ => True, fun _ => imap encI rb ([] : List (Int × Int))⟩, ⟨some 21, [2], some 23, some 102, IsEntry, fun u => imapHole encI rb ([] : List (Int × Int)) x.pos (stampV u)⟩, ⟨some 23, [3], none, none, fun _ => True, fun _ => imap encI rb (alSet ([] : List (Int × Int)) x.pos x.region)⟩, ⟨none, [], some 24, none, fun _ => True, fun _ => imap encC mb M⟩, ⟨some 24, [5], some 26, some 104, IsEntry, fun u => imapHole encC mb M x.chunk (stampV u)⟩, ⟨some 26, [6], none, none, fun _ => True, fun _ => imap encC mb (alSet M x.chunk (cb, (⟨x.gen, ([] : List SpanM).take y.1.1 ++ [⟨x.pos, x.len⟩] ++ ([] : List SpanM).drop y.1.1, alSet ([] : List (Int × Int)) x.pos x.region⟩ : ChM)))⟩] [(4, [0])] [0, 2, 5] [1, 4, 7] (by kernel_rfl) (by kernel_rfl) rfl ⟨⟨_, rfl, .inl rfl⟩, ⟨_, rfl, .inl rfl⟩, ⟨_, rfl, .inl rfl⟩, trivial⟩ ?_) | (apply GW.isAny; first | refine GW.runA rfl rfl ?_ | refine GW.seeA rfl rfl ⟨⟨_, rfl, .inl rfl⟩, trivial⟩ rfl ?_) | (apply GW.isAny; refine GW.store rfl rfl rfl rfl rfl ⟨⟨_, rfl, .inl rfl⟩, trivial⟩ rfl trivial rfl (DoesW.storeBlk (R := fun _ => True) rfl rfl (by first | rfl | assumption) (by first | rfl | assumption) rfl rfl) ?_) | (apply GW.isAny; refine GW.eff rfl rfl rfl rfl rfl ⟨⟨_, rfl, .inl rfl⟩, trivial⟩ rfl trivial (fun u hu => hu.defd) (DoesW.mapEntry rfl rfl) rfl (fun u hu => ?_); obtain ⟨u0, s0, rfl⟩ := hu) | (apply GW.isAny; refine GW.store rfl rfl rfl rfl rfl ⟨⟨_, rfl, .inr (.inr ⟨_, _, rfl, rfl, rfl⟩)⟩, trivial⟩ rfl trivial rfl (DoesW.entryStore (x.region) rfl rfl rfl rfl) ?_) | (apply GW.isAny; refine GW.store rfl rfl rfl rfl rfl ⟨⟨_, rfl, .inr (.inr ⟨_, _, rfl, rfl, rfl⟩)⟩, trivial⟩ rfl trivial rfl (DoesW.entryStore ((cb, (⟨x.gen, ([] : List SpanM).take y.1.1 ++ [⟨x.pos, x.len⟩] ++ ([] : List SpanM).drop y.1.1, alSet ([] : List (Int × Int)) x.pos x.region⟩ : ChM))) rfl rfl rfl rfl) ?_) | (refine GW.nilE rfl ⟨⟨_, rfl, .inr (.inl rfl)⟩, ⟨_, rfl, .inr (.inl rfl)⟩, ⟨_, rfl, .inr (.inl rfl)⟩, trivial⟩ ?_) | first | (apply GL.isCall; refine GL.call1 rfl rfl (fun w h => handle_Put _ _ _ _ w _ h) ?_) | (apply GD.isAny; refine GD.call rfl rfl (fun w F' h => handle_Put _ _ _ _ w _ h) ?_)) | first | (apply GL.isAny; first | refine GL.runA rfl ?_ | (apply GL.isStore; first | refine GL.storeBlk rfl rfl rfl rfl rfl ?_ | refine GL.storeWhole rfl rfl rfl rfl rfl ?_ | refine GL.storeBlkA rfl rfl rfl rfl rfl ?_) | refine GL.guardY rfl rfl ?_ | refine GL.guardN rfl rfl rfl ?_ | refine GL.guardU rfl rfl rfl ?_ | (apply GL.isBox; first | refine GL.boxA rfl rfl (fun _ => ?_) | refine GL.box1 rfl rfl rfl (fun _ => ?_) | refine GL.box rfl rfl (fun _ => ?_)) | (apply GL.isBuildS; first | refine GL.buildSlice1A rfl rfl rfl rfl rfl (fun _ => ?_) | refine GL.buildSlice1 rfl rfl rfl rfl rfl (fun _ => ?_)) | (apply GL.isCall; refine GL.append1 _ rfl rfl rfl rfl (by rfl) (by omega) (by omega) rfl (fun _ => ?_)) | (apply GL.isAlloc; refine GL.alloc rfl (fun _ => ?_))) | apply GL.nil | first | apply G.seq | apply G.region | apply G.block | apply G.skip | apply G.exit | apply G.ret | (apply G.isCond; first | refine G.condT rfl ?_ | refine G.condF rfl ?_) | refine G.draw (by kernel_rfl) (by kernel_rfl) ?_ | (apply GE.isAny; first | apply GE.again | apply GE.thenG | apply GE.blockN | apply GE.blockE | apply GE.thenE | apply GE.thenR | apply GE.blockR | refine GE.blockO rfl ?_ | apply GE.only) | (apply GD.isAny; first | refine GD.runA rfl ?_ | refine GD.guardY rfl rfl ?_ | refine GD.guardN rfl rfl rfl ?_ | refine GD.guardU rfl rfl rfl ?_) | apply GD.nilE | apply GD.nilL | (apply GT.isAny; refine GT.runA rfl rfl ?_) | ((first | (apply GL.isAny; refine GL.guard rfl rfl (fun hc => ?_) (fun hc => ?_)) | (apply G.isCond; refine G.cond rfl (fun hc => ?_) (fun hc => ?_)) | (apply GD.isAny; refine GD.guard rfl rfl (fun hc => ?_) (fun hc => ?_))) <;> ((try simp only [decide_eq_true_eq, decide_eq_false_iff_not, Bool.not_true, Bool.not_false, ne_eq, Classical.not_not, Int.not_lt, Int.not_le] at hc); (try (exfalso; first | omega | exact hc trivial | exact hc rfl)))))
  all_goals first
    | (exfalso; exact hc trivial)
    | (exfalso; exact hc rfl)
    | (exfalso; revert hc; simp only [*]; decide)
    | skip
  refine GE.resMany rfl (by (repeat (first | apply Res.nil | (apply Res.tmp; rfl) | (refine Res.cellA rfl rfl rfl ?_) | (refine Res.cell1 rfl rfl ?_)))) (fun w h => ?_)
  have h1 : holds w (blk cb (.cells #[y.2, .int .i64 x.gen, .map (some rb)] 161 (0, 0)) :: imap encI rb (alSet ([] : List (Int × Int)) x.pos x.region) :: imap encC mb (alSet M x.chunk (cb, ⟨x.gen, ([] : List SpanM).take y.1.1 ++ [⟨x.pos, x.len⟩] ++ ([] : List SpanM).drop y.1.1, alSet ([] : List (Int × Int)) x.pos x.region⟩)) :: owns 165 encSp 2 y.2 (([] : List SpanM).take y.1.1 ++ [⟨x.pos, x.len⟩] ++ ([] : List SpanM).drop y.1.1) :: blk _ (.cells (encLaid x).toArray 57 (0, 0)) :: owns 165 encSp 2 (.slice none 0 0) ([] : List SpanM) :: blk p (.cells #[.map (some mb)] 154 (0, 0)) :: sep (M.map chH) :: F) := h
  generalize hc' : (⟨x.gen, ([] : List SpanM).take y.1.1 ++ [⟨x.pos, x.len⟩] ++ ([] : List SpanM).drop y.1.1, alSet ([] : List (Int × Int)) x.pos x.region⟩ : ChM) = c' at h1 ⊢
  have hq' : alGet (alSet M x.chunk (cb, c')) x.chunk = some (cb, c') := by rw [alGet_set, if_pos rfl]
  have h2 := chunk_close (M := alSet M x.chunk (cb, c')) hq' (y := (y.2, rb)) (F := blk p (.cells #[.map (some mb)] 154 (0, 0)) :: imap encC mb (alSet M x.chunk (cb, c')) :: F) (by rw [alDel_set, hdel]; subst hc'; exact h1.sub)
  have h3 := liv_close (p := p) (mb := mb) (M := alSet M x.chunk (cb, c')) (F := F) h2.sub
  subst hc'
  exact ⟨(cb, y.1), by rw [hput], h3⟩
theorem Lv.old_none {M : LvM} {i : Int} (h : alGet M i = none) : Lv.old M i = ([], []) := by unfold Lv.old; rw [h]
theorem Lv.old_some {M : LvM} {i : Int} {q : Nat × ChM} (h : alGet M i = some q) : Lv.old M i = (q.2.sp, q.2.reg) := by unfold Lv.old; rw [h]
theorem live_Add (p : Nat) (M : LvM) (hM : Lv.Ok M) (x : LaidM) (w : World) (F : List HProp) (hw : holds w (livP p M :: F)) :
    Ct Tryz.prog 27 #[.pointer (some ⟨p, 0, none⟩), .agg (encLaid x).toArray] w fun e w' => ∃ r : {r : LvM × Int × Int // Lv.IsAdd M x r}, e = .returned (.tuple #[.int .i64 r.1.2.1, .int .i64 r.1.2.2]) ∧ holds w' (livP p r.1.1 :: F) := by
  by_cases hb : Live.Bad x
  · exact (live_Add_bad p M x hb w F hw).mono fun e w' h => ⟨⟨_, .bad hb⟩, h⟩
  have hg := Lv.good_of_not_bad hb
  cases hq : alGet M x.chunk with
  | none =>
    refine (live_Add_new p M hM x hg hq w F hw).mono fun e w' h => ?_
    obtain ⟨k, h1, h2⟩ := h
    have hA : Lv.Adds M x (alSet M x.chunk (k.1, ⟨x.gen, ([] : List SpanM).take k.2.1 ++ [⟨x.pos, x.len⟩] ++ ([] : List SpanM).drop k.2.1, alSet [] x.pos x.region⟩)) := ⟨fun q' h => (by rw [hq] at h; cases h), fun q' h => (by rw [hq] at h; cases h), by rw [Lv.old_none hq]; exact ⟨k.1, k.2.1, k.2.2, rfl⟩⟩
    exact ⟨⟨_, .yes hb _ hA⟩, h1, h2⟩
  | some q =>
    by_cases h1 : q.2.gen = x.gen
    · by_cases h2 : ∃ (i : Nat) (hi : i < q.2.sp.length), Spn.Meet q.2.sp[i] ⟨x.pos, x.len⟩
      · obtain ⟨i, hi, hm⟩ := h2
        exact (live_Add_twice p M hM x hg q hq h1 i hi hm w F hw).mono fun e w' h => ⟨⟨_, .twice hb q hq h1 i hi hm⟩, h⟩
      · have hm : ∀ (i : Nat) (hi : i < q.2.sp.length), ¬ Spn.Meet q.2.sp[i] ⟨x.pos, x.len⟩ := fun i hi h => h2 ⟨i, hi, h⟩
        refine (live_Add_in p M hM x hg q hq h1 hm w F hw).mono fun e w' h => ?_
        obtain ⟨k, h3, h4⟩ := h
        have hA : Lv.Adds M x (alSet M x.chunk (q.1, ⟨x.gen, q.2.sp.take k.1 ++ [⟨x.pos, x.len⟩] ++ q.2.sp.drop k.1, alSet q.2.reg x.pos x.region⟩)) := ⟨fun q' h => (by rw [hq] at h; cases h; exact h1), fun q' h => (by rw [hq] at h; cases h; exact hm), by rw [Lv.old_some hq]; exact ⟨q.1, k.1, k.2, rfl⟩⟩
        exact ⟨⟨_, .yes hb _ hA⟩, h3, h4⟩
    · exact (live_Add_old p M hM x hg q hq h1 w F hw).mono fun e w' h => ⟨⟨_, .old hb q hq h1⟩, h⟩
end Go.Proofs.YtipkgamiejenaaaGreat

/- Contracts for the laws of chapter 41: the reference's Add, at any piece; the program's tellers, of what the reference tells. -/
namespace Go.Proofs.YtipkgamiejenaaaGreat
open Go Go.RowKit Go.MapKept
set_option linter.unusedVariables false
set_option linter.unusedSimpArgs false
set_option maxRecDepth 100000
set_option maxHeartbeats 4000000

theorem Hdl.put_lt (k c g o : Int) (hk : k ≤ 3) : (Hdl.put k c g o).1 < 4611686018427387904 := by
  unfold Hdl.put
  split
  · simp
  · split
    · simp
    · unfold Hdl.Beyond at *; simp only; omega
section
variable {M : LvM} {l : List LaidM} (p : Nat) (hI : Lv.Inv M l)
include hI
end
end Go.Proofs.YtipkgamiejenaaaGreat

/- The laws of chapter 42: what is plain; the reference's Add, told more exactly; the chapter's example. -/
namespace Go.Proofs.YtipkgamiejenaaaGreat
open Go Go.RowKit Go.MapKept
set_option linter.unusedVariables false
set_option linter.unusedSectionVars false
set_option linter.unusedSimpArgs false
set_option maxRecDepth 100000
set_option maxHeartbeats 4000000
theorem Lv.Inv.fits {M : LvM} {l : List LaidM} (h : Lv.Inv M l) (x : Int) : Me.Fits (Live.find l x) := by
  intro h0
  unfold Live.find at h0 ⊢
  split at h0
  · simp at h0
  · rename_i hk
    rw [if_neg hk]
    cases hg : l.find? (fun y => decide (Live.Is (Hdl.get x).place (Hdl.get x).gen (Hdl.get x).off y)) with
    | none => rw [hg] at h0; simp at h0
    | some y =>
      have := h.good y (List.mem_of_find?_eq_some hg)
      obtain ⟨_, _, p0, l0, _⟩ := this
      exact ⟨⟨p0.1, by dsimp only; omega⟩, by dsimp only; omega, l0.2⟩
theorem Lv.Inv.fits2 {M : LvM} {l : List LaidM} (h : Lv.Inv M l) (x : Int) : Me.Fits (Lv.find M x) := by rw [h.find]; exact h.fits x
def AddV (l : List LaidM) (x : LaidM) (v : Value) (r : (List LaidM × Int × Int) × Value) : Prop := Lv.RefAdd l x r.1 ∧ (r.1.2.2 ≠ 0 → r.2 = v ∧ r.1.1 = l)
namespace Me
def y0 : LaidM := ⟨0, 0, 0, 16, 8⟩
def H0 : Int := 3458764513820540944
def w1 : St.S := (St.take (St.new 1 64) 1).1
def w2 : St.S := (write w1 (y0, 0) 5 [97, 98, 99]).1
theorem g0 : ¬ Live.Bad y0 := Lv.bad_of_not_good ⟨by decide, by decide, by decide, by decide, by decide⟩
theorem ref0 : Lv.RefAdd [] y0 ([y0], H0, 0) := by
  have h := Lv.RefAdd.yes (l := []) (x := y0) g0 (fun j h => by simp at h) (fun j h => by simp at h) 0 (Live.IsPlace.zero _ _)
  have e : (Hdl.put 3 y0.chunk y0.gen y0.pos).1 = H0 := by decide
  rw [e] at h
  exact h
theorem find0 : Live.find [y0] H0 = (y0, 0) := by decide
theorem wr1 : write w1 (y0, 0) 6 [97, 98, 99] = (w1, 15) := rfl
theorem wr2 : (write w1 (y0, 0) 5 [97, 98, 99]).2 = 0 := by decide +kernel
theorem rd1 : (read w2 (y0, 0) 4 4).1 = [0, 97, 98, 99] ∧ (read w2 (y0, 0) 4 4).2 = 0 := by decide +kernel
theorem rm1 : room (y0, 0) 5 = 3 := by decide
theorem i0 : St.Inv (St.new 1 64) 0 := St.Inv.new 1 64 (by omega) (by omega)
theorem i1 : St.Inv w1 1 := i0.take 1
theorem write_inv {t : St.S} {K : Nat} (h : St.Inv t K) (f : LaidM × Int) (o : Int) (s : List UInt8) : St.Inv (write t f o s).1 (K + 1) := by
  unfold write
  split
  · exact h.put _ _ _ _
  · exact h.mono (by omega)
theorem i2 : St.Inv w2 2 := write_inv i1 _ _ _
end Me
theorem law42_works (w : World) (F : List HProp) (hw : holds w F) :
    Ct Tryz.prog 24 #[] w fun e w' => e = .returned (.bool true) ∧ holds w' F := by
  refine Ct.go (args := []) Tryz.func24 rfl rfl rfl hw ?_
  have cT := fun (sb : Nat) w (F : List HProp) h => store_Take sb (St.new 1 64) 0 Me.i0 (by omega) 1 w F h
  rw [show (St.take (St.new 1 64) 1).1 = Me.w1 from rfl] at cT
  repeat' (first | (first | (apply GL.isCall; refine GL.call (vs := [.int .i64 ((1 : Nat) : Int), .int .i64 ((64 : Nat) : Int)]) rfl rfl (fun w h => store_Make 1 64 (by omega) (by omega) (by omega) (by omega) (by kernel_rfl) w _ h) (fun sb => ?_)) | (apply GL.isCall; refine GL.callH1 (storeP sb (St.new 1 64)) (vs := [.pointer (some ⟨sb, 0, none⟩), .int .i64 1]) rfl rfl (fun w h => cT sb w _ h) ?_) | (apply GL.isCall; refine GL.call rfl rfl (fun w h => live_New w _ h) (fun p => ?_))) | first | (apply GL.isAny; first | refine GL.runA rfl ?_ | (apply GL.isStore; first | refine GL.storeBlk rfl rfl rfl rfl rfl ?_ | refine GL.storeWhole rfl rfl rfl rfl rfl ?_ | refine GL.storeBlkA rfl rfl rfl rfl rfl ?_) | refine GL.guardY rfl rfl ?_ | refine GL.guardN rfl rfl rfl ?_ | refine GL.guardU rfl rfl rfl ?_ | (apply GL.isBox; first | refine GL.boxA rfl rfl (fun _ => ?_) | refine GL.box1 rfl rfl rfl (fun _ => ?_) | refine GL.box rfl rfl (fun _ => ?_)) | (apply GL.isBuildS; first | refine GL.buildSlice1A rfl rfl rfl rfl rfl (fun _ => ?_) | refine GL.buildSlice1 rfl rfl rfl rfl rfl (fun _ => ?_)) | (apply GL.isCall; refine GL.append1 _ rfl rfl rfl rfl (by rfl) (by omega) (by omega) rfl (fun _ => ?_)) | (apply GL.isAlloc; refine GL.alloc rfl (fun _ => ?_))) | apply GL.nil | first | apply G.seq | apply G.region | apply G.block | apply G.skip | apply G.exit | apply G.ret | (apply G.isCond; first | refine G.condT rfl ?_ | refine G.condF rfl ?_) | refine G.draw (by kernel_rfl) (by kernel_rfl) ?_ | (apply GE.isAny; first | apply GE.again | apply GE.thenG | apply GE.blockN | apply GE.blockE | apply GE.thenE | apply GE.thenR | apply GE.blockR | refine GE.blockO rfl ?_ | apply GE.only) | (apply GD.isAny; first | refine GD.runA rfl ?_ | refine GD.guardY rfl rfl ?_ | refine GD.guardN rfl rfl rfl ?_ | refine GD.guardU rfl rfl rfl ?_) | apply GD.nilE | apply GD.nilL | (apply GT.isAny; refine GT.runA rfl rfl ?_) | ((first | (apply GL.isAny; refine GL.guard rfl rfl (fun hc => ?_) (fun hc => ?_)) | (apply G.isCond; refine G.cond rfl (fun hc => ?_) (fun hc => ?_)) | (apply GD.isAny; refine GD.guard rfl rfl (fun hc => ?_) (fun hc => ?_))) <;> ((try simp only [decide_eq_true_eq, decide_eq_false_iff_not, Bool.not_true, Bool.not_false, ne_eq, Classical.not_not, Int.not_lt, Int.not_le] at hc); (try (exfalso; first | omega | exact hc trivial | exact hc rfl)))))
  apply GL.isAny
  (apply GL.isCall; refine GL.callH (livP p []) (vs := [.pointer (some ⟨p, 0, none⟩), .agg (encLaid Me.y0).toArray]) rfl rfl (fun w h => live_Add p [] Lv.Inv.nil.ok Me.y0 w _ h) (fun r => ?_))
  obtain ⟨⟨M1, a1, e1⟩, hr⟩ := r
  obtain ⟨hI1, he⟩ := Lv.Inv.nil.step hr Me.ref0
  simp only [Prod.mk.injEq] at hI1 he
  obtain ⟨rfl, rfl⟩ := he
  dsimp only
  have hfd : Lv.find M1 Me.H0 = (Me.y0, 0) := by rw [hI1.find]; exact Me.find0
  have c1 := fun w (F : List HProp) h => mem_Write sb Me.w1 1 Me.i1 (by omega) p M1 hI1.ok Me.H0 (by decide) (hI1.fits2 _) 6 [97, 98, 99] (by simp) w F h
  have c2 := fun w (F : List HProp) h => mem_Write sb Me.w1 1 Me.i1 (by omega) p M1 hI1.ok Me.H0 (by decide) (hI1.fits2 _) 5 [97, 98, 99] (by simp) w F h
  have c3 := fun w (F : List HProp) h => mem_Read sb Me.w2 2 Me.i2 (by omega) p M1 hI1.ok Me.H0 (by decide) (hI1.fits2 _) 4 4 w F h
  have c4 := fun w (F : List HProp) h => mem_Room Me.w1 1 Me.i1 (by omega) p M1 hI1.ok Me.H0 (by decide) (hI1.fits2 _) 5 w F h
  rw [hfd, Me.wr1] at c1
  rw [hfd, Me.wr2, show (Me.write Me.w1 (Me.y0, 0) 5 [97, 98, 99]).1 = Me.w2 from rfl] at c2
  rw [hfd, Me.rd1.1, Me.rd1.2] at c3
  rw [hfd, Me.rm1] at c4
  dsimp only at c1
  repeat' (first | (first | (apply GL.isAny; refine GL.run (Runs.strEqR (l := [0, 97, 98, 99]) rfl rfl) rfl ?_) | (apply GL.isCall; refine GL.callHH1 (storeP sb (Me.w1)) (livP p M1) (vs := [.pointer (some ⟨sb, 0, none⟩), .pointer (some ⟨p, 0, none⟩), .int .i64 Me.H0, .int .i64 6, .string (bs [97, 98, 99])]) rfl rfl (fun w h => c1 w _ h) ?_) | (apply GL.isCall; refine GL.callHH1 (storeP sb (Me.w1)) (livP p M1) (vs := [.pointer (some ⟨sb, 0, none⟩), .pointer (some ⟨p, 0, none⟩), .int .i64 Me.H0, .int .i64 5, .string (bs [97, 98, 99])]) rfl rfl (fun w h => c2 w _ h) ?_) | (apply GL.isCall; refine GL.callHH1 (storeP sb (Me.w2)) (livP p M1) (vs := [.pointer (some ⟨sb, 0, none⟩), .pointer (some ⟨p, 0, none⟩), .int .i64 Me.H0, .int .i64 4, .int .i64 4]) rfl rfl (fun w h => c3 w _ h) ?_) | (apply GL.isCall; refine GL.callH1 (livP p M1) (vs := [.pointer (some ⟨p, 0, none⟩), .int .i64 Me.H0, .int .i64 5]) rfl rfl (fun w h => c4 w _ h) ?_)) | first | (apply GL.isAny; first | refine GL.runA rfl ?_ | (apply GL.isStore; first | refine GL.storeBlk rfl rfl rfl rfl rfl ?_ | refine GL.storeWhole rfl rfl rfl rfl rfl ?_ | refine GL.storeBlkA rfl rfl rfl rfl rfl ?_) | refine GL.guardY rfl rfl ?_ | refine GL.guardN rfl rfl rfl ?_ | refine GL.guardU rfl rfl rfl ?_ | (apply GL.isBox; first | refine GL.boxA rfl rfl (fun _ => ?_) | refine GL.box1 rfl rfl rfl (fun _ => ?_) | refine GL.box rfl rfl (fun _ => ?_)) | (apply GL.isBuildS; first | refine GL.buildSlice1A rfl rfl rfl rfl rfl (fun _ => ?_) | refine GL.buildSlice1 rfl rfl rfl rfl rfl (fun _ => ?_)) | (apply GL.isCall; refine GL.append1 _ rfl rfl rfl rfl (by rfl) (by omega) (by omega) rfl (fun _ => ?_)) | (apply GL.isAlloc; refine GL.alloc rfl (fun _ => ?_))) | apply GL.nil | first | apply G.seq | apply G.region | apply G.block | apply G.skip | apply G.exit | apply G.ret | (apply G.isCond; first | refine G.condT rfl ?_ | refine G.condF rfl ?_) | refine G.draw (by kernel_rfl) (by kernel_rfl) ?_ | (apply GE.isAny; first | apply GE.again | apply GE.thenG | apply GE.blockN | apply GE.blockE | apply GE.thenE | apply GE.thenR | apply GE.blockR | refine GE.blockO rfl ?_ | apply GE.only) | (apply GD.isAny; first | refine GD.runA rfl ?_ | refine GD.guardY rfl rfl ?_ | refine GD.guardN rfl rfl rfl ?_ | refine GD.guardU rfl rfl rfl ?_) | apply GD.nilE | apply GD.nilL | (apply GT.isAny; refine GT.runA rfl rfl ?_) | ((first | (apply GL.isAny; refine GL.guard rfl rfl (fun hc => ?_) (fun hc => ?_)) | (apply G.isCond; refine G.cond rfl (fun hc => ?_) (fun hc => ?_)) | (apply GD.isAny; refine GD.guard rfl rfl (fun hc => ?_) (fun hc => ?_))) <;> ((try simp only [decide_eq_true_eq, decide_eq_false_iff_not, Bool.not_true, Bool.not_false, ne_eq, Classical.not_not, Int.not_lt, Int.not_le] at hc); (try (exfalso; first | omega | exact hc trivial | exact hc rfl)))))
  all_goals (first | (exfalso; simp at hc; done) | skip)
  all_goals (refine GE.resOne rfl (by (repeat (first | apply Res.nil | (apply Res.tmp; rfl) | (refine Res.cellA rfl rfl rfl ?_) | (refine Res.cell1 rfl rfl ?_)))) (fun w h => ?_); exact ⟨rfl, h.sub⟩)
end Go.Proofs.YtipkgamiejenaaaGreat

/- The law MemoryApart of chapter 42: what is plain. -/
namespace Go.Proofs.YtipkgamiejenaaaGreat
open Go Go.RowKit Go.MapKept
set_option linter.unusedVariables false
namespace Ma
abbrev mk (q : Nat × Nat) : LaidM := ⟨0, 0, 0, q.1, q.2⟩
def hd (p : Nat) : Int := (Hdl.put 3 0 0 p).1
theorem hd_lt (p : Nat) : hd p < 9223372036854775808 := by have := Hdl.put_lt 3 0 0 p (by omega); unfold hd; omega
theorem get_hd (p : Nat) (hp : p < 1048576) : Hdl.get (hd p) = ⟨3, 0, 0, p, true⟩ := by
  have e : hd p = 3458764513820540928 + p := by
    unfold hd; rw [Hdl.put_y (by omega) (by unfold Hdl.Beyond; omega)]; dsimp only; omega
  rw [e, Hdl.get_y (by omega)]
  have a1 : (3458764513820540928 + (p : Int)) / 1152921504606846976 = 3 := by omega
  have a2 : (3458764513820540928 + (p : Int)) / 1099511627776 % 1048576 = 0 := by omega
  have a3 : (3458764513820540928 + (p : Int)) / 1048576 % 1048576 = 0 := by omega
  have a4 : (3458764513820540928 + (p : Int)) % 1048576 = p := by omega
  rw [a1, a2, a3, a4]
structure Ok (A : List (Nat × Nat)) (e : Nat) : Prop where
  apart : A.Pairwise (fun a b => a.1 + a.2 ≤ b.1)
  in_ : ∀ q ∈ A, 1 ≤ q.2 ∧ q.2 ≤ 20 ∧ q.1 + q.2 ≤ e
theorem Ok.nil : Ok [] 0 := ⟨.nil, by simp⟩
theorem Ok.snoc {A : List (Nat × Nat)} {e n : Nat} (h : Ok A e) (hn : 1 ≤ n ∧ n ≤ 20) (g : Nat) : Ok (A ++ [(e, n)]) (e + n + g) := by
  refine ⟨?_, fun q hq => ?_⟩
  · rw [List.pairwise_append]
    refine ⟨h.apart, List.pairwise_singleton _ _, fun a ha b hb => ?_⟩
    rw [List.mem_singleton.1 hb]
    exact (h.in_ a ha).2.2
  · rcases List.mem_append.1 hq with h1 | h1
    · have := h.in_ q h1; omega
    · rw [List.mem_singleton.1 h1]; dsimp only; omega
theorem Ok.sub {A : List (Nat × Nat)} {e : Nat} (h : Ok A e) : Ok (A.filter fun q => decide (q.1 + q.2 ≤ 256)) e := ⟨h.apart.sublist List.filter_sublist, fun q hq => h.in_ q (List.mem_filter.1 hq).1⟩
theorem good (q : Nat × Nat) (h : q.1 ≤ 1000 ∧ 1 ≤ q.2 ∧ q.2 ≤ 20) : Lv.Good (mk q) := ⟨by simp, by simp, by simp; omega, by simp; omega, by simp⟩
theorem ref {A : List (Nat × Nat)} {e n : Nat} (h : Ok A e) (he : e ≤ 1000) (hn : 1 ≤ n ∧ n ≤ 20) : Lv.RefAdd (A.map mk) (mk (e, n)) ((A ++ [(e, n)]).map mk, hd e, 0) := by
  have hm : ∀ (j : Nat) (hj : j < (A.map mk).length), ∃ q ∈ A, (A.map mk)[j] = mk q := fun j hj => by
    have hj' : j < A.length := by simpa using hj
    exact ⟨A[j], List.getElem_mem _, by simp⟩
  have h1 := Lv.RefAdd.yes (l := A.map mk) (x := mk (e, n)) (Lv.bad_of_not_good (good (e, n) ⟨he, hn⟩)) (fun j hj => by
    obtain ⟨q, hq, e1⟩ := hm j hj
    rw [e1]; simp [Live.Old]) (fun j hj => by
    obtain ⟨q, hq, e1⟩ := hm j hj
    rw [e1]
    have := h.in_ q hq
    simp only [Live.Twice, Spn.Meet, not_and]
    intro _; omega) (A.map mk).length ⟨Nat.le_refl _, fun j hj hj2 _ => hj2, fun hj h0 => by
    obtain ⟨q, hq, e1⟩ := hm _ hj
    rw [e1]
    have := h.in_ q hq
    exact .inr ⟨rfl, by dsimp only; omega⟩⟩
  rw [List.take_length, List.drop_length, List.append_nil] at h1
  have e2 : A.map mk ++ [mk (e, n)] = (A ++ [(e, n)]).map mk := by simp
  rw [e2] at h1
  exact h1
theorem find {A : List (Nat × Nat)} {e : Nat} (h : Ok A e) (he : e ≤ 1000) (q : Nat × Nat) (hq : q ∈ A) : Live.find (A.map mk) (hd q.1) = (mk q, 0) := by
  have hb := h.in_ q hq
  unfold Live.find
  rw [get_hd q.1 (by omega), if_neg (by simp)]
  obtain ⟨k, hk, rfl⟩ := List.getElem_of_mem hq
  have hkl : k < (A.map mk).length := by simpa using hk
  have h2 := Live.hit (P := fun y => Live.Is 0 0 ((A[k]).1 : Int) y) (l := A.map mk) k hkl (by simp [Live.Is]) (fun j hj hjk => by
    have hj' : j < A.length := by simpa using hj
    have h3 := List.pairwise_iff_getElem.1 h.apart j k hj' hk hjk
    have h4 := h.in_ A[j] (List.getElem_mem _)
    simp [Live.Is]; omega)
  dsimp only
  rw [h2]
  simp
/-- The store: its one chunk has these bytes. -/
def T (b : List UInt8) : St.S := { (St.take (St.new 1 256) 1).1 with tx := [b] }
theorem i1 : St.Inv (St.take (St.new 1 256) 1).1 1 := (St.Inv.new 1 256 (by omega) (by omega)).take 1
theorem T0 : T (St.zeros 256) = (St.take (St.new 1 256) 1).1 := rfl
theorem splice_all {α : Type} (a b : List α) (h : a.length = b.length) : By.splice a 0 b = b := by
  unfold By.splice; rw [List.take_zero, List.nil_append, List.drop_eq_nil_of_le (by omega), List.append_nil]
theorem T_put (b : List UInt8) (h : b.length = 256) (p : Nat) (s : List UInt8) (hp : p + s.length ≤ 256) : St.put (T b) 0 0 p s = (T (By.splice b p s), 0) := by
  unfold St.put
  have h1 : ¬ (T b).out 0 := by show ¬ ((0 : Int) < 0 ∨ ((1 : Nat) : Int) ≤ 0); omega
  have h2 : ¬ St.stale (T b) 0 0 := by show ¬ ((1 : Int) ≠ 1 ∨ (0 : Int) ≠ 0); omega
  have h3 : ¬ St.off ((T b).x 0) p s.length := by show ¬ ((p : Int) < 0 ∨ ((s.length : Nat) : Int) < 0 ∨ ((b.length : Nat) : Int) < p + s.length); omega
  rw [if_neg h1, if_neg h2, if_neg h3, Int.toNat_natCast]
  rfl
theorem T_load (b : List UInt8) (h : b.length = 256) (p n : Nat) (hp : p + n ≤ 256) : St.load (T b) 0 0 p n = ((b.drop p).take n, 0) := by
  unfold St.load
  have h1 : ¬ (T b).out 0 := by show ¬ ((0 : Int) < 0 ∨ ((1 : Nat) : Int) ≤ 0); omega
  have h2 : ¬ St.stale (T b) 0 0 := by show ¬ ((1 : Int) ≠ 1 ∨ (0 : Int) ≠ 0); omega
  have h3 : ¬ St.off ((T b).x 0) p n := by show ¬ ((p : Int) < 0 ∨ (n : Int) < 0 ∨ ((b.length : Nat) : Int) < p + n); omega
  rw [if_neg h1, if_neg h2, if_neg h3, Int.toNat_natCast, Int.toNat_natCast]
  rfl
theorem T_inv (b : List UInt8) (h : b.length = 256) : St.Inv (T b) 2 := by
  have h1 := i1.put 0 0 ((0 : Nat) : Int) b
  rw [← T0, T_put (St.zeros 256) (List.length_replicate ..) 0 b (by omega)] at h1
  rwa [splice_all (St.zeros 256) b (by rw [h]; exact List.length_replicate ..)] at h1
theorem write (b : List UInt8) (h : b.length = 256) (q : Nat × Nat) (hq : q.1 + q.2 ≤ 256 ∧ q.2 ≤ 20) (o : Nat) (s : List UInt8) (hs : o + s.length ≤ q.2) : Me.write (T b) (mk q, 0) o s = (T (By.splice b (q.1 + o) s), 0) := by
  have hc : Me.chk (mk q, 0) o s.length = 0 := by
    unfold Me.chk
    rw [if_neg (by simp), if_neg (by omega), if_neg (by dsimp only; omega)]
  unfold Me.write
  rw [if_pos hc]
  have := T_put b h (q.1 + o) s (by omega)
  rw [Int.natCast_add] at this
  exact this
theorem read (b : List UInt8) (h : b.length = 256) (q : Nat × Nat) (hq : q.1 + q.2 ≤ 256 ∧ q.2 ≤ 20) (o n : Nat) (hs : o + n ≤ q.2) : Me.read (T b) (mk q, 0) o n = ((b.drop (q.1 + o)).take n, 0) := by
  have hc : Me.chk (mk q, 0) o n = 0 := by
    unfold Me.chk
    rw [if_neg (by simp), if_neg (by omega), if_neg (by dsimp only; omega)]
  unfold Me.read
  rw [if_pos hc]
  have := T_load b h (q.1 + o) n (by omega)
  rw [Int.natCast_add] at this
  exact this
/-- All bytes of the pieces ahead of i, and those ahead of j of this one, are 'x'. -/
def Filled (b : List UInt8) (Q : List (Nat × Nat)) (i j : Nat) : Prop := ∀ (a : Nat) (h : a < Q.length) (c : Nat), (a < i ∨ a = i ∧ c < j) → c < (Q[a]).2 → b[(Q[a]).1 + c]? = some 120
theorem Filled.zero (b : List UInt8) (Q : List (Nat × Nat)) : Filled b Q 0 0 := fun a h c hc _ => by omega
theorem Filled.next {b : List UInt8} {Q : List (Nat × Nat)} {i : Nat} (hi : i < Q.length) (h : Filled b Q i (Q[i]).2) : Filled b Q (i + 1) 0 := fun a ha c hc hcl => by
  refine h a ha c ?_ hcl
  rcases Nat.lt_or_ge a i with h1 | h1
  · exact .inl h1
  · obtain rfl : a = i := by omega
    exact .inr ⟨rfl, hcl⟩
theorem Filled.step {b : List UInt8} (hb : b.length = 256) {Q : List (Nat × Nat)} {i j : Nat} (hi : i < Q.length) (hj : j < (Q[i]).2) (hq : (Q[i]).1 + (Q[i]).2 ≤ 256) (h : Filled b Q i j) : Filled (By.splice b ((Q[i]).1 + j) [120]) Q i (j + 1) := fun a ha c hc hcl => by
  rw [By.splice_at _ _ _ (by simp; omega)]
  by_cases e : (Q[a]).1 + c = (Q[i]).1 + j
  · rw [e, if_neg (by omega), if_pos (by simp)]; simp
  · have hk : b[(Q[a]).1 + c]? = some 120 := h a ha c (by
      rcases hc with hc | ⟨rfl, hc⟩
      · exact .inl hc
      · exact .inr ⟨rfl, by omega⟩) hcl
    split
    · exact hk
    · rw [if_neg (by simp; omega)]; exact hk
theorem take1 {b : List UInt8} {p : Nat} {y : UInt8} (h : b[p]? = some y) : (b.drop p).take 1 = [y] := by
  obtain ⟨hp, rfl⟩ := List.getElem?_eq_some_iff.1 h
  rw [List.drop_eq_getElem_cons hp]; rfl
theorem own {b : List UInt8} (hb : b.length = 256) (p : Nat) (u : List UInt8) (hp : p + u.length ≤ 256) : ((By.splice b p u).drop p).take u.length = u := by
  unfold By.splice
  rw [List.append_assoc, List.drop_append_of_le_length (by simp; omega), List.drop_eq_nil_of_le (by simp; omega), List.nil_append]
  simp
theorem other {b : List UInt8} (hb : b.length = 256) {Q : List (Nat × Nat)} {e : Nat} (hQ : Ok Q e) (hin : ∀ q ∈ Q, q.1 + q.2 ≤ 256) (hf : Filled b Q Q.length 0) {x i c : Nat} (hx : x < Q.length) (hi : i < Q.length) (u : List UInt8) (hu : u.length ≤ (Q[x]).2) (hc : c < (Q[i]).2) (hne : i ≠ x ∨ c < (Q[x]).2 - u.length) :
    ((By.splice b ((Q[x]).1 + ((Q[x]).2 - u.length)) u).drop ((Q[i]).1 + c)).take 1 = [120] := by
  have hqx := hin _ (List.getElem_mem hx)
  refine take1 ?_
  rw [By.splice_at _ _ _ (by omega)]
  have hk := hf i hi c (.inl hi) hc
  split
  · exact hk
  · rename_i h1
    rw [if_neg ?_]
    · exact hk
    · intro h2
      rcases Nat.lt_trichotomy i x with h3 | h3 | h3
      · have := List.pairwise_iff_getElem.1 hQ.apart i x hi hx h3; omega
      · subst h3; omega
      · have := List.pairwise_iff_getElem.1 hQ.apart x i hx hi h3; omega
end Ma
end Go.Proofs.YtipkgamiejenaaaGreat

/- The law MemoryPlays of chapter 42. -/
namespace Go.Proofs.YtipkgamiejenaaaGreat
open Go Go.RowKit Go.MapKept
set_option linter.unusedVariables false
set_option linter.unusedSectionVars false
set_option linter.unusedSimpArgs false
set_option maxRecDepth 100000
set_option maxHeartbeats 4000000
structure MpA where
  call : Int
  who : Int
  off : Int
  n : Int
  ld : LaidM
  tx : List UInt8
def encMpA (a : MpA) : List Value := [.int .i64 a.call, .int .i64 a.who, .int .i64 a.off, .int .i64 a.n, .int .i64 a.ld.chunk, .int .i64 a.ld.gen, .int .i64 a.ld.region, .int .i64 a.ld.pos, .int .i64 a.ld.len, .string (bs a.tx)]
instance : Enc encMpA 10 := ⟨fun _ => rfl, fun _ => by simp [encMpA, Value.oneCell'], by omega⟩
structure MpS where
  i : Nat
  t : St.S
  q : RfM
  M : LvM
  l : List LaidM
  lv : Value
  all : List Int
  av : Value
section
variable {P : Program} {n : Nat} {env : Env} {F : List HProp} {xT yT : TypeId} {x y : Operand}
theorem Runs.strNeR {l : List UInt8} (hx : opnd env x = some (.string (bs l))) (hy : opnd env y = some (.string (bs l))) : Runs P n env F (.binOp .neq xT x y yT) (.bool false) := by
  have := Runs.strNe (P := P) (n := n) (F := F) (xT := xT) (yT := yT) hx hy
  rwa [decide_eq_false (by simp)] at this
end
def Me.Ok (k : Nat) (y : MpS) : Prop := St.Inv y.t (k + 3) ∧ Lv.Inv y.M y.l ∧ y.l.length ≤ k ∧ y.all.length ≤ k ∧ ∀ h ∈ y.all, h < 9223372036854775808
end Go.Proofs.YtipkgamiejenaaaGreat

/- Contracts of package live where the pieces are none that New gave. -/
namespace Go.Proofs.YtipkgamiejenaaaGreat
open Go Go.RowKit Go.MapKept
set_option linter.unusedVariables false
set_option linter.unusedSimpArgs false
set_option maxRecDepth 100000
set_option maxHeartbeats 4000000

abbrev zliv (p : Nat) : HProp := blk p (.cells #[.map none] 154 (0, 0))
theorem nlive_Find (x : Int) (w : World) (F : List HProp) (hw : holds w F) :
    Ct Tryz.prog 92 #[.pointer none, .int .i64 x] w fun e w' => e = .returned (.tuple #[.agg #[.int .i64 0, .int .i64 0, .int .i64 0, .int .i64 0, .int .i64 0], .int .i64 16]) ∧ holds w' F := by
  refine Ct.go (args := [.pointer none, .int .i64 x]) Tryz.func92 rfl rfl rfl hw ?_
  repeat' (first | (first | (apply GL.isCall; refine GL.call1 rfl rfl (fun w h => live_is_nil w _ h) ?_) | (apply GD.isAny; refine GD.call rfl rfl (fun w F' h => live_is_nil w _ h) ?_)) | first | (apply GL.isAny; first | refine GL.runA rfl ?_ | (apply GL.isStore; first | refine GL.storeBlk rfl rfl rfl rfl rfl ?_ | refine GL.storeWhole rfl rfl rfl rfl rfl ?_ | refine GL.storeBlkA rfl rfl rfl rfl rfl ?_) | refine GL.guardY rfl rfl ?_ | refine GL.guardN rfl rfl rfl ?_ | refine GL.guardU rfl rfl rfl ?_ | (apply GL.isBox; first | refine GL.boxA rfl rfl (fun _ => ?_) | refine GL.box1 rfl rfl rfl (fun _ => ?_) | refine GL.box rfl rfl (fun _ => ?_)) | (apply GL.isBuildS; first | refine GL.buildSlice1A rfl rfl rfl rfl rfl (fun _ => ?_) | refine GL.buildSlice1 rfl rfl rfl rfl rfl (fun _ => ?_)) | (apply GL.isCall; refine GL.append1 _ rfl rfl rfl rfl (by rfl) (by omega) (by omega) rfl (fun _ => ?_)) | (apply GL.isAlloc; refine GL.alloc rfl (fun _ => ?_))) | apply GL.nil | first | apply G.seq | apply G.region | apply G.block | apply G.skip | apply G.exit | apply G.ret | (apply G.isCond; first | refine G.condT rfl ?_ | refine G.condF rfl ?_) | refine G.draw (by kernel_rfl) (by kernel_rfl) ?_ | (apply GE.isAny; first | apply GE.again | apply GE.thenG | apply GE.blockN | apply GE.blockE | apply GE.thenE | apply GE.thenR | apply GE.blockR | refine GE.blockO rfl ?_ | apply GE.only) | (apply GD.isAny; first | refine GD.runA rfl ?_ | refine GD.guardY rfl rfl ?_ | refine GD.guardN rfl rfl rfl ?_ | refine GD.guardU rfl rfl rfl ?_) | apply GD.nilE | apply GD.nilL | (apply GT.isAny; refine GT.runA rfl rfl ?_) | ((first | (apply GL.isAny; refine GL.guard rfl rfl (fun hc => ?_) (fun hc => ?_)) | (apply G.isCond; refine G.cond rfl (fun hc => ?_) (fun hc => ?_)) | (apply GD.isAny; refine GD.guard rfl rfl (fun hc => ?_) (fun hc => ?_))) <;> ((try simp only [decide_eq_true_eq, decide_eq_false_iff_not, Bool.not_true, Bool.not_false, ne_eq, Classical.not_not, Int.not_lt, Int.not_le] at hc); (try (exfalso; first | omega | exact hc trivial | exact hc rfl)))))
  refine GE.resMany rfl (by (repeat (first | apply Res.nil | (apply Res.tmp; rfl) | (refine Res.cellA rfl rfl rfl ?_) | (refine Res.cell1 rfl rfl ?_)))) (fun w h => ?_)
  exact ⟨rfl, h.sub⟩
end Go.Proofs.YtipkgamiejenaaaGreat
