import Derived.Test.YtipkgamiejenaaaGreatLvPl
import Derived.Test.YtipkgamiejenaaaGreatMg8
import Derived.Test.YtipkgamiejenaaaGreatMg6
import Derived.Test.YtipkgamiejenaaaGreatMg24
/- Contracts of package live: Add. -/
namespace Go.Proofs.YtipkgamiejenaaaGreat
open Go Go.RowKit Go.MapKept
set_option linter.unusedVariables false
set_option linter.unusedSimpArgs false
set_option maxRecDepth 100000
set_option maxHeartbeats 4000000

theorem live_Add_bad (p : Nat) (M : LvM) (x : LaidM) (hx : Live.Bad x) (w : World) (F : List HProp) (hw : holds w (livP p M :: F)) :
    Ct Tryz.prog 27 #[.pointer (some ⟨p, 0, none⟩), .agg (encLaid x).toArray] w fun e w' => e = .returned (.tuple #[.int .i64 0, .int .i64 2]) ∧ holds w' (livP p M :: F) := by
  have hb : ¬ (0 ≤ x.chunk ∧ x.chunk ≤ 1048575) ∨ ¬ (0 ≤ x.gen ∧ x.gen ≤ 1048575) ∨ ¬ (0 ≤ x.pos ∧ x.pos ≤ 1048575) ∨ x.len < 1 ∨ 1048576 < x.len ∨ x.region < 0 := Classical.byContradiction fun hc => by
    simp only [not_or, Classical.not_not] at hc
    exact absurd hx (Lv.bad_of_not_good ⟨hc.1, hc.2.1, hc.2.2.1, by omega, by omega⟩)
  clear hx
  refine Ct.go (args := [.pointer (some ⟨p, 0, none⟩), .agg (encLaid x).toArray]) Tryz.func27 rfl rfl rfl hw ?_
  refine G.case (fun mb => ?_) (fun w h => liv_open h)
  repeat' (first | (first | first | (apply qab; refine qbg rfl rfl (fun w h => live_is p (some mb) w _ h) ?_) | (apply qad; refine GD.call rfl rfl (fun w F' h => live_is p (some mb) w _ h) ?_) | first | (apply qab; refine qbg rfl rfl (fun w h => live_small _ w _ h) ?_) | (apply qad; refine GD.call rfl rfl (fun w F' h => live_small _ w _ h) ?_)) | first | (apply qae; first | refine qa8 rfl ?_ | (apply qak; first | refine qaj rfl rfl rfl rfl rfl ?_ | refine qaf rfl rfl rfl rfl rfl ?_ | refine qag rfl rfl rfl rfl rfl ?_) | refine qan rfl rfl ?_ | refine qap rfl rfl rfl ?_ | refine qao rfl rfl rfl ?_ | (apply qax; first | refine qa6 rfl rfl (fun _ => ?_) | refine qa7 rfl rfl rfl (fun _ => ?_) | refine GL.box rfl rfl (fun _ => ?_)) | (apply qai; first | refine qaa rfl rfl rfl rfl rfl (fun _ => ?_) | refine qac rfl rfl rfl rfl rfl (fun _ => ?_)) | (apply qab; refine qam _ rfl rfl rfl rfl (by rfl) (by omega) (by omega) rfl (fun _ => ?_)) | (apply qal; refine GL.alloc rfl (fun _ => ?_))) | apply GL.nil | first | apply G.seq | apply G.region | apply G.block | apply G.skip | apply G.exit | apply G.ret | (apply qah; first | refine qbe rfl ?_ | refine qbf rfl ?_) | refine qbj (by kernel_rfl) (by kernel_rfl) ?_ | (apply qa4; first | apply qa5 | apply qa2 | apply qas | apply qat | apply qa3 | apply qa1 | apply qaq | refine qar rfl ?_ | apply qba) | (apply qad; first | refine qbb rfl ?_ | refine qau rfl rfl ?_ | refine qaw rfl rfl rfl ?_ | refine qav rfl rfl rfl ?_) | apply qbd | apply qbc | (apply qa0; refine qa9 rfl rfl ?_) | ((first | (apply qae; refine GL.guard rfl rfl (fun hc => ?_) (fun hc => ?_)) | (apply qah; refine G.cond rfl (fun hc => ?_) (fun hc => ?_)) | (apply qad; refine GD.guard rfl rfl (fun hc => ?_) (fun hc => ?_))) <;> ((try simp only [decide_eq_true_eq, decide_eq_false_iff_not, Bool.not_true, Bool.not_false, ne_eq, Classical.not_not, Int.not_lt, Int.not_le] at hc); (try (exfalso; first | omega | exact hc trivial | exact hc rfl)))))
  all_goals first
    | (exfalso; simp only [Bool.not_eq_false', decide_eq_true_eq] at *; omega)
    | (refine qbh rfl (by (repeat (first | apply Res.nil | (apply Res.tmp; rfl) | (refine qay rfl rfl rfl ?_) | (refine qaz rfl rfl ?_)))) (fun w h => ?_); exact ⟨rfl, liv_close (mb := mb) h.sub⟩)
theorem live_Add_old (p : Nat) (M : LvM) (hM : Lv.Ok M) (x : LaidM) (hx : Lv.Good x) (q : Nat × ChM) (hq : alGet M x.chunk = some q) (hg : ¬ q.2.gen = x.gen) (w : World) (F : List HProp) (hw : holds w (livP p M :: F)) :
    Ct Tryz.prog 27 #[.pointer (some ⟨p, 0, none⟩), .agg (encLaid x).toArray] w fun e w' => e = .returned (.tuple #[.int .i64 0, .int .i64 4]) ∧ holds w' (livP p M :: F) := by
  obtain ⟨⟨c0, c1⟩, ⟨g0, g1⟩, ⟨p0, p1⟩, ⟨l0, l1⟩, r0⟩ := hx
  obtain ⟨cb, c⟩ := q
  have d1 : decide (0 ≤ x.chunk ∧ x.chunk ≤ 1048575) = true := by simp; omega
  have d2 : decide (0 ≤ x.gen ∧ x.gen ≤ 1048575) = true := by simp; omega
  have d3 : decide (0 ≤ x.pos ∧ x.pos ≤ 1048575) = true := by simp; omega
  simp only at hg
  refine Ct.go (args := [.pointer (some ⟨p, 0, none⟩), .agg (encLaid x).toArray]) Tryz.func27 rfl rfl rfl hw ?_
  refine G.case (fun mb => ?_) (fun w h => liv_open h)
  refine G.case (F' := fun y : Value × Nat => blk cb (.cells #[y.1, .int .i64 c.gen, .map (some y.2)] 161 (0, 0)) :: owns 165 encSp 2 y.1 c.sp :: imap encI y.2 c.reg :: sep ((alDel M x.chunk).map chH) :: blk p (.cells #[.map (some mb)] 154 (0, 0)) :: imap encC mb M :: F) (fun ⟨v, rb⟩ => ?_) (fun w h => chunk_open hq h.sub)
  dsimp only
  repeat' (first | (first | first | (apply qab; refine qbg rfl rfl (fun w h => live_is p (some mb) w _ h) ?_) | (apply qad; refine GD.call rfl rfl (fun w F' h => live_is p (some mb) w _ h) ?_) | first | (apply qae; refine GL.run (by (apply qbl; first | exact qbo rfl rfl | exact qbm rfl rfl (by assumption) | exact qbn rfl rfl (by assumption))) rfl ?_) | (apply qad; refine GD.run (by (apply qbl; first | exact qbo rfl rfl | exact qbm rfl rfl (by assumption) | exact qbn rfl rfl (by assumption))) rfl ?_) | first | (apply qab; refine qbg rfl rfl (fun w h => live_small _ w _ h) ?_) | (apply qad; refine GD.call rfl rfl (fun w F' h => live_small _ w _ h) ?_)) | first | (apply qae; first | refine qa8 rfl ?_ | (apply qak; first | refine qaj rfl rfl rfl rfl rfl ?_ | refine qaf rfl rfl rfl rfl rfl ?_ | refine qag rfl rfl rfl rfl rfl ?_) | refine qan rfl rfl ?_ | refine qap rfl rfl rfl ?_ | refine qao rfl rfl rfl ?_ | (apply qax; first | refine qa6 rfl rfl (fun _ => ?_) | refine qa7 rfl rfl rfl (fun _ => ?_) | refine GL.box rfl rfl (fun _ => ?_)) | (apply qai; first | refine qaa rfl rfl rfl rfl rfl (fun _ => ?_) | refine qac rfl rfl rfl rfl rfl (fun _ => ?_)) | (apply qab; refine qam _ rfl rfl rfl rfl (by rfl) (by omega) (by omega) rfl (fun _ => ?_)) | (apply qal; refine GL.alloc rfl (fun _ => ?_))) | apply GL.nil | first | apply G.seq | apply G.region | apply G.block | apply G.skip | apply G.exit | apply G.ret | (apply qah; first | refine qbe rfl ?_ | refine qbf rfl ?_) | refine qbj (by kernel_rfl) (by kernel_rfl) ?_ | (apply qa4; first | apply qa5 | apply qa2 | apply qas | apply qat | apply qa3 | apply qa1 | apply qaq | refine qar rfl ?_ | apply qba) | (apply qad; first | refine qbb rfl ?_ | refine qau rfl rfl ?_ | refine qaw rfl rfl rfl ?_ | refine qav rfl rfl rfl ?_) | apply qbd | apply qbc | (apply qa0; refine qa9 rfl rfl ?_) | ((first | (apply qae; refine GL.guard rfl rfl (fun hc => ?_) (fun hc => ?_)) | (apply qah; refine G.cond rfl (fun hc => ?_) (fun hc => ?_)) | (apply qad; refine GD.guard rfl rfl (fun hc => ?_) (fun hc => ?_))) <;> ((try simp only [decide_eq_true_eq, decide_eq_false_iff_not, Bool.not_true, Bool.not_false, ne_eq, Classical.not_not, Int.not_lt, Int.not_le] at hc); (try (exfalso; first | omega | exact hc trivial | exact hc rfl)))))
  all_goals first
    | (exfalso; revert hc; simp only [*]; decide)
    | skip
  all_goals
    refine qbh rfl (by (repeat (first | apply Res.nil | (apply Res.tmp; rfl) | (refine qay rfl rfl rfl ?_) | (refine qaz rfl rfl ?_)))) (fun w h => ?_)
    have h3 := liv_close (mb := mb) (p := p) (M := M) (F := F) (chunk_close hq (y := (v, rb)) (F := blk p (.cells #[.map (some mb)] 154 (0, 0)) :: imap encC mb M :: F) h.sub).sub
    exact ⟨rfl, h3⟩
theorem live_Add_twice (p : Nat) (M : LvM) (hM : Lv.Ok M) (x : LaidM) (hx : Lv.Good x) (q : Nat × ChM) (hq : alGet M x.chunk = some q) (hg : q.2.gen = x.gen) (i : Nat) (hi : i < q.2.sp.length) (hm : Spn.Meet q.2.sp[i] ⟨x.pos, x.len⟩) (w : World) (F : List HProp) (hw : holds w (livP p M :: F)) :
    Ct Tryz.prog 27 #[.pointer (some ⟨p, 0, none⟩), .agg (encLaid x).toArray] w fun e w' => e = .returned (.tuple #[.int .i64 0, .int .i64 19]) ∧ holds w' (livP p M :: F) := by
  have hs := Lv.SpOk.of_good hx
  obtain ⟨⟨c0, c1⟩, ⟨g0, g1⟩, ⟨p0, p1⟩, ⟨l0, l1⟩, r0⟩ := hx
  have hR := hM.right _ _ hq
  obtain ⟨cb, c⟩ := q
  have d1 : decide (0 ≤ x.chunk ∧ x.chunk ≤ 1048575) = true := by simp; omega
  have d2 : decide (0 ≤ x.gen ∧ x.gen ≤ 1048575) = true := by simp; omega
  have d3 : decide (0 ≤ x.pos ∧ x.pos ≤ 1048575) = true := by simp; omega
  simp only at hg hi hm hR
  refine Ct.go (args := [.pointer (some ⟨p, 0, none⟩), .agg (encLaid x).toArray]) Tryz.func27 rfl rfl rfl hw ?_
  refine G.case (fun mb => ?_) (fun w h => liv_open h)
  refine G.case (F' := fun y : Value × Nat => blk cb (.cells #[y.1, .int .i64 c.gen, .map (some y.2)] 161 (0, 0)) :: owns 165 encSp 2 y.1 c.sp :: imap encI y.2 c.reg :: sep ((alDel M x.chunk).map chH) :: blk p (.cells #[.map (some mb)] 154 (0, 0)) :: imap encC mb M :: F) (fun ⟨v, rb⟩ => ?_) (fun w h => chunk_open hq h.sub)
  dsimp only
  repeat' (first | (first | (refine qbk 10 ?_; refine G.drawTailX 10 [(13, 12), (14, 13)] (by kernel_rfl) (by simp only [List.take_succ_cons, List.take_zero]; rfl) (by simp only [List.drop_succ_cons, List.drop_zero]; rfl) (by kernel_rfl) ?_) | first | (apply qab; refine qbg rfl rfl (fun w h => live_is p (some mb) w _ h) ?_) | (apply qad; refine GD.call rfl rfl (fun w F' h => live_is p (some mb) w _ h) ?_) | first | (apply qae; refine GL.run (by (apply qbl; first | exact qbo rfl rfl | exact qbm rfl rfl (by assumption) | exact qbn rfl rfl (by assumption))) rfl ?_) | (apply qad; refine GD.run (by (apply qbl; first | exact qbo rfl rfl | exact qbm rfl rfl (by assumption) | exact qbn rfl rfl (by assumption))) rfl ?_) | first | (apply qab; refine qbg rfl rfl (fun w h => live_small _ w _ h) ?_) | (apply qad; refine GD.call rfl rfl (fun w F' h => live_small _ w _ h) ?_) | (apply qab; refine qbg (vs := [v, .agg (encSp ⟨x.pos, x.len⟩).toArray]) rfl rfl (fun w h => spans_Add_no v c.sp ⟨x.pos, x.len⟩ hR hs i hi hm w _ h) ?_)) | first | (apply qae; first | refine qa8 rfl ?_ | (apply qak; first | refine qaj rfl rfl rfl rfl rfl ?_ | refine qaf rfl rfl rfl rfl rfl ?_ | refine qag rfl rfl rfl rfl rfl ?_) | refine qan rfl rfl ?_ | refine qap rfl rfl rfl ?_ | refine qao rfl rfl rfl ?_ | (apply qax; first | refine qa6 rfl rfl (fun _ => ?_) | refine qa7 rfl rfl rfl (fun _ => ?_) | refine GL.box rfl rfl (fun _ => ?_)) | (apply qai; first | refine qaa rfl rfl rfl rfl rfl (fun _ => ?_) | refine qac rfl rfl rfl rfl rfl (fun _ => ?_)) | (apply qab; refine qam _ rfl rfl rfl rfl (by rfl) (by omega) (by omega) rfl (fun _ => ?_)) | (apply qal; refine GL.alloc rfl (fun _ => ?_))) | apply GL.nil | first | apply G.seq | apply G.region | apply G.block | apply G.skip | apply G.exit | apply G.ret | (apply qah; first | refine qbe rfl ?_ | refine qbf rfl ?_) | refine qbj (by kernel_rfl) (by kernel_rfl) ?_ | (apply qa4; first | apply qa5 | apply qa2 | apply qas | apply qat | apply qa3 | apply qa1 | apply qaq | refine qar rfl ?_ | apply qba) | (apply qad; first | refine qbb rfl ?_ | refine qau rfl rfl ?_ | refine qaw rfl rfl rfl ?_ | refine qav rfl rfl rfl ?_) | apply qbd | apply qbc | (apply qa0; refine qa9 rfl rfl ?_) | ((first | (apply qae; refine GL.guard rfl rfl (fun hc => ?_) (fun hc => ?_)) | (apply qah; refine G.cond rfl (fun hc => ?_) (fun hc => ?_)) | (apply qad; refine GD.guard rfl rfl (fun hc => ?_) (fun hc => ?_))) <;> ((try simp only [decide_eq_true_eq, decide_eq_false_iff_not, Bool.not_true, Bool.not_false, ne_eq, Classical.not_not, Int.not_lt, Int.not_le] at hc); (try (exfalso; first | omega | exact hc trivial | exact hc rfl)))))
  all_goals first
    | (exfalso; revert hc; simp only [*]; decide)
    | skip
  all_goals
    refine qbh rfl (by (repeat (first | apply Res.nil | (apply Res.tmp; rfl) | (refine qay rfl rfl rfl ?_) | (refine qaz rfl rfl ?_)))) (fun w h => ?_)
    have h3 := liv_close (mb := mb) (p := p) (M := M) (F := F) (chunk_close hq (y := (v, rb)) (F := blk p (.cells #[.map (some mb)] 154 (0, 0)) :: imap encC mb M :: F) h.sub).sub
    exact ⟨rfl, h3⟩
theorem alDel_set {β : Type} (k : Int) (v : β) : ∀ m : List (Int × β), alDel (alSet m k v) k = alDel m k
  | [] => by simp [alSet, alDel]
  | (k', v') :: m => by
    unfold alSet
    split
    · rename_i e; subst e; simp [alDel]
    · rename_i e; simp only [alDel, if_neg e, alDel_set k v m]
theorem live_Add_in (p : Nat) (M : LvM) (hM : Lv.Ok M) (x : LaidM) (hx : Lv.Good x) (q : Nat × ChM) (hq : alGet M x.chunk = some q) (hg : q.2.gen = x.gen) (hm : ∀ (i : Nat) (hi : i < q.2.sp.length), ¬ Spn.Meet q.2.sp[i] ⟨x.pos, x.len⟩) (w : World) (F : List HProp) (hw : holds w (livP p M :: F)) :
    Ct Tryz.prog 27 #[.pointer (some ⟨p, 0, none⟩), .agg (encLaid x).toArray] w fun e w' => ∃ k : {k : Nat // Spn.IsLow q.2.sp x.pos k}, e = .returned (.tuple #[.int .i64 (Hdl.put 3 x.chunk x.gen x.pos).1, .int .i64 0]) ∧ holds w' (livP p (alSet M x.chunk (q.1, ⟨x.gen, q.2.sp.take k.1 ++ [⟨x.pos, x.len⟩] ++ q.2.sp.drop k.1, alSet q.2.reg x.pos x.region⟩)) :: F) := by
  have hs := Lv.SpOk.of_good hx
  have hput : (Hdl.put 3 x.chunk x.gen x.pos).2 = 0 := by have := Lv.bad_of_not_good hx; simp only [Live.Bad, not_or, Classical.not_not] at this; exact this.1
  obtain ⟨⟨c0, c1⟩, ⟨g0, g1⟩, ⟨p0, p1⟩, ⟨l0, l1⟩, r0⟩ := hx
  have hR := hM.right _ _ hq
  obtain ⟨cb, c⟩ := q
  have d1 : decide (0 ≤ x.chunk ∧ x.chunk ≤ 1048575) = true := by simp; omega
  have d2 : decide (0 ≤ x.gen ∧ x.gen ≤ 1048575) = true := by simp; omega
  have d3 : decide (0 ≤ x.pos ∧ x.pos ≤ 1048575) = true := by simp; omega
  simp only at hg hm hR
  refine Ct.go (args := [.pointer (some ⟨p, 0, none⟩), .agg (encLaid x).toArray]) Tryz.func27 rfl rfl rfl hw ?_
  refine G.case (fun mb => ?_) (fun w h => liv_open h)
  refine G.case (F' := fun y : Value × Nat => blk cb (.cells #[y.1, .int .i64 c.gen, .map (some y.2)] 161 (0, 0)) :: owns 165 encSp 2 y.1 c.sp :: imap encI y.2 c.reg :: sep ((alDel M x.chunk).map chH) :: blk p (.cells #[.map (some mb)] 154 (0, 0)) :: imap encC mb M :: F) (fun ⟨v, rb⟩ => ?_) (fun w h => chunk_open hq h.sub)
  dsimp only
  repeat' (first | (first | (refine qbk 10 ?_; refine G.drawTailX 10 [(13, 12), (14, 13)] (by kernel_rfl) (by simp only [List.take_succ_cons, List.take_zero]; rfl) (by simp only [List.drop_succ_cons, List.drop_zero]; rfl) (by kernel_rfl) ?_) | first | (apply qab; refine qbg rfl rfl (fun w h => live_is p (some mb) w _ h) ?_) | (apply qad; refine GD.call rfl rfl (fun w F' h => live_is p (some mb) w _ h) ?_) | first | (apply qae; refine GL.run (by (apply qbl; first | exact qbo rfl rfl | exact qbm rfl rfl (by assumption) | exact qbn rfl rfl (by assumption))) rfl ?_) | (apply qad; refine GD.run (by (apply qbl; first | exact qbo rfl rfl | exact qbm rfl rfl (by assumption) | exact qbn rfl rfl (by assumption))) rfl ?_) | first | (apply qab; refine qbg rfl rfl (fun w h => live_small _ w _ h) ?_) | (apply qad; refine GD.call rfl rfl (fun w F' h => live_small _ w _ h) ?_) | (apply qab; refine GL.call (vs := [v, .agg (encSp ⟨x.pos, x.len⟩).toArray]) rfl rfl (fun w h => spans_Add_yes v c.sp ⟨x.pos, x.len⟩ hR hs hm w _ h) (fun y => ?_)) | (refine qbk 13 ?_; refine G.pure (fun w hw => ?_); obtain ⟨hc1, hc2⟩ := owns_cells hw; refine G.drawW [⟨none, [], some 20, none, fun _ => True, fun _ => blk cb (.cells #[v, .int .i64 c.gen, .map (some rb)] 161 (0, 0))⟩, ⟨some 20, [0], none, none, fun _ => True, fun _ => blk cb (.cells #[y.2, .int .i64 c.gen, .map (some rb)] 161 (0, 0))⟩, ⟨none, [], some 21, none, fun _ => True, fun _ => imap encI rb c.reg⟩, ⟨some 21, [2], some 23, some 102, IsEntry, fun u => imapHole encI rb c.reg x.pos (stampV u)⟩, ⟨some 23, [3], none, none, fun _ => True, fun _ => imap encI rb (alSet c.reg x.pos x.region)⟩, ⟨none, [], some 24, none, fun _ => True, fun _ => imap encC mb M⟩, ⟨some 24, [5], some 26, some 104, IsEntry, fun u => imapHole encC mb M x.chunk (stampV u)⟩, ⟨some 26, [6], none, none, fun _ => True, fun _ => imap encC mb (alSet M x.chunk (cb, (⟨x.gen, c.sp.take y.1.1 ++ [⟨x.pos, x.len⟩] ++ c.sp.drop y.1.1, alSet c.reg x.pos x.region⟩ : ChM)))⟩] [(4, [0])] [0, 2, 5] [1, 4, 7] (by kernel_rfl) (by kernel_rfl) rfl ⟨⟨_, rfl, .inl rfl⟩, ⟨_, rfl, .inl rfl⟩, ⟨_, rfl, .inl rfl⟩, trivial⟩ ?_) | (apply GW.isAny; first | refine GW.runA rfl rfl ?_ | refine GW.seeA rfl rfl ⟨⟨_, rfl, .inl rfl⟩, trivial⟩ rfl ?_) | (apply GW.isAny; refine GW.store rfl rfl rfl rfl rfl ⟨⟨_, rfl, .inl rfl⟩, trivial⟩ rfl trivial rfl (DoesW.storeBlk (R := fun _ => True) rfl rfl (by first | rfl | assumption) (by first | rfl | assumption) rfl rfl) ?_) | (apply GW.isAny; refine GW.eff rfl rfl rfl rfl rfl ⟨⟨_, rfl, .inl rfl⟩, trivial⟩ rfl trivial (fun u hu => hu.defd) (DoesW.mapEntry rfl rfl) rfl (fun u hu => ?_); obtain ⟨u0, s0, rfl⟩ := hu) | (apply GW.isAny; refine GW.store rfl rfl rfl rfl rfl ⟨⟨_, rfl, .inr (.inr ⟨_, _, rfl, rfl, rfl⟩)⟩, trivial⟩ rfl trivial rfl (DoesW.entryStore (x.region) rfl rfl rfl rfl) ?_) | (apply GW.isAny; refine GW.store rfl rfl rfl rfl rfl ⟨⟨_, rfl, .inr (.inr ⟨_, _, rfl, rfl, rfl⟩)⟩, trivial⟩ rfl trivial rfl (DoesW.entryStore ((cb, (⟨x.gen, c.sp.take y.1.1 ++ [⟨x.pos, x.len⟩] ++ c.sp.drop y.1.1, alSet c.reg x.pos x.region⟩ : ChM))) rfl rfl rfl rfl) ?_) | (refine GW.nilE rfl ⟨⟨_, rfl, .inr (.inl rfl)⟩, ⟨_, rfl, .inr (.inl rfl)⟩, ⟨_, rfl, .inr (.inl rfl)⟩, trivial⟩ ?_) | first | (apply qab; refine qbg rfl rfl (fun w h => handle_Put _ _ _ _ w _ h) ?_) | (apply qad; refine GD.call rfl rfl (fun w F' h => handle_Put _ _ _ _ w _ h) ?_)) | first | (apply qae; first | refine qa8 rfl ?_ | (apply qak; first | refine qaj rfl rfl rfl rfl rfl ?_ | refine qaf rfl rfl rfl rfl rfl ?_ | refine qag rfl rfl rfl rfl rfl ?_) | refine qan rfl rfl ?_ | refine qap rfl rfl rfl ?_ | refine qao rfl rfl rfl ?_ | (apply qax; first | refine qa6 rfl rfl (fun _ => ?_) | refine qa7 rfl rfl rfl (fun _ => ?_) | refine GL.box rfl rfl (fun _ => ?_)) | (apply qai; first | refine qaa rfl rfl rfl rfl rfl (fun _ => ?_) | refine qac rfl rfl rfl rfl rfl (fun _ => ?_)) | (apply qab; refine qam _ rfl rfl rfl rfl (by rfl) (by omega) (by omega) rfl (fun _ => ?_)) | (apply qal; refine GL.alloc rfl (fun _ => ?_))) | apply GL.nil | first | apply G.seq | apply G.region | apply G.block | apply G.skip | apply G.exit | apply G.ret | (apply qah; first | refine qbe rfl ?_ | refine qbf rfl ?_) | refine qbj (by kernel_rfl) (by kernel_rfl) ?_ | (apply qa4; first | apply qa5 | apply qa2 | apply qas | apply qat | apply qa3 | apply qa1 | apply qaq | refine qar rfl ?_ | apply qba) | (apply qad; first | refine qbb rfl ?_ | refine qau rfl rfl ?_ | refine qaw rfl rfl rfl ?_ | refine qav rfl rfl rfl ?_) | apply qbd | apply qbc | (apply qa0; refine qa9 rfl rfl ?_) | ((first | (apply qae; refine GL.guard rfl rfl (fun hc => ?_) (fun hc => ?_)) | (apply qah; refine G.cond rfl (fun hc => ?_) (fun hc => ?_)) | (apply qad; refine GD.guard rfl rfl (fun hc => ?_) (fun hc => ?_))) <;> ((try simp only [decide_eq_true_eq, decide_eq_false_iff_not, Bool.not_true, Bool.not_false, ne_eq, Classical.not_not, Int.not_lt, Int.not_le] at hc); (try (exfalso; first | omega | exact hc trivial | exact hc rfl)))))
  all_goals first
    | (exfalso; revert hc; simp only [*]; decide)
    | skip
  refine qbh rfl (by (repeat (first | apply Res.nil | (apply Res.tmp; rfl) | (refine qay rfl rfl rfl ?_) | (refine qaz rfl rfl ?_)))) (fun w h => ?_)
  have h1 : holds w (blk cb (.cells #[y.2, .int .i64 c.gen, .map (some rb)] 161 (0, 0)) :: imap encI rb (alSet c.reg x.pos x.region) :: imap encC mb (alSet M x.chunk (cb, ⟨x.gen, c.sp.take y.1.1 ++ [⟨x.pos, x.len⟩] ++ c.sp.drop y.1.1, alSet c.reg x.pos x.region⟩)) :: owns 165 encSp 2 y.2 (c.sp.take y.1.1 ++ [⟨x.pos, x.len⟩] ++ c.sp.drop y.1.1) :: blk _ (.cells (encLaid x).toArray 57 (0, 0)) :: owns 165 encSp 2 v c.sp :: sep ((alDel M x.chunk).map chH) :: blk p (.cells #[.map (some mb)] 154 (0, 0)) :: F) := h
  rw [hg] at h1
  generalize hc' : (⟨x.gen, c.sp.take y.1.1 ++ [⟨x.pos, x.len⟩] ++ c.sp.drop y.1.1, alSet c.reg x.pos x.region⟩ : ChM) = c' at h1 ⊢
  have hq' : alGet (alSet M x.chunk (cb, c')) x.chunk = some (cb, c') := by rw [alGet_set, if_pos rfl]
  have h2 := chunk_close (M := alSet M x.chunk (cb, c')) hq' (y := (y.2, rb)) (F := blk p (.cells #[.map (some mb)] 154 (0, 0)) :: imap encC mb (alSet M x.chunk (cb, c')) :: F) (by rw [alDel_set]; subst hc'; exact h1.sub)
  have h3 := liv_close (p := p) (mb := mb) (M := alSet M x.chunk (cb, c')) (F := F) h2.sub
  subst hc'
  exact ⟨y.1, by rw [hput], h3⟩
theorem live_Add_new (p : Nat) (M : LvM) (hM : Lv.Ok M) (x : LaidM) (hx : Lv.Good x) (hq : alGet M x.chunk = none) (w : World) (F : List HProp) (hw : holds w (livP p M :: F)) :
    Ct Tryz.prog 27 #[.pointer (some ⟨p, 0, none⟩), .agg (encLaid x).toArray] w fun e w' => ∃ k : Nat × {k : Nat // Spn.IsLow [] x.pos k}, e = .returned (.tuple #[.int .i64 (Hdl.put 3 x.chunk x.gen x.pos).1, .int .i64 0]) ∧ holds w' (livP p (alSet M x.chunk (k.1, ⟨x.gen, ([] : List SpanM).take k.2.1 ++ [⟨x.pos, x.len⟩] ++ ([] : List SpanM).drop k.2.1, alSet [] x.pos x.region⟩)) :: F) := by
  have hs := Lv.SpOk.of_good hx
  have hput : (Hdl.put 3 x.chunk x.gen x.pos).2 = 0 := by have := Lv.bad_of_not_good hx; simp only [Live.Bad, not_or, Classical.not_not] at this; exact this.1
  obtain ⟨⟨c0, c1⟩, ⟨g0, g1⟩, ⟨p0, p1⟩, ⟨l0, l1⟩, r0⟩ := hx
  have hR : SpR [] := ⟨fun i h => absurd h (Nat.not_lt_zero i), fun i j _ h => absurd h (Nat.not_lt_zero j), by simp⟩
  have hm : ∀ (i : Nat) (hi : i < ([] : List SpanM).length), ¬ Spn.Meet ([] : List SpanM)[i] ⟨x.pos, x.len⟩ := fun i hi => absurd hi (Nat.not_lt_zero i)
  have d1 : decide (0 ≤ x.chunk ∧ x.chunk ≤ 1048575) = true := by simp; omega
  have d2 : decide (0 ≤ x.gen ∧ x.gen ≤ 1048575) = true := by simp; omega
  have d3 : decide (0 ≤ x.pos ∧ x.pos ≤ 1048575) = true := by simp; omega
  have hdel : alDel M x.chunk = M := by
    apply (alFind_none x.chunk M ?_).2.2
    unfold alGet at hq
    simpa using hq
  refine Ct.go (args := [.pointer (some ⟨p, 0, none⟩), .agg (encLaid x).toArray]) Tryz.func27 rfl rfl rfl hw ?_
  refine G.case (fun mb => ?_) (fun w h => liv_open h)
  refine G.nilOwn 165 encSp 2 ?_
  repeat' (first | (first | (apply qae; apply qax; refine qa6 (cs := #[.slice none 0 0, .int .i64 x.gen, .map (some rb)]) rfl rfl (fun cb => ?_)) | (refine GL.makeMap encI rfl (fun rb => ?_)) | (refine qbk 10 ?_; refine G.drawTailX 10 [(13, 12), (14, 13)] (by kernel_rfl) (by simp only [List.take_succ_cons, List.take_zero]; rfl) (by simp only [List.drop_succ_cons, List.drop_zero]; rfl) (by kernel_rfl) ?_) | first | (apply qab; refine qbg rfl rfl (fun w h => live_is p (some mb) w _ h) ?_) | (apply qad; refine GD.call rfl rfl (fun w F' h => live_is p (some mb) w _ h) ?_) | first | (apply qae; refine GL.run (by (apply qbl; first | exact qbo rfl rfl | exact qbm rfl rfl (by assumption) | exact qbn rfl rfl (by assumption))) rfl ?_) | (apply qad; refine GD.run (by (apply qbl; first | exact qbo rfl rfl | exact qbm rfl rfl (by assumption) | exact qbn rfl rfl (by assumption))) rfl ?_) | first | (apply qab; refine qbg rfl rfl (fun w h => live_small _ w _ h) ?_) | (apply qad; refine GD.call rfl rfl (fun w F' h => live_small _ w _ h) ?_) | (apply qab; refine GL.call (vs := [.slice none 0 0, .agg (encSp ⟨x.pos, x.len⟩).toArray]) rfl rfl (fun w h => spans_Add_yes (.slice none 0 0) ([] : List SpanM) ⟨x.pos, x.len⟩ hR hs hm w _ h) (fun y => ?_)) | (refine qbk 13 ?_; refine G.pure (fun w hw => ?_); obtain ⟨hc1, hc2⟩ := owns_cells hw; refine G.drawW [⟨none, [], some 20, none, fun _ => True, fun _ => blk cb (.cells #[.slice none 0 0, .int .i64 x.gen, .map (some rb)] 161 (0, 0))⟩, ⟨some 20, [0], none, none, fun _ => True, fun _ => blk cb (.cells #[y.2, .int .i64 x.gen, .map (some rb)] 161 (0, 0))⟩, ⟨none, [], some 21, none, fun _ => True, fun _ => imap encI rb ([] : List (Int × Int))⟩, ⟨some 21, [2], some 23, some 102, IsEntry, fun u => imapHole encI rb ([] : List (Int × Int)) x.pos (stampV u)⟩, ⟨some 23, [3], none, none, fun _ => True, fun _ => imap encI rb (alSet ([] : List (Int × Int)) x.pos x.region)⟩, ⟨none, [], some 24, none, fun _ => True, fun _ => imap encC mb M⟩, ⟨some 24, [5], some 26, some 104, IsEntry, fun u => imapHole encC mb M x.chunk (stampV u)⟩, ⟨some 26, [6], none, none, fun _ => True, fun _ => imap encC mb (alSet M x.chunk (cb, (⟨x.gen, ([] : List SpanM).take y.1.1 ++ [⟨x.pos, x.len⟩] ++ ([] : List SpanM).drop y.1.1, alSet ([] : List (Int × Int)) x.pos x.region⟩ : ChM)))⟩] [(4, [0])] [0, 2, 5] [1, 4, 7] (by kernel_rfl) (by kernel_rfl) rfl ⟨⟨_, rfl, .inl rfl⟩, ⟨_, rfl, .inl rfl⟩, ⟨_, rfl, .inl rfl⟩, trivial⟩ ?_) | (apply GW.isAny; first | refine GW.runA rfl rfl ?_ | refine GW.seeA rfl rfl ⟨⟨_, rfl, .inl rfl⟩, trivial⟩ rfl ?_) | (apply GW.isAny; refine GW.store rfl rfl rfl rfl rfl ⟨⟨_, rfl, .inl rfl⟩, trivial⟩ rfl trivial rfl (DoesW.storeBlk (R := fun _ => True) rfl rfl (by first | rfl | assumption) (by first | rfl | assumption) rfl rfl) ?_) | (apply GW.isAny; refine GW.eff rfl rfl rfl rfl rfl ⟨⟨_, rfl, .inl rfl⟩, trivial⟩ rfl trivial (fun u hu => hu.defd) (DoesW.mapEntry rfl rfl) rfl (fun u hu => ?_); obtain ⟨u0, s0, rfl⟩ := hu) | (apply GW.isAny; refine GW.store rfl rfl rfl rfl rfl ⟨⟨_, rfl, .inr (.inr ⟨_, _, rfl, rfl, rfl⟩)⟩, trivial⟩ rfl trivial rfl (DoesW.entryStore (x.region) rfl rfl rfl rfl) ?_) | (apply GW.isAny; refine GW.store rfl rfl rfl rfl rfl ⟨⟨_, rfl, .inr (.inr ⟨_, _, rfl, rfl, rfl⟩)⟩, trivial⟩ rfl trivial rfl (DoesW.entryStore ((cb, (⟨x.gen, ([] : List SpanM).take y.1.1 ++ [⟨x.pos, x.len⟩] ++ ([] : List SpanM).drop y.1.1, alSet ([] : List (Int × Int)) x.pos x.region⟩ : ChM))) rfl rfl rfl rfl) ?_) | (refine GW.nilE rfl ⟨⟨_, rfl, .inr (.inl rfl)⟩, ⟨_, rfl, .inr (.inl rfl)⟩, ⟨_, rfl, .inr (.inl rfl)⟩, trivial⟩ ?_) | first | (apply qab; refine qbg rfl rfl (fun w h => handle_Put _ _ _ _ w _ h) ?_) | (apply qad; refine GD.call rfl rfl (fun w F' h => handle_Put _ _ _ _ w _ h) ?_)) | first | (apply qae; first | refine qa8 rfl ?_ | (apply qak; first | refine qaj rfl rfl rfl rfl rfl ?_ | refine qaf rfl rfl rfl rfl rfl ?_ | refine qag rfl rfl rfl rfl rfl ?_) | refine qan rfl rfl ?_ | refine qap rfl rfl rfl ?_ | refine qao rfl rfl rfl ?_ | (apply qax; first | refine qa6 rfl rfl (fun _ => ?_) | refine qa7 rfl rfl rfl (fun _ => ?_) | refine GL.box rfl rfl (fun _ => ?_)) | (apply qai; first | refine qaa rfl rfl rfl rfl rfl (fun _ => ?_) | refine qac rfl rfl rfl rfl rfl (fun _ => ?_)) | (apply qab; refine qam _ rfl rfl rfl rfl (by rfl) (by omega) (by omega) rfl (fun _ => ?_)) | (apply qal; refine GL.alloc rfl (fun _ => ?_))) | apply GL.nil | first | apply G.seq | apply G.region | apply G.block | apply G.skip | apply G.exit | apply G.ret | (apply qah; first | refine qbe rfl ?_ | refine qbf rfl ?_) | refine qbj (by kernel_rfl) (by kernel_rfl) ?_ | (apply qa4; first | apply qa5 | apply qa2 | apply qas | apply qat | apply qa3 | apply qa1 | apply qaq | refine qar rfl ?_ | apply qba) | (apply qad; first | refine qbb rfl ?_ | refine qau rfl rfl ?_ | refine qaw rfl rfl rfl ?_ | refine qav rfl rfl rfl ?_) | apply qbd | apply qbc | (apply qa0; refine qa9 rfl rfl ?_) | ((first | (apply qae; refine GL.guard rfl rfl (fun hc => ?_) (fun hc => ?_)) | (apply qah; refine G.cond rfl (fun hc => ?_) (fun hc => ?_)) | (apply qad; refine GD.guard rfl rfl (fun hc => ?_) (fun hc => ?_))) <;> ((try simp only [decide_eq_true_eq, decide_eq_false_iff_not, Bool.not_true, Bool.not_false, ne_eq, Classical.not_not, Int.not_lt, Int.not_le] at hc); (try (exfalso; first | omega | exact hc trivial | exact hc rfl)))))
  all_goals first
    | (exfalso; exact hc trivial)
    | (exfalso; exact hc rfl)
    | (exfalso; revert hc; simp only [*]; decide)
    | skip
  refine qbh rfl (by (repeat (first | apply Res.nil | (apply Res.tmp; rfl) | (refine qay rfl rfl rfl ?_) | (refine qaz rfl rfl ?_)))) (fun w h => ?_)
  have h1 : holds w (blk cb (.cells #[y.2, .int .i64 x.gen, .map (some rb)] 161 (0, 0)) :: imap encI rb (alSet ([] : List (Int × Int)) x.pos x.region) :: imap encC mb (alSet M x.chunk (cb, ⟨x.gen, ([] : List SpanM).take y.1.1 ++ [⟨x.pos, x.len⟩] ++ ([] : List SpanM).drop y.1.1, alSet ([] : List (Int × Int)) x.pos x.region⟩)) :: owns 165 encSp 2 y.2 (([] : List SpanM).take y.1.1 ++ [⟨x.pos, x.len⟩] ++ ([] : List SpanM).drop y.1.1) :: blk _ (.cells (encLaid x).toArray 57 (0, 0)) :: owns 165 encSp 2 (.slice none 0 0) ([] : List SpanM) :: blk p (.cells #[.map (some mb)] 154 (0, 0)) :: sep (M.map chH) :: F) := h
  generalize hc' : (⟨x.gen, ([] : List SpanM).take y.1.1 ++ [⟨x.pos, x.len⟩] ++ ([] : List SpanM).drop y.1.1, alSet ([] : List (Int × Int)) x.pos x.region⟩ : ChM) = c' at h1 ⊢
  have hq' : alGet (alSet M x.chunk (cb, c')) x.chunk = some (cb, c') := by rw [alGet_set, if_pos rfl]
  have h2 := chunk_close (M := alSet M x.chunk (cb, c')) hq' (y := (y.2, rb)) (F := blk p (.cells #[.map (some mb)] 154 (0, 0)) :: imap encC mb (alSet M x.chunk (cb, c')) :: F) (by rw [alDel_set, hdel]; subst hc'; exact h1.sub)
  have h3 := liv_close (p := p) (mb := mb) (M := alSet M x.chunk (cb, c')) (F := F) h2.sub
  subst hc'
  exact ⟨(cb, y.1), by rw [hput], h3⟩
theorem Lv.old_none {M : LvM} {i : Int} (h : alGet M i = none) : Lv.old M i = ([], []) := by unfold Lv.old; rw [h]
theorem Lv.old_some {M : LvM} {i : Int} {q : Nat × ChM} (h : alGet M i = some q) : Lv.old M i = (q.2.sp, q.2.reg) := by unfold Lv.old; rw [h]
theorem live_Add (p : Nat) (M : LvM) (hM : Lv.Ok M) (x : LaidM) (w : World) (F : List HProp) (hw : holds w (livP p M :: F)) :
    Ct Tryz.prog 27 #[.pointer (some ⟨p, 0, none⟩), .agg (encLaid x).toArray] w fun e w' => ∃ r : {r : LvM × Int × Int // Lv.IsAdd M x r}, e = .returned (.tuple #[.int .i64 r.1.2.1, .int .i64 r.1.2.2]) ∧ holds w' (livP p r.1.1 :: F) := by
  by_cases hb : Live.Bad x
  · exact (live_Add_bad p M x hb w F hw).mono fun e w' h => ⟨⟨_, .bad hb⟩, h⟩
  have hg := Lv.good_of_not_bad hb
  cases hq : alGet M x.chunk with
  | none =>
    refine (live_Add_new p M hM x hg hq w F hw).mono fun e w' h => ?_
    obtain ⟨k, h1, h2⟩ := h
    have hA : Lv.Adds M x (alSet M x.chunk (k.1, ⟨x.gen, ([] : List SpanM).take k.2.1 ++ [⟨x.pos, x.len⟩] ++ ([] : List SpanM).drop k.2.1, alSet [] x.pos x.region⟩)) := ⟨fun q' h => (by rw [hq] at h; cases h), fun q' h => (by rw [hq] at h; cases h), by rw [Lv.old_none hq]; exact ⟨k.1, k.2.1, k.2.2, rfl⟩⟩
    exact ⟨⟨_, .yes hb _ hA⟩, h1, h2⟩
  | some q =>
    by_cases h1 : q.2.gen = x.gen
    · by_cases h2 : ∃ (i : Nat) (hi : i < q.2.sp.length), Spn.Meet q.2.sp[i] ⟨x.pos, x.len⟩
      · obtain ⟨i, hi, hm⟩ := h2
        exact (live_Add_twice p M hM x hg q hq h1 i hi hm w F hw).mono fun e w' h => ⟨⟨_, .twice hb q hq h1 i hi hm⟩, h⟩
      · have hm : ∀ (i : Nat) (hi : i < q.2.sp.length), ¬ Spn.Meet q.2.sp[i] ⟨x.pos, x.len⟩ := fun i hi h => h2 ⟨i, hi, h⟩
        refine (live_Add_in p M hM x hg q hq h1 hm w F hw).mono fun e w' h => ?_
        obtain ⟨k, h3, h4⟩ := h
        have hA : Lv.Adds M x (alSet M x.chunk (q.1, ⟨x.gen, q.2.sp.take k.1 ++ [⟨x.pos, x.len⟩] ++ q.2.sp.drop k.1, alSet q.2.reg x.pos x.region⟩)) := ⟨fun q' h => (by rw [hq] at h; cases h; exact h1), fun q' h => (by rw [hq] at h; cases h; exact hm), by rw [Lv.old_some hq]; exact ⟨q.1, k.1, k.2, rfl⟩⟩
        exact ⟨⟨_, .yes hb _ hA⟩, h3, h4⟩
    · exact (live_Add_old p M hM x hg q hq h1 w F hw).mono fun e w' h => ⟨⟨_, .old hb q hq h1⟩, h⟩
end Go.Proofs.YtipkgamiejenaaaGreat

/- Contracts for the laws of chapter 41: the reference's Add, at any piece; the program's tellers, of what the reference tells. -/
namespace Go.Proofs.YtipkgamiejenaaaGreat
open Go Go.RowKit Go.MapKept
set_option linter.unusedVariables false
set_option linter.unusedSimpArgs false
set_option maxRecDepth 100000
set_option maxHeartbeats 4000000

theorem Hdl.put_lt (k c g o : Int) (hk : k ≤ 3) : (Hdl.put k c g o).1 < 4611686018427387904 := by
  unfold Hdl.put
  split
  · simp
  · split
    · simp
    · unfold Hdl.Beyond at *; simp only; omega
theorem Lv.RefAdd.lt {l : List LaidM} {x : LaidM} {s : List LaidM × Int × Int} (h : Lv.RefAdd l x s) : s.2.1 < 4611686018427387904 := by
  cases h with
  | yes _ _ _ a ha => exact Hdl.put_lt _ _ _ _ (by omega)
  | _ => simp
section
variable {M : LvM} {l : List LaidM} (p : Nat) (hI : Lv.Inv M l)
include hI
end
end Go.Proofs.YtipkgamiejenaaaGreat

/- The laws of chapter 42: what is plain; the reference's Add, told more exactly; the chapter's example. -/
namespace Go.Proofs.YtipkgamiejenaaaGreat
open Go Go.RowKit Go.MapKept
set_option linter.unusedVariables false
set_option linter.unusedSectionVars false
set_option linter.unusedSimpArgs false
set_option maxRecDepth 100000
set_option maxHeartbeats 4000000
theorem Lv.Inv.fits {M : LvM} {l : List LaidM} (h : Lv.Inv M l) (x : Int) : Me.Fits (Live.find l x) := by
  intro h0
  unfold Live.find at h0 ⊢
  split at h0
  · simp at h0
  · rename_i hk
    rw [if_neg hk]
    cases hg : l.find? (fun y => decide (Live.Is (Hdl.get x).place (Hdl.get x).gen (Hdl.get x).off y)) with
    | none => rw [hg] at h0; simp at h0
    | some y =>
      have := h.good y (List.mem_of_find?_eq_some hg)
      obtain ⟨_, _, p0, l0, _⟩ := this
      exact ⟨⟨p0.1, by dsimp only; omega⟩, by dsimp only; omega, l0.2⟩
theorem Lv.Inv.fits2 {M : LvM} {l : List LaidM} (h : Lv.Inv M l) (x : Int) : Me.Fits (Lv.find M x) := by rw [h.find]; exact h.fits x
def AddV (l : List LaidM) (x : LaidM) (v : Value) (r : (List LaidM × Int × Int) × Value) : Prop := Lv.RefAdd l x r.1 ∧ (r.1.2.2 ≠ 0 → r.2 = v ∧ r.1.1 = l)
theorem ref41_AddV (v : Value) (l : List LaidM) (x : LaidM) (hl : l.length < 1099511627776) (hs : ∀ (j : Nat) (h : j < l.length), SpOk ⟨l[j].pos, l[j].len⟩) (w : World) (F : List HProp) (hw : holds w (owns 57 encLaid 5 v l :: F)) :
    Ct Tryz.prog 32 #[v, .agg (encLaid x).toArray] w fun e w' => ∃ r : {r : (List LaidM × Int × Int) × Value // AddV l x v r}, e = .returned (.tuple #[r.1.2, .int .i64 r.1.1.2.1, .int .i64 r.1.1.2.2]) ∧ holds w' (owns 57 encLaid 5 r.1.2 r.1.1.1 :: F) := by
  by_cases hb : Live.Bad x
  · exact (ref41_Add_bad v l x hb w _ hw).mono fun e w' h => ⟨⟨(_, v), .bad hb, fun _ => ⟨rfl, rfl⟩⟩, h⟩
  have hg := Lv.good_of_not_bad hb
  by_cases h1 : ∃ (j : Nat) (hj : j < l.length), Live.Old x l[j]
  · obtain ⟨j, hj, ho⟩ := h1
    exact (ref41_Add_old v l x hb hl j hj ho w _ hw).mono fun e w' h => ⟨⟨(_, v), .old hb j hj ho, fun _ => ⟨rfl, rfl⟩⟩, h⟩
  have hno : ∀ (j : Nat) (h : j < l.length), ¬ Live.Old x l[j] := fun j h ho => h1 ⟨j, h, ho⟩
  by_cases h2 : ∃ (j : Nat) (hj : j < l.length), Live.Twice x l[j]
  · obtain ⟨j, hj, ht⟩ := h2
    exact (ref41_Add_twice v l x hb hl (Lv.SpOk.of_good hg) hs hno j hj ht w _ hw).mono fun e w' h => ⟨⟨(_, v), .twice hb hno j hj ht, fun _ => ⟨rfl, rfl⟩⟩, h⟩
  have hnt : ∀ (j : Nat) (h : j < l.length), ¬ Live.Twice x l[j] := fun j h ho => h2 ⟨j, h, ho⟩
  refine (ref41_Add_yes v l x hb hl (Lv.SpOk.of_good hg) hs hno hnt w _ hw).mono fun e w' h => ?_
  obtain ⟨y, h3, h4⟩ := h
  exact ⟨⟨(_, y.2), .yes hb hno hnt y.1.1 y.1.2, fun h => absurd rfl h⟩, h3, h4.sub⟩
namespace Me
def y0 : LaidM := ⟨0, 0, 0, 16, 8⟩
def H0 : Int := 3458764513820540944
def w1 : St.S := (St.take (St.new 1 64) 1).1
def w2 : St.S := (write w1 (y0, 0) 5 [97, 98, 99]).1
theorem g0 : ¬ Live.Bad y0 := Lv.bad_of_not_good ⟨by decide, by decide, by decide, by decide, by decide⟩
theorem ref0 : Lv.RefAdd [] y0 ([y0], H0, 0) := by
  have h := Lv.RefAdd.yes (l := []) (x := y0) g0 (fun j h => by simp at h) (fun j h => by simp at h) 0 (Live.IsPlace.zero _ _)
  have e : (Hdl.put 3 y0.chunk y0.gen y0.pos).1 = H0 := by decide
  rw [e] at h
  exact h
theorem find0 : Live.find [y0] H0 = (y0, 0) := by decide
theorem wr1 : write w1 (y0, 0) 6 [97, 98, 99] = (w1, 15) := rfl
theorem wr2 : (write w1 (y0, 0) 5 [97, 98, 99]).2 = 0 := by decide +kernel
theorem rd1 : (read w2 (y0, 0) 4 4).1 = [0, 97, 98, 99] ∧ (read w2 (y0, 0) 4 4).2 = 0 := by decide +kernel
theorem rm1 : room (y0, 0) 5 = 3 := by decide
theorem i0 : St.Inv (St.new 1 64) 0 := St.Inv.new 1 64 (by omega) (by omega)
theorem i1 : St.Inv w1 1 := i0.take 1
theorem write_inv {t : St.S} {K : Nat} (h : St.Inv t K) (f : LaidM × Int) (o : Int) (s : List UInt8) : St.Inv (write t f o s).1 (K + 1) := by
  unfold write
  split
  · exact h.put _ _ _ _
  · exact h.mono (by omega)
theorem i2 : St.Inv w2 2 := write_inv i1 _ _ _
end Me
theorem law42_works (w : World) (F : List HProp) (hw : holds w F) :
    Ct Tryz.prog 24 #[] w fun e w' => e = .returned (.bool true) ∧ holds w' F := by
  refine Ct.go (args := []) Tryz.func24 rfl rfl rfl hw ?_
  have cT := fun (sb : Nat) w (F : List HProp) h => store_Take sb (St.new 1 64) 0 Me.i0 (by omega) 1 w F h
  rw [show (St.take (St.new 1 64) 1).1 = Me.w1 from rfl] at cT
  repeat' (first | (first | (apply qab; refine GL.call (vs := [.int .i64 ((1 : Nat) : Int), .int .i64 ((64 : Nat) : Int)]) rfl rfl (fun w h => store_Make 1 64 (by omega) (by omega) (by omega) (by omega) (by kernel_rfl) w _ h) (fun sb => ?_)) | (apply qab; refine qbq (storeP sb (St.new 1 64)) (vs := [.pointer (some ⟨sb, 0, none⟩), .int .i64 1]) rfl rfl (fun w h => cT sb w _ h) ?_) | (apply qab; refine GL.call rfl rfl (fun w h => live_New w _ h) (fun p => ?_))) | first | (apply qae; first | refine qa8 rfl ?_ | (apply qak; first | refine qaj rfl rfl rfl rfl rfl ?_ | refine qaf rfl rfl rfl rfl rfl ?_ | refine qag rfl rfl rfl rfl rfl ?_) | refine qan rfl rfl ?_ | refine qap rfl rfl rfl ?_ | refine qao rfl rfl rfl ?_ | (apply qax; first | refine qa6 rfl rfl (fun _ => ?_) | refine qa7 rfl rfl rfl (fun _ => ?_) | refine GL.box rfl rfl (fun _ => ?_)) | (apply qai; first | refine qaa rfl rfl rfl rfl rfl (fun _ => ?_) | refine qac rfl rfl rfl rfl rfl (fun _ => ?_)) | (apply qab; refine qam _ rfl rfl rfl rfl (by rfl) (by omega) (by omega) rfl (fun _ => ?_)) | (apply qal; refine GL.alloc rfl (fun _ => ?_))) | apply GL.nil | first | apply G.seq | apply G.region | apply G.block | apply G.skip | apply G.exit | apply G.ret | (apply qah; first | refine qbe rfl ?_ | refine qbf rfl ?_) | refine qbj (by kernel_rfl) (by kernel_rfl) ?_ | (apply qa4; first | apply qa5 | apply qa2 | apply qas | apply qat | apply qa3 | apply qa1 | apply qaq | refine qar rfl ?_ | apply qba) | (apply qad; first | refine qbb rfl ?_ | refine qau rfl rfl ?_ | refine qaw rfl rfl rfl ?_ | refine qav rfl rfl rfl ?_) | apply qbd | apply qbc | (apply qa0; refine qa9 rfl rfl ?_) | ((first | (apply qae; refine GL.guard rfl rfl (fun hc => ?_) (fun hc => ?_)) | (apply qah; refine G.cond rfl (fun hc => ?_) (fun hc => ?_)) | (apply qad; refine GD.guard rfl rfl (fun hc => ?_) (fun hc => ?_))) <;> ((try simp only [decide_eq_true_eq, decide_eq_false_iff_not, Bool.not_true, Bool.not_false, ne_eq, Classical.not_not, Int.not_lt, Int.not_le] at hc); (try (exfalso; first | omega | exact hc trivial | exact hc rfl)))))
  apply qae
  (apply qab; refine GL.callH (livP p []) (vs := [.pointer (some ⟨p, 0, none⟩), .agg (encLaid Me.y0).toArray]) rfl rfl (fun w h => live_Add p [] Lv.Inv.nil.ok Me.y0 w _ h) (fun r => ?_))
  obtain ⟨⟨M1, a1, e1⟩, hr⟩ := r
  obtain ⟨hI1, he⟩ := Lv.Inv.nil.step hr Me.ref0
  simp only [Prod.mk.injEq] at hI1 he
  obtain ⟨rfl, rfl⟩ := he
  dsimp only
  have hfd : Lv.find M1 Me.H0 = (Me.y0, 0) := by rw [hI1.find]; exact Me.find0
  have c1 := fun w (F : List HProp) h => mem_Write sb Me.w1 1 Me.i1 (by omega) p M1 hI1.ok Me.H0 (by decide) (hI1.fits2 _) 6 [97, 98, 99] (by simp) w F h
  have c2 := fun w (F : List HProp) h => mem_Write sb Me.w1 1 Me.i1 (by omega) p M1 hI1.ok Me.H0 (by decide) (hI1.fits2 _) 5 [97, 98, 99] (by simp) w F h
  have c3 := fun w (F : List HProp) h => mem_Read sb Me.w2 2 Me.i2 (by omega) p M1 hI1.ok Me.H0 (by decide) (hI1.fits2 _) 4 4 w F h
  have c4 := fun w (F : List HProp) h => mem_Room Me.w1 1 Me.i1 (by omega) p M1 hI1.ok Me.H0 (by decide) (hI1.fits2 _) 5 w F h
  rw [hfd, Me.wr1] at c1
  rw [hfd, Me.wr2, show (Me.write Me.w1 (Me.y0, 0) 5 [97, 98, 99]).1 = Me.w2 from rfl] at c2
  rw [hfd, Me.rd1.1, Me.rd1.2] at c3
  rw [hfd, Me.rm1] at c4
  dsimp only at c1
  repeat' (first | (first | (apply qae; refine GL.run (Runs.strEqR (l := [0, 97, 98, 99]) rfl rfl) rfl ?_) | (apply qab; refine GL.callHH1 (storeP sb (Me.w1)) (livP p M1) (vs := [.pointer (some ⟨sb, 0, none⟩), .pointer (some ⟨p, 0, none⟩), .int .i64 Me.H0, .int .i64 6, .string (bs [97, 98, 99])]) rfl rfl (fun w h => c1 w _ h) ?_) | (apply qab; refine GL.callHH1 (storeP sb (Me.w1)) (livP p M1) (vs := [.pointer (some ⟨sb, 0, none⟩), .pointer (some ⟨p, 0, none⟩), .int .i64 Me.H0, .int .i64 5, .string (bs [97, 98, 99])]) rfl rfl (fun w h => c2 w _ h) ?_) | (apply qab; refine GL.callHH1 (storeP sb (Me.w2)) (livP p M1) (vs := [.pointer (some ⟨sb, 0, none⟩), .pointer (some ⟨p, 0, none⟩), .int .i64 Me.H0, .int .i64 4, .int .i64 4]) rfl rfl (fun w h => c3 w _ h) ?_) | (apply qab; refine qbq (livP p M1) (vs := [.pointer (some ⟨p, 0, none⟩), .int .i64 Me.H0, .int .i64 5]) rfl rfl (fun w h => c4 w _ h) ?_)) | first | (apply qae; first | refine qa8 rfl ?_ | (apply qak; first | refine qaj rfl rfl rfl rfl rfl ?_ | refine qaf rfl rfl rfl rfl rfl ?_ | refine qag rfl rfl rfl rfl rfl ?_) | refine qan rfl rfl ?_ | refine qap rfl rfl rfl ?_ | refine qao rfl rfl rfl ?_ | (apply qax; first | refine qa6 rfl rfl (fun _ => ?_) | refine qa7 rfl rfl rfl (fun _ => ?_) | refine GL.box rfl rfl (fun _ => ?_)) | (apply qai; first | refine qaa rfl rfl rfl rfl rfl (fun _ => ?_) | refine qac rfl rfl rfl rfl rfl (fun _ => ?_)) | (apply qab; refine qam _ rfl rfl rfl rfl (by rfl) (by omega) (by omega) rfl (fun _ => ?_)) | (apply qal; refine GL.alloc rfl (fun _ => ?_))) | apply GL.nil | first | apply G.seq | apply G.region | apply G.block | apply G.skip | apply G.exit | apply G.ret | (apply qah; first | refine qbe rfl ?_ | refine qbf rfl ?_) | refine qbj (by kernel_rfl) (by kernel_rfl) ?_ | (apply qa4; first | apply qa5 | apply qa2 | apply qas | apply qat | apply qa3 | apply qa1 | apply qaq | refine qar rfl ?_ | apply qba) | (apply qad; first | refine qbb rfl ?_ | refine qau rfl rfl ?_ | refine qaw rfl rfl rfl ?_ | refine qav rfl rfl rfl ?_) | apply qbd | apply qbc | (apply qa0; refine qa9 rfl rfl ?_) | ((first | (apply qae; refine GL.guard rfl rfl (fun hc => ?_) (fun hc => ?_)) | (apply qah; refine G.cond rfl (fun hc => ?_) (fun hc => ?_)) | (apply qad; refine GD.guard rfl rfl (fun hc => ?_) (fun hc => ?_))) <;> ((try simp only [decide_eq_true_eq, decide_eq_false_iff_not, Bool.not_true, Bool.not_false, ne_eq, Classical.not_not, Int.not_lt, Int.not_le] at hc); (try (exfalso; first | omega | exact hc trivial | exact hc rfl)))))
  all_goals (first | (exfalso; simp at hc; done) | skip)
  all_goals (refine qbi rfl (by (repeat (first | apply Res.nil | (apply Res.tmp; rfl) | (refine qay rfl rfl rfl ?_) | (refine qaz rfl rfl ?_)))) (fun w h => ?_); exact ⟨rfl, h.sub⟩)
end Go.Proofs.YtipkgamiejenaaaGreat
