import Derived.Test.YtipkgamiejenaaaGreatMg19
import Derived.Test.YtipkgamiejenaaaGreatGoTE

import Derived.Test.YtipkgamiejenaaaGreatMg7
import Derived.Test.YtipkgamiejenaaaGreatMg8
import Derived.Test.YtipkgamiejenaaaGreatMg6
/- The memory of package live: pieces as a map of chunks. -/
namespace Go.Proofs.YtipkgamiejenaaaGreat
open Go Go.RowKit Go.MapKept
set_option linter.unusedVariables false
set_option linter.unusedSimpArgs false
set_option maxRecDepth 100000
set_option maxHeartbeats 4000000

/-- A chunk. -/
structure ChM where
  gen : Int
  sp : List SpanM
  reg : List (Int × Int)
def encC (q : Nat × ChM) : Value := .pointer (some ⟨q.1, 0, none⟩)
def chH (q : Int × (Nat × ChM)) : HProp := fun f => ∃ x : Value × Nat, sep [blk q.2.1 (.cells #[x.1, .int .i64 q.2.2.gen, .map (some x.2)] 161 (0, 0)), owns 165 encSp 2 x.1 q.2.2.sp, imap encI x.2 q.2.2.reg] f
abbrev LvM := List (Int × (Nat × ChM))
def livP (p : Nat) (M : LvM) : HProp := fun f => ∃ mb : Nat, sep (blk p (.cells #[.map (some mb)] 154 (0, 0)) :: imap encC mb M :: M.map chH) f
theorem liv_open {w : World} {F : List HProp} {p : Nat} {M : LvM} (h : holds w (livP p M :: F)) : ∃ mb : Nat, holds w (blk p (.cells #[.map (some mb)] 154 (0, 0)) :: imap encC mb M :: sep (M.map chH) :: F) := by
  obtain ⟨mb, h1⟩ := h.open_ex
  refine ⟨mb, ?_⟩
  have h2 := holds_sep.1 h1
  have h3 : holds w (([blk p (.cells #[.map (some mb)] 154 (0, 0)), imap encC mb M] ++ M.map chH) ++ F) := h2
  rw [List.append_assoc] at h3
  have h4 : holds w (M.map chH ++ ([blk p (.cells #[.map (some mb)] 154 (0, 0)), imap encC mb M] ++ F)) := h3.perm (by
    rw [← List.append_assoc, ← List.append_assoc]
    exact List.perm_append_comm.append_right F)
  exact (show holds w (sep (M.map chH) :: blk p (.cells #[.map (some mb)] 154 (0, 0)) :: imap encC mb M :: F) from holds_sep.2 h4).sub
theorem liv_close {w : World} {F : List HProp} {p mb : Nat} {M : LvM} (h : holds w (blk p (.cells #[.map (some mb)] 154 (0, 0)) :: imap encC mb M :: sep (M.map chH) :: F)) : holds w (livP p M :: F) := by
  have h1 : holds w (sep (M.map chH) :: blk p (.cells #[.map (some mb)] 154 (0, 0)) :: imap encC mb M :: F) := h.sub
  have h2 : holds w (M.map chH ++ ([blk p (.cells #[.map (some mb)] 154 (0, 0)), imap encC mb M] ++ F)) := holds_sep.1 h1
  have h3 : holds w (([blk p (.cells #[.map (some mb)] 154 (0, 0)), imap encC mb M] ++ M.map chH) ++ F) := h2.perm (by
    rw [List.append_assoc]
    exact (List.perm_append_comm_assoc _ _ _))
  have h4 := holds_sep.2 h3
  exact h4.mono fun f hf => ⟨mb, hf⟩
theorem alFind_perm {β γ : Type} (g : Int × β → γ) (x : Int) (M : List (Int × β)) (j : Nat) (u : β) (h : alFind x M 0 = some (j, u)) : (M.map g).Perm (g (x, u) :: (alDel M x).map g) := by
  obtain ⟨g1, _, g3⟩ := alFind_spec x M j u h
  rw [g3]
  obtain ⟨hj, hv⟩ := List.getElem?_eq_some_iff.1 g1
  have : M = M.take j ++ (x, u) :: M.drop (j + 1) := by
    rw [← hv, List.getElem_cons_drop hj, List.take_append_drop]
  rw [List.eraseIdx_eq_take_drop_succ]
  conv => lhs; rw [this]
  simp only [List.map_append, List.map_cons]
  exact List.perm_middle
/-- One chunk out of the others. -/
theorem chunk_open {w : World} {F : List HProp} {M : LvM} {x : Int} {cb : Nat} {c : ChM} (hx : alGet M x = some (cb, c)) (h : holds w (sep (M.map chH) :: F)) :
    ∃ y : Value × Nat, holds w (blk cb (.cells #[y.1, .int .i64 c.gen, .map (some y.2)] 161 (0, 0)) :: owns 165 encSp 2 y.1 c.sp :: imap encI y.2 c.reg :: sep ((alDel M x).map chH) :: F) := by
  unfold alGet at hx
  simp only [Option.map_eq_some_iff] at hx
  obtain ⟨⟨j, u⟩, hf, rfl⟩ := hx
  have h1 := (holds_sep.1 h).perm ((alFind_perm chH x M j _ hf).append_right F)
  have h2 : holds w (chH (x, (cb, c)) :: ((alDel M x).map chH ++ F)) := h1
  obtain ⟨y, h3⟩ := h2.open_ex
  have h4 := holds_sep.1 h3
  refine ⟨y, ?_⟩
  have h5 : holds w ((alDel M x).map chH ++ ([blk cb (.cells #[y.1, .int .i64 c.gen, .map (some y.2)] 161 (0, 0)), owns 165 encSp 2 y.1 c.sp, imap encI y.2 c.reg] ++ F)) := h4.perm (List.perm_append_comm_assoc _ _ _)
  exact (show holds w (sep ((alDel M x).map chH) :: blk cb (.cells #[y.1, .int .i64 c.gen, .map (some y.2)] 161 (0, 0)) :: owns 165 encSp 2 y.1 c.sp :: imap encI y.2 c.reg :: F) from holds_sep.2 h5).sub
/-- .. and back. -/
theorem chunk_close {w : World} {F : List HProp} {M : LvM} {x : Int} {cb : Nat} {c : ChM} (hx : alGet M x = some (cb, c)) {y : Value × Nat} (h : holds w (blk cb (.cells #[y.1, .int .i64 c.gen, .map (some y.2)] 161 (0, 0)) :: owns 165 encSp 2 y.1 c.sp :: imap encI y.2 c.reg :: sep ((alDel M x).map chH) :: F)) : holds w (sep (M.map chH) :: F) := by
  unfold alGet at hx
  simp only [Option.map_eq_some_iff] at hx
  obtain ⟨⟨j, u⟩, hf, rfl⟩ := hx
  have h1 : holds w (sep ((alDel M x).map chH) :: blk cb (.cells #[y.1, .int .i64 c.gen, .map (some y.2)] 161 (0, 0)) :: owns 165 encSp 2 y.1 c.sp :: imap encI y.2 c.reg :: F) := h.sub
  have h2 : holds w ((alDel M x).map chH ++ ([blk cb (.cells #[y.1, .int .i64 c.gen, .map (some y.2)] 161 (0, 0)), owns 165 encSp 2 y.1 c.sp, imap encI y.2 c.reg] ++ F)) := holds_sep.1 h1
  have h3 : holds w ([blk cb (.cells #[y.1, .int .i64 c.gen, .map (some y.2)] 161 (0, 0)), owns 165 encSp 2 y.1 c.sp, imap encI y.2 c.reg] ++ ((alDel M x).map chH ++ F)) := h2.perm (List.perm_append_comm_assoc _ _ _)
  have h4 : holds w (chH (x, (cb, c)) :: ((alDel M x).map chH ++ F)) := (holds_sep.2 h3).mono (B := chH (x, (cb, c))) fun f hf => ⟨y, hf⟩
  have h5 : holds w ((chH (x, (cb, c)) :: (alDel M x).map chH) ++ F) := h4
  exact holds_sep.2 (h5.perm ((alFind_perm chH x M j _ hf).symm.append_right F))

theorem live_small (x : Int) (w : World) (F : List HProp) (hw : holds w F) :
    Ct Tryz.prog 88 #[.int .i64 x] w fun e w' => e = .returned (.bool (decide (0 ≤ x ∧ x ≤ 1048575))) ∧ holds w' F := by
  refine Ct.go (args := [.int .i64 x]) Tryz.func88 rfl rfl rfl hw ?_
  repeat' (first | (apply qae; first | refine qa8 rfl ?_ | (apply qak; first | refine qaj rfl rfl rfl rfl rfl ?_ | refine qaf rfl rfl rfl rfl rfl ?_ | refine qag rfl rfl rfl rfl rfl ?_) | refine qan rfl rfl ?_ | refine qap rfl rfl rfl ?_ | refine qao rfl rfl rfl ?_ | (apply qax; first | refine qa6 rfl rfl (fun _ => ?_) | refine qa7 rfl rfl rfl (fun _ => ?_) | refine GL.box rfl rfl (fun _ => ?_)) | (apply qai; first | refine qaa rfl rfl rfl rfl rfl (fun _ => ?_) | refine qac rfl rfl rfl rfl rfl (fun _ => ?_)) | (apply qab; refine qam _ rfl rfl rfl rfl (by rfl) (by omega) (by omega) rfl (fun _ => ?_)) | (apply qal; refine GL.alloc rfl (fun _ => ?_))) | apply GL.nil | first | apply G.seq | apply G.region | apply G.block | apply G.skip | apply G.exit | apply G.ret | (apply qah; first | refine qbe rfl ?_ | refine qbf rfl ?_) | refine qbj (by kernel_rfl) (by kernel_rfl) ?_ | (apply qa4; first | apply qa5 | apply qa2 | apply qas | apply qat | apply qa3 | apply qa1 | apply qaq | refine qar rfl ?_ | apply qba) | (apply qad; first | refine qbb rfl ?_ | refine qau rfl rfl ?_ | refine qaw rfl rfl rfl ?_ | refine qav rfl rfl rfl ?_) | apply qbd | apply qbc | (apply qa0; refine qa9 rfl rfl ?_) | ((first | (apply qae; refine GL.guard rfl rfl (fun hc => ?_) (fun hc => ?_)) | (apply qah; refine G.cond rfl (fun hc => ?_) (fun hc => ?_)) | (apply qad; refine GD.guard rfl rfl (fun hc => ?_) (fun hc => ?_))) <;> ((try simp only [decide_eq_true_eq, decide_eq_false_iff_not, Bool.not_true, Bool.not_false, ne_eq, Classical.not_not, Int.not_lt, Int.not_le] at hc); (try (exfalso; first | omega | exact hc trivial | exact hc rfl)))))
  all_goals
    refine qbi rfl (by (repeat (first | apply Res.nil | (apply Res.tmp; rfl) | (refine qay rfl rfl rfl ?_) | (refine qaz rfl rfl ?_)))) (fun w h => ?_)
    exact ⟨by congr 2; (first | rfl | (rw [decide_eq_decide]; omega) | (symm; rw [decide_eq_false_iff_not]; omega) | (symm; rw [decide_eq_true_eq]; omega)), h.sub⟩
theorem live_is (p : Nat) (mb : Option Nat) (w : World) (F : List HProp) [SeesBlk F p #[.map mb]] (hw : holds w F) :
    Ct Tryz.prog 87 #[.pointer (some ⟨p, 0, none⟩)] w fun e w' => e = .returned (.bool mb.isSome) ∧ holds w' F := by
  refine Ct.go (args := [.pointer (some ⟨p, 0, none⟩)]) Tryz.func87 rfl rfl rfl hw ?_
  repeat' (first | (apply qae; first | refine qa8 rfl ?_ | (apply qak; first | refine qaj rfl rfl rfl rfl rfl ?_ | refine qaf rfl rfl rfl rfl rfl ?_ | refine qag rfl rfl rfl rfl rfl ?_) | refine qan rfl rfl ?_ | refine qap rfl rfl rfl ?_ | refine qao rfl rfl rfl ?_ | (apply qax; first | refine qa6 rfl rfl (fun _ => ?_) | refine qa7 rfl rfl rfl (fun _ => ?_) | refine GL.box rfl rfl (fun _ => ?_)) | (apply qai; first | refine qaa rfl rfl rfl rfl rfl (fun _ => ?_) | refine qac rfl rfl rfl rfl rfl (fun _ => ?_)) | (apply qab; refine qam _ rfl rfl rfl rfl (by rfl) (by omega) (by omega) rfl (fun _ => ?_)) | (apply qal; refine GL.alloc rfl (fun _ => ?_))) | apply GL.nil | first | apply G.seq | apply G.region | apply G.block | apply G.skip | apply G.exit | apply G.ret | (apply qah; first | refine qbe rfl ?_ | refine qbf rfl ?_) | refine qbj (by kernel_rfl) (by kernel_rfl) ?_ | (apply qa4; first | apply qa5 | apply qa2 | apply qas | apply qat | apply qa3 | apply qa1 | apply qaq | refine qar rfl ?_ | apply qba) | (apply qad; first | refine qbb rfl ?_ | refine qau rfl rfl ?_ | refine qaw rfl rfl rfl ?_ | refine qav rfl rfl rfl ?_) | apply qbd | apply qbc | (apply qa0; refine qa9 rfl rfl ?_) | ((first | (apply qae; refine GL.guard rfl rfl (fun hc => ?_) (fun hc => ?_)) | (apply qah; refine G.cond rfl (fun hc => ?_) (fun hc => ?_)) | (apply qad; refine GD.guard rfl rfl (fun hc => ?_) (fun hc => ?_))) <;> ((try simp only [decide_eq_true_eq, decide_eq_false_iff_not, Bool.not_true, Bool.not_false, ne_eq, Classical.not_not, Int.not_lt, Int.not_le] at hc); (try (exfalso; first | omega | exact hc trivial | exact hc rfl)))))
  all_goals
    refine qbi rfl (by (repeat (first | apply Res.nil | (apply Res.tmp; rfl) | (refine qay rfl rfl rfl ?_) | (refine qaz rfl rfl ?_)))) (fun w h => ?_)
    exact ⟨by cases mb <;> rfl, h.sub⟩
theorem live_New (w : World) (F : List HProp) (hw : holds w F) :
    Ct Tryz.prog 26 #[] w fun e w' => ∃ p : Nat, e = .returned (.pointer (some ⟨p, 0, none⟩)) ∧ holds w' (livP p [] :: F) := by
  refine Ct.go (args := []) Tryz.func26 rfl rfl rfl hw ?_
  repeat' (first | first | (apply qae; first | refine qa8 rfl ?_ | (apply qak; first | refine qaj rfl rfl rfl rfl rfl ?_ | refine qaf rfl rfl rfl rfl rfl ?_ | refine qag rfl rfl rfl rfl rfl ?_) | refine qan rfl rfl ?_ | refine qap rfl rfl rfl ?_ | refine qao rfl rfl rfl ?_ | (apply qax; first | refine qa6 rfl rfl (fun _ => ?_) | refine qa7 rfl rfl rfl (fun _ => ?_) | refine GL.box rfl rfl (fun _ => ?_)) | (apply qai; first | refine qaa rfl rfl rfl rfl rfl (fun _ => ?_) | refine qac rfl rfl rfl rfl rfl (fun _ => ?_)) | (apply qab; refine qam _ rfl rfl rfl rfl (by rfl) (by omega) (by omega) rfl (fun _ => ?_)) | (apply qal; refine GL.alloc rfl (fun _ => ?_))) | apply GL.nil | first | apply G.seq | apply G.region | apply G.block | apply G.skip | apply G.exit | apply G.ret | (apply qah; first | refine qbe rfl ?_ | refine qbf rfl ?_) | refine qbj (by kernel_rfl) (by kernel_rfl) ?_ | (apply qa4; first | apply qa5 | apply qa2 | apply qas | apply qat | apply qa3 | apply qa1 | apply qaq | refine qar rfl ?_ | apply qba) | (apply qad; first | refine qbb rfl ?_ | refine qau rfl rfl ?_ | refine qaw rfl rfl rfl ?_ | refine qav rfl rfl rfl ?_) | apply qbd | apply qbc | (apply qa0; refine qa9 rfl rfl ?_) | ((first | (apply qae; refine GL.guard rfl rfl (fun hc => ?_) (fun hc => ?_)) | (apply qah; refine G.cond rfl (fun hc => ?_) (fun hc => ?_)) | (apply qad; refine GD.guard rfl rfl (fun hc => ?_) (fun hc => ?_))) <;> ((try simp only [decide_eq_true_eq, decide_eq_false_iff_not, Bool.not_true, Bool.not_false, ne_eq, Classical.not_not, Int.not_lt, Int.not_le] at hc); (try (exfalso; first | omega | exact hc trivial | exact hc rfl)))) | ((refine GL.makeMap encC rfl (fun mb => ?_))))
  refine qbi rfl (by (repeat (first | apply Res.nil | (apply Res.tmp; rfl) | (refine qay rfl rfl rfl ?_) | (refine qaz rfl rfl ?_)))) (fun w h => ?_)
  have h2 : holds w (blk _ (.cells #[.map (some _)] 154 (0, 0)) :: imap encC _ [] :: F) := h
  have h3 : holds w (sep (([] : LvM).map chH) :: blk _ (.cells #[.map (some _)] 154 (0, 0)) :: imap encC _ [] :: F) := holds_sep.2 h2
  exact ⟨_, rfl, liv_close (mb := mb) h3.sub⟩
theorem live_laid (cb : Nat) (v : Value) (rb : Nat) (g : Int) (m : List (Int × Int)) (i : Int) (s : SpanM) (w : World) (F F' : List HProp) [SeesBlk F cb #[v, .int .i64 g, .map (some rb)]] [HasMap F rb encI m F'] (hw : holds w F) :
    Ct Tryz.prog 161 #[.pointer (some ⟨cb, 0, none⟩), .int .i64 i, .agg (encSp s).toArray] w fun e w' => e = .returned (.agg (encLaid ⟨i, g, (alGet m s.pos).getD 0, s.pos, s.len⟩).toArray) ∧ holds w' F := by
  refine Ct.go (args := [.pointer (some ⟨cb, 0, none⟩), .int .i64 i, .agg (encSp s).toArray]) Tryz.func161 rfl rfl rfl hw ?_
  repeat' (first | (first | (refine qbk 1 ?_; refine G.drawTail 17 (by kernel_rfl) (by simp only [List.take_succ_cons, List.take_zero]; rfl) (by simp only [List.drop_succ_cons, List.drop_zero]; rfl) (by kernel_rfl) ?_) | first | (apply qae; refine GL.run (by (apply qbl; first | exact qbo rfl rfl | exact qbm rfl rfl (by assumption) | exact qbn rfl rfl (by assumption))) rfl ?_) | (apply qad; refine GD.run (by (apply qbl; first | exact qbo rfl rfl | exact qbm rfl rfl (by assumption) | exact qbn rfl rfl (by assumption))) rfl ?_)) | first | (apply qae; first | refine qa8 rfl ?_ | (apply qak; first | refine qaj rfl rfl rfl rfl rfl ?_ | refine qaf rfl rfl rfl rfl rfl ?_ | refine qag rfl rfl rfl rfl rfl ?_) | refine qan rfl rfl ?_ | refine qap rfl rfl rfl ?_ | refine qao rfl rfl rfl ?_ | (apply qax; first | refine qa6 rfl rfl (fun _ => ?_) | refine qa7 rfl rfl rfl (fun _ => ?_) | refine GL.box rfl rfl (fun _ => ?_)) | (apply qai; first | refine qaa rfl rfl rfl rfl rfl (fun _ => ?_) | refine qac rfl rfl rfl rfl rfl (fun _ => ?_)) | (apply qab; refine qam _ rfl rfl rfl rfl (by rfl) (by omega) (by omega) rfl (fun _ => ?_)) | (apply qal; refine GL.alloc rfl (fun _ => ?_))) | apply GL.nil | first | apply G.seq | apply G.region | apply G.block | apply G.skip | apply G.exit | apply G.ret | (apply qah; first | refine qbe rfl ?_ | refine qbf rfl ?_) | refine qbj (by kernel_rfl) (by kernel_rfl) ?_ | (apply qa4; first | apply qa5 | apply qa2 | apply qas | apply qat | apply qa3 | apply qa1 | apply qaq | refine qar rfl ?_ | apply qba) | (apply qad; first | refine qbb rfl ?_ | refine qau rfl rfl ?_ | refine qaw rfl rfl rfl ?_ | refine qav rfl rfl rfl ?_) | apply qbd | apply qbc | (apply qa0; refine qa9 rfl rfl ?_) | ((first | (apply qae; refine GL.guard rfl rfl (fun hc => ?_) (fun hc => ?_)) | (apply qah; refine G.cond rfl (fun hc => ?_) (fun hc => ?_)) | (apply qad; refine GD.guard rfl rfl (fun hc => ?_) (fun hc => ?_))) <;> ((try simp only [decide_eq_true_eq, decide_eq_false_iff_not, Bool.not_true, Bool.not_false, ne_eq, Classical.not_not, Int.not_lt, Int.not_le] at hc); (try (exfalso; first | omega | exact hc trivial | exact hc rfl)))))
  refine qbi rfl (by (repeat (first | apply Res.nil | (apply Res.tmp; rfl) | (refine qay rfl rfl rfl ?_) | (refine qaz rfl rfl ?_)))) (fun w h => ?_)
  exact ⟨rfl, h.sub⟩
end Go.Proofs.YtipkgamiejenaaaGreat

/- Contracts of package live: In, Find, Drop. -/
namespace Go.Proofs.YtipkgamiejenaaaGreat
open Go Go.RowKit Go.MapKept
set_option linter.unusedVariables false
set_option linter.unusedSimpArgs false
set_option maxRecDepth 100000
set_option maxHeartbeats 4000000

instance (priority := 400) SeesBlk.appendL {F F2 : List HProp} {b : Nat} {c : Array Value} [h : SeesBlk F b c] : SeesBlk (F ++ F2) b c := ⟨fun w hw => h.at_ w (by obtain ⟨f, hf, hs⟩ := hw; obtain ⟨f1, f2, h1, h2, j⟩ := (sep_append F F2 f).1 hs; exact ⟨f, hf, sep_sub F f1 f j h1⟩)⟩
instance (priority := 400) HasMap.appendL {β : Type} {b : Nat} {enc : β → Value} {m : List (Int × β)} {F F' F2 : List HProp} [h : HasMap F b enc m F'] : HasMap (F ++ F2) b enc m (F' ++ F2) := ⟨h.perm.append_right F2⟩
namespace Lv
def laid (i : Int) (c : ChM) (s : SpanM) : LaidM := ⟨i, c.gen, (alGet c.reg s.pos).getD 0, s.pos, s.len⟩
def inM (M : LvM) (i : Int) : List LaidM := match alGet M i with
  | none => []
  | some q => q.2.sp.map (laid i q.2)
structure Ok (M : LvM) : Prop where
  right : ∀ i q, alGet M i = some q → SpR q.2.sp
end Lv
end Go.Proofs.YtipkgamiejenaaaGreat

/- Contracts of the reference of chapter 41. -/
namespace Go.Proofs.YtipkgamiejenaaaGreat
open Go Go.RowKit Go.MapKept
set_option linter.unusedVariables false
set_option linter.unusedSimpArgs false
set_option maxRecDepth 100000
set_option maxHeartbeats 4000000

namespace Live
def lin (l : List LaidM) (c : Int) : List LaidM := l.filter (fun x => decide (x.chunk = c))
def lout (l : List LaidM) (c : Int) : List LaidM := l.filter (fun x => !decide (x.chunk = c))
abbrev Is (c g o : Int) (x : LaidM) : Prop := x.chunk = c ∧ x.gen = g ∧ x.pos = o
def bytes (l : List LaidM) : Int := (l.map (·.len)).sum
def find (l : List LaidM) (x : Int) : LaidM × Int :=
  if ¬ ((Hdl.get x).ok = true) ∨ ¬ ((Hdl.get x).kind = 3) then (⟨0, 0, 0, 0, 0⟩, 20) else
    match l.find? (fun y => decide (Is (Hdl.get x).place (Hdl.get x).gen (Hdl.get x).off y)) with
    | some y => (y, 0)
    | none => (⟨0, 0, 0, 0, 0⟩, 4)
abbrev Has (c x : Int) (y : LaidM) : Prop := y.chunk = c ∧ y.pos ≤ x ∧ x - y.pos < y.len
def atOf (l : List LaidM) (c x : Int) : Int × Int :=
  match l.find? (fun y => decide (Has c x y)) with
  | some y => Hdl.put 3 y.chunk y.gen y.pos
  | none => (0, 20)
def spansOf (l : List LaidM) : List SpanM := l.map fun y => ⟨y.pos, y.len⟩
theorem hit {P : LaidM → Prop} [DecidablePred P] {l : List LaidM} (k : Nat) (h : k < l.length) (hp : P l[k]) (hn : ∀ (j : Nat) (h : j < l.length), j < k → ¬ P l[j]) : l.find? (fun y => decide (P y)) = some l[k] := by
  rw [List.find?_eq_some_iff_getElem]
  exact ⟨by simp [hp], k, h, rfl, fun j hj => by simp [hn j (by omega) hj]⟩
theorem nohit {P : LaidM → Prop} [DecidablePred P] {l : List LaidM} (hn : ∀ (j : Nat) (h : j < l.length), j < l.length → ¬ P l[j]) : l.find? (fun y => decide (P y)) = none := by
  rw [List.find?_eq_none]
  intro y hy
  obtain ⟨j, hj, rfl⟩ := List.getElem_of_mem hy
  simp [hn j hj hj]
theorem nomore {P : LaidM → Prop} {l : List LaidM} {k : Nat} (hn : ∀ (j : Nat) (h : j < l.length), j < k → ¬ P l[j]) (h : k < l.length) (hk : ¬ P l[k]) : ∀ (j : Nat) (h : j < l.length), j < k + 1 → ¬ P l[j] := fun j hj hjk => by
  rcases Nat.lt_or_ge j k with h1 | h1
  · exact hn j hj h1
  · obtain rfl : j = k := by omega
    exact hk
end Live
theorem ref41_Find (v : Value) (l : List LaidM) (x : Int) (hx : x < 9223372036854775808) (hl : l.length < 1099511627776) (w : World) (F : List HProp) [Reads F v encLaid 5 l] (hw : holds w F) :
    Ct Tryz.prog 101 #[v, .int .i64 x] w fun e w' => e = .returned (.tuple #[.agg (encLaid (Live.find l x).1).toArray, .int .i64 (Live.find l x).2]) ∧ holds w' F := by
  have fno : ¬ ((Hdl.get x).ok = true) ∨ ¬ ((Hdl.get x).kind = 3) → Live.find l x = (⟨0, 0, 0, 0, 0⟩, 20) := fun h => by
    unfold Live.find
    rw [if_pos h]
  refine Ct.go (args := [v, .int .i64 x]) Tryz.func101 rfl rfl rfl hw ?_
  repeat' (first | first | (apply qae; first | refine qa8 rfl ?_ | (apply qak; first | refine qaj rfl rfl rfl rfl rfl ?_ | refine qaf rfl rfl rfl rfl rfl ?_ | refine qag rfl rfl rfl rfl rfl ?_) | refine qan rfl rfl ?_ | refine qap rfl rfl rfl ?_ | refine qao rfl rfl rfl ?_ | (apply qax; first | refine qa6 rfl rfl (fun _ => ?_) | refine qa7 rfl rfl rfl (fun _ => ?_) | refine GL.box rfl rfl (fun _ => ?_)) | (apply qai; first | refine qaa rfl rfl rfl rfl rfl (fun _ => ?_) | refine qac rfl rfl rfl rfl rfl (fun _ => ?_)) | (apply qab; refine qam _ rfl rfl rfl rfl (by rfl) (by omega) (by omega) rfl (fun _ => ?_)) | (apply qal; refine GL.alloc rfl (fun _ => ?_))) | apply GL.nil | first | apply G.seq | apply G.region | apply G.block | apply G.skip | apply G.exit | apply G.ret | (apply qah; first | refine qbe rfl ?_ | refine qbf rfl ?_) | refine qbj (by kernel_rfl) (by kernel_rfl) ?_ | (apply qa4; first | apply qa5 | apply qa2 | apply qas | apply qat | apply qa3 | apply qa1 | apply qaq | refine qar rfl ?_ | apply qba) | (apply qad; first | refine qbb rfl ?_ | refine qau rfl rfl ?_ | refine qaw rfl rfl rfl ?_ | refine qav rfl rfl rfl ?_) | apply qbd | apply qbc | (apply qa0; refine qa9 rfl rfl ?_) | ((first | (apply qae; refine GL.guard rfl rfl (fun hc => ?_) (fun hc => ?_)) | (apply qah; refine G.cond rfl (fun hc => ?_) (fun hc => ?_)) | (apply qad; refine GD.guard rfl rfl (fun hc => ?_) (fun hc => ?_))) <;> ((try simp only [decide_eq_true_eq, decide_eq_false_iff_not, Bool.not_true, Bool.not_false, ne_eq, Classical.not_not, Int.not_lt, Int.not_le] at hc); (try (exfalso; first | omega | exact hc trivial | exact hc rfl)))) | ((apply qab; refine qbg rfl rfl (fun w h => ref07_Get x hx w _ h) ?_)))
  · refine qbh rfl (by (repeat (first | apply Res.nil | (apply Res.tmp; rfl) | (refine qay rfl rfl rfl ?_) | (refine qaz rfl rfl ?_)))) (fun w h => ?_)
    rw [fno (.inr hc)]
    exact ⟨rfl, h.sub⟩
  · rename_i nb hb hk
    refine G.loop (α := Nat) (fun y => [(0, v), (4, .pointer (some ⟨nb, 0, none⟩)), (6, .pointer (some ⟨hb, 0, none⟩)), (8, .int .i64 y)]) (fun y => blk hb (.cells #[.int .i64 (Hdl.get x).kind, .int .i64 (Hdl.get x).place, .int .i64 (Hdl.get x).gen, .int .i64 (Hdl.get x).off] 32) :: blk nb (.cells (Value.agg #[.int .i64 0, .int .i64 0, .int .i64 0, .int .i64 0, .int .i64 0]).cells 57) :: F) (fun y => y ≤ l.length ∧ ∀ (j : Nat) (h : j < l.length), j < y → ¬ Live.Is (Hdl.get x).place (Hdl.get x).gen (Hdl.get x).off l[j]) (fun y => l.length - y) 0 ⟨Nat.zero_le _, fun j h hj => absurd hj (Nat.not_lt_zero j)⟩ ⟨rfl, rfl, rfl, rfl, trivial⟩ (fun w h => h) ?_
    rintro k ⟨hkl, hn⟩
    repeat' (first | (apply qae; first | refine qa8 rfl ?_ | (apply qak; first | refine qaj rfl rfl rfl rfl rfl ?_ | refine qaf rfl rfl rfl rfl rfl ?_ | refine qag rfl rfl rfl rfl rfl ?_) | refine qan rfl rfl ?_ | refine qap rfl rfl rfl ?_ | refine qao rfl rfl rfl ?_ | (apply qax; first | refine qa6 rfl rfl (fun _ => ?_) | refine qa7 rfl rfl rfl (fun _ => ?_) | refine GL.box rfl rfl (fun _ => ?_)) | (apply qai; first | refine qaa rfl rfl rfl rfl rfl (fun _ => ?_) | refine qac rfl rfl rfl rfl rfl (fun _ => ?_)) | (apply qab; refine qam _ rfl rfl rfl rfl (by rfl) (by omega) (by omega) rfl (fun _ => ?_)) | (apply qal; refine GL.alloc rfl (fun _ => ?_))) | apply GL.nil | first | apply G.seq | apply G.region | apply G.block | apply G.skip | apply G.exit | apply G.ret | (apply qah; first | refine qbe rfl ?_ | refine qbf rfl ?_) | refine qbj (by kernel_rfl) (by kernel_rfl) ?_ | (apply qa4; first | apply qa5 | apply qa2 | apply qas | apply qat | apply qa3 | apply qa1 | apply qaq | refine qar rfl ?_ | apply qba) | (apply qad; first | refine qbb rfl ?_ | refine qau rfl rfl ?_ | refine qaw rfl rfl rfl ?_ | refine qav rfl rfl rfl ?_) | apply qbd | apply qbc | (apply qa0; refine qa9 rfl rfl ?_) | ((first | (apply qae; refine GL.guard rfl rfl (fun hc => ?_) (fun hc => ?_)) | (apply qah; refine G.cond rfl (fun hc => ?_) (fun hc => ?_)) | (apply qad; refine GD.guard rfl rfl (fun hc => ?_) (fun hc => ?_))) <;> ((try simp only [decide_eq_true_eq, decide_eq_false_iff_not, Bool.not_true, Bool.not_false, ne_eq, Classical.not_not, Int.not_lt, Int.not_le] at hc); (try (exfalso; first | omega | exact hc trivial | exact hc rfl)))))
    · refine qbh rfl (by (repeat (first | apply Res.nil | (apply Res.tmp; rfl) | (refine qay rfl rfl rfl ?_) | (refine qaz rfl rfl ?_)))) (fun w h => ?_)
      refine ⟨?_, h.sub⟩
      unfold Live.find
      rw [if_neg (by simp_all), Live.hit k (by omega) ⟨by assumption, by assumption, hc⟩ hn]
      rfl
    · exact GE.round (k + 1) ⟨by omega, Live.nomore hn (by omega) (fun hh => hc hh.2.2)⟩ ⟨rfl, rfl, rfl, rfl, trivial⟩ (fun w h => h) (by omega)
    · exact GE.round (k + 1) ⟨by omega, Live.nomore hn (by omega) (fun hh => hc hh.2.1)⟩ ⟨rfl, rfl, rfl, rfl, trivial⟩ (fun w h => h) (by omega)
    · exact GE.round (k + 1) ⟨by omega, Live.nomore hn (by omega) (fun hh => hc hh.1)⟩ ⟨rfl, rfl, rfl, rfl, trivial⟩ (fun w h => h) (by omega)
    · refine qbh rfl (by (repeat (first | apply Res.nil | (apply Res.tmp; rfl) | (refine qay rfl rfl rfl ?_) | (refine qaz rfl rfl ?_)))) (fun w h => ?_)
      obtain rfl : k = l.length := by omega
      refine ⟨?_, h.sub⟩
      unfold Live.find
      rw [if_neg (by simp_all), Live.nohit hn]
      rfl
  · refine qbh rfl (by (repeat (first | apply Res.nil | (apply Res.tmp; rfl) | (refine qay rfl rfl rfl ?_) | (refine qaz rfl rfl ?_)))) (fun w h => ?_)
    rw [fno (.inl (by simpa using hc))]
    exact ⟨rfl, h.sub⟩
end Go.Proofs.YtipkgamiejenaaaGreat

/- Contracts of package live: At, Find, Holes. (Under way.) -/
namespace Go.Proofs.YtipkgamiejenaaaGreat
open Go Go.RowKit Go.MapKept
set_option linter.unusedVariables false
set_option linter.unusedSimpArgs false
set_option maxRecDepth 100000
set_option maxHeartbeats 4000000

theorem Spn.firstHas {l : List SpanM} {x : Int} : ∀ n : Nat, (∃ (m : Nat) (h : m < l.length), m < n ∧ Spn.Has x l[m]) → ∃ (m : Nat) (h : m < l.length), Spn.Has x l[m] ∧ ∀ (j : Nat) (h : j < l.length), j < m → ¬ Spn.Has x l[j]
  | 0, ⟨m, h, hm, _⟩ => absurd hm (Nat.not_lt_zero m)
  | n + 1, ⟨m, h, hm, hh⟩ => by
    by_cases e : ∃ (m : Nat) (h : m < l.length), m < n ∧ Spn.Has x l[m]
    · exact Spn.firstHas n e
    · refine ⟨m, h, hh, fun j hj hjm hc => e ⟨j, hj, by omega, hc⟩⟩
theorem Spn.IsFind.or {l : List SpanM} {x r : Int} (h : Spn.IsFind l x r) : (r = -1 ∧ ∀ (m : Nat) (h : m < l.length), ¬ Spn.Has x l[m]) ∨ ∃ (m : Nat) (h : m < l.length), r = m ∧ Spn.Has x l[m] ∧ ∀ (j : Nat) (h : j < l.length), j < m → ¬ Spn.Has x l[j] := by
  by_cases e : ∃ (m : Nat) (h : m < l.length), Spn.Has x l[m]
  · obtain ⟨m, hm, hh⟩ := e
    obtain ⟨m, hm, hh, hn⟩ := Spn.firstHas (l := l) (x := x) (m + 1) ⟨m, hm, Nat.lt_succ_self m, hh⟩
    exact .inr ⟨m, hm, h.yes m hm hh hn, hh, hn⟩
  · have hn : ∀ (m : Nat) (h : m < l.length), ¬ Spn.Has x l[m] := fun m hm hh => e ⟨m, hm, hh⟩
    exact .inl ⟨h.no hn, hn⟩
theorem Spn.hit {α : Type} {P : α → Prop} [DecidablePred P] {l : List α} (k : Nat) (h : k < l.length) (hp : P l[k]) (hn : ∀ (j : Nat) (h : j < l.length), j < k → ¬ P l[j]) : l.find? (fun y => decide (P y)) = some l[k] := by
  rw [List.find?_eq_some_iff_getElem]
  exact ⟨by simp [hp], k, h, rfl, fun j hj => by simp [hn j (by omega) hj]⟩
theorem Spn.nohit {α : Type} {P : α → Prop} [DecidablePred P] {l : List α} (hn : ∀ (j : Nat) (h : j < l.length), ¬ P l[j]) : l.find? (fun y => decide (P y)) = none := by
  rw [List.find?_eq_none]
  intro y hy
  obtain ⟨j, hj, rfl⟩ := List.getElem_of_mem hy
  simp [hn j hj]
namespace Lv
def find (M : LvM) (h : Int) : LaidM × Int :=
  if ¬ ((Hdl.get h).ok = true) ∨ ¬ ((Hdl.get h).kind = 3) then (⟨0, 0, 0, 0, 0⟩, 20) else
  match alGet M (Hdl.get h).place with
  | none => (⟨0, 0, 0, 0, 0⟩, 4)
  | some q => if ¬ q.2.gen = (Hdl.get h).gen then (⟨0, 0, 0, 0, 0⟩, 4) else
    match q.2.sp.find? (fun s => decide (s.pos = (Hdl.get h).off)) with
    | none => (⟨0, 0, 0, 0, 0⟩, 4)
    | some s => (laid (Hdl.get h).place q.2 s, 0)
def holes (M : LvM) (i e : Int) : List SpanM := match alGet M i with
  | none => Spn.holes e []
  | some q => Spn.holes e q.2.sp
def atOf (M : LvM) (i x : Int) : Int × Int := match alGet M i with
  | none => (0, 20)
  | some q => match q.2.sp.find? (fun s => decide (Spn.Has x s)) with
    | none => (0, 20)
    | some s => Hdl.put 3 i q.2.gen s.pos
end Lv
theorem live_Find (p : Nat) (M : LvM) (hM : Lv.Ok M) (x : Int) (hx : x < 9223372036854775808) (w : World) (F : List HProp) (hw : holds w (livP p M :: F)) :
    Ct Tryz.prog 92 #[.pointer (some ⟨p, 0, none⟩), .int .i64 x] w fun e w' => e = .returned (.tuple #[.agg (encLaid (Lv.find M x).1).toArray, .int .i64 (Lv.find M x).2]) ∧ holds w' (livP p M :: F) := by
  have fno : ¬ ((Hdl.get x).ok = true) ∨ ¬ ((Hdl.get x).kind = 3) → Lv.find M x = (⟨0, 0, 0, 0, 0⟩, 20) := fun h => by
    unfold Lv.find
    rw [if_pos h]
  have ho : (Hdl.get x).off ≤ 1048575 := by
    unfold Hdl.get; split
    · dsimp only; omega
    · dsimp only; omega
  refine Ct.go (args := [.pointer (some ⟨p, 0, none⟩), .int .i64 x]) Tryz.func92 rfl rfl rfl hw ?_
  refine G.case (fun mb => ?_) (fun w h => liv_open h)
  cases hq : alGet M (Hdl.get x).place with
  | none =>
    repeat' (first | (first | first | (apply qab; refine qbg rfl rfl (fun w h => live_is p (some mb) w _ h) ?_) | (apply qad; refine GD.call rfl rfl (fun w F' h => live_is p (some mb) w _ h) ?_) | first | (apply qae; refine GL.run (by (apply qbl; first | exact qbo rfl rfl | exact qbm rfl rfl (by assumption) | exact qbn rfl rfl (by assumption))) rfl ?_) | (apply qad; refine GD.run (by (apply qbl; first | exact qbo rfl rfl | exact qbm rfl rfl (by assumption) | exact qbn rfl rfl (by assumption))) rfl ?_) | first | (apply qab; refine qbg rfl rfl (fun w h => handle_Get x hx w _ h) ?_) | (apply qad; refine GD.call rfl rfl (fun w F' h => handle_Get x hx w _ h) ?_)) | first | (apply qae; first | refine qa8 rfl ?_ | (apply qak; first | refine qaj rfl rfl rfl rfl rfl ?_ | refine qaf rfl rfl rfl rfl rfl ?_ | refine qag rfl rfl rfl rfl rfl ?_) | refine qan rfl rfl ?_ | refine qap rfl rfl rfl ?_ | refine qao rfl rfl rfl ?_ | (apply qax; first | refine qa6 rfl rfl (fun _ => ?_) | refine qa7 rfl rfl rfl (fun _ => ?_) | refine GL.box rfl rfl (fun _ => ?_)) | (apply qai; first | refine qaa rfl rfl rfl rfl rfl (fun _ => ?_) | refine qac rfl rfl rfl rfl rfl (fun _ => ?_)) | (apply qab; refine qam _ rfl rfl rfl rfl (by rfl) (by omega) (by omega) rfl (fun _ => ?_)) | (apply qal; refine GL.alloc rfl (fun _ => ?_))) | apply GL.nil | first | apply G.seq | apply G.region | apply G.block | apply G.skip | apply G.exit | apply G.ret | (apply qah; first | refine qbe rfl ?_ | refine qbf rfl ?_) | refine qbj (by kernel_rfl) (by kernel_rfl) ?_ | (apply qa4; first | apply qa5 | apply qa2 | apply qas | apply qat | apply qa3 | apply qa1 | apply qaq | refine qar rfl ?_ | apply qba) | (apply qad; first | refine qbb rfl ?_ | refine qau rfl rfl ?_ | refine qaw rfl rfl rfl ?_ | refine qav rfl rfl rfl ?_) | apply qbd | apply qbc | (apply qa0; refine qa9 rfl rfl ?_) | ((first | (apply qae; refine GL.guard rfl rfl (fun hc => ?_) (fun hc => ?_)) | (apply qah; refine G.cond rfl (fun hc => ?_) (fun hc => ?_)) | (apply qad; refine GD.guard rfl rfl (fun hc => ?_) (fun hc => ?_))) <;> ((try simp only [decide_eq_true_eq, decide_eq_false_iff_not, Bool.not_true, Bool.not_false, ne_eq, Classical.not_not, Int.not_lt, Int.not_le] at hc); (try (exfalso; first | omega | exact hc trivial | exact hc rfl)))))
    all_goals
      refine qbh rfl (by (repeat (first | apply Res.nil | (apply Res.tmp; rfl) | (refine qay rfl rfl rfl ?_) | (refine qaz rfl rfl ?_)))) (fun w h => ?_)
      have h3 := liv_close (mb := mb) (p := p) (M := M) (F := F) h.sub
      refine ⟨?_, h3⟩
      first
        | rw [fno (.inl (by simpa using hc))]
        | rw [fno (.inr hc)]
        | (unfold Lv.find; rw [if_neg (by simp_all), hq])
      rfl
  | some q =>
    obtain ⟨cb, c⟩ := q
    have hR := hM.right _ _ hq
    have hfew := hR.few
    simp only at hR hfew
    have fyes : (Hdl.get x).ok = true → (Hdl.get x).kind = 3 → c.gen = (Hdl.get x).gen → Lv.find M x = match c.sp.find? (fun s => decide (s.pos = (Hdl.get x).off)) with
        | none => (⟨0, 0, 0, 0, 0⟩, 4)
        | some s => (Lv.laid (Hdl.get x).place c s, 0) := fun h1 h2 h3 => by
      unfold Lv.find
      rw [if_neg (by simp [h1, h2]), hq]
      simp [h3]
    have hatoff : ∀ (m : Nat) (h : m < c.sp.length), c.sp[m].pos = (Hdl.get x).off → Spn.Has (Hdl.get x).off c.sp[m] := fun m h e => by
      have := (hR.ok m h).l0
      unfold Spn.Has; omega
    refine G.case (F' := fun y : Value × Nat => blk cb (.cells #[y.1, .int .i64 c.gen, .map (some y.2)] 161 (0, 0)) :: owns 165 encSp 2 y.1 c.sp :: imap encI y.2 c.reg :: sep ((alDel M (Hdl.get x).place).map chH) :: blk p (.cells #[.map (some mb)] 154 (0, 0)) :: imap encC mb M :: F) (fun ⟨v, rb⟩ => ?_) (fun w h => chunk_open hq h.sub)
    dsimp only
    repeat' (first | (first | first | (apply qab; refine qbg rfl rfl (fun w h => live_is p (some mb) w _ h) ?_) | (apply qad; refine GD.call rfl rfl (fun w F' h => live_is p (some mb) w _ h) ?_) | first | (apply qae; refine GL.run (by (apply qbl; first | exact qbo rfl rfl | exact qbm rfl rfl (by assumption) | exact qbn rfl rfl (by assumption))) rfl ?_) | (apply qad; refine GD.run (by (apply qbl; first | exact qbo rfl rfl | exact qbm rfl rfl (by assumption) | exact qbn rfl rfl (by assumption))) rfl ?_) | first | (apply qab; refine qbg rfl rfl (fun w h => handle_Get x hx w _ h) ?_) | (apply qad; refine GD.call rfl rfl (fun w F' h => handle_Get x hx w _ h) ?_) | (apply qab; refine GL.call rfl rfl (fun w h => spans_Find v c.sp hR _ (by omega) w _ h) (fun r => ?_); obtain ⟨r, hr⟩ := r; dsimp only; rcases hr.or with ⟨rfl, hn⟩ | ⟨m, hm, rfl, hh, hn⟩) | (apply qab; refine qbg (vs := [.pointer (some ⟨cb, 0, none⟩), .int .i64 (Hdl.get x).place, .agg (encSp c.sp[m]).toArray]) rfl rfl (fun w h => live_laid cb v rb c.gen c.reg (Hdl.get x).place c.sp[m] w _ _ h) ?_)) | first | (apply qae; first | refine qa8 rfl ?_ | (apply qak; first | refine qaj rfl rfl rfl rfl rfl ?_ | refine qaf rfl rfl rfl rfl rfl ?_ | refine qag rfl rfl rfl rfl rfl ?_) | refine qan rfl rfl ?_ | refine qap rfl rfl rfl ?_ | refine qao rfl rfl rfl ?_ | (apply qax; first | refine qa6 rfl rfl (fun _ => ?_) | refine qa7 rfl rfl rfl (fun _ => ?_) | refine GL.box rfl rfl (fun _ => ?_)) | (apply qai; first | refine qaa rfl rfl rfl rfl rfl (fun _ => ?_) | refine qac rfl rfl rfl rfl rfl (fun _ => ?_)) | (apply qab; refine qam _ rfl rfl rfl rfl (by rfl) (by omega) (by omega) rfl (fun _ => ?_)) | (apply qal; refine GL.alloc rfl (fun _ => ?_))) | apply GL.nil | first | apply G.seq | apply G.region | apply G.block | apply G.skip | apply G.exit | apply G.ret | (apply qah; first | refine qbe rfl ?_ | refine qbf rfl ?_) | refine qbj (by kernel_rfl) (by kernel_rfl) ?_ | (apply qa4; first | apply qa5 | apply qa2 | apply qas | apply qat | apply qa3 | apply qa1 | apply qaq | refine qar rfl ?_ | apply qba) | (apply qad; first | refine qbb rfl ?_ | refine qau rfl rfl ?_ | refine qaw rfl rfl rfl ?_ | refine qav rfl rfl rfl ?_) | apply qbd | apply qbc | (apply qa0; refine qa9 rfl rfl ?_) | ((first | (apply qae; refine GL.guard rfl rfl (fun hc => ?_) (fun hc => ?_)) | (apply qah; refine G.cond rfl (fun hc => ?_) (fun hc => ?_)) | (apply qad; refine GD.guard rfl rfl (fun hc => ?_) (fun hc => ?_))) <;> ((try simp only [decide_eq_true_eq, decide_eq_false_iff_not, Bool.not_true, Bool.not_false, ne_eq, Classical.not_not, Int.not_lt, Int.not_le] at hc); (try (exfalso; first | omega | exact hc trivial | exact hc rfl)))))
    all_goals
      refine qbh rfl (by (repeat (first | apply Res.nil | (apply Res.tmp; rfl) | (refine qay rfl rfl rfl ?_) | (refine qaz rfl rfl ?_)))) (fun w h => ?_)
      have h3 := liv_close (mb := mb) (p := p) (M := M) (F := F) (chunk_close hq (y := (v, rb)) (F := blk p (.cells #[.map (some mb)] 154 (0, 0)) :: imap encC mb M :: F) h.sub).sub
      refine ⟨?_, h3⟩
    · rw [fno (.inr hc)]; rfl
    · rename_i h2 h3
      unfold Lv.find; rw [if_neg (by simp_all), hq]; simp [hc]; rfl
    · rename_i q1 q2 q3
      rw [fyes (by simp_all) (by assumption) (by assumption), Spn.nohit (P := fun s : SpanM => s.pos = (Hdl.get x).off) (fun j hj e => hn j hj (hatoff j hj e))]
      rfl
    · rw [fyes (by simp_all) (by assumption) (by assumption), Spn.nohit (P := fun s : SpanM => s.pos = (Hdl.get x).off) (fun j hj e => ?_)]
      · rfl
      · by_cases h1 : j < m
        · exact hn j hj h1 (hatoff j hj e)
        · by_cases h2 : j = m
          · subst h2; exact hc e
          · have := hR.ord m j (by omega) hj
            have := (hR.ok m hm).l0
            unfold Spn.Has at hh
            omega
    · rw [fyes (by simp_all) (by assumption) (by assumption), Spn.hit (P := fun s : SpanM => s.pos = (Hdl.get x).off) m hm hc (fun j hj hjm e => hn j hj hjm (hatoff j hj e))]
      rfl
    · rw [fno (.inl (by simpa using hc))]; rfl
end Go.Proofs.YtipkgamiejenaaaGreat

/- Reference 10 (bytes as strings): out, New, Load, Wipe, Store; reference 03, 17: rows of whole numbers. -/
namespace Go.Proofs.YtipkgamiejenaaaGreat
open Go Go.RowKit Go.MapKept
set_option linter.unusedVariables false
set_option linter.unusedSimpArgs false
set_option maxRecDepth 100000
set_option maxHeartbeats 2000000
theorem rf10_out (b : List UInt8) (p n : Int) (hb : b.length ≤ 1099511627776) (w : World) (F : List HProp) (hw : holds w F) :
    Ct Tryz.prog 198 #[.string (bs b), .int .i64 p, .int .i64 n] w fun e w' => e = .returned (.bool (decide (St.off b p n))) ∧ holds w' F := by
  refine Ct.go (args := [.string (bs b), .int .i64 p, .int .i64 n]) Tryz.func198 rfl rfl rfl hw ?_
  by_cases h1 : p < 0
  · rw [decide_eq_true (show St.off b p n from Or.inl h1)]
    repeat' (first | ((apply qae; refine GL.run (Runs.strLen rfl) rfl ?_)) | first | (apply qae; first | refine qa8 rfl ?_ | (apply qak; first | refine qaj rfl rfl rfl rfl rfl ?_ | refine qaf rfl rfl rfl rfl rfl ?_ | refine qag rfl rfl rfl rfl rfl ?_) | refine qan rfl rfl ?_ | refine qap rfl rfl rfl ?_ | refine qao rfl rfl rfl ?_ | (apply qax; first | refine qa6 rfl rfl (fun _ => ?_) | refine qa7 rfl rfl rfl (fun _ => ?_) | refine GL.box rfl rfl (fun _ => ?_)) | (apply qai; first | refine qaa rfl rfl rfl rfl rfl (fun _ => ?_) | refine qac rfl rfl rfl rfl rfl (fun _ => ?_)) | (apply qab; refine qam _ rfl rfl rfl rfl (by rfl) (by omega) (by omega) rfl (fun _ => ?_)) | (apply qal; refine GL.alloc rfl (fun _ => ?_))) | apply GL.nil | first | apply G.seq | apply G.region | apply G.block | apply G.skip | apply G.exit | apply G.ret | (apply qah; first | refine qbe rfl ?_ | refine qbf rfl ?_) | refine qbj (by kernel_rfl) (by kernel_rfl) ?_ | (apply qa4; first | apply qa5 | apply qa2 | apply qas | apply qat | apply qa3 | apply qa1 | apply qaq | refine qar rfl ?_ | apply qba) | (apply qad; first | refine qbb rfl ?_ | refine qau rfl rfl ?_ | refine qaw rfl rfl rfl ?_ | refine qav rfl rfl rfl ?_) | apply qbd | apply qbc | (apply qa0; refine qa9 rfl rfl ?_) | ((first | (apply qae; refine GL.guard rfl rfl (fun hc => ?_) (fun hc => ?_)) | (apply qah; refine G.cond rfl (fun hc => ?_) (fun hc => ?_)) | (apply qad; refine GD.guard rfl rfl (fun hc => ?_) (fun hc => ?_))) <;> ((try simp only [decide_eq_true_eq, decide_eq_false_iff_not, Bool.not_true, Bool.not_false, ne_eq, Classical.not_not, Int.not_lt, Int.not_le] at hc); (try (exfalso; first | omega | exact hc trivial | exact hc rfl)))))
    all_goals (refine qbi rfl (by (repeat (first | apply Res.nil | (apply Res.tmp; rfl) | (refine qay rfl rfl rfl ?_) | (refine qaz rfl rfl ?_)))) (fun w h => ?_); exact ⟨rfl, h.sub⟩)
  by_cases h2 : n < 0
  · rw [decide_eq_true (show St.off b p n from Or.inr (Or.inl h2))]
    repeat' (first | ((apply qae; refine GL.run (Runs.strLen rfl) rfl ?_)) | first | (apply qae; first | refine qa8 rfl ?_ | (apply qak; first | refine qaj rfl rfl rfl rfl rfl ?_ | refine qaf rfl rfl rfl rfl rfl ?_ | refine qag rfl rfl rfl rfl rfl ?_) | refine qan rfl rfl ?_ | refine qap rfl rfl rfl ?_ | refine qao rfl rfl rfl ?_ | (apply qax; first | refine qa6 rfl rfl (fun _ => ?_) | refine qa7 rfl rfl rfl (fun _ => ?_) | refine GL.box rfl rfl (fun _ => ?_)) | (apply qai; first | refine qaa rfl rfl rfl rfl rfl (fun _ => ?_) | refine qac rfl rfl rfl rfl rfl (fun _ => ?_)) | (apply qab; refine qam _ rfl rfl rfl rfl (by rfl) (by omega) (by omega) rfl (fun _ => ?_)) | (apply qal; refine GL.alloc rfl (fun _ => ?_))) | apply GL.nil | first | apply G.seq | apply G.region | apply G.block | apply G.skip | apply G.exit | apply G.ret | (apply qah; first | refine qbe rfl ?_ | refine qbf rfl ?_) | refine qbj (by kernel_rfl) (by kernel_rfl) ?_ | (apply qa4; first | apply qa5 | apply qa2 | apply qas | apply qat | apply qa3 | apply qa1 | apply qaq | refine qar rfl ?_ | apply qba) | (apply qad; first | refine qbb rfl ?_ | refine qau rfl rfl ?_ | refine qaw rfl rfl rfl ?_ | refine qav rfl rfl rfl ?_) | apply qbd | apply qbc | (apply qa0; refine qa9 rfl rfl ?_) | ((first | (apply qae; refine GL.guard rfl rfl (fun hc => ?_) (fun hc => ?_)) | (apply qah; refine G.cond rfl (fun hc => ?_) (fun hc => ?_)) | (apply qad; refine GD.guard rfl rfl (fun hc => ?_) (fun hc => ?_))) <;> ((try simp only [decide_eq_true_eq, decide_eq_false_iff_not, Bool.not_true, Bool.not_false, ne_eq, Classical.not_not, Int.not_lt, Int.not_le] at hc); (try (exfalso; first | omega | exact hc trivial | exact hc rfl)))))
    all_goals (refine qbi rfl (by (repeat (first | apply Res.nil | (apply Res.tmp; rfl) | (refine qay rfl rfl rfl ?_) | (refine qaz rfl rfl ?_)))) (fun w h => ?_); exact ⟨rfl, h.sub⟩)
  by_cases h3 : p > b.length
  · rw [decide_eq_true (show St.off b p n from Or.inr (Or.inr (by omega)))]
    repeat' (first | ((apply qae; refine GL.run (Runs.strLen rfl) rfl ?_)) | first | (apply qae; first | refine qa8 rfl ?_ | (apply qak; first | refine qaj rfl rfl rfl rfl rfl ?_ | refine qaf rfl rfl rfl rfl rfl ?_ | refine qag rfl rfl rfl rfl rfl ?_) | refine qan rfl rfl ?_ | refine qap rfl rfl rfl ?_ | refine qao rfl rfl rfl ?_ | (apply qax; first | refine qa6 rfl rfl (fun _ => ?_) | refine qa7 rfl rfl rfl (fun _ => ?_) | refine GL.box rfl rfl (fun _ => ?_)) | (apply qai; first | refine qaa rfl rfl rfl rfl rfl (fun _ => ?_) | refine qac rfl rfl rfl rfl rfl (fun _ => ?_)) | (apply qab; refine qam _ rfl rfl rfl rfl (by rfl) (by omega) (by omega) rfl (fun _ => ?_)) | (apply qal; refine GL.alloc rfl (fun _ => ?_))) | apply GL.nil | first | apply G.seq | apply G.region | apply G.block | apply G.skip | apply G.exit | apply G.ret | (apply qah; first | refine qbe rfl ?_ | refine qbf rfl ?_) | refine qbj (by kernel_rfl) (by kernel_rfl) ?_ | (apply qa4; first | apply qa5 | apply qa2 | apply qas | apply qat | apply qa3 | apply qa1 | apply qaq | refine qar rfl ?_ | apply qba) | (apply qad; first | refine qbb rfl ?_ | refine qau rfl rfl ?_ | refine qaw rfl rfl rfl ?_ | refine qav rfl rfl rfl ?_) | apply qbd | apply qbc | (apply qa0; refine qa9 rfl rfl ?_) | ((first | (apply qae; refine GL.guard rfl rfl (fun hc => ?_) (fun hc => ?_)) | (apply qah; refine G.cond rfl (fun hc => ?_) (fun hc => ?_)) | (apply qad; refine GD.guard rfl rfl (fun hc => ?_) (fun hc => ?_))) <;> ((try simp only [decide_eq_true_eq, decide_eq_false_iff_not, Bool.not_true, Bool.not_false, ne_eq, Classical.not_not, Int.not_lt, Int.not_le] at hc); (try (exfalso; first | omega | exact hc trivial | exact hc rfl)))))
    all_goals (refine qbi rfl (by (repeat (first | apply Res.nil | (apply Res.tmp; rfl) | (refine qay rfl rfl rfl ?_) | (refine qaz rfl rfl ?_)))) (fun w h => ?_); exact ⟨rfl, h.sub⟩)
  have hd : decide (n > (b.length : Int) - p) = decide (St.off b p n) := decide_eq_decide.2 ⟨fun h => Or.inr (Or.inr (by omega)), fun h => by rcases h with h | h | h <;> omega⟩
  repeat' (first | ((apply qae; refine GL.run (Runs.strLen rfl) rfl ?_)) | first | (apply qae; first | refine qa8 rfl ?_ | (apply qak; first | refine qaj rfl rfl rfl rfl rfl ?_ | refine qaf rfl rfl rfl rfl rfl ?_ | refine qag rfl rfl rfl rfl rfl ?_) | refine qan rfl rfl ?_ | refine qap rfl rfl rfl ?_ | refine qao rfl rfl rfl ?_ | (apply qax; first | refine qa6 rfl rfl (fun _ => ?_) | refine qa7 rfl rfl rfl (fun _ => ?_) | refine GL.box rfl rfl (fun _ => ?_)) | (apply qai; first | refine qaa rfl rfl rfl rfl rfl (fun _ => ?_) | refine qac rfl rfl rfl rfl rfl (fun _ => ?_)) | (apply qab; refine qam _ rfl rfl rfl rfl (by rfl) (by omega) (by omega) rfl (fun _ => ?_)) | (apply qal; refine GL.alloc rfl (fun _ => ?_))) | apply GL.nil | first | apply G.seq | apply G.region | apply G.block | apply G.skip | apply G.exit | apply G.ret | (apply qah; first | refine qbe rfl ?_ | refine qbf rfl ?_) | refine qbj (by kernel_rfl) (by kernel_rfl) ?_ | (apply qa4; first | apply qa5 | apply qa2 | apply qas | apply qat | apply qa3 | apply qa1 | apply qaq | refine qar rfl ?_ | apply qba) | (apply qad; first | refine qbb rfl ?_ | refine qau rfl rfl ?_ | refine qaw rfl rfl rfl ?_ | refine qav rfl rfl rfl ?_) | apply qbd | apply qbc | (apply qa0; refine qa9 rfl rfl ?_) | ((first | (apply qae; refine GL.guard rfl rfl (fun hc => ?_) (fun hc => ?_)) | (apply qah; refine G.cond rfl (fun hc => ?_) (fun hc => ?_)) | (apply qad; refine GD.guard rfl rfl (fun hc => ?_) (fun hc => ?_))) <;> ((try simp only [decide_eq_true_eq, decide_eq_false_iff_not, Bool.not_true, Bool.not_false, ne_eq, Classical.not_not, Int.not_lt, Int.not_le] at hc); (try (exfalso; first | omega | exact hc trivial | exact hc rfl)))))
  all_goals (refine qbi rfl (by (repeat (first | apply Res.nil | (apply Res.tmp; rfl) | (refine qay rfl rfl rfl ?_) | (refine qaz rfl rfl ?_)))) (fun w h => ?_); exact ⟨by rw [← hd], h.sub⟩)
theorem rf10_Load (b : List UInt8) (p n : Int) (hb : b.length ≤ 1099511627776) (w : World) (F : List HProp) (hw : holds w F) :
    Ct Tryz.prog 143 #[.string (bs b), .int .i64 p, .int .i64 n] w fun e w' => e = .returned (if St.off b p n then .tuple #[.string (bs []), .int .i64 15] else .tuple #[.string (bs ((b.drop p.toNat).take n.toNat)), .int .i64 0]) ∧ holds w' F := by
  refine Ct.go (args := [.string (bs b), .int .i64 p, .int .i64 n]) Tryz.func143 rfl rfl rfl hw ?_
  have hO := fun w (F : List HProp) h => rf10_out b p n hb w F h
  by_cases ho : St.off b p n
  · rw [if_pos ho]
    rw [decide_eq_true ho] at hO
    repeat' (first | ((apply qab; refine qbg rfl rfl (fun w h => hO w _ h) ?_)) | first | (apply qae; first | refine qa8 rfl ?_ | (apply qak; first | refine qaj rfl rfl rfl rfl rfl ?_ | refine qaf rfl rfl rfl rfl rfl ?_ | refine qag rfl rfl rfl rfl rfl ?_) | refine qan rfl rfl ?_ | refine qap rfl rfl rfl ?_ | refine qao rfl rfl rfl ?_ | (apply qax; first | refine qa6 rfl rfl (fun _ => ?_) | refine qa7 rfl rfl rfl (fun _ => ?_) | refine GL.box rfl rfl (fun _ => ?_)) | (apply qai; first | refine qaa rfl rfl rfl rfl rfl (fun _ => ?_) | refine qac rfl rfl rfl rfl rfl (fun _ => ?_)) | (apply qab; refine qam _ rfl rfl rfl rfl (by rfl) (by omega) (by omega) rfl (fun _ => ?_)) | (apply qal; refine GL.alloc rfl (fun _ => ?_))) | apply GL.nil | first | apply G.seq | apply G.region | apply G.block | apply G.skip | apply G.exit | apply G.ret | (apply qah; first | refine qbe rfl ?_ | refine qbf rfl ?_) | refine qbj (by kernel_rfl) (by kernel_rfl) ?_ | (apply qa4; first | apply qa5 | apply qa2 | apply qas | apply qat | apply qa3 | apply qa1 | apply qaq | refine qar rfl ?_ | apply qba) | (apply qad; first | refine qbb rfl ?_ | refine qau rfl rfl ?_ | refine qaw rfl rfl rfl ?_ | refine qav rfl rfl rfl ?_) | apply qbd | apply qbc | (apply qa0; refine qa9 rfl rfl ?_) | ((first | (apply qae; refine GL.guard rfl rfl (fun hc => ?_) (fun hc => ?_)) | (apply qah; refine G.cond rfl (fun hc => ?_) (fun hc => ?_)) | (apply qad; refine GD.guard rfl rfl (fun hc => ?_) (fun hc => ?_))) <;> ((try simp only [decide_eq_true_eq, decide_eq_false_iff_not, Bool.not_true, Bool.not_false, ne_eq, Classical.not_not, Int.not_lt, Int.not_le] at hc); (try (exfalso; first | omega | exact hc trivial | exact hc rfl)))))
    all_goals (refine qbh rfl (by (repeat (first | apply Res.nil | (apply Res.tmp; rfl) | (refine qay rfl rfl rfl ?_) | (refine qaz rfl rfl ?_)))) (fun w h => ?_); exact ⟨rfl, h.sub⟩)
  · rw [if_neg ho]
    rw [decide_eq_false ho] at hO
    obtain ⟨a, rfl⟩ : ∃ a : Nat, p = a := ⟨p.toNat, by unfold St.off at ho; omega⟩
    obtain ⟨m, rfl⟩ : ∃ m : Nat, n = m := ⟨n.toNat, by unfold St.off at ho; omega⟩
    have hle : a + m ≤ b.length := by unfold St.off at ho; omega
    repeat' (first | (first | (apply qab; refine qbg rfl rfl (fun w h => hO w _ h) ?_) | (apply qae; refine GL.run (Runs.strCut (a := a) (b := a + m) rfl rfl rfl rfl (by omega) (by omega) hle) rfl ?_)) | first | (apply qae; first | refine qa8 rfl ?_ | (apply qak; first | refine qaj rfl rfl rfl rfl rfl ?_ | refine qaf rfl rfl rfl rfl rfl ?_ | refine qag rfl rfl rfl rfl rfl ?_) | refine qan rfl rfl ?_ | refine qap rfl rfl rfl ?_ | refine qao rfl rfl rfl ?_ | (apply qax; first | refine qa6 rfl rfl (fun _ => ?_) | refine qa7 rfl rfl rfl (fun _ => ?_) | refine GL.box rfl rfl (fun _ => ?_)) | (apply qai; first | refine qaa rfl rfl rfl rfl rfl (fun _ => ?_) | refine qac rfl rfl rfl rfl rfl (fun _ => ?_)) | (apply qab; refine qam _ rfl rfl rfl rfl (by rfl) (by omega) (by omega) rfl (fun _ => ?_)) | (apply qal; refine GL.alloc rfl (fun _ => ?_))) | apply GL.nil | first | apply G.seq | apply G.region | apply G.block | apply G.skip | apply G.exit | apply G.ret | (apply qah; first | refine qbe rfl ?_ | refine qbf rfl ?_) | refine qbj (by kernel_rfl) (by kernel_rfl) ?_ | (apply qa4; first | apply qa5 | apply qa2 | apply qas | apply qat | apply qa3 | apply qa1 | apply qaq | refine qar rfl ?_ | apply qba) | (apply qad; first | refine qbb rfl ?_ | refine qau rfl rfl ?_ | refine qaw rfl rfl rfl ?_ | refine qav rfl rfl rfl ?_) | apply qbd | apply qbc | (apply qa0; refine qa9 rfl rfl ?_) | ((first | (apply qae; refine GL.guard rfl rfl (fun hc => ?_) (fun hc => ?_)) | (apply qah; refine G.cond rfl (fun hc => ?_) (fun hc => ?_)) | (apply qad; refine GD.guard rfl rfl (fun hc => ?_) (fun hc => ?_))) <;> ((try simp only [decide_eq_true_eq, decide_eq_false_iff_not, Bool.not_true, Bool.not_false, ne_eq, Classical.not_not, Int.not_lt, Int.not_le] at hc); (try (exfalso; first | omega | exact hc trivial | exact hc rfl)))))
    all_goals (refine qbh rfl (by (repeat (first | apply Res.nil | (apply Res.tmp; rfl) | (refine qay rfl rfl rfl ?_) | (refine qaz rfl rfl ?_)))) (fun w h => ?_); exact ⟨by simp only [Int.toNat_natCast]; rw [Nat.add_sub_cancel_left], h.sub⟩)
end Go.Proofs.YtipkgamiejenaaaGreat
