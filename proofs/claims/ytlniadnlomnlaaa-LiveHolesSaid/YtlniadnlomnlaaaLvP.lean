/- Contracts of package live: At, Find, Holes. (Under way.) -/
import Derived.Test.YtlniadnlomnlaaaLvN
import Derived.Test.YtlniadnlomnlaaaLvR
namespace Go.Proofs.Ytlniadnlomnlaaa
open Go Go.RowKit Go.MapKept
set_option linter.unusedVariables false
set_option linter.unusedSimpArgs false
set_option maxRecDepth 100000
set_option maxHeartbeats 4000000

theorem Spn.firstHas {l : List SpanM} {x : Int} : ∀ n : Nat, (∃ (m : Nat) (h : m < l.length), m < n ∧ Spn.Has x l[m]) → ∃ (m : Nat) (h : m < l.length), Spn.Has x l[m] ∧ ∀ (j : Nat) (h : j < l.length), j < m → ¬ Spn.Has x l[j]
  | 0, ⟨m, h, hm, _⟩ => absurd hm (Nat.not_lt_zero m)
  | n + 1, ⟨m, h, hm, hh⟩ => by
    by_cases e : ∃ (m : Nat) (h : m < l.length), m < n ∧ Spn.Has x l[m]
    · exact Spn.firstHas n e
    · refine ⟨m, h, hh, fun j hj hjm hc => e ⟨j, hj, by omega, hc⟩⟩
theorem Spn.IsFind.or {l : List SpanM} {x r : Int} (h : Spn.IsFind l x r) : (r = -1 ∧ ∀ (m : Nat) (h : m < l.length), ¬ Spn.Has x l[m]) ∨ ∃ (m : Nat) (h : m < l.length), r = m ∧ Spn.Has x l[m] ∧ ∀ (j : Nat) (h : j < l.length), j < m → ¬ Spn.Has x l[j] := by
  by_cases e : ∃ (m : Nat) (h : m < l.length), Spn.Has x l[m]
  · obtain ⟨m, hm, hh⟩ := e
    obtain ⟨m, hm, hh, hn⟩ := Spn.firstHas (l := l) (x := x) (m + 1) ⟨m, hm, Nat.lt_succ_self m, hh⟩
    exact .inr ⟨m, hm, h.yes m hm hh hn, hh, hn⟩
  · have hn : ∀ (m : Nat) (h : m < l.length), ¬ Spn.Has x l[m] := fun m hm hh => e ⟨m, hm, hh⟩
    exact .inl ⟨h.no hn, hn⟩
theorem Spn.hit {α : Type} {P : α → Prop} [DecidablePred P] {l : List α} (k : Nat) (h : k < l.length) (hp : P l[k]) (hn : ∀ (j : Nat) (h : j < l.length), j < k → ¬ P l[j]) : l.find? (fun y => decide (P y)) = some l[k] := by
  rw [List.find?_eq_some_iff_getElem]
  exact ⟨by simp [hp], k, h, rfl, fun j hj => by simp [hn j (by omega) hj]⟩
theorem Spn.nohit {α : Type} {P : α → Prop} [DecidablePred P] {l : List α} (hn : ∀ (j : Nat) (h : j < l.length), ¬ P l[j]) : l.find? (fun y => decide (P y)) = none := by
  rw [List.find?_eq_none]
  intro y hy
  obtain ⟨j, hj, rfl⟩ := List.getElem_of_mem hy
  simp [hn j hj]
namespace Lv
def find (M : LvM) (h : Int) : LaidM × Int :=
  if ¬ ((Hdl.get h).ok = true) ∨ ¬ ((Hdl.get h).kind = 3) then (⟨0, 0, 0, 0, 0⟩, 20) else
  match alGet M (Hdl.get h).place with
  | none => (⟨0, 0, 0, 0, 0⟩, 4)
  | some q => if ¬ q.2.gen = (Hdl.get h).gen then (⟨0, 0, 0, 0, 0⟩, 4) else
    match q.2.sp.find? (fun s => decide (s.pos = (Hdl.get h).off)) with
    | none => (⟨0, 0, 0, 0, 0⟩, 4)
    | some s => (laid (Hdl.get h).place q.2 s, 0)
def holes (M : LvM) (i e : Int) : List SpanM := match alGet M i with
  | none => Spn.holes e []
  | some q => Spn.holes e q.2.sp
def atOf (M : LvM) (i x : Int) : Int × Int := match alGet M i with
  | none => (0, 20)
  | some q => match q.2.sp.find? (fun s => decide (Spn.Has x s)) with
    | none => (0, 20)
    | some s => Hdl.put 3 i q.2.gen s.pos
end Lv
theorem live_At (p : Nat) (M : LvM) (hM : Lv.Ok M) (i x : Int) (hx : x ≤ 9223372036854775807) (w : World) (F : List HProp) (hw : holds w (livP p M :: F)) :
    Ct Try.prog 24 #[.pointer (some ⟨p, 0, none⟩), .int .i64 i, .int .i64 x] w fun e w' => e = .returned (.tuple #[.int .i64 (Lv.atOf M i x).1, .int .i64 (Lv.atOf M i x).2]) ∧ holds w' (livP p M :: F) := by
  refine Ct.go (args := [.pointer (some ⟨p, 0, none⟩), .int .i64 i, .int .i64 x]) Try.func24 rfl rfl rfl hw ?_
  refine G.case (fun mb => ?_) (fun w h => liv_open h)
  cases hq : alGet M i with
  | none =>
    repeat' (first | (first | first | (apply GL.isCall; refine GL.call1 rfl rfl (fun w h => live_is p (some mb) w _ h) ?_) | (apply GD.isAny; refine GD.call rfl rfl (fun w F' h => live_is p (some mb) w _ h) ?_) | first | (apply GL.isAny; refine GL.run (by (apply Runs.isLookup; first | exact Runs.lookupI rfl rfl | exact Runs.lookupS rfl rfl (by assumption) | exact Runs.lookupN rfl rfl (by assumption))) rfl ?_) | (apply GD.isAny; refine GD.run (by (apply Runs.isLookup; first | exact Runs.lookupI rfl rfl | exact Runs.lookupS rfl rfl (by assumption) | exact Runs.lookupN rfl rfl (by assumption))) rfl ?_)) | first | (apply GL.isAny; first | refine GL.runA rfl ?_ | (apply GL.isStore; first | refine GL.storeBlk rfl rfl rfl rfl rfl ?_ | refine GL.storeWhole rfl rfl rfl rfl rfl ?_ | refine GL.storeBlkA rfl rfl rfl rfl rfl ?_) | refine GL.guardY rfl rfl ?_ | refine GL.guardN rfl rfl rfl ?_ | refine GL.guardU rfl rfl rfl ?_ | (refine GL.guard rfl rfl (fun hc => ?_) (fun hc => ?_) <;> ((try simp only [decide_eq_true_eq, decide_eq_false_iff_not, Bool.not_true, Bool.not_false, ne_eq, Classical.not_not, Int.not_lt, Int.not_le] at hc); (try (exfalso; first | omega | exact hc trivial | exact hc rfl)))) | (apply GL.isBox; first | refine GL.boxA rfl rfl (fun _ => ?_) | refine GL.box1 rfl rfl rfl (fun _ => ?_) | refine GL.box rfl rfl (fun _ => ?_)) | (apply GL.isBuildS; first | refine GL.buildSlice1A rfl rfl rfl rfl rfl (fun _ => ?_) | refine GL.buildSlice1 rfl rfl rfl rfl rfl (fun _ => ?_)) | (apply GL.isCall; refine GL.append1 _ rfl rfl rfl rfl (by rfl) (by omega) (by omega) rfl (fun _ => ?_)) | (apply GL.isAlloc; refine GL.alloc rfl (fun _ => ?_))) | apply GL.nil | first | apply G.seq | apply G.region | apply G.block | apply G.skip | apply G.exit | apply G.ret | (apply G.isCond; first | refine G.condT rfl ?_ | refine G.condF rfl ?_ | (refine G.cond rfl (fun hc => ?_) (fun hc => ?_) <;> ((try simp only [decide_eq_true_eq, decide_eq_false_iff_not, Bool.not_true, Bool.not_false, ne_eq, Classical.not_not, Int.not_lt, Int.not_le] at hc); (try (exfalso; first | omega | exact hc trivial | exact hc rfl))))) | refine G.draw (by kernel_rfl) (by kernel_rfl) ?_ | (apply GE.isAny; first | apply GE.again | apply GE.thenG | apply GE.blockN | apply GE.blockE | apply GE.thenE | apply GE.thenR | apply GE.blockR | refine GE.blockO rfl ?_ | apply GE.only) | (apply GD.isAny; first | refine GD.runA rfl ?_ | refine GD.guardY rfl rfl ?_ | refine GD.guardN rfl rfl rfl ?_ | refine GD.guardU rfl rfl rfl ?_ | (refine GD.guard rfl rfl (fun hc => ?_) (fun hc => ?_) <;> ((try simp only [decide_eq_true_eq, decide_eq_false_iff_not, Bool.not_true, Bool.not_false, ne_eq, Classical.not_not, Int.not_lt, Int.not_le] at hc); (try (exfalso; first | omega | exact hc trivial | exact hc rfl))))) | apply GD.nilE | apply GD.nilL | (apply GT.isAny; refine GT.runA rfl rfl ?_))
    refine GE.resMany rfl (by (repeat (first | apply Res.nil | (apply Res.tmp; rfl) | (refine Res.cellA rfl rfl rfl ?_) | (refine Res.cell1 rfl rfl ?_)))) (fun w h => ?_)
    refine ⟨?_, liv_close (mb := mb) h⟩
    unfold Lv.atOf
    rw [hq]
  | some q =>
    obtain ⟨cb, c⟩ := q
    have hR := hM.right i _ hq
    have hfew := hR.few
    simp only at hR hfew
    refine G.case (F' := fun y : Value × Nat => blk cb (.cells #[y.1, .int .i64 c.gen, .map (some y.2)] 99 (0, 0)) :: owns 50 encSp 2 y.1 c.sp :: imap encI y.2 c.reg :: sep ((alDel M i).map chH) :: blk p (.cells #[.map (some mb)] 53 (0, 0)) :: imap encC mb M :: F) (fun ⟨v, rb⟩ => ?_) (fun w h => chunk_open hq h.sub)
    dsimp only
    repeat' (first | (first | first | (apply GL.isCall; refine GL.call1 rfl rfl (fun w h => live_is p (some mb) w _ h) ?_) | (apply GD.isAny; refine GD.call rfl rfl (fun w F' h => live_is p (some mb) w _ h) ?_) | first | (apply GL.isAny; refine GL.run (by (apply Runs.isLookup; first | exact Runs.lookupI rfl rfl | exact Runs.lookupS rfl rfl (by assumption) | exact Runs.lookupN rfl rfl (by assumption))) rfl ?_) | (apply GD.isAny; refine GD.run (by (apply Runs.isLookup; first | exact Runs.lookupI rfl rfl | exact Runs.lookupS rfl rfl (by assumption) | exact Runs.lookupN rfl rfl (by assumption))) rfl ?_) | (apply GL.isCall; refine GL.call rfl rfl (fun w h => spans_Find v c.sp hR x hx w _ h) (fun r => ?_); obtain ⟨r, hr⟩ := r; dsimp only; rcases hr.or with ⟨rfl, hn⟩ | ⟨m, hm, rfl, hh, hn⟩) | first | (apply GL.isCall; refine GL.call1 rfl rfl (fun w h => handle_Put _ _ _ _ w _ h) ?_) | (apply GD.isAny; refine GD.call rfl rfl (fun w F' h => handle_Put _ _ _ _ w _ h) ?_)) | first | (apply GL.isAny; first | refine GL.runA rfl ?_ | (apply GL.isStore; first | refine GL.storeBlk rfl rfl rfl rfl rfl ?_ | refine GL.storeWhole rfl rfl rfl rfl rfl ?_ | refine GL.storeBlkA rfl rfl rfl rfl rfl ?_) | refine GL.guardY rfl rfl ?_ | refine GL.guardN rfl rfl rfl ?_ | refine GL.guardU rfl rfl rfl ?_ | (refine GL.guard rfl rfl (fun hc => ?_) (fun hc => ?_) <;> ((try simp only [decide_eq_true_eq, decide_eq_false_iff_not, Bool.not_true, Bool.not_false, ne_eq, Classical.not_not, Int.not_lt, Int.not_le] at hc); (try (exfalso; first | omega | exact hc trivial | exact hc rfl)))) | (apply GL.isBox; first | refine GL.boxA rfl rfl (fun _ => ?_) | refine GL.box1 rfl rfl rfl (fun _ => ?_) | refine GL.box rfl rfl (fun _ => ?_)) | (apply GL.isBuildS; first | refine GL.buildSlice1A rfl rfl rfl rfl rfl (fun _ => ?_) | refine GL.buildSlice1 rfl rfl rfl rfl rfl (fun _ => ?_)) | (apply GL.isCall; refine GL.append1 _ rfl rfl rfl rfl (by rfl) (by omega) (by omega) rfl (fun _ => ?_)) | (apply GL.isAlloc; refine GL.alloc rfl (fun _ => ?_))) | apply GL.nil | first | apply G.seq | apply G.region | apply G.block | apply G.skip | apply G.exit | apply G.ret | (apply G.isCond; first | refine G.condT rfl ?_ | refine G.condF rfl ?_ | (refine G.cond rfl (fun hc => ?_) (fun hc => ?_) <;> ((try simp only [decide_eq_true_eq, decide_eq_false_iff_not, Bool.not_true, Bool.not_false, ne_eq, Classical.not_not, Int.not_lt, Int.not_le] at hc); (try (exfalso; first | omega | exact hc trivial | exact hc rfl))))) | refine G.draw (by kernel_rfl) (by kernel_rfl) ?_ | (apply GE.isAny; first | apply GE.again | apply GE.thenG | apply GE.blockN | apply GE.blockE | apply GE.thenE | apply GE.thenR | apply GE.blockR | refine GE.blockO rfl ?_ | apply GE.only) | (apply GD.isAny; first | refine GD.runA rfl ?_ | refine GD.guardY rfl rfl ?_ | refine GD.guardN rfl rfl rfl ?_ | refine GD.guardU rfl rfl rfl ?_ | (refine GD.guard rfl rfl (fun hc => ?_) (fun hc => ?_) <;> ((try simp only [decide_eq_true_eq, decide_eq_false_iff_not, Bool.not_true, Bool.not_false, ne_eq, Classical.not_not, Int.not_lt, Int.not_le] at hc); (try (exfalso; first | omega | exact hc trivial | exact hc rfl))))) | apply GD.nilE | apply GD.nilL | (apply GT.isAny; refine GT.runA rfl rfl ?_))
    · refine GE.resMany rfl (by (repeat (first | apply Res.nil | (apply Res.tmp; rfl) | (refine Res.cellA rfl rfl rfl ?_) | (refine Res.cell1 rfl rfl ?_)))) (fun w h => ?_)
      have h3 := liv_close (mb := mb) (p := p) (M := M) (F := F) (chunk_close hq (y := (v, rb)) (F := blk p (.cells #[.map (some mb)] 53 (0, 0)) :: imap encC mb M :: F) h.sub).sub
      refine ⟨?_, h3⟩
      unfold Lv.atOf
      rw [hq]
      dsimp only
      rw [Spn.nohit hn]
    · refine GE.resMany rfl (by (repeat (first | apply Res.nil | (apply Res.tmp; rfl) | (refine Res.cellA rfl rfl rfl ?_) | (refine Res.cell1 rfl rfl ?_)))) (fun w h => ?_)
      have h3 := liv_close (mb := mb) (p := p) (M := M) (F := F) (chunk_close hq (y := (v, rb)) (F := blk p (.cells #[.map (some mb)] 53 (0, 0)) :: imap encC mb M :: F) h.sub).sub
      refine ⟨?_, h3⟩
      unfold Lv.atOf
      rw [hq]
      dsimp only
      rw [Spn.hit m hm hh hn]
theorem live_Holes (p : Nat) (M : LvM) (hM : Lv.Ok M) (i e : Int) (he : 1 ≤ e ∧ e ≤ 9223372036854775807) (w : World) (F : List HProp) (hw : holds w (livP p M :: F)) :
    Ct Try.prog 27 #[.pointer (some ⟨p, 0, none⟩), .int .i64 i, .int .i64 e] w fun en w' => ∃ u, en = .returned u ∧ holds w' (owns 50 encSp 2 u (Lv.holes M i e) :: livP p M :: F) := by
  refine Ct.go (args := [.pointer (some ⟨p, 0, none⟩), .int .i64 i, .int .i64 e]) Try.func27 rfl rfl rfl hw ?_
  refine G.case (fun mb => ?_) (fun w h => liv_open h)
  cases hq : alGet M i with
  | none =>
    have hR : SpR [] := ⟨fun i h => absurd h (Nat.not_lt_zero i), fun i j _ h => absurd h (Nat.not_lt_zero j), by simp⟩
    refine G.nilOwn 50 encSp 2 ?_
    repeat' (first | (first | first | (apply GL.isCall; refine GL.call1 rfl rfl (fun w h => live_is p (some mb) w _ h) ?_) | (apply GD.isAny; refine GD.call rfl rfl (fun w F' h => live_is p (some mb) w _ h) ?_) | first | (apply GL.isAny; refine GL.run (by (apply Runs.isLookup; first | exact Runs.lookupI rfl rfl | exact Runs.lookupS rfl rfl (by assumption) | exact Runs.lookupN rfl rfl (by assumption))) rfl ?_) | (apply GD.isAny; refine GD.run (by (apply Runs.isLookup; first | exact Runs.lookupI rfl rfl | exact Runs.lookupS rfl rfl (by assumption) | exact Runs.lookupN rfl rfl (by assumption))) rfl ?_) | (apply GL.isCall; refine GL.call rfl rfl (fun w h => spans_Holes (.slice none 0 0) [] hR e he w _ h) (fun x => ?_))) | first | (apply GL.isAny; first | refine GL.runA rfl ?_ | (apply GL.isStore; first | refine GL.storeBlk rfl rfl rfl rfl rfl ?_ | refine GL.storeWhole rfl rfl rfl rfl rfl ?_ | refine GL.storeBlkA rfl rfl rfl rfl rfl ?_) | refine GL.guardY rfl rfl ?_ | refine GL.guardN rfl rfl rfl ?_ | refine GL.guardU rfl rfl rfl ?_ | (refine GL.guard rfl rfl (fun hc => ?_) (fun hc => ?_) <;> ((try simp only [decide_eq_true_eq, decide_eq_false_iff_not, Bool.not_true, Bool.not_false, ne_eq, Classical.not_not, Int.not_lt, Int.not_le] at hc); (try (exfalso; first | omega | exact hc trivial | exact hc rfl)))) | (apply GL.isBox; first | refine GL.boxA rfl rfl (fun _ => ?_) | refine GL.box1 rfl rfl rfl (fun _ => ?_) | refine GL.box rfl rfl (fun _ => ?_)) | (apply GL.isBuildS; first | refine GL.buildSlice1A rfl rfl rfl rfl rfl (fun _ => ?_) | refine GL.buildSlice1 rfl rfl rfl rfl rfl (fun _ => ?_)) | (apply GL.isCall; refine GL.append1 _ rfl rfl rfl rfl (by rfl) (by omega) (by omega) rfl (fun _ => ?_)) | (apply GL.isAlloc; refine GL.alloc rfl (fun _ => ?_))) | apply GL.nil | first | apply G.seq | apply G.region | apply G.block | apply G.skip | apply G.exit | apply G.ret | (apply G.isCond; first | refine G.condT rfl ?_ | refine G.condF rfl ?_ | (refine G.cond rfl (fun hc => ?_) (fun hc => ?_) <;> ((try simp only [decide_eq_true_eq, decide_eq_false_iff_not, Bool.not_true, Bool.not_false, ne_eq, Classical.not_not, Int.not_lt, Int.not_le] at hc); (try (exfalso; first | omega | exact hc trivial | exact hc rfl))))) | refine G.draw (by kernel_rfl) (by kernel_rfl) ?_ | (apply GE.isAny; first | apply GE.again | apply GE.thenG | apply GE.blockN | apply GE.blockE | apply GE.thenE | apply GE.thenR | apply GE.blockR | refine GE.blockO rfl ?_ | apply GE.only) | (apply GD.isAny; first | refine GD.runA rfl ?_ | refine GD.guardY rfl rfl ?_ | refine GD.guardN rfl rfl rfl ?_ | refine GD.guardU rfl rfl rfl ?_ | (refine GD.guard rfl rfl (fun hc => ?_) (fun hc => ?_) <;> ((try simp only [decide_eq_true_eq, decide_eq_false_iff_not, Bool.not_true, Bool.not_false, ne_eq, Classical.not_not, Int.not_lt, Int.not_le] at hc); (try (exfalso; first | omega | exact hc trivial | exact hc rfl))))) | apply GD.nilE | apply GD.nilL | (apply GT.isAny; refine GT.runA rfl rfl ?_))
    refine GE.resOne rfl (by (repeat (first | apply Res.nil | (apply Res.tmp; rfl) | (refine Res.cellA rfl rfl rfl ?_) | (refine Res.cell1 rfl rfl ?_)))) (fun w h => ?_)
    refine ⟨x, rfl, ?_⟩
    unfold Lv.holes
    rw [hq]
    have h3 := liv_close (p := p) (M := M) (mb := mb) (F := owns 50 encSp 2 x (Spn.holes e []) :: F) h.sub
    exact h3.sub
  | some q =>
    obtain ⟨cb, c⟩ := q
    have hR := hM.right i _ hq
    have hfew := hR.few
    simp only at hR hfew
    refine G.case (F' := fun y : Value × Nat => blk cb (.cells #[y.1, .int .i64 c.gen, .map (some y.2)] 99 (0, 0)) :: owns 50 encSp 2 y.1 c.sp :: imap encI y.2 c.reg :: sep ((alDel M i).map chH) :: blk p (.cells #[.map (some mb)] 53 (0, 0)) :: imap encC mb M :: F) (fun ⟨v, rb⟩ => ?_) (fun w h => chunk_open hq h.sub)
    dsimp only
    repeat' (first | (first | first | (apply GL.isCall; refine GL.call1 rfl rfl (fun w h => live_is p (some mb) w _ h) ?_) | (apply GD.isAny; refine GD.call rfl rfl (fun w F' h => live_is p (some mb) w _ h) ?_) | first | (apply GL.isAny; refine GL.run (by (apply Runs.isLookup; first | exact Runs.lookupI rfl rfl | exact Runs.lookupS rfl rfl (by assumption) | exact Runs.lookupN rfl rfl (by assumption))) rfl ?_) | (apply GD.isAny; refine GD.run (by (apply Runs.isLookup; first | exact Runs.lookupI rfl rfl | exact Runs.lookupS rfl rfl (by assumption) | exact Runs.lookupN rfl rfl (by assumption))) rfl ?_) | (apply GL.isCall; refine GL.call rfl rfl (fun w h => spans_Holes v c.sp hR e he w _ h) (fun x => ?_))) | first | (apply GL.isAny; first | refine GL.runA rfl ?_ | (apply GL.isStore; first | refine GL.storeBlk rfl rfl rfl rfl rfl ?_ | refine GL.storeWhole rfl rfl rfl rfl rfl ?_ | refine GL.storeBlkA rfl rfl rfl rfl rfl ?_) | refine GL.guardY rfl rfl ?_ | refine GL.guardN rfl rfl rfl ?_ | refine GL.guardU rfl rfl rfl ?_ | (refine GL.guard rfl rfl (fun hc => ?_) (fun hc => ?_) <;> ((try simp only [decide_eq_true_eq, decide_eq_false_iff_not, Bool.not_true, Bool.not_false, ne_eq, Classical.not_not, Int.not_lt, Int.not_le] at hc); (try (exfalso; first | omega | exact hc trivial | exact hc rfl)))) | (apply GL.isBox; first | refine GL.boxA rfl rfl (fun _ => ?_) | refine GL.box1 rfl rfl rfl (fun _ => ?_) | refine GL.box rfl rfl (fun _ => ?_)) | (apply GL.isBuildS; first | refine GL.buildSlice1A rfl rfl rfl rfl rfl (fun _ => ?_) | refine GL.buildSlice1 rfl rfl rfl rfl rfl (fun _ => ?_)) | (apply GL.isCall; refine GL.append1 _ rfl rfl rfl rfl (by rfl) (by omega) (by omega) rfl (fun _ => ?_)) | (apply GL.isAlloc; refine GL.alloc rfl (fun _ => ?_))) | apply GL.nil | first | apply G.seq | apply G.region | apply G.block | apply G.skip | apply G.exit | apply G.ret | (apply G.isCond; first | refine G.condT rfl ?_ | refine G.condF rfl ?_ | (refine G.cond rfl (fun hc => ?_) (fun hc => ?_) <;> ((try simp only [decide_eq_true_eq, decide_eq_false_iff_not, Bool.not_true, Bool.not_false, ne_eq, Classical.not_not, Int.not_lt, Int.not_le] at hc); (try (exfalso; first | omega | exact hc trivial | exact hc rfl))))) | refine G.draw (by kernel_rfl) (by kernel_rfl) ?_ | (apply GE.isAny; first | apply GE.again | apply GE.thenG | apply GE.blockN | apply GE.blockE | apply GE.thenE | apply GE.thenR | apply GE.blockR | refine GE.blockO rfl ?_ | apply GE.only) | (apply GD.isAny; first | refine GD.runA rfl ?_ | refine GD.guardY rfl rfl ?_ | refine GD.guardN rfl rfl rfl ?_ | refine GD.guardU rfl rfl rfl ?_ | (refine GD.guard rfl rfl (fun hc => ?_) (fun hc => ?_) <;> ((try simp only [decide_eq_true_eq, decide_eq_false_iff_not, Bool.not_true, Bool.not_false, ne_eq, Classical.not_not, Int.not_lt, Int.not_le] at hc); (try (exfalso; first | omega | exact hc trivial | exact hc rfl))))) | apply GD.nilE | apply GD.nilL | (apply GT.isAny; refine GT.runA rfl rfl ?_))
    refine GE.resOne rfl (by (repeat (first | apply Res.nil | (apply Res.tmp; rfl) | (refine Res.cellA rfl rfl rfl ?_) | (refine Res.cell1 rfl rfl ?_)))) (fun w h => ?_)
    refine ⟨x, rfl, ?_⟩
    unfold Lv.holes
    rw [hq]
    have h2 := chunk_close hq (y := (v, rb)) (F := owns 50 encSp 2 x (Spn.holes e c.sp) :: blk p (.cells #[.map (some mb)] 53 (0, 0)) :: imap encC mb M :: F) h.sub
    have h3 := liv_close (p := p) (M := M) (mb := mb) (F := owns 50 encSp 2 x (Spn.holes e c.sp) :: F) h2.sub
    exact h3.sub
theorem live_Find (p : Nat) (M : LvM) (hM : Lv.Ok M) (x : Int) (hx : x < 9223372036854775808) (w : World) (F : List HProp) (hw : holds w (livP p M :: F)) :
    Ct Try.prog 15 #[.pointer (some ⟨p, 0, none⟩), .int .i64 x] w fun e w' => e = .returned (.tuple #[.agg (encLaid (Lv.find M x).1).toArray, .int .i64 (Lv.find M x).2]) ∧ holds w' (livP p M :: F) := by
  have fno : ¬ ((Hdl.get x).ok = true) ∨ ¬ ((Hdl.get x).kind = 3) → Lv.find M x = (⟨0, 0, 0, 0, 0⟩, 20) := fun h => by
    unfold Lv.find
    rw [if_pos h]
  have ho : (Hdl.get x).off ≤ 1048575 := by
    unfold Hdl.get; split
    · dsimp only; omega
    · dsimp only; omega
  refine Ct.go (args := [.pointer (some ⟨p, 0, none⟩), .int .i64 x]) Try.func15 rfl rfl rfl hw ?_
  refine G.case (fun mb => ?_) (fun w h => liv_open h)
  cases hq : alGet M (Hdl.get x).place with
  | none =>
    repeat' (first | (first | first | (apply GL.isCall; refine GL.call1 rfl rfl (fun w h => live_is p (some mb) w _ h) ?_) | (apply GD.isAny; refine GD.call rfl rfl (fun w F' h => live_is p (some mb) w _ h) ?_) | first | (apply GL.isAny; refine GL.run (by (apply Runs.isLookup; first | exact Runs.lookupI rfl rfl | exact Runs.lookupS rfl rfl (by assumption) | exact Runs.lookupN rfl rfl (by assumption))) rfl ?_) | (apply GD.isAny; refine GD.run (by (apply Runs.isLookup; first | exact Runs.lookupI rfl rfl | exact Runs.lookupS rfl rfl (by assumption) | exact Runs.lookupN rfl rfl (by assumption))) rfl ?_) | first | (apply GL.isCall; refine GL.call1 rfl rfl (fun w h => handle_Get x hx w _ h) ?_) | (apply GD.isAny; refine GD.call rfl rfl (fun w F' h => handle_Get x hx w _ h) ?_)) | first | (apply GL.isAny; first | refine GL.runA rfl ?_ | (apply GL.isStore; first | refine GL.storeBlk rfl rfl rfl rfl rfl ?_ | refine GL.storeWhole rfl rfl rfl rfl rfl ?_ | refine GL.storeBlkA rfl rfl rfl rfl rfl ?_) | refine GL.guardY rfl rfl ?_ | refine GL.guardN rfl rfl rfl ?_ | refine GL.guardU rfl rfl rfl ?_ | (refine GL.guard rfl rfl (fun hc => ?_) (fun hc => ?_) <;> ((try simp only [decide_eq_true_eq, decide_eq_false_iff_not, Bool.not_true, Bool.not_false, ne_eq, Classical.not_not, Int.not_lt, Int.not_le] at hc); (try (exfalso; first | omega | exact hc trivial | exact hc rfl)))) | (apply GL.isBox; first | refine GL.boxA rfl rfl (fun _ => ?_) | refine GL.box1 rfl rfl rfl (fun _ => ?_) | refine GL.box rfl rfl (fun _ => ?_)) | (apply GL.isBuildS; first | refine GL.buildSlice1A rfl rfl rfl rfl rfl (fun _ => ?_) | refine GL.buildSlice1 rfl rfl rfl rfl rfl (fun _ => ?_)) | (apply GL.isCall; refine GL.append1 _ rfl rfl rfl rfl (by rfl) (by omega) (by omega) rfl (fun _ => ?_)) | (apply GL.isAlloc; refine GL.alloc rfl (fun _ => ?_))) | apply GL.nil | first | apply G.seq | apply G.region | apply G.block | apply G.skip | apply G.exit | apply G.ret | (apply G.isCond; first | refine G.condT rfl ?_ | refine G.condF rfl ?_ | (refine G.cond rfl (fun hc => ?_) (fun hc => ?_) <;> ((try simp only [decide_eq_true_eq, decide_eq_false_iff_not, Bool.not_true, Bool.not_false, ne_eq, Classical.not_not, Int.not_lt, Int.not_le] at hc); (try (exfalso; first | omega | exact hc trivial | exact hc rfl))))) | refine G.draw (by kernel_rfl) (by kernel_rfl) ?_ | (apply GE.isAny; first | apply GE.again | apply GE.thenG | apply GE.blockN | apply GE.blockE | apply GE.thenE | apply GE.thenR | apply GE.blockR | refine GE.blockO rfl ?_ | apply GE.only) | (apply GD.isAny; first | refine GD.runA rfl ?_ | refine GD.guardY rfl rfl ?_ | refine GD.guardN rfl rfl rfl ?_ | refine GD.guardU rfl rfl rfl ?_ | (refine GD.guard rfl rfl (fun hc => ?_) (fun hc => ?_) <;> ((try simp only [decide_eq_true_eq, decide_eq_false_iff_not, Bool.not_true, Bool.not_false, ne_eq, Classical.not_not, Int.not_lt, Int.not_le] at hc); (try (exfalso; first | omega | exact hc trivial | exact hc rfl))))) | apply GD.nilE | apply GD.nilL | (apply GT.isAny; refine GT.runA rfl rfl ?_))
    all_goals
      refine GE.resMany rfl (by (repeat (first | apply Res.nil | (apply Res.tmp; rfl) | (refine Res.cellA rfl rfl rfl ?_) | (refine Res.cell1 rfl rfl ?_)))) (fun w h => ?_)
      have h3 := liv_close (mb := mb) (p := p) (M := M) (F := F) h.sub
      refine ⟨?_, h3⟩
      first
        | rw [fno (.inl (by simpa using hc))]
        | rw [fno (.inr hc)]
        | (unfold Lv.find; rw [if_neg (by simp_all), hq])
      rfl
  | some q =>
    obtain ⟨cb, c⟩ := q
    have hR := hM.right _ _ hq
    have hfew := hR.few
    simp only at hR hfew
    have fyes : (Hdl.get x).ok = true → (Hdl.get x).kind = 3 → c.gen = (Hdl.get x).gen → Lv.find M x = match c.sp.find? (fun s => decide (s.pos = (Hdl.get x).off)) with
        | none => (⟨0, 0, 0, 0, 0⟩, 4)
        | some s => (Lv.laid (Hdl.get x).place c s, 0) := fun h1 h2 h3 => by
      unfold Lv.find
      rw [if_neg (by simp [h1, h2]), hq]
      simp [h3]
    have hatoff : ∀ (m : Nat) (h : m < c.sp.length), c.sp[m].pos = (Hdl.get x).off → Spn.Has (Hdl.get x).off c.sp[m] := fun m h e => by
      have := (hR.ok m h).l0
      unfold Spn.Has; omega
    refine G.case (F' := fun y : Value × Nat => blk cb (.cells #[y.1, .int .i64 c.gen, .map (some y.2)] 99 (0, 0)) :: owns 50 encSp 2 y.1 c.sp :: imap encI y.2 c.reg :: sep ((alDel M (Hdl.get x).place).map chH) :: blk p (.cells #[.map (some mb)] 53 (0, 0)) :: imap encC mb M :: F) (fun ⟨v, rb⟩ => ?_) (fun w h => chunk_open hq h.sub)
    dsimp only
    repeat' (first | (first | first | (apply GL.isCall; refine GL.call1 rfl rfl (fun w h => live_is p (some mb) w _ h) ?_) | (apply GD.isAny; refine GD.call rfl rfl (fun w F' h => live_is p (some mb) w _ h) ?_) | first | (apply GL.isAny; refine GL.run (by (apply Runs.isLookup; first | exact Runs.lookupI rfl rfl | exact Runs.lookupS rfl rfl (by assumption) | exact Runs.lookupN rfl rfl (by assumption))) rfl ?_) | (apply GD.isAny; refine GD.run (by (apply Runs.isLookup; first | exact Runs.lookupI rfl rfl | exact Runs.lookupS rfl rfl (by assumption) | exact Runs.lookupN rfl rfl (by assumption))) rfl ?_) | first | (apply GL.isCall; refine GL.call1 rfl rfl (fun w h => handle_Get x hx w _ h) ?_) | (apply GD.isAny; refine GD.call rfl rfl (fun w F' h => handle_Get x hx w _ h) ?_) | (apply GL.isCall; refine GL.call rfl rfl (fun w h => spans_Find v c.sp hR _ (by omega) w _ h) (fun r => ?_); obtain ⟨r, hr⟩ := r; dsimp only; rcases hr.or with ⟨rfl, hn⟩ | ⟨m, hm, rfl, hh, hn⟩) | (apply GL.isCall; refine GL.call1 (vs := [.pointer (some ⟨cb, 0, none⟩), .int .i64 (Hdl.get x).place, .agg (encSp c.sp[m]).toArray]) rfl rfl (fun w h => live_laid cb v rb c.gen c.reg (Hdl.get x).place c.sp[m] w _ _ h) ?_)) | first | (apply GL.isAny; first | refine GL.runA rfl ?_ | (apply GL.isStore; first | refine GL.storeBlk rfl rfl rfl rfl rfl ?_ | refine GL.storeWhole rfl rfl rfl rfl rfl ?_ | refine GL.storeBlkA rfl rfl rfl rfl rfl ?_) | refine GL.guardY rfl rfl ?_ | refine GL.guardN rfl rfl rfl ?_ | refine GL.guardU rfl rfl rfl ?_ | (refine GL.guard rfl rfl (fun hc => ?_) (fun hc => ?_) <;> ((try simp only [decide_eq_true_eq, decide_eq_false_iff_not, Bool.not_true, Bool.not_false, ne_eq, Classical.not_not, Int.not_lt, Int.not_le] at hc); (try (exfalso; first | omega | exact hc trivial | exact hc rfl)))) | (apply GL.isBox; first | refine GL.boxA rfl rfl (fun _ => ?_) | refine GL.box1 rfl rfl rfl (fun _ => ?_) | refine GL.box rfl rfl (fun _ => ?_)) | (apply GL.isBuildS; first | refine GL.buildSlice1A rfl rfl rfl rfl rfl (fun _ => ?_) | refine GL.buildSlice1 rfl rfl rfl rfl rfl (fun _ => ?_)) | (apply GL.isCall; refine GL.append1 _ rfl rfl rfl rfl (by rfl) (by omega) (by omega) rfl (fun _ => ?_)) | (apply GL.isAlloc; refine GL.alloc rfl (fun _ => ?_))) | apply GL.nil | first | apply G.seq | apply G.region | apply G.block | apply G.skip | apply G.exit | apply G.ret | (apply G.isCond; first | refine G.condT rfl ?_ | refine G.condF rfl ?_ | (refine G.cond rfl (fun hc => ?_) (fun hc => ?_) <;> ((try simp only [decide_eq_true_eq, decide_eq_false_iff_not, Bool.not_true, Bool.not_false, ne_eq, Classical.not_not, Int.not_lt, Int.not_le] at hc); (try (exfalso; first | omega | exact hc trivial | exact hc rfl))))) | refine G.draw (by kernel_rfl) (by kernel_rfl) ?_ | (apply GE.isAny; first | apply GE.again | apply GE.thenG | apply GE.blockN | apply GE.blockE | apply GE.thenE | apply GE.thenR | apply GE.blockR | refine GE.blockO rfl ?_ | apply GE.only) | (apply GD.isAny; first | refine GD.runA rfl ?_ | refine GD.guardY rfl rfl ?_ | refine GD.guardN rfl rfl rfl ?_ | refine GD.guardU rfl rfl rfl ?_ | (refine GD.guard rfl rfl (fun hc => ?_) (fun hc => ?_) <;> ((try simp only [decide_eq_true_eq, decide_eq_false_iff_not, Bool.not_true, Bool.not_false, ne_eq, Classical.not_not, Int.not_lt, Int.not_le] at hc); (try (exfalso; first | omega | exact hc trivial | exact hc rfl))))) | apply GD.nilE | apply GD.nilL | (apply GT.isAny; refine GT.runA rfl rfl ?_))
    all_goals
      refine GE.resMany rfl (by (repeat (first | apply Res.nil | (apply Res.tmp; rfl) | (refine Res.cellA rfl rfl rfl ?_) | (refine Res.cell1 rfl rfl ?_)))) (fun w h => ?_)
      have h3 := liv_close (mb := mb) (p := p) (M := M) (F := F) (chunk_close hq (y := (v, rb)) (F := blk p (.cells #[.map (some mb)] 53 (0, 0)) :: imap encC mb M :: F) h.sub).sub
      refine ⟨?_, h3⟩
    · rw [fno (.inr hc)]; rfl
    · rename_i h2 h3
      unfold Lv.find; rw [if_neg (by simp_all), hq]; simp [hc]; rfl
    · rename_i q1 q2 q3
      rw [fyes (by simp_all) (by assumption) (by assumption), Spn.nohit (P := fun s : SpanM => s.pos = (Hdl.get x).off) (fun j hj e => hn j hj (hatoff j hj e))]
      rfl
    · rw [fyes (by simp_all) (by assumption) (by assumption), Spn.nohit (P := fun s : SpanM => s.pos = (Hdl.get x).off) (fun j hj e => ?_)]
      · rfl
      · by_cases h1 : j < m
        · exact hn j hj h1 (hatoff j hj e)
        · by_cases h2 : j = m
          · subst h2; exact hc e
          · have := hR.ord m j (by omega) hj
            have := (hR.ok m hm).l0
            unfold Spn.Has at hh
            omega
    · rw [fyes (by simp_all) (by assumption) (by assumption), Spn.hit (P := fun s : SpanM => s.pos = (Hdl.get x).off) m hm hc (fun j hj hjm e => hn j hj hjm (hatoff j hj e))]
      rfl
    · rw [fno (.inl (by simpa using hc))]; rfl
end Go.Proofs.Ytlniadnlomnlaaa
