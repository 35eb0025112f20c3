import Derived.Test.YtipkgamiejenaaaGreatStoH
import Derived.Test.YtipkgamiejenaaaGreatMg21

import Derived.Test.YtipkgamiejenaaaGreatMg5
import Derived.Test.YtipkgamiejenaaaGreatMg6
import Derived.Test.YtipkgamiejenaaaGreatMg7
import Derived.Test.YtipkgamiejenaaaGreatMg8
/- Package store: Make. -/
namespace Go.Proofs.YtipkgamiejenaaaGreat
open Go Go.RowKit Go.MapKept
set_option linter.unusedVariables false
set_option linter.unusedSectionVars false
set_option linter.unusedSimpArgs false
set_option maxRecDepth 100000
set_option maxHeartbeats 4000000
section
variable {P : Program} {n : Nat} {env : Env} {F : List HProp}
/-- A box that takes pieces with it. -/
theorem DoesW.boxTake {e : TypeId} {x : Operand} {cs : Array Value} {T L : List HProp} (pc : Nat → HProp) (hx : opnd env x = some (.agg cs)) (hpc : ∀ b w G, holds w (blk b (.cells cs e (0, 0)) :: (T ++ G)) → holds w (pc b :: G)) :
    DoesW P n env F T L (.box e x) IsPt (fun u => pc (ptB u)) := ⟨fun ac w F' ty pos aft g d hf hw => by
  have hr : (execOp ac.eval ⟨d, .box e x, ty, pos, aft, g⟩).run P w = .ok (.value (.pointer (some ⟨w.heap.size, 0, none⟩))) (w.alloc (.cells cs e (0, 0))) := by
    simp [execOp, hf.eval hx, Instr.box, newVar, newRow, run_newObj, Value.cells, Result.andThen]
  rw [hr]
  exact ⟨⟨_, rfl⟩, hpc _ _ _ (hw.alloc (.cells cs e (0, 0)))⟩⟩
/-- A value is told, and pieces are put together under it. -/
theorem DoesW.gather {op : Op} {v : Value} {T L : List HProp} (R : Value → Prop) (pc : Value → HProp) (hr : Runs P n env F op v) (hR : R v) (hp : ∀ w G, holds w (T ++ G) → holds w (pc v :: G)) : DoesW P n env F T L op R pc := ⟨fun a w F' ty pos aft g d hf hw => by
  have hF : holds w F := by
    obtain ⟨f, hf', hs⟩ := hw
    obtain ⟨f1, f2, _, h2, j⟩ := (sep_append T _ f).1 hs
    obtain ⟨f3, f4, _, h4, j2⟩ := (sep_append L _ f2).1 h2
    obtain ⟨f5, f6, h5, _, j3⟩ := (sep_append F F' f4).1 h4
    exact ⟨f, hf', sep_sub F f2 f j.symm (sep_sub F f4 f2 j2.symm (sep_sub F f5 f4 j3 h5))⟩
  rw [hr a w _ _ _ _ _ hf hF]
  exact ⟨hR, hp _ _ hw⟩⟩
end
def ptr (b : Nat) : Value := .pointer (some ⟨b, 0, none⟩)
theorem tags_NewP (n : Nat) (hn : n ≤ 1048576) (w : World) (G : List HProp) (hw : holds w G) :
    Ct Tryz.prog 65 #[.int .i64 (n : Nat)] w fun e w' => ∃ b : Nat, e = .returned (.pointer (some ⟨b, 0, none⟩)) ∧ holds w' (tagsAt (ptr b) (List.replicate n (0, 0)) :: G) := by
  refine ⟨(tags_New w n G (by omega) (by omega) hw).mono fun e w' ⟨v, he, h⟩ => ?_⟩
  rw [Int.toNat_natCast] at h
  obtain ⟨b, g, bm, m, rfl, hm, h2⟩ := open_tags h
  exact ⟨b, he, h⟩
def newCells (n sz tb fb cb kb : Nat) (m0 : Int) : Array Value := #[ptr tb, ptr fb, .slice (some ⟨cb, 0, none⟩) n n, .int .i64 (sz : Nat), .int .i64 m0, .int .i64 0, .int .i64 0, .int .i64 0, ptr kb]
def IsNew (n sz : Nat) (u : Value) : Prop := ∃ x : Nat × Nat × Nat × Nat, u = .agg (newCells n sz x.1 x.2.1 x.2.2.1 x.2.2.2 0)
theorem IsNew.defd {n sz : Nat} {u : Value} (h : IsNew n sz u) : isUndef u = false := by obtain ⟨x, rfl⟩ := h; rfl
def partsP (n sz : Nat) (u : Value) : HProp := fun f => ∃ x : Nat × Nat × Nat × Nat, u = .agg (newCells n sz x.1 x.2.1 x.2.2.1 x.2.2.2 0) ∧ sep [tagsAt (ptr x.1) (List.replicate n (0, 0)), freeP (ptr x.2.1) n (((List.range n).reverse).map (Nat.cast : Nat → Int)), owns 148 encCell 6 (.slice (some ⟨x.2.2.1, 0, none⟩) n n) (List.replicate n cell0), bookP (ptr x.2.2.2) 4 (List.replicate 4 0)] f
def newP (n sz sb : Nat) : HProp := fun f => ∃ x : Nat × Nat × Nat × Nat, sep [blk sb (.cells (newCells n sz x.1 x.2.1 x.2.2.1 x.2.2.2 0) 123 (0, 0)), tagsAt (ptr x.1) (List.replicate n (0, 0)), freeP (ptr x.2.1) n (((List.range n).reverse).map (Nat.cast : Nat → Int)), owns 148 encCell 6 (.slice (some ⟨x.2.2.1, 0, none⟩) n n) (List.replicate n cell0), bookP (ptr x.2.2.2) 4 (List.replicate 4 0)] f
theorem newP.open {w : World} {n sz sb : Nat} {F : List HProp} (h : holds w (newP n sz sb :: F)) : ∃ x : Nat × Nat × Nat × Nat, holds w ([blk sb (.cells (newCells n sz x.1 x.2.1 x.2.2.1 x.2.2.2 0) 123 (0, 0)), tagsAt (ptr x.1) (List.replicate n (0, 0)), freeP (ptr x.2.1) n (((List.range n).reverse).map (Nat.cast : Nat → Int)), owns 148 encCell 6 (.slice (some ⟨x.2.2.1, 0, none⟩) n n) (List.replicate n cell0), bookP (ptr x.2.2.2) 4 (List.replicate 4 0)] ++ F) := by
  obtain ⟨x, h⟩ := holds.open_ex h
  exact ⟨x, holds_sep.1 h⟩
theorem newP.shut {w : World} {n sz sb : Nat} {cs : Array Value} {G : List HProp} (h : holds w (blk sb (.cells cs 123 (0, 0)) :: partsP n sz (.agg cs) :: G)) : holds w (newP n sz sb :: G) := by
  obtain ⟨x, h⟩ := holds.open_ex (h.order [1, 0])
  obtain ⟨e, h⟩ := holds.open_pure h
  cases e
  have h2 : holds w ([blk sb (.cells (newCells n sz x.1 x.2.1 x.2.2.1 x.2.2.2 0) 123 (0, 0)), tagsAt (ptr x.1) (List.replicate n (0, 0)), freeP (ptr x.2.1) n (((List.range n).reverse).map (Nat.cast : Nat → Int)), owns 148 encCell 6 (.slice (some ⟨x.2.2.1, 0, none⟩) n n) (List.replicate n cell0), bookP (ptr x.2.2.2) 4 (List.replicate 4 0)] ++ G) := (holds_sep.1 h).perm (List.perm_middle (l₁ := [tagsAt (ptr x.1) (List.replicate n (0, 0)), freeP (ptr x.2.1) n (((List.range n).reverse).map (Nat.cast : Nat → Int)), owns 148 encCell 6 (.slice (some ⟨x.2.2.1, 0, none⟩) n n) (List.replicate n cell0), bookP (ptr x.2.2.2) 4 (List.replicate 4 0)]) (l₂ := G))
  exact (holds_sep.2 h2).mono fun f hf => ⟨x, hf⟩
theorem bigF_new (n : Nat) (sz : Nat) : ∀ (m : Nat) (w : World) (F : List HProp), m ≤ n → holds w F → holds w ((List.range m).map (chunkF (St.new n sz) (List.replicate n cell0)) ++ F)
  | 0, w, F, _, h => h
  | m + 1, w, F, hm, h => by
    rw [List.range_succ, List.map_append, List.append_assoc]
    refine bigF_new n sz m w _ (by omega) ?_
    show holds w (chunkF (St.new n sz) (List.replicate n cell0) m :: F)
    unfold chunkF
    have e1 : (List.replicate n cell0).getD m cell0 = cell0 := by rw [List.getD_eq_getElem?_getD, List.getElem?_replicate]; split <;> rfl
    have e2 : (St.new n sz).c m = St.ch0 := by
      show (List.replicate n St.ch0).getD ((m : Int)).toNat St.ch0 = _
      rw [Int.toNat_natCast, List.getD_eq_getElem?_getD, List.getElem?_replicate]; split <;> rfl
    have e3 : (St.new n sz).x m = St.zeros sz := by
      show (List.replicate n (St.zeros sz)).getD ((m : Int)).toNat [] = _
      rw [Int.toNat_natCast, List.getD_eq_getElem?_getD, List.getElem?_replicate, if_pos (by omega)]; rfl
    rw [e1, e2, e3]
    refine chunkP.shut ⟨rfl, rfl, rfl, fun h => absurd rfl h, by simp [cell0, St.ch0]⟩ ?_
    have h2 := h.addNil.addNil
    exact h2.mono fun f _ y hy => (List.mem_replicate.1 hy).2
theorem cntP_new (n : Nat) (p : Int) : St.cntP (List.replicate n St.ch0) p = if p = 0 then (n : Int) else 0 := by
  unfold St.cntP
  by_cases hp : p = 0
  · subst hp; rw [if_pos rfl, List.filter_eq_self.2 (fun a ha => by rw [(List.mem_replicate.1 ha).2]; rfl), List.length_replicate]
  · rw [if_neg hp, List.filter_eq_nil_iff.2 (fun a ha => by rw [(List.mem_replicate.1 ha).2]; simp [St.ch0]; omega)]; rfl
theorem store_MakeN (n sz : Int) (hb : n < 1 ∨ 1048576 < n ∨ sz < 64 ∨ 1048576 < sz ∨ ∃ m : Nat, sz = m ∧ m ≤ 256 ∧ Pw.pow m = false) (w : World) (F : List HProp) (hw : holds w F) :
    Ct Tryz.prog 11 #[.int .i64 n, .int .i64 sz] w fun e w' => e = .returned (.tuple #[.pointer none, .int .i64 2]) ∧ holds w' F := by
  refine Ct.go (args := [.int .i64 n, .int .i64 sz]) Tryz.func11 rfl rfl rfl hw ?_
  by_cases h4 : n < 1 ∨ 1048576 < n ∨ sz < 64 ∨ 1048576 < sz
  · repeat' (first | (apply qac; first | refine qa6 rfl ?_ | (apply qaj; first | refine qah rfl rfl rfl rfl rfl ?_ | refine qae rfl rfl rfl rfl rfl ?_ | refine qaf rfl rfl rfl rfl rfl ?_) | refine qam rfl rfl ?_ | refine qao rfl rfl rfl ?_ | refine qan rfl rfl rfl ?_ | (apply qaw; first | refine qa5 rfl rfl (fun _ => ?_) | refine qa7 rfl rfl rfl (fun _ => ?_) | refine GL.box rfl rfl (fun _ => ?_)) | (apply qai; first | refine qaa rfl rfl rfl rfl rfl (fun _ => ?_) | refine qab rfl rfl rfl rfl rfl (fun _ => ?_)) | (apply GL.isCall; refine qal _ rfl rfl rfl rfl (by rfl) (by omega) (by omega) rfl (fun _ => ?_)) | (apply qak; refine GL.alloc rfl (fun _ => ?_))) | apply GL.nil | first | apply G.seq | apply G.region | apply G.block | apply G.skip | apply G.exit | apply G.ret | (apply qag; first | refine qbd rfl ?_ | refine qbe rfl ?_) | refine qbi (by kernel_rfl) (by kernel_rfl) ?_ | (apply qa3; first | apply qa4 | apply qa1 | apply qar | apply qas | apply qa2 | apply qa0 | apply qap | refine qaq rfl ?_ | apply qa9) | (apply qad; first | refine qba rfl ?_ | refine qat rfl rfl ?_ | refine qav rfl rfl rfl ?_ | refine qau rfl rfl rfl ?_) | apply qbc | apply qbb | (apply qaz; refine qa8 rfl rfl ?_) | ((first | (apply qac; refine GL.guard rfl rfl (fun hc => ?_) (fun hc => ?_)) | (apply qag; refine G.cond rfl (fun hc => ?_) (fun hc => ?_)) | (apply qad; refine GD.guard rfl rfl (fun hc => ?_) (fun hc => ?_))) <;> ((try simp only [decide_eq_true_eq, decide_eq_false_iff_not, Bool.not_true, Bool.not_false, ne_eq, Classical.not_not, Int.not_lt, Int.not_le] at hc); (try (exfalso; first | omega | exact hc trivial | exact hc rfl)))))
    all_goals (first | (exfalso; omega) | (refine qbh rfl (by (repeat (first | apply Res.nil | (apply Res.tmp; rfl) | (refine qax rfl rfl rfl ?_) | (refine qay rfl rfl ?_)))) (fun w h => ?_); exact ⟨rfl, h⟩))
  · obtain ⟨m, rfl, hm, hp⟩ : ∃ m : Nat, sz = m ∧ m ≤ 256 ∧ Pw.pow m = false := by
      rcases hb with h | h | h | h | h <;> first | exact h | (exfalso; omega)
    have hP := fun w (F : List HProp) h => num_Power m hm (by omega) w F h
    rw [hp] at hP
    repeat' (first | (first | (apply GL.isCall; refine qbf rfl rfl (fun w h => hP w _ h) ?_) | (apply qad; refine GD.call rfl rfl (fun w F' h => hP w _ h) ?_)) | first | (apply qac; first | refine qa6 rfl ?_ | (apply qaj; first | refine qah rfl rfl rfl rfl rfl ?_ | refine qae rfl rfl rfl rfl rfl ?_ | refine qaf rfl rfl rfl rfl rfl ?_) | refine qam rfl rfl ?_ | refine qao rfl rfl rfl ?_ | refine qan rfl rfl rfl ?_ | (apply qaw; first | refine qa5 rfl rfl (fun _ => ?_) | refine qa7 rfl rfl rfl (fun _ => ?_) | refine GL.box rfl rfl (fun _ => ?_)) | (apply qai; first | refine qaa rfl rfl rfl rfl rfl (fun _ => ?_) | refine qab rfl rfl rfl rfl rfl (fun _ => ?_)) | (apply GL.isCall; refine qal _ rfl rfl rfl rfl (by rfl) (by omega) (by omega) rfl (fun _ => ?_)) | (apply qak; refine GL.alloc rfl (fun _ => ?_))) | apply GL.nil | first | apply G.seq | apply G.region | apply G.block | apply G.skip | apply G.exit | apply G.ret | (apply qag; first | refine qbd rfl ?_ | refine qbe rfl ?_) | refine qbi (by kernel_rfl) (by kernel_rfl) ?_ | (apply qa3; first | apply qa4 | apply qa1 | apply qar | apply qas | apply qa2 | apply qa0 | apply qap | refine qaq rfl ?_ | apply qa9) | (apply qad; first | refine qba rfl ?_ | refine qat rfl rfl ?_ | refine qav rfl rfl rfl ?_ | refine qau rfl rfl rfl ?_) | apply qbc | apply qbb | (apply qaz; refine qa8 rfl rfl ?_) | ((first | (apply qac; refine GL.guard rfl rfl (fun hc => ?_) (fun hc => ?_)) | (apply qag; refine G.cond rfl (fun hc => ?_) (fun hc => ?_)) | (apply qad; refine GD.guard rfl rfl (fun hc => ?_) (fun hc => ?_))) <;> ((try simp only [decide_eq_true_eq, decide_eq_false_iff_not, Bool.not_true, Bool.not_false, ne_eq, Classical.not_not, Int.not_lt, Int.not_le] at hc); (try (exfalso; first | omega | exact hc trivial | exact hc rfl)))))
    all_goals (first | (exfalso; omega) | (exfalso; simp at hc; done) | (refine qbh rfl (by (repeat (first | apply Res.nil | (apply Res.tmp; rfl) | (refine qax rfl rfl rfl ?_) | (refine qay rfl rfl ?_)))) (fun w h => ?_); exact ⟨rfl, h⟩))
theorem store_Make (n sz : Nat) (h0 : 0 < n) (hn : n ≤ 1048576) (hs0 : 64 ≤ sz) (hs1 : sz ≤ 256) (hp : Pw.pow sz = true) (w : World) (F : List HProp) (hw : holds w F) :
    Ct Tryz.prog 11 #[.int .i64 (n : Nat), .int .i64 (sz : Nat)] w fun e w' => ∃ sb : Nat, e = .returned (.tuple #[.pointer (some ⟨sb, 0, none⟩), .int .i64 0]) ∧ holds w' (storeP sb (St.new n sz) :: F) := by
  refine Ct.go (args := [.int .i64 (n : Nat), .int .i64 (sz : Nat)]) Tryz.func11 rfl rfl rfl hw ?_
  have hP := fun w (F : List HProp) h => num_Power sz hs1 (by omega) w F h
  rw [hp] at hP
  repeat' (first | (first | first | (apply GL.isCall; refine qbf rfl rfl (fun w h => hP w _ h) ?_) | (apply qad; refine GD.call rfl rfl (fun w F' h => hP w _ h) ?_) | (refine qbj 3 ?_; refine G.drawW [⟨some 1, [], some 8, some 27, IsPt, fun u => tagsAt (ptr (ptB u)) (List.replicate n (0, 0))⟩, ⟨some 3, [], some 8, some 29, IsPt, fun u => freeP (ptr (ptB u)) n (((List.range n).reverse).map (Nat.cast : Nat → Int))⟩, ⟨some 5, [], some 8, some 31, IsSl n n, fun u => owns 148 encCell 6 u (List.replicate n cell0)⟩, ⟨some 7, [], some 8, some 33, IsPt, fun u => bookP (ptr (ptB u)) 4 (List.replicate 4 0)⟩, ⟨some 8, [0, 1, 2, 3], some 9, some 34, IsNew n sz, fun u => partsP n sz u⟩, ⟨some 9, [4], none, some 35, IsPt, fun u => newP n sz (ptB u)⟩] [] [] [5] (by kernel_rfl) (by kernel_rfl) rfl trivial ?_) | (apply qbk; first | refine GW.runA rfl rfl ?_ | refine GW.seeA rfl rfl ⟨⟨_, rfl, .inl rfl⟩, trivial⟩ rfl ?_) | (apply qbk; refine GW.eff rfl rfl rfl rfl rfl trivial rfl trivial (fun u hu => hu.defd) (DoesW.callPt (vs := [.int .i64 (n : Nat)]) (fun b => tagsAt (ptr b) (List.replicate n (0, 0))) rfl (fun w G h => tags_NewP n hn w G h)) rfl (fun u hu => ?_); obtain ⟨tb, rfl⟩ := hu) | (apply qbk; refine GW.eff rfl rfl rfl rfl rfl trivial rfl trivial (fun u hu => hu.defd) (DoesW.callPt (vs := [.int .i64 (n : Nat)]) (fun b => freeP (ptr b) n (((List.range n).reverse).map (Nat.cast : Nat → Int))) rfl (fun w G h => free_New n h0 hn w G h)) rfl (fun u hu => ?_); obtain ⟨fb, rfl⟩ := hu) | (apply qbk; refine GW.eff rfl rfl rfl rfl rfl trivial rfl trivial (fun u hu => hu.defd) (DoesW.makeSl encCell cell0 n n rfl rfl rfl rfl rfl (Nat.le_refl _) (by omega) (by unfold maxLen; omega)) rfl (fun u hu => ?_); obtain ⟨cb, rfl⟩ := hu) | (apply qbk; refine GW.eff rfl rfl rfl rfl rfl trivial rfl trivial (fun u hu => hu.defd) (DoesW.callPt (vs := [.int .i64 ((4 : Nat) : Int)]) (fun b => bookP (ptr b) 4 (List.replicate 4 0)) rfl (fun w G h => count_New 4 (by omega) (by omega) w G h)) rfl (fun u hu => ?_); obtain ⟨kb, rfl⟩ := hu) | (apply qbk; refine GW.eff rfl rfl rfl rfl rfl ⟨⟨_, rfl, .inr (.inr ⟨_, _, rfl, rfl, rfl⟩)⟩, ⟨_, rfl, .inr (.inr ⟨_, _, rfl, rfl, rfl⟩)⟩, ⟨_, rfl, .inr (.inr ⟨_, _, rfl, rfl, rfl⟩)⟩, ⟨_, rfl, .inr (.inr ⟨_, _, rfl, rfl, rfl⟩)⟩, trivial⟩ rfl trivial (fun u hu => hu.defd) (DoesW.gather (v := .agg (newCells n sz tb fb cb kb 0)) (IsNew n sz) (partsP n sz) (by apply Runs.isBuild; exact Runs.build rfl rfl) ⟨(tb, fb, cb, kb), rfl⟩ (fun w G h => (holds_sep.2 (show holds w ([tagsAt (ptr tb) (List.replicate n (0, 0)), freeP (ptr fb) n (((List.range n).reverse).map (Nat.cast : Nat → Int)), owns 148 encCell 6 (.slice (some ⟨cb, 0, none⟩) n n) (List.replicate n cell0), bookP (ptr kb) 4 (List.replicate 4 0)] ++ G) from h)).mono fun f hf => ⟨(tb, fb, cb, kb), rfl, hf⟩)) rfl (fun u hu => ?_); obtain ⟨x, rfl⟩ := hu) | (apply qbk; refine GW.eff rfl rfl rfl rfl rfl ⟨⟨_, rfl, .inr (.inr ⟨_, _, rfl, rfl, rfl⟩)⟩, trivial⟩ rfl trivial (fun u hu => hu.defd) (DoesW.boxTake (fun b => newP n sz b) rfl (fun b w G h => newP.shut h)) rfl (fun u hu => ?_); obtain ⟨sb, rfl⟩ := hu) | (refine GW.nilE rfl ⟨⟨_, rfl, .inr (.inr ⟨_, _, rfl, rfl, rfl⟩)⟩, trivial⟩ ?_; refine GE.imp (F' := newP n sz sb :: F) ?_ (fun w h => h)) | (refine qbj 4 ?_; refine G.case (F' := fun x : Nat × Nat × Nat × Nat => blk sb (.cells #[.pointer (some ⟨x.1, 0, none⟩), .pointer (some ⟨x.2.1, 0, none⟩), .slice (some ⟨x.2.2.1, 0, none⟩) n n, .int .i64 (sz : Nat), .int .i64 0, .int .i64 0, .int .i64 0, .int .i64 0, .pointer (some ⟨x.2.2.2, 0, none⟩)] 123 (0, 0)) :: tagsAt (ptr x.1) (List.replicate n (0, 0)) :: freeP (ptr x.2.1) n (((List.range n).reverse).map (Nat.cast : Nat → Int)) :: owns 148 encCell 6 (.slice (some ⟨x.2.2.1, 0, none⟩) n n) (List.replicate n cell0) :: bookP (ptr x.2.2.2) 4 (List.replicate 4 0) :: F) (fun x => ?_) (fun w h => newP.open h); apply G.region)) | first | (apply qac; first | refine qa6 rfl ?_ | (apply qaj; first | refine qah rfl rfl rfl rfl rfl ?_ | refine qae rfl rfl rfl rfl rfl ?_ | refine qaf rfl rfl rfl rfl rfl ?_) | refine qam rfl rfl ?_ | refine qao rfl rfl rfl ?_ | refine qan rfl rfl rfl ?_ | (apply qaw; first | refine qa5 rfl rfl (fun _ => ?_) | refine qa7 rfl rfl rfl (fun _ => ?_) | refine GL.box rfl rfl (fun _ => ?_)) | (apply qai; first | refine qaa rfl rfl rfl rfl rfl (fun _ => ?_) | refine qab rfl rfl rfl rfl rfl (fun _ => ?_)) | (apply GL.isCall; refine qal _ rfl rfl rfl rfl (by rfl) (by omega) (by omega) rfl (fun _ => ?_)) | (apply qak; refine GL.alloc rfl (fun _ => ?_))) | apply GL.nil | first | apply G.seq | apply G.region | apply G.block | apply G.skip | apply G.exit | apply G.ret | (apply qag; first | refine qbd rfl ?_ | refine qbe rfl ?_) | refine qbi (by kernel_rfl) (by kernel_rfl) ?_ | (apply qa3; first | apply qa4 | apply qa1 | apply qar | apply qas | apply qa2 | apply qa0 | apply qap | refine qaq rfl ?_ | apply qa9) | (apply qad; first | refine qba rfl ?_ | refine qat rfl rfl ?_ | refine qav rfl rfl rfl ?_ | refine qau rfl rfl rfl ?_) | apply qbc | apply qbb | (apply qaz; refine qa8 rfl rfl ?_) | ((first | (apply qac; refine GL.guard rfl rfl (fun hc => ?_) (fun hc => ?_)) | (apply qag; refine G.cond rfl (fun hc => ?_) (fun hc => ?_)) | (apply qad; refine GD.guard rfl rfl (fun hc => ?_) (fun hc => ?_))) <;> ((try simp only [decide_eq_true_eq, decide_eq_false_iff_not, Bool.not_true, Bool.not_false, ne_eq, Classical.not_not, Int.not_lt, Int.not_le] at hc); (try (exfalso; first | omega | exact hc trivial | exact hc rfl)))))
  all_goals (first | (exfalso; omega) | (exfalso; simp at hc; done) | skip)
  refine qbh rfl (by (repeat (first | apply Res.nil | (apply Res.tmp; rfl) | (refine qax rfl rfl rfl ?_) | (refine qay rfl rfl ?_)))) (fun w h => ?_)
  refine ⟨sb, rfl, ?_⟩
  rename_i x
  have h2 : holds w (blk sb (.cells #[.pointer (some ⟨x.1, 0, none⟩), .pointer (some ⟨x.2.1, 0, none⟩), .slice (some ⟨x.2.2.1, 0, none⟩) n n, .int .i64 (sz : Nat), .int .i64 (n : Nat), .int .i64 0, .int .i64 0, .int .i64 0, .pointer (some ⟨x.2.2.2, 0, none⟩)] 123 (0, 0)) :: tagsAt (ptr x.1) (List.replicate n (0, 0)) :: freeP (ptr x.2.1) n (((List.range n).reverse).map (Nat.cast : Nat → Int)) :: owns 148 encCell 6 (.slice (some ⟨x.2.2.1, 0, none⟩) n n) (List.replicate n cell0) :: bookP (ptr x.2.2.2) 4 (List.replicate 4 0) :: F) := h
  have h3 := (holds_sep (l := (List.range n).map (chunkF (St.new n sz) (List.replicate n cell0)))).2 (bigF_new n sz n w _ (Nat.le_refl _) h2)
  refine storeP.make (St.new n sz) ⟨x.1, x.2.1, x.2.2.1, x.2.2.2, []⟩ (List.replicate n cell0) n (n : Nat) 0 0 0 (List.replicate n (0, 0)) (by simp [St.new]) (cntP_new n 0) (cntP_new n 1) (cntP_new n 2) (cntP_new n 3) (by simp [St.new, St.ch0]) (by simp) ?_
  exact h3.order [1, 2, 3, 4, 0, 5]
end Go.Proofs.YtipkgamiejenaaaGreat

/- Package store: a store that Make did not give; and the law's example. -/
namespace Go.Proofs.YtipkgamiejenaaaGreat
open Go Go.RowKit Go.MapKept
set_option linter.unusedVariables false
set_option linter.unusedSectionVars false
set_option linter.unusedSimpArgs false
set_option maxRecDepth 100000
set_option maxHeartbeats 4000000
end Go.Proofs.YtipkgamiejenaaaGreat

/- The laws of chapter 19: the example, and StoreNone. -/
namespace Go.Proofs.YtipkgamiejenaaaGreat
open Go Go.RowKit Go.MapKept
set_option linter.unusedVariables false
set_option linter.unusedSectionVars false
set_option linter.unusedSimpArgs false
set_option maxRecDepth 100000
set_option maxHeartbeats 4000000
namespace St
def w1 : S := (take (new 2 64) 7).1
def w2 : S := (put w1 0 0 3 [97, 98, 99]).1
def w3 : S := (give w2 0 7).1
def w4 : S := (start w3 0).1
def w5 : S := (step w4 0 64).1
theorem wr1 : (take (new 2 64) 7).2.1 = 0 ∧ (take (new 2 64) 7).2.2 = 0 := by decide +kernel
theorem wr2 : (put w1 0 0 3 [97, 98, 99]).2 = 0 := by decide +kernel
theorem wr3 : (give w2 0 7).2 = 0 := by decide +kernel
theorem wr4 : (start w3 0).2 = 0 := by decide +kernel
theorem wr5 : (step w4 0 64).2.1 = true ∧ (step w4 0 64).2.2 = 0 := by decide +kernel
theorem wr6 : (told w5 0).1.phase = 0 ∧ (told w5 0).1.owner = 0 ∧ (told w5 0).1.gen = 1 ∧ (told w5 0).2 = true := by decide +kernel
theorem wr7 : clean w5 0 = true := by decide +kernel
theorem wr8 : cntP w5.ch 0 = 2 ∧ cntP w5.ch 1 = 0 ∧ cntP w5.ch 2 = 0 ∧ cntP w5.ch 3 = 0 := by decide +kernel
theorem wi0 : Inv (new 2 64) 0 := Inv.new 2 64 (by omega) (by omega)
theorem wi1 : Inv w1 1 := wi0.take 7
theorem wi2 : Inv w2 2 := wi1.put 0 0 3 _
theorem wi3 : Inv w3 3 := wi2.give 0 7
theorem wi4 : Inv w4 4 := wi3.start 0
theorem wi5 : Inv w5 5 := wi4.step 0 64
end St
theorem law19_works (w : World) (F : List HProp) (hw : holds w F) :
    Ct Tryz.prog 10 #[] w fun e w' => e = .returned (.bool true) ∧ holds w' F := by
  refine Ct.go (args := []) Tryz.func10 rfl rfl rfl hw ?_
  have c0 := fun w (F : List HProp) h => store_Make 2 64 (by omega) (by omega) (by omega) (by omega) (by kernel_rfl) w F h
  have c1 := fun sb w (F : List HProp) h => store_Take sb _ 0 St.wi0 (by omega) 7 w F h
  have c2 := fun sb w (F : List HProp) h => store_Store sb _ 1 St.wi1 (by omega) 0 0 3 [97, 98, 99] (by decide) w F h
  have c3 := fun sb w (F : List HProp) h => store_Defer sb _ 2 St.wi2 (by omega) 0 7 w F h
  have c4 := fun sb w (F : List HProp) h => store_Begin sb _ 3 St.wi3 (by omega) 0 w F h
  have c5 := fun sb w (F : List HProp) h => store_Step sb _ 4 St.wi4 (by omega) 0 64 w F h
  have c6 := fun sb w (F : List HProp) h => store_Chunk sb _ 5 St.wi5 (by omega) 0 w F h
  have c7 := fun sb w (F : List HProp) h => store_Clean sb _ 5 St.wi5 (by omega) 0 w F h
  have c8 := fun sb w (F : List HProp) h => store_Many sb _ 5 St.wi5 (by omega) w F h
  rw [St.wr1.1, St.wr1.2, show (St.take (St.new 2 64) 7).1 = St.w1 from rfl] at c1
  rw [St.wr2, show (St.put St.w1 0 0 3 [97, 98, 99]).1 = St.w2 from rfl] at c2
  rw [St.wr3, show (St.give St.w2 0 7).1 = St.w3 from rfl] at c3
  rw [St.wr4, show (St.start St.w3 0).1 = St.w4 from rfl] at c4
  rw [St.wr5.1, St.wr5.2, show (St.step St.w4 0 64).1 = St.w5 from rfl] at c5
  unfold encCk at c6
  rw [St.wr6.1, St.wr6.2.1, St.wr6.2.2.1, St.wr6.2.2.2] at c6
  rw [St.wr7] at c7
  rw [St.wr8.1, St.wr8.2.1, St.wr8.2.2.1, St.wr8.2.2.2] at c8
  repeat' (first | (first | (apply qac; refine GL.run (Runs.eqlInts (cs := #[.int .i64 0, .int .i64 0, .int .i64 1]) (ds := #[.int .i64 0, .int .i64 0, .int .i64 1]) (m := 3) rfl rfl rfl rfl) rfl ?_) | (apply qac; refine GL.run (Runs.eqlInts (cs := #[.int .i64 2, .int .i64 0, .int .i64 0, .int .i64 0]) (ds := #[.int .i64 2, .int .i64 0, .int .i64 0, .int .i64 0]) (m := 4) rfl rfl rfl rfl) rfl ?_) | (apply GL.isCall; refine GL.call (vs := [.int .i64 ((2 : Nat) : Int), .int .i64 ((64 : Nat) : Int)]) rfl rfl (fun w h => c0 w _ h) (fun sb => ?_)) | (apply GL.isCall; refine qbf (vs := [.pointer (some ⟨sb, 0, none⟩), .int .i64 7]) rfl rfl (fun w h => c1 sb w _ h) ?_) | (apply GL.isCall; refine qbf (vs := [.pointer (some ⟨sb, 0, none⟩), .int .i64 0, .int .i64 0, .int .i64 3, .string (bs [97, 98, 99])]) rfl rfl (fun w h => c2 sb w _ h) ?_) | (apply GL.isCall; refine qbf (vs := [.pointer (some ⟨sb, 0, none⟩), .int .i64 0, .int .i64 7]) rfl rfl (fun w h => c3 sb w _ h) ?_) | (apply GL.isCall; refine qbf (vs := [.pointer (some ⟨sb, 0, none⟩), .int .i64 0]) rfl rfl (fun w h => c4 sb w _ h) ?_) | (apply GL.isCall; refine qbf (vs := [.pointer (some ⟨sb, 0, none⟩), .int .i64 0, .int .i64 64]) rfl rfl (fun w h => c5 sb w _ h) ?_) | (apply GL.isCall; refine GL.callH1 (storeP sb St.w5) (vs := [.pointer (some ⟨sb, 0, none⟩), .int .i64 0]) rfl rfl (fun w h => c6 sb w _ h) ?_) | (apply qak; refine GL.alloc rfl (fun b4 => ?_)) | (apply GL.isCall; refine GL.callH1 (storeP sb St.w5) (vs := [.pointer (some ⟨sb, 0, none⟩), .int .i64 0]) rfl rfl (fun w h => c7 sb w _ h) ?_) | (apply GL.isCall; refine GL.callH1 (storeP sb St.w5) (vs := [.pointer (some ⟨sb, 0, none⟩)]) rfl rfl (fun w h => c8 sb w _ h) ?_)) | first | (apply qac; first | refine qa6 rfl ?_ | (apply qaj; first | refine qah rfl rfl rfl rfl rfl ?_ | refine qae rfl rfl rfl rfl rfl ?_ | refine qaf rfl rfl rfl rfl rfl ?_) | refine qam rfl rfl ?_ | refine qao rfl rfl rfl ?_ | refine qan rfl rfl rfl ?_ | (apply qaw; first | refine qa5 rfl rfl (fun _ => ?_) | refine qa7 rfl rfl rfl (fun _ => ?_) | refine GL.box rfl rfl (fun _ => ?_)) | (apply qai; first | refine qaa rfl rfl rfl rfl rfl (fun _ => ?_) | refine qab rfl rfl rfl rfl rfl (fun _ => ?_)) | (apply GL.isCall; refine qal _ rfl rfl rfl rfl (by rfl) (by omega) (by omega) rfl (fun _ => ?_)) | (apply qak; refine GL.alloc rfl (fun _ => ?_))) | apply GL.nil | first | apply G.seq | apply G.region | apply G.block | apply G.skip | apply G.exit | apply G.ret | (apply qag; first | refine qbd rfl ?_ | refine qbe rfl ?_) | refine qbi (by kernel_rfl) (by kernel_rfl) ?_ | (apply qa3; first | apply qa4 | apply qa1 | apply qar | apply qas | apply qa2 | apply qa0 | apply qap | refine qaq rfl ?_ | apply qa9) | (apply qad; first | refine qba rfl ?_ | refine qat rfl rfl ?_ | refine qav rfl rfl rfl ?_ | refine qau rfl rfl rfl ?_) | apply qbc | apply qbb | (apply qaz; refine qa8 rfl rfl ?_) | ((first | (apply qac; refine GL.guard rfl rfl (fun hc => ?_) (fun hc => ?_)) | (apply qag; refine G.cond rfl (fun hc => ?_) (fun hc => ?_)) | (apply qad; refine GD.guard rfl rfl (fun hc => ?_) (fun hc => ?_))) <;> ((try simp only [decide_eq_true_eq, decide_eq_false_iff_not, Bool.not_true, Bool.not_false, ne_eq, Classical.not_not, Int.not_lt, Int.not_le] at hc); (try (exfalso; first | omega | exact hc trivial | exact hc rfl)))))
  all_goals (first | (exfalso; simp at hc; done) | skip)
  all_goals (refine qbg rfl (by (repeat (first | apply Res.nil | (apply Res.tmp; rfl) | (refine qax rfl rfl rfl ?_) | (refine qay rfl rfl ?_)))) (fun w h => ?_); exact ⟨rfl, h.sub⟩)
end Go.Proofs.YtipkgamiejenaaaGreat

/- '==' and '!=' of bools. -/
namespace Go.Proofs.YtipkgamiejenaaaGreat
open Go Go.RowKit Go.MapKept
set_option linter.unusedVariables false
section
variable {P : Program} {n : Nat} {env : Env} {F : List HProp} {x y : Operand} {xT yT : TypeId}
class BoT (P : Program) (t : TypeId) : Prop where
  ok : P.underlying t = some .bool
theorem run_eq_bo {t : TypeId} (hm : P.underlying t = some .bool) (a b : Bool) (w : World) (d : Nat) : (Op.equalIn (d + 1) t (.bool a) (.bool b)).run P w = .ok (a == b) w := by
  simp [Op.equalIn, run_underlying hm, Result.andThen]
theorem Runs.eqBl [ht : BoT P xT] {a b : Bool} (hx : opnd env x = some (.bool a)) (hy : opnd env y = some (.bool b)) : Runs P n env F (.binOp .eql xT x y yT) (.bool (decide (a = b))) := .mk fun ac w ty pos aft g d hf hw => by
  have e2 : (Op.equal xT (.bool a) (.bool b)).run P w = .ok (a == b) w := run_eq_bo ht.ok a b w 9999
  simp [execOp, hf.eval hx, hf.eval hy, eqGuard, binOp, e2, Result.andThen]
  cases a <;> cases b <;> rfl
end
instance : BoT Tryz.prog 4 := ⟨by kernel_rfl⟩
end Go.Proofs.YtipkgamiejenaaaGreat

/- The law StoreRound of chapter 19. -/
namespace Go.Proofs.YtipkgamiejenaaaGreat
open Go Go.RowKit Go.MapKept
set_option linter.unusedVariables false
set_option linter.unusedSectionVars false
set_option linter.unusedSimpArgs false
set_option maxRecDepth 100000
set_option maxHeartbeats 4000000
section
variable {P : Program} {n k d : Nat} {env : Env} {F F0 : List HProp} {ops : Array Oper} {rest : List Oper} {ty : TypeId} {pos : String} {aft : Array Edge} {Z : Act → Prop}
theorem GD.callP {f : FuncId} {xs : List Operand} {ts : Array TypeId} {vs : List Value} {v : Value} (X : HProp) [hX : Has F X F0] [ho : Own P f] (hx : opnds env xs = some vs) (hd : Nat.blt d n = true)
    (hc : ∀ w G, holds w (X :: (F0 ++ G)) → Ct P f vs.toArray w fun e w' => e = .returned v ∧ holds w' (X :: (F0 ++ G))) (h : GD P n ops F Z (k + 1) rest ((d, v) :: env)) :
    GD P n ops F Z k (⟨some d, .call { callee := .value (.func f), args := xs.toArray, argTypes := ts }, ty, pos, aft, none⟩ :: rest) env :=
  GD.call hx hd (fun w F' hw => by
    have hp : (F ++ F').Perm (X :: (F0 ++ F')) := hX.perm.append_right F'
    exact (hc w F' (hw.perm hp)).mono fun e w' ⟨he, hh⟩ => ⟨he, hh.perm hp.symm⟩) h
end
structure ActM where
  kd : Int
  i : Int
  ow : Int
  ge : Int
  at_ : Int
  n : Int
  tx : List UInt8
def encAct (a : ActM) : List Value := [.int .i64 a.kd, .int .i64 a.i, .int .i64 a.ow, .int .i64 a.ge, .int .i64 a.at_, .int .i64 a.n, .string (bs a.tx)]
instance : Enc encAct 7 := ⟨fun _ => rfl, fun _ => by simp [encAct, Value.oneCell'], by omega⟩
namespace St
theorem take_len (t : S) (ow : Int) : (take t ow).1.ch.length = t.ch.length := by
  unfold take
  split
  · rfl
  · cases t.stack.getLast? with
    | none => rfl
    | some i => simp
theorem give_len (t : S) (i ow : Int) : (give t i ow).1.ch.length = t.ch.length := by unfold give; split; rfl; split; rfl; simp
theorem start_len (t : S) (i : Int) : (start t i).1.ch.length = t.ch.length := by unfold start; split; rfl; split; rfl; simp
theorem step_len (t : S) (i n : Int) : (step t i n).1.ch.length = t.ch.length := by
  unfold step
  split; rfl
  split; rfl
  split; rfl
  simp
theorem put_len (t : S) (i ge at_ : Int) (s : List UInt8) : (put t i ge at_ s).1.ch.length = t.ch.length := by
  unfold put
  split; rfl
  split; rfl
  split; rfl
  rfl
end St
end Go.Proofs.YtipkgamiejenaaaGreat

/- Arguments of chapter 19's laws: what is done to a store. -/
namespace Go.Proofs.YtipkgamiejenaaaGreat
open Go Go.RowKit Go.MapKept Go.ChangeShapes Go.WideShapes Go.Deep Go.Joins
set_option linter.unusedVariables false
set_option maxRecDepth 100000
theorem bs_backS (x : ByteArray) : bs x.data.toList = x := by cases x; simp [bs]
section
variable {H : Type} {enc0 : TypeId × Value → H} {W : World} {sp : Nat → Bool} {held : Bool}
theorem el_act (n : Nat) (cs : List Value) (x : DataW H × List MemPlace) (h : DataW.trod enc0 Tryz.prog W 0 sp held n 38 cs = some x) : ∃ a : ActM, True ∧ cs = encAct a := by
  obtain ⟨v1, c1, rfl, ⟨a1, rfl, w1⟩, v2, c2, rfl, ⟨a2, rfl, w2⟩, v3, c3, rfl, ⟨a3, rfl, w3⟩, v4, c4, rfl, ⟨a4, rfl, w4⟩, v5, c5, rfl, ⟨a5, rfl, w5⟩, v6, c6, rfl, ⟨a6, rfl, w6⟩, v7, c7, rfl, ⟨s, rfl, _⟩, rfl⟩ := ckind_ok 8 _ [.int .i64, .int .i64, .int .i64, .int .i64, .int .i64, .int .i64, .str] (by kernel_rfl) n cs x h
  exact ⟨⟨a1, a2, a3, a4, a5, a6, s.data.toList⟩, trivial, by unfold encAct; dsimp only; rw [bs_backS]⟩
end
end Go.Proofs.YtipkgamiejenaaaGreat

/- Reference 10 (bytes as strings): out, New, Load, Wipe, Store; reference 03, 17: rows of whole numbers. -/
namespace Go.Proofs.YtipkgamiejenaaaGreat
open Go Go.RowKit Go.MapKept
set_option linter.unusedVariables false
set_option linter.unusedSimpArgs false
set_option maxRecDepth 100000
set_option maxHeartbeats 2000000
theorem rf10_out (b : List UInt8) (p n : Int) (hb : b.length ≤ 1099511627776) (w : World) (F : List HProp) (hw : holds w F) :
    Ct Tryz.prog 198 #[.string (bs b), .int .i64 p, .int .i64 n] w fun e w' => e = .returned (.bool (decide (St.off b p n))) ∧ holds w' F := by
  refine Ct.go (args := [.string (bs b), .int .i64 p, .int .i64 n]) Tryz.func198 rfl rfl rfl hw ?_
  by_cases h1 : p < 0
  · rw [decide_eq_true (show St.off b p n from Or.inl h1)]
    repeat' (first | ((apply qac; refine GL.run (Runs.strLen rfl) rfl ?_)) | first | (apply qac; first | refine qa6 rfl ?_ | (apply qaj; first | refine qah rfl rfl rfl rfl rfl ?_ | refine qae rfl rfl rfl rfl rfl ?_ | refine qaf rfl rfl rfl rfl rfl ?_) | refine qam rfl rfl ?_ | refine qao rfl rfl rfl ?_ | refine qan rfl rfl rfl ?_ | (apply qaw; first | refine qa5 rfl rfl (fun _ => ?_) | refine qa7 rfl rfl rfl (fun _ => ?_) | refine GL.box rfl rfl (fun _ => ?_)) | (apply qai; first | refine qaa rfl rfl rfl rfl rfl (fun _ => ?_) | refine qab rfl rfl rfl rfl rfl (fun _ => ?_)) | (apply GL.isCall; refine qal _ rfl rfl rfl rfl (by rfl) (by omega) (by omega) rfl (fun _ => ?_)) | (apply qak; refine GL.alloc rfl (fun _ => ?_))) | apply GL.nil | first | apply G.seq | apply G.region | apply G.block | apply G.skip | apply G.exit | apply G.ret | (apply qag; first | refine qbd rfl ?_ | refine qbe rfl ?_) | refine qbi (by kernel_rfl) (by kernel_rfl) ?_ | (apply qa3; first | apply qa4 | apply qa1 | apply qar | apply qas | apply qa2 | apply qa0 | apply qap | refine qaq rfl ?_ | apply qa9) | (apply qad; first | refine qba rfl ?_ | refine qat rfl rfl ?_ | refine qav rfl rfl rfl ?_ | refine qau rfl rfl rfl ?_) | apply qbc | apply qbb | (apply qaz; refine qa8 rfl rfl ?_) | ((first | (apply qac; refine GL.guard rfl rfl (fun hc => ?_) (fun hc => ?_)) | (apply qag; refine G.cond rfl (fun hc => ?_) (fun hc => ?_)) | (apply qad; refine GD.guard rfl rfl (fun hc => ?_) (fun hc => ?_))) <;> ((try simp only [decide_eq_true_eq, decide_eq_false_iff_not, Bool.not_true, Bool.not_false, ne_eq, Classical.not_not, Int.not_lt, Int.not_le] at hc); (try (exfalso; first | omega | exact hc trivial | exact hc rfl)))))
    all_goals (refine qbg rfl (by (repeat (first | apply Res.nil | (apply Res.tmp; rfl) | (refine qax rfl rfl rfl ?_) | (refine qay rfl rfl ?_)))) (fun w h => ?_); exact ⟨rfl, h.sub⟩)
  by_cases h2 : n < 0
  · rw [decide_eq_true (show St.off b p n from Or.inr (Or.inl h2))]
    repeat' (first | ((apply qac; refine GL.run (Runs.strLen rfl) rfl ?_)) | first | (apply qac; first | refine qa6 rfl ?_ | (apply qaj; first | refine qah rfl rfl rfl rfl rfl ?_ | refine qae rfl rfl rfl rfl rfl ?_ | refine qaf rfl rfl rfl rfl rfl ?_) | refine qam rfl rfl ?_ | refine qao rfl rfl rfl ?_ | refine qan rfl rfl rfl ?_ | (apply qaw; first | refine qa5 rfl rfl (fun _ => ?_) | refine qa7 rfl rfl rfl (fun _ => ?_) | refine GL.box rfl rfl (fun _ => ?_)) | (apply qai; first | refine qaa rfl rfl rfl rfl rfl (fun _ => ?_) | refine qab rfl rfl rfl rfl rfl (fun _ => ?_)) | (apply GL.isCall; refine qal _ rfl rfl rfl rfl (by rfl) (by omega) (by omega) rfl (fun _ => ?_)) | (apply qak; refine GL.alloc rfl (fun _ => ?_))) | apply GL.nil | first | apply G.seq | apply G.region | apply G.block | apply G.skip | apply G.exit | apply G.ret | (apply qag; first | refine qbd rfl ?_ | refine qbe rfl ?_) | refine qbi (by kernel_rfl) (by kernel_rfl) ?_ | (apply qa3; first | apply qa4 | apply qa1 | apply qar | apply qas | apply qa2 | apply qa0 | apply qap | refine qaq rfl ?_ | apply qa9) | (apply qad; first | refine qba rfl ?_ | refine qat rfl rfl ?_ | refine qav rfl rfl rfl ?_ | refine qau rfl rfl rfl ?_) | apply qbc | apply qbb | (apply qaz; refine qa8 rfl rfl ?_) | ((first | (apply qac; refine GL.guard rfl rfl (fun hc => ?_) (fun hc => ?_)) | (apply qag; refine G.cond rfl (fun hc => ?_) (fun hc => ?_)) | (apply qad; refine GD.guard rfl rfl (fun hc => ?_) (fun hc => ?_))) <;> ((try simp only [decide_eq_true_eq, decide_eq_false_iff_not, Bool.not_true, Bool.not_false, ne_eq, Classical.not_not, Int.not_lt, Int.not_le] at hc); (try (exfalso; first | omega | exact hc trivial | exact hc rfl)))))
    all_goals (refine qbg rfl (by (repeat (first | apply Res.nil | (apply Res.tmp; rfl) | (refine qax rfl rfl rfl ?_) | (refine qay rfl rfl ?_)))) (fun w h => ?_); exact ⟨rfl, h.sub⟩)
  by_cases h3 : p > b.length
  · rw [decide_eq_true (show St.off b p n from Or.inr (Or.inr (by omega)))]
    repeat' (first | ((apply qac; refine GL.run (Runs.strLen rfl) rfl ?_)) | first | (apply qac; first | refine qa6 rfl ?_ | (apply qaj; first | refine qah rfl rfl rfl rfl rfl ?_ | refine qae rfl rfl rfl rfl rfl ?_ | refine qaf rfl rfl rfl rfl rfl ?_) | refine qam rfl rfl ?_ | refine qao rfl rfl rfl ?_ | refine qan rfl rfl rfl ?_ | (apply qaw; first | refine qa5 rfl rfl (fun _ => ?_) | refine qa7 rfl rfl rfl (fun _ => ?_) | refine GL.box rfl rfl (fun _ => ?_)) | (apply qai; first | refine qaa rfl rfl rfl rfl rfl (fun _ => ?_) | refine qab rfl rfl rfl rfl rfl (fun _ => ?_)) | (apply GL.isCall; refine qal _ rfl rfl rfl rfl (by rfl) (by omega) (by omega) rfl (fun _ => ?_)) | (apply qak; refine GL.alloc rfl (fun _ => ?_))) | apply GL.nil | first | apply G.seq | apply G.region | apply G.block | apply G.skip | apply G.exit | apply G.ret | (apply qag; first | refine qbd rfl ?_ | refine qbe rfl ?_) | refine qbi (by kernel_rfl) (by kernel_rfl) ?_ | (apply qa3; first | apply qa4 | apply qa1 | apply qar | apply qas | apply qa2 | apply qa0 | apply qap | refine qaq rfl ?_ | apply qa9) | (apply qad; first | refine qba rfl ?_ | refine qat rfl rfl ?_ | refine qav rfl rfl rfl ?_ | refine qau rfl rfl rfl ?_) | apply qbc | apply qbb | (apply qaz; refine qa8 rfl rfl ?_) | ((first | (apply qac; refine GL.guard rfl rfl (fun hc => ?_) (fun hc => ?_)) | (apply qag; refine G.cond rfl (fun hc => ?_) (fun hc => ?_)) | (apply qad; refine GD.guard rfl rfl (fun hc => ?_) (fun hc => ?_))) <;> ((try simp only [decide_eq_true_eq, decide_eq_false_iff_not, Bool.not_true, Bool.not_false, ne_eq, Classical.not_not, Int.not_lt, Int.not_le] at hc); (try (exfalso; first | omega | exact hc trivial | exact hc rfl)))))
    all_goals (refine qbg rfl (by (repeat (first | apply Res.nil | (apply Res.tmp; rfl) | (refine qax rfl rfl rfl ?_) | (refine qay rfl rfl ?_)))) (fun w h => ?_); exact ⟨rfl, h.sub⟩)
  have hd : decide (n > (b.length : Int) - p) = decide (St.off b p n) := decide_eq_decide.2 ⟨fun h => Or.inr (Or.inr (by omega)), fun h => by rcases h with h | h | h <;> omega⟩
  repeat' (first | ((apply qac; refine GL.run (Runs.strLen rfl) rfl ?_)) | first | (apply qac; first | refine qa6 rfl ?_ | (apply qaj; first | refine qah rfl rfl rfl rfl rfl ?_ | refine qae rfl rfl rfl rfl rfl ?_ | refine qaf rfl rfl rfl rfl rfl ?_) | refine qam rfl rfl ?_ | refine qao rfl rfl rfl ?_ | refine qan rfl rfl rfl ?_ | (apply qaw; first | refine qa5 rfl rfl (fun _ => ?_) | refine qa7 rfl rfl rfl (fun _ => ?_) | refine GL.box rfl rfl (fun _ => ?_)) | (apply qai; first | refine qaa rfl rfl rfl rfl rfl (fun _ => ?_) | refine qab rfl rfl rfl rfl rfl (fun _ => ?_)) | (apply GL.isCall; refine qal _ rfl rfl rfl rfl (by rfl) (by omega) (by omega) rfl (fun _ => ?_)) | (apply qak; refine GL.alloc rfl (fun _ => ?_))) | apply GL.nil | first | apply G.seq | apply G.region | apply G.block | apply G.skip | apply G.exit | apply G.ret | (apply qag; first | refine qbd rfl ?_ | refine qbe rfl ?_) | refine qbi (by kernel_rfl) (by kernel_rfl) ?_ | (apply qa3; first | apply qa4 | apply qa1 | apply qar | apply qas | apply qa2 | apply qa0 | apply qap | refine qaq rfl ?_ | apply qa9) | (apply qad; first | refine qba rfl ?_ | refine qat rfl rfl ?_ | refine qav rfl rfl rfl ?_ | refine qau rfl rfl rfl ?_) | apply qbc | apply qbb | (apply qaz; refine qa8 rfl rfl ?_) | ((first | (apply qac; refine GL.guard rfl rfl (fun hc => ?_) (fun hc => ?_)) | (apply qag; refine G.cond rfl (fun hc => ?_) (fun hc => ?_)) | (apply qad; refine GD.guard rfl rfl (fun hc => ?_) (fun hc => ?_))) <;> ((try simp only [decide_eq_true_eq, decide_eq_false_iff_not, Bool.not_true, Bool.not_false, ne_eq, Classical.not_not, Int.not_lt, Int.not_le] at hc); (try (exfalso; first | omega | exact hc trivial | exact hc rfl)))))
  all_goals (refine qbg rfl (by (repeat (first | apply Res.nil | (apply Res.tmp; rfl) | (refine qax rfl rfl rfl ?_) | (refine qay rfl rfl ?_)))) (fun w h => ?_); exact ⟨by rw [← hd], h.sub⟩)
theorem rf10_Load (b : List UInt8) (p n : Int) (hb : b.length ≤ 1099511627776) (w : World) (F : List HProp) (hw : holds w F) :
    Ct Tryz.prog 143 #[.string (bs b), .int .i64 p, .int .i64 n] w fun e w' => e = .returned (if St.off b p n then .tuple #[.string (bs []), .int .i64 15] else .tuple #[.string (bs ((b.drop p.toNat).take n.toNat)), .int .i64 0]) ∧ holds w' F := by
  refine Ct.go (args := [.string (bs b), .int .i64 p, .int .i64 n]) Tryz.func143 rfl rfl rfl hw ?_
  have hO := fun w (F : List HProp) h => rf10_out b p n hb w F h
  by_cases ho : St.off b p n
  · rw [if_pos ho]
    rw [decide_eq_true ho] at hO
    repeat' (first | ((apply GL.isCall; refine qbf rfl rfl (fun w h => hO w _ h) ?_)) | first | (apply qac; first | refine qa6 rfl ?_ | (apply qaj; first | refine qah rfl rfl rfl rfl rfl ?_ | refine qae rfl rfl rfl rfl rfl ?_ | refine qaf rfl rfl rfl rfl rfl ?_) | refine qam rfl rfl ?_ | refine qao rfl rfl rfl ?_ | refine qan rfl rfl rfl ?_ | (apply qaw; first | refine qa5 rfl rfl (fun _ => ?_) | refine qa7 rfl rfl rfl (fun _ => ?_) | refine GL.box rfl rfl (fun _ => ?_)) | (apply qai; first | refine qaa rfl rfl rfl rfl rfl (fun _ => ?_) | refine qab rfl rfl rfl rfl rfl (fun _ => ?_)) | (apply GL.isCall; refine qal _ rfl rfl rfl rfl (by rfl) (by omega) (by omega) rfl (fun _ => ?_)) | (apply qak; refine GL.alloc rfl (fun _ => ?_))) | apply GL.nil | first | apply G.seq | apply G.region | apply G.block | apply G.skip | apply G.exit | apply G.ret | (apply qag; first | refine qbd rfl ?_ | refine qbe rfl ?_) | refine qbi (by kernel_rfl) (by kernel_rfl) ?_ | (apply qa3; first | apply qa4 | apply qa1 | apply qar | apply qas | apply qa2 | apply qa0 | apply qap | refine qaq rfl ?_ | apply qa9) | (apply qad; first | refine qba rfl ?_ | refine qat rfl rfl ?_ | refine qav rfl rfl rfl ?_ | refine qau rfl rfl rfl ?_) | apply qbc | apply qbb | (apply qaz; refine qa8 rfl rfl ?_) | ((first | (apply qac; refine GL.guard rfl rfl (fun hc => ?_) (fun hc => ?_)) | (apply qag; refine G.cond rfl (fun hc => ?_) (fun hc => ?_)) | (apply qad; refine GD.guard rfl rfl (fun hc => ?_) (fun hc => ?_))) <;> ((try simp only [decide_eq_true_eq, decide_eq_false_iff_not, Bool.not_true, Bool.not_false, ne_eq, Classical.not_not, Int.not_lt, Int.not_le] at hc); (try (exfalso; first | omega | exact hc trivial | exact hc rfl)))))
    all_goals (refine qbh rfl (by (repeat (first | apply Res.nil | (apply Res.tmp; rfl) | (refine qax rfl rfl rfl ?_) | (refine qay rfl rfl ?_)))) (fun w h => ?_); exact ⟨rfl, h.sub⟩)
  · rw [if_neg ho]
    rw [decide_eq_false ho] at hO
    obtain ⟨a, rfl⟩ : ∃ a : Nat, p = a := ⟨p.toNat, by unfold St.off at ho; omega⟩
    obtain ⟨m, rfl⟩ : ∃ m : Nat, n = m := ⟨n.toNat, by unfold St.off at ho; omega⟩
    have hle : a + m ≤ b.length := by unfold St.off at ho; omega
    repeat' (first | (first | (apply GL.isCall; refine qbf rfl rfl (fun w h => hO w _ h) ?_) | (apply qac; refine GL.run (Runs.strCut (a := a) (b := a + m) rfl rfl rfl rfl (by omega) (by omega) hle) rfl ?_)) | first | (apply qac; first | refine qa6 rfl ?_ | (apply qaj; first | refine qah rfl rfl rfl rfl rfl ?_ | refine qae rfl rfl rfl rfl rfl ?_ | refine qaf rfl rfl rfl rfl rfl ?_) | refine qam rfl rfl ?_ | refine qao rfl rfl rfl ?_ | refine qan rfl rfl rfl ?_ | (apply qaw; first | refine qa5 rfl rfl (fun _ => ?_) | refine qa7 rfl rfl rfl (fun _ => ?_) | refine GL.box rfl rfl (fun _ => ?_)) | (apply qai; first | refine qaa rfl rfl rfl rfl rfl (fun _ => ?_) | refine qab rfl rfl rfl rfl rfl (fun _ => ?_)) | (apply GL.isCall; refine qal _ rfl rfl rfl rfl (by rfl) (by omega) (by omega) rfl (fun _ => ?_)) | (apply qak; refine GL.alloc rfl (fun _ => ?_))) | apply GL.nil | first | apply G.seq | apply G.region | apply G.block | apply G.skip | apply G.exit | apply G.ret | (apply qag; first | refine qbd rfl ?_ | refine qbe rfl ?_) | refine qbi (by kernel_rfl) (by kernel_rfl) ?_ | (apply qa3; first | apply qa4 | apply qa1 | apply qar | apply qas | apply qa2 | apply qa0 | apply qap | refine qaq rfl ?_ | apply qa9) | (apply qad; first | refine qba rfl ?_ | refine qat rfl rfl ?_ | refine qav rfl rfl rfl ?_ | refine qau rfl rfl rfl ?_) | apply qbc | apply qbb | (apply qaz; refine qa8 rfl rfl ?_) | ((first | (apply qac; refine GL.guard rfl rfl (fun hc => ?_) (fun hc => ?_)) | (apply qag; refine G.cond rfl (fun hc => ?_) (fun hc => ?_)) | (apply qad; refine GD.guard rfl rfl (fun hc => ?_) (fun hc => ?_))) <;> ((try simp only [decide_eq_true_eq, decide_eq_false_iff_not, Bool.not_true, Bool.not_false, ne_eq, Classical.not_not, Int.not_lt, Int.not_le] at hc); (try (exfalso; first | omega | exact hc trivial | exact hc rfl)))))
    all_goals (refine qbh rfl (by (repeat (first | apply Res.nil | (apply Res.tmp; rfl) | (refine qax rfl rfl rfl ?_) | (refine qay rfl rfl ?_)))) (fun w h => ?_); exact ⟨by simp only [Int.toNat_natCast]; rw [Nat.add_sub_cancel_left], h.sub⟩)
end Go.Proofs.YtipkgamiejenaaaGreat
