import Derived.Test.YtlcdaalalihaiaaGreatMg5

import Derived.Test.YtlcdaalalihaiaaGreatMg6
/- Running code by calculation: the symbolic step is the machine's. -/
namespace Go.Proofs.YtlcdaalalihaiaaGreat
open Go Go.RowKit
set_option linter.unusedVariables false
set_option linter.unusedSectionVars false
set_option linter.unusedSimpArgs false
set_option maxRecDepth 100000
namespace Ex
variable [GN]
section
variable {θ : Nat → Value} {ρ ρ' : Ren} {P : Program} {F : Fm} {w : World} {h : Tr SO} {nx : Nat} {X : FuncId → Option XK} {base : List Frame}
theorem fnG {f : FuncId} {fn : Func} {c : Code} (hf : P.funcs[f]? = some fn) (hb : fn.body = some c) (args : Array Value) (kd : CallKind) : Frame.enter P f args kd = { fn := f, tmps := args ++ Array.replicate (fn.ntmps - args.size) undef, todo := [.code c], defers := [], mode := .run, kind := kd } := by
  simp [Frame.enter, hf, hb]
theorem enterF_ok {f : FuncId} {args args' : Array Value} {dfr : Bool} {t : SF} (hs : enterF P f args dfr = some t) (ha : Ra θ ρ args args') : FrR θ ρ t (Frame.enter P f args' (bif dfr then .deferred else .normal)) := by
  unfold enterF at hs
  obtain ⟨fn, hf, hs⟩ := on1_ok hs
  obtain ⟨c, hb, hs⟩ := on1_ok hs
  cases hs
  rw [fnG hf hb]
  refine ⟨rfl, ?_, fun k v hk => ?_, .inr ⟨.code c, trivial⟩, trivial, rfl, rfl, rfl⟩
  · simp only [Array.size_append, Array.size_replicate, Array.length_toList, ← ha.1]; rfl
  · rcases envOf_get _ _ _ _ _ hk with ⟨_, h1⟩ | h1
    · rw [Nat.sub_zero, Array.getElem?_toList] at h1
      have hlt := (Array.getElem?_eq_some_iff.1 h1).1
      have hlt' : k < args'.size := by rw [← ha.1]; exact hlt
      refine ⟨args'[k], ?_, ha.2 k _ _ h1 (Array.getElem?_eq_getElem hlt')⟩
      rw [Array.getElem?_append_left hlt', Array.getElem?_eq_getElem hlt']
    · cases h1
theorem putPs_ok {n : Nat} : ∀ {ps : List Tmp} {vs vs' : List Value} {e e' : Tr Value} {tmps : Array Value}, putPs n ps vs e = some e' → Rl θ ρ vs vs' → REnv θ ρ e tmps → tmps.size = n →
    ps.length = vs.length ∧ REnv θ ρ e' ((ps.zip vs').foldl (fun tmps x => tmps.setIfInBounds x.1 x.2) tmps) ∧ ((ps.zip vs').foldl (fun tmps x => tmps.setIfInBounds x.1 x.2) tmps).size = n
  | [], [], vs', e, e', tmps, hs, hv, he, hn => by
    cases hs
    exact ⟨rfl, he, hn⟩
  | [], _ :: _, _, _, _, _, hs, _, _, _ => by cases hs
  | _ :: _, [], _, _, _, _, hs, _, _, _ => by cases hs
  | p :: ps, v :: vs, vs', e, e', tmps, hs, hv, he, hn => by
    have hs : (bif Nat.blt p n then putPs n ps vs (e.put p v) else none) = some e' := hs
    cases hb : Nat.blt p n with
    | false => rw [hb] at hs; cases hs
    | true =>
      rw [hb] at hs
      have hlt : p < n := by simpa [Nat.blt_eq] using hb
      cases vs' with
      | nil => have := hv.1; simp at this
      | cons v' vs' =>
        obtain ⟨h1, h2, h3⟩ := putPs_ok (tmps := tmps.setIfInBounds p v') hs hv.tail (he.put (by rw [hn]; exact hlt) hv.head) (by simpa using hn)
        exact ⟨by simp [h1], h2, h3⟩
/-- What a step must come to. -/
def To (θ : Nat → Value) (F : Fm) (base : List Frame) (P : Program) (ρ : Ren) (m : Machine) (s : SM) : Prop := ∃ ρ' m', ρ.le ρ' ∧ Steps P m m' ∧ MR θ F base ρ' s m'
theorem To.one {fr fr' : Frame} {cs cs2 : List Frame} {w w' : World} {s : SM} (hm : fr.mode = .run) (hx : (stepG.exec P true true fr (cs ++ base) none w).bare = .go { frame := fr', callers := cs2 ++ base, status := .running, dying := none } w')
    (hl : ρ.le ρ') (hf : FrR θ ρ' s.top fr') (hc : FrRs θ ρ' s.cs cs2) (hh : HT θ F ρ' s.h s.nx w') : To θ F base P ρ (lone fr (cs ++ base) w) s := ⟨ρ', _, hl, .one (step_run hm rfl hx), ⟨fr', cs2, w', rfl, hf, hc, hh⟩⟩
theorem To.ret {fr fr' : Frame} {cs cs2 : List Frame} {w w' : World} {s : SM} (hm : fr.mode = .returning) (hx : (unwind P true fr (cs ++ base) none w).bare = .go { frame := fr', callers := cs2 ++ base, status := .running, dying := none } w')
    (hl : ρ.le ρ') (hf : FrR θ ρ' s.top fr') (hc : FrRs θ ρ' s.cs cs2) (hh : HT θ F ρ' s.h s.nx w') : To θ F base P ρ (lone fr (cs ++ base) w) s := ⟨ρ', _, hl, .one (step_ret' hm hx), ⟨fr', cs2, w', rfl, hf, hc, hh⟩⟩
theorem NoC {i : SI0} {e : Tr Value} {todo : List SI} {ds : List Deferred} {fr : Frame} (hf : FrR θ ρ ⟨i, e, todo, ds, false⟩ fr) {d : Deferred} {r : String} {a : Array Value} {l : List Item} : fr.todo = .call d true r a :: l → False := fun ht => by
  have := hf.td
  rw [ht] at this
  cases todo with
  | nil => exact this.elim
  | cons i l => cases this.1
theorem spush_ok {i : SI0} {e : Tr Value} {todo : List SI} {ds : List Deferred} {fr : Frame} (hf : FrR θ ρ ⟨i, e, todo, ds, false⟩ fr) {cs : List SF} {cs' : List Frame} (hc : FrRs θ ρ cs cs') (hh : HT θ F ρ h nx w) {r : SN} {s : Sem Next} (hr : SNok θ F ρ w (s.run P w) r) {s' : SM} (hs : spush P i e ds cs h nx todo r = some s') :
    ∃ ρ' fr' cs2 w', ρ.le ρ' ∧ (stepG.apply P true fr (cs' ++ base) none s w).bare = .go { frame := fr', callers := cs2 ++ base, status := .running, dying := none } w' ∧ FrR θ ρ' s'.top fr' ∧ FrRs θ ρ' s'.cs cs2 ∧ HT θ F ρ' s'.h s'.nx w' := by
  unfold spush at hs
  split at hs
  · rename_i v h' nx'
    obtain ⟨t, ht, hs⟩ := on1_ok hs
    cases hs
    obtain ⟨ρ', v', w', h1, h2, h3, h4⟩ := hr
    have ht' : sfin ⟨i, e, todo, ds, false⟩ v = some t := ht
    refine ⟨ρ', fr.finish v', cs', w', h1, ?_, sfin_ok ht' (hf.mono h1) h2, hc.mono h1, h3⟩
    rcases h4 with h4 | ⟨rfl, h4⟩ <;> simp only [stepG.apply, if_true, Sem.runT_eq, h4, GStep.bare_after, GStep.bare_go]
  · rename_i f args
    obtain ⟨t, ht, hs⟩ := on1_ok hs
    cases hs
    obtain ⟨args', h1, h2⟩ := hr
    refine ⟨ρ, Frame.enter P f args' .normal, fr :: cs', w, .refl ρ, ?_, enterF_ok ht h1, ⟨hf, hc⟩, hh⟩
    simp only [stepG.apply, if_true, Sem.runT_eq, h2, GStep.bare_after, GStep.bare_go]
    split
    · rename_i hk; exact (NoC hf hk).elim
    · rfl
  · rename_i l args
    obtain ⟨so, hl, hs⟩ := on1_ok hs
    obtain ⟨t, ht, hs⟩ := on1_ok hs
    cases hs
    obtain ⟨p, lo, args', h1, h2, h3, h4⟩ := hr
    unfold roundF at ht
    split at ht
    · rename_i pd fn n env ps as bd dfs
      obtain ⟨e', hp, ht⟩ := on1_ok ht
      cases ht
      obtain ⟨p', o', g1, g2, g3, g4⟩ := hh.obj l _ hl
      rw [h1] at g1; cases g1
      rw [h2] at g2; cases g2
      obtain ⟨k1, k2, k3, k4, k5, k6, k7, k8, k9⟩ := g3
      obtain ⟨q1, q2, q3⟩ := putPs_ok (tmps := lo.tmps) hp (Ra.list.1 h3) k5 k4
      have hsz : args'.size = lo.params.size := by
        rw [← h3.1, k6]; simpa using q1.symm
      have h4 := h4 hsz
      have e2 : ((lo.params.zip args').foldl (fun tmps (t, a) => tmps.setIfInBounds t a) lo.tmps) = ((ps.toList.zip args'.toList).foldl (fun tmps x => tmps.setIfInBounds x.1 x.2) lo.tmps) := by
        rw [← Array.foldl_toList, k6]; simp
      rw [e2, k3, k7, k8] at h4
      refine ⟨ρ, Frame.round p.b fn _ as bd .normal, fr :: cs', w, .refl ρ, ?_, ⟨rfl, q3, q2, .inr ⟨.code _, .br, .code _, trivial⟩, trivial, rfl, rfl, ⟨p, h1, rfl⟩⟩, ⟨hf, hc⟩, hh⟩
      simp only [stepG.apply, if_true, Sem.runT_eq, h4, GStep.bare_after, GStep.bare_go]
      rfl
    · cases ht
  · rename_i d
    cases hro : i.round with
    | some l => rw [hro] at hs; cases hs
    | none =>
      rw [hro] at hs
      obtain ⟨t, ht, hs⟩ := on1_ok (show on1 (sfinT i e (d :: ds) false undef todo) (topS cs h nx) = some s' from hs)
      cases hs
      obtain ⟨d', h1, h2⟩ := hr
      have ht' : sfin ⟨i, e, todo, d :: ds, false⟩ undef = some t := ht
      have hf' : FrR θ ρ ⟨i, e, todo, d :: ds, false⟩ { fr with defers := d' :: fr.defers } := ⟨hf.fn, hf.n, hf.env, hf.todo, ⟨h1, hf.defers⟩, hf.mode, hf.kind, hf.round⟩
      refine ⟨ρ, _, cs', w, .refl ρ, ?_, sfin_ok ht' hf' Rv.undef, hc, hh⟩
      simp only [stepG.apply, if_true, Sem.runT_eq, h2, GStep.bare_after, GStep.bare_go]
theorem spushM_ok (hX : ∀ f k, X f = some k → XOK P f k) {i : SI0} {e : Tr Value} {todo : List SI} {ds : List Deferred} {fr : Frame} (hf : FrR θ ρ ⟨i, e, todo, ds, false⟩ fr) {cs : List SF} {cs' : List Frame} (hc : FrRs θ ρ cs cs') (hh : HT θ F ρ h nx w) {r : SN} {s : Sem Next} (hr : SNok θ F ρ w (s.run P w) r) {s' : SM} (hs : spushM P X i e ds cs h nx todo r = some s') :
    ∃ ρ' fr1 cs1 w1 fr' cs2 w', ρ.le ρ' ∧ (stepG.apply P true fr (cs' ++ base) none s w).bare = .go { frame := fr1, callers := cs1 ++ base, status := .running, dying := none } w1 ∧ Steps P (lone fr1 (cs1 ++ base) w1) (lone fr' (cs2 ++ base) w') ∧ FrR θ ρ' s'.top fr' ∧ FrRs θ ρ' s'.cs cs2 ∧ HT θ F ρ' s'.h s'.nx w' := by
  have plain : spush P i e ds cs h nx todo r = some s' → ∃ ρ' fr1 cs1 w1 fr' cs2 w', ρ.le ρ' ∧ (stepG.apply P true fr (cs' ++ base) none s w).bare = .go { frame := fr1, callers := cs1 ++ base, status := .running, dying := none } w1 ∧ Steps P (lone fr1 (cs1 ++ base) w1) (lone fr' (cs2 ++ base) w') ∧ FrR θ ρ' s'.top fr' ∧ FrRs θ ρ' s'.cs cs2 ∧ HT θ F ρ' s'.h s'.nx w' := fun hs => by
    obtain ⟨ρ', fr', cs2, w', a1, a2, a3, a4, a5⟩ := spush_ok (base := base) hf hc hh hr hs
    exact ⟨ρ', fr', cs2, w', fr', cs2, w', a1, a2, .refl P _, a3, a4, a5⟩
  unfold spushM at hs
  split at hs
  · rename_i f args
    unfold spushE at hs
    split at hs
    · rename_i x hx
      obtain ⟨m, hm, hx⟩ := memoOf_ok hX hx
      obtain ⟨t, ht, hs⟩ := on1_ok hs
      cases hs
      obtain ⟨args', h1, h2⟩ := hr
      obtain ⟨ρ', w', v', fr2, b1, b2, b3, b4, b5, b6⟩ := hm F ρ w h nx args args' _ _ _ hx h1 hh (fr :: (cs' ++ base))
      have ht' : sfin ⟨i, e, todo, ds, false⟩ x.1 = some t := ht
      refine ⟨ρ', Frame.enter P f args' .normal, fr :: cs', w, fr.finish v', cs', w', b1, ?_, b4.trans (.one (step_leave_returned b6)), sfin_ok ht' (hf.mono b1) b2, hc.mono b1, b3⟩
      simp only [stepG.apply, if_true, Sem.runT_eq, h2, GStep.bare_after, GStep.bare_go]
      split
      · rename_i hk; exact (NoC hf hk).elim
      · rfl
    · exact plain hs
  · exact plain hs
theorem mkS_to {i : SI0} {e : Tr Value} {todo k : List SI} {ds : List Deferred} {fr : Frame} (hf : FrR θ ρ ⟨i, e, todo, ds, false⟩ fr) {cs : List SF} {cs' : List Frame} (hc : FrRs θ ρ cs cs') {w' : World} (hl : ρ.le ρ') (hh : HT θ F ρ' h nx w') {k' : List Item} (hk : RIs ρ' k k')
    (hx : (stepG.exec P true true fr (cs' ++ base) none w).bare = .go { frame := { fr with todo := k' }, callers := cs' ++ base, status := .running, dying := none } w') {s' : SM} (hs : mkS i e ds cs h nx k = some s') : To θ F base P ρ (lone fr (cs' ++ base) w) s' := by
  cases hs
  have hf' := hf.mono hl
  exact .one hf.mode hx hl ⟨hf'.fn, hf'.n, hf'.env, .inr hk, hf'.defers, hf'.mode, hf'.kind, hf'.round⟩ (hc.mono hl) hh
/-- Leaving a frame. -/
def leaveG (P : Program) (fr : Frame) (callers : List Frame) (jump : Option Code) (w : World) : GStep := match fr.roundOf with
  | none => if jump matches none | some .ret then .go { frame := { fr with mode := .returning }, callers, status := .running, dying := none } w else .ended (.stuck "exit, goto: no such block or label" (fr.pos P)) w
  | some l =>
    let (r, es) := (Instr.endRound l jump).runT P w #[]
    GStep.after (seen P fr.fn es) <| match r with
    | .ok v w => doReturn P true fr callers none v w
    | .halt _ w => .ended (.stuck "range over a function: no such loop" (fr.pos P)) w
theorem HR.loopAt (hh : HT θ F ρ h nx w) {l : Nat} {st : LoopState} {pd : Option Code} {fn n : Nat} {env : Tr Value} {ps : Array Tmp} {as bd : Code} {dfs : Nat} (hl : h.get l = some (.loop st pd fn n env ps as bd dfs)) {p : Pl} (hp : ρ l = some p) :
    ∃ lo, w.heap[p.b]? = some (.loop lo) ∧ Ro θ ρ p (.loop st pd fn n env ps as bd dfs) (.loop lo) ∧ (∀ st' pd', HT θ F ρ (h.put l (.loop st' pd' fn n env ps as bd dfs)) nx { w with heap := w.heap.setIfInBounds p.b (.loop { lo with state := st', pending := pd' }) }) := by
  obtain ⟨p', o', g1, g2, g3, g4⟩ := hh.obj l _ hl
  rw [hp] at g1; cases g1
  cases o' with
  | loop lo =>
    refine ⟨lo, g2, g3, fun st' pd' => ?_⟩
    obtain ⟨k1, k2, k3⟩ := g3
    exact hh.turn (p := p) hl rfl rfl hp (o1 := .loop st' pd' fn n env ps as bd dfs) (o1' := .loop { lo with state := st', pending := pd' }) ⟨rfl, rfl, k3⟩ rfl rfl rfl rfl
  | _ => exact g3.elim
theorem run_getLoop {b : Nat} {lo : Loop} (hb : w.heap[b]? = some (.loop lo)) : (Instr.getLoop b).run P w = .ok lo w := by simp [Instr.getLoop, getObj, Sem.run, hb]
theorem run_setLoop {b : Nat} {lo lo' : Loop} (hb : w.heap[b]? = some (.loop lo)) : (setObj b (.loop lo')).run P w = .ok () { w with heap := w.heap.setIfInBounds b (.loop lo') } := run_setIt hb (by intro _ _ _ h; cases h)
theorem sleave_ok {i : SI0} {e : Tr Value} {todo : List SI} {ds : List Deferred} {fr : Frame} (hf : FrR θ ρ ⟨i, e, todo, ds, false⟩ fr) {cs : List SF} {cs' : List Frame} (hc : FrRs θ ρ cs cs') (hh : HT θ F ρ h nx w) {jump : Option Code}
    (hx : stepG.exec P true true fr (cs' ++ base) none w = leaveG P fr (cs' ++ base) jump w) {s' : SM} (hs : sleave i e ds cs h nx jump = some s') : To θ F base P ρ (lone fr (cs' ++ base) w) s' := by
  unfold sleave at hs
  have hr := hf.round
  split at hs
  · rename_i hro
    simp only [hro] at hr
    cases hj : retOk jump with
    | false => rw [hj] at hs; cases hs
    | true =>
      rw [hj] at hs
      cases hs
      refine .one (fr' := { fr with mode := .returning }) (cs2 := cs') hf.mode ?_ (.refl ρ) ⟨hf.fn, hf.n, hf.env, .inl ⟨rfl, rfl⟩, hf.defers, rfl, hf.kind, by simp only [hro]; exact hr⟩ hc hh
      rw [hx]
      unfold leaveG
      rw [hr]
      unfold retOk at hj
      split at hj
      · rfl
      · rfl
      · cases hj
  · rename_i l hro
    simp only [hro] at hr
    obtain ⟨p, hp, hr⟩ := hr
    cases hd : i.dfr with
    | true => rw [hd] at hs; cases hs
    | false =>
      rw [hd] at hs
      obtain ⟨so, hl, hs⟩ := on1_ok (show on1 (h.get l) (endR2 cs h nx l jump) = some s' from hs)
      unfold endR2 at hs
      split at hs
      · rename_i st pd fn n env ps as bd dfs c cs
        obtain ⟨c', hc', hs⟩ := on1_ok hs
        cases hs
        obtain ⟨cf, cs'', rfl, hc1, hc2⟩ := hc.cons
        obtain ⟨lo, g2, g3, g4⟩ := hh.loopAt hl hp
        refine .one (fr' := cf.finish (.bool jump.isNone)) (cs2 := cs'') hf.mode ?_ (.refl ρ) (sfin_ok hc' hc1 (.bool _)) hc2 (g4 _ _)
        rw [hx]
        unfold leaveG
        rw [hr]
        have hkd : fr.kind = .normal := by rw [hf.kind]; show (bif i.dfr then CallKind.deferred else .normal) = _; rw [hd]; rfl
        have he : (Instr.endRound p.b jump).run P w = .ok (.bool jump.isNone) { w with heap := w.heap.setIfInBounds p.b (.loop { lo with state := bif jump.isNone then .ready else .done, pending := jump }) } := by
          simp only [Instr.endRound, Sem.run_bind, run_getLoop g2, Result.andThen_ok, run_setLoop g2, Sem.run_pure]
          cases jump <;> rfl
        simp only [Sem.runT_eq, he, GStep.bare_after, List.cons_append, doReturn, hkd, GStep.bare_go]
      · cases hs
theorem rset_enter {k o : Nat} {u v : Value} {g : FuncId} {args : Array Value} (hs : rset h nx k o u v = some (.enter g args)) : False := by
  unfold rset at hs
  split at hs
  · rename_i c T sz hk
    cases hc : (Nat.blt o c.len && (c.get o).isSome) <;> rw [hc] at hs <;> cases hs
  · cases hs
theorem rext_enter {k : XK} {vs : List Value} {g : FuncId} {args : Array Value} (hs : rext h nx k vs = some (.enter g args)) : False := by
  unfold rext at hs
  split at hs
  · cases hs
  · cases hs
  · split at hs
    · split at hs <;> cases hs
    · cases hs
  · exact rset_enter hs
  · split at hs
    · split at hs
      · exact rset_enter hs
      · cases hs
    · cases hs
  · split at hs
    · split at hs
      · exact rset_enter hs
      · cases hs
    · cases hs
  · cases hs
theorem rcallF_enter {v : Value} {vs : List Value} {g : FuncId} {args : Array Value} (hs : rcallF P X h nx v vs = some (.enter g args)) (h' : Tr SO) (nx' : Nat) : rcallF P X h' nx' v vs = some (.enter g args) := by
  unfold rcallF at hs ⊢
  split at hs
  · obtain ⟨fn, hf, hs⟩ := on1_ok hs
    rw [hf]
    show rcallB X h' nx' _ _ fn.body = _
    cases hb : fn.body with
    | some c => rw [hb] at hs; exact hs
    | none =>
      rw [hb] at hs
      obtain ⟨x, hx, hs⟩ := on1_ok hs
      exact (rext_enter hs).elim
  · obtain ⟨so, hl, hs⟩ := on1_ok hs
    unfold rloop at hs
    split at hs <;> cases hs
  · cases hs
theorem isWant_ok {want b : Bool} {v v' : Value} (hv : Rv θ ρ v v') (hs : isWant want v = some b) : ((match some v' with | some (.bool b) => some b | _ => none) == some want) = b := by
  unfold isWant at hs
  split at hs
  · cases hs
    obtain rfl := hv.toBool
    rfl
  · cases hs
    obtain ⟨xs, rfl, _⟩ : ∃ xs, v' = .tuple xs ∧ True := by
      cases hv with
      | tup h1 h2 => exact ⟨_, rfl, trivial⟩
    rfl
  · cases hs
theorem swanted_ok {ops : Array Oper} {e : Tr Value} {tmps : Array Value} (he : REnv θ ρ e tmps) {o : Oper} {b : Bool} (hs : swanted ops e o.guard = some b) : Region.wanted o (yielded ops tmps) = b := by
  unfold Region.wanted
  cases hg : o.guard with
  | none => rw [hg] at hs; cases hs; rfl
  | some x =>
    obtain ⟨j, want⟩ := x
    rw [hg] at hs
    have hs : wantD ops e want ((ops[j]?).bind (·.dst)) = some b := hs
    show (yielded ops tmps j == some want) = b
    unfold yielded
    cases hd : ((ops[j]?).bind (·.dst)) with
    | none => rw [hd] at hs; cases hs; rfl
    | some d =>
      rw [hd] at hs
      obtain ⟨v, hv, hs⟩ := on1_ok (show on1 (e.get d) (isWant want) = some b from hs)
      obtain ⟨v', h1, h2⟩ := he _ _ hv
      rw [Option.bind_some, h1]
      exact isWant_ok h2 hs
theorem sreg_ok (hX : ∀ f k, X f = some k → XOK P f k) (hN : NoNG P) {i : SI0} {e : Tr Value} {k : List SI} {ops : Array Oper} {l : List Oper} {ds : List Deferred} {fr : Frame} (hf : FrR θ ρ ⟨i, e, .reg ops l :: k, ds, false⟩ fr) {cs : List SF} {cs' : List Frame} (hc : FrRs θ ρ cs cs') (hh : HT θ F ρ h nx w)
    {s' : SM} (hs : sreg P X i e ds cs h nx k ops l = some s') : To θ F base P ρ (lone fr (cs' ++ base) w) s' := by
  obtain ⟨i', k', ht, h1, h2⟩ := hf.td.cons
  cases h1 with
  | reg _ j hl hm =>
    unfold sreg at hs
    split at hs
    · have : j ≥ ops.size := by
        have := congrArg List.length hl
        simp at this; omega
      rw [List.drop_eq_nil_of_le (by simpa using this)] at hm
      subst hm
      exact mkS_to hf hc (.refl ρ) hh h2 (by simp only [stepG.exec, ht, GStep.bare_go]) hs
    · rename_i o r
      obtain ⟨g1, g2, g3⟩ := reg_cons hl hm
      subst g2
      obtain ⟨b, hb, hs⟩ := on1_ok hs
      have hw := swanted_ok hf.env hb
      unfold sreg2 at hs
      split at hs
      · obtain ⟨t, ht2, hs⟩ := on1_ok hs
        cases hs
        have ht' : sfin ⟨i, e, .reg ops (o :: r) :: k, ds, false⟩ undef = some t := ht2
        refine .one (fr' := fr.finish undef) (cs2 := cs') hf.mode ?_ (.refl ρ) (sfin_ok ht' hf Rv.undef) hc hh
        simp only [stepG.exec, ht, g1, Option.map_some, hw, Option.getD_some, Bool.false_eq_true, if_false, GStep.bare_go]
      · obtain ⟨r', hr, hs⟩ := on1_ok hs
        have hok := sop_ok hh (hf.env.ev hh.gl) hX hN hr
        obtain ⟨ρ', fr1, cs1, w1, fr', cs2, w', a1, a2, ast, a3, a4, a5⟩ := spushM_ok (base := base) hX hf hc hh hok hs
        refine ⟨ρ', _, a1, .head (step_run hf.mode rfl ?_) ast, ⟨fr', cs2, w', rfl, a3, a4, a5⟩⟩
        rw [← a2]
        have ho : fr.oper? = some o := by simp [Frame.oper?, ht, g1]
        simp only [stepG.exec, ht, g1, Option.map_some, hw, Option.getD_some, if_true, stepG.oper, ho]
        cases hro : fr.roundOf with
        | none => rfl
        | some l =>
          cases hop : o.op with
          | defer c =>
            exfalso
            have hro' : i.round ≠ none := fun e0 => by
              have := hf.round
              simp only [e0] at this
              rw [this] at hro; cases hro
            have hk : opK o.op = .e := by rw [hop]; rfl
            unfold sop at hr
            rw [hk] at hr
            have hr : eop P X e h nx o = some r' := hr
            unfold eop at hr
            rw [hop] at hr
            have hr : edeferC e c = some r' := hr
            unfold edeferC at hr
            split at hr
            · obtain ⟨v1, vs, b1, b2, hr⟩ := on2_ok hr
              unfold edefer at hr
              split at hr
              · cases hr
                cases hq : i.round with
                | none => exact hro' hq
                | some q =>
                  have hs : (bif i.round.isNone then on1 (sfinT i e (_ :: ds) false undef (.reg ops (o :: r) :: k)) (topS cs h nx) else none) = some s' := hs
                  rw [hq] at hs
                  cases hs
              · cases hr
            · cases hr
          | _ => rfl
end
end Ex
end Go.Proofs.YtlcdaalalihaiaaGreat

/- Running code by calculation: the symbolic step is the machine's, all of it. -/
namespace Go.Proofs.YtlcdaalalihaiaaGreat
open Go Go.RowKit
set_option linter.unusedVariables false
set_option linter.unusedSectionVars false
set_option linter.unusedSimpArgs false
set_option maxRecDepth 100000
namespace Ex
variable [GN]
section
variable {θ : Nat → Value} {ρ ρ' : Ren} {P : Program} {F : Fm} {w : World} {h : Tr SO} {nx : Nat} {X : FuncId → Option XK} {base : List Frame} {dr : SI0 → Tr Value → Tr SO → Nat → Array Oper → Option (Tr Value × Tr SO × Nat)}
/-- 'dr' runs a drawn region as the machine does. -/
def DrOK (θ : Nat → Value) (P : Program) (dr : SI0 → Tr Value → Tr SO → Nat → Array Oper → Option (Tr Value × Tr SO × Nat)) : Prop :=
  ∀ (F : Fm) (ρ : Ren) (w : World) (h : Tr SO) (nx : Nat) (i : SI0) (e : Tr Value) (fr : Frame) (cs : List Frame) (id : Nat) (ops : Array Oper) (k' : List Item) (e' : Tr Value) (h' : Tr SO) (nx' : Nat), dr i e h nx ops = some (e', h', nx') → HT θ F ρ h nx w →
    fr.todo = .code (.region id ops true) :: k' → fr.mode = .run → fr.tmps.size = i.n → REnv θ ρ e fr.tmps →
    ∃ ρ' tmps' w', ρ.le ρ' ∧ Steps P (lone fr cs w) (lone { fr with tmps := tmps', todo := k' } cs w') ∧ tmps'.size = i.n ∧ REnv θ ρ' e' tmps' ∧ HT θ F ρ' h' nx' w'
theorem srf_ok (hX : ∀ f k, X f = some k → XOK P f k) (hN : NoNG P) {i : SI0} {e : Tr Value} {k : List SI} {ds : List Deferred} {fo : Operand} {ps : Array Tmp} {as bd : Code} {fr : Frame} (hf : FrR θ ρ ⟨i, e, .code (.rangeFunc fo ps as bd) :: k, ds, false⟩ fr) {k' : List Item} (ht : fr.todo = .code (.rangeFunc fo ps as bd) :: k') (h2 : RIs ρ k k') {cs : List SF} {cs' : List Frame} (hc : FrRs θ ρ cs cs') (hh : HT θ F ρ h nx w)
    {v : Value} (hv : Rv θ ρ v (fr.eval fo)) {s' : SM} (hs : srf P X i e ds cs h nx k ps as bd v = some s') : To θ F base P ρ (lone fr (cs' ++ base) w) s' := by
  have fin : ∀ (mk : List Deferred) (mk' : List Deferred) (l dfs : Nat) (h0 : Tr SO) (ρ1 : Ren) (w1 : World) (lo : Loop), ρ.le ρ1 → RDefs θ ρ1 mk mk' → HT θ F ρ1 h0 l w1 → lo = { state := .ready, pending := none, fn := fr.fn, tmps := fr.tmps, params := ps, assign := as, body := bd, defers := lo.defers } → (∃ s, ρ1 dfs = some s ∧ s.b = lo.defers) →
      (Instr.enterLoop fr.fn fr.tmps ps as bd fr.roundOf).run P w = .ok (w1.heap.size, mk') (w1.alloc (.loop lo)) →
      on1 (rcallF P X h nx v [.func (.yield l) #[] #[]]) (rf2 P i e ds cs k ps as bd mk l dfs h0) = some s' → To θ F base P ρ (lone fr (cs' ++ base) w) s' := by
    intro mk mk' l dfs h0 ρ1 w1 lo hl hm hh1 hlo hdf hel hs
    obtain ⟨r, hr, hs⟩ := on1_ok hs
    unfold rf2 at hs
    split at hs
    · rename_i g args
      obtain ⟨ρ2, j1, j2, j3⟩ := hh1.alloc none (o := .loop .ready none i.fn i.n e ps as bd dfs) (o' := .loop lo) (fun ρ' hρ => by
        rw [hlo]
        obtain ⟨s, hs1, hs2⟩ := hdf
        exact ⟨rfl, rfl, hf.fn, hf.n, (hf.env.mono hl).mono hρ, rfl, rfl, rfl, s, hρ _ _ hs1, hs2⟩) rfl
      have hl2 := hl.trans j1
      have hr2 := rcallF_enter hr (h0.put l (.loop .ready none i.fn i.n e ps as bd dfs)) (l + 1)
      have hok := rcallF_ok j3 hX hN (hv.mono hl2) (Rl.cons (Rv.yield j2) Rl.nil) hr2
      have hf2 : FrR θ ρ2 ⟨i, e, .rf l :: k, mk ++ ds, false⟩ { fr with todo := .inRangeFunc w1.heap.size :: k', defers := mk' ++ fr.defers } := by
        have h3 := hf.mono hl2
        exact ⟨h3.fn, h3.n, h3.env, .inr ⟨.rf j2, h2.mono hl2⟩, RDefs.append (hm.mono j1) h3.defers, h3.mode, h3.kind, h3.round⟩
      obtain ⟨ρ', fr', cs2, w', a1, a2, a3, a4, a5⟩ := spush_ok (base := base) hf2 (hc.mono hl2) j3 hok (show spush P i e (mk ++ ds) cs (h0.put l (.loop .ready none i.fn i.n e ps as bd dfs)) (l + 1) (.rf l :: k) (.enter g args) = some s' from hs)
      refine .one hf.mode ?_ (hl2.trans a1) a3 a4 a5
      rw [← a2]
      have e1 : ({ fr with todo := .inRangeFunc w1.heap.size :: k', defers := mk' ++ fr.defers } : Frame).eval = fr.eval := by funext x; cases x <;> rfl
      have e2 : (#[Operand.const (.func (.yield w1.heap.size) #[] #[])] : Array Operand).map fr.eval = #[.func (.yield w1.heap.size) #[] #[]] := by simp [Frame.eval]
      simp only [stepG.exec, ht, Sem.runT_eq, hel, GStep.bare_after, resolve, e1, e2]
    · cases hs
  unfold srf at hs
  have hro := hf.round
  split at hs
  · rename_i hi
    simp only [hi] at hro
    obtain ⟨ρ1, j1, j2, j3⟩ := hh.alloc none (o := .dfd (some [])) (o' := .deferred (some [])) (fun ρ' hρ => trivial) rfl
    exact fin [{ target := .collected nx, args := #[] }] [{ target := .collected w.heap.size, args := #[] }] _ _ _ ρ1 _ { state := .ready, pending := none, fn := fr.fn, tmps := fr.tmps, params := ps, assign := as, body := bd, defers := w.heap.size } j1 ⟨⟨⟨_, j2, rfl⟩, Ra.list.2 Rl.nil⟩, trivial⟩ j3 rfl ⟨_, j2, rfl⟩ (by rw [hro]; simp [Instr.enterLoop]) hs
  · rename_i l0 hi
    simp only [hi] at hro
    obtain ⟨p, hp, hro⟩ := hro
    obtain ⟨so, hl, hs⟩ := on1_ok hs
    unfold rfIn at hs
    split at hs
    · obtain ⟨lo, g2, g3, g4⟩ := hh.loopAt hl hp
      obtain ⟨_, _, _, _, _, _, _, _, s, q1, q2⟩ := g3
      exact fin [] [] _ _ _ ρ _ { state := .ready, pending := none, fn := fr.fn, tmps := fr.tmps, params := ps, assign := as, body := bd, defers := lo.defers } (.refl ρ) trivial hh rfl ⟨s, q1, q2⟩ (by rw [hro]; simp [Instr.enterLoop, run_getLoop g2]) hs
    · cases hs
theorem scode_ok (hX : ∀ f k, X f = some k → XOK P f k) (hN : NoNG P) (hdr : DrOK θ P dr) {i : SI0} {e : Tr Value} {k : List SI} {c : Code} {ds : List Deferred} {fr : Frame} (hf : FrR θ ρ ⟨i, e, .code c :: k, ds, false⟩ fr) {cs : List SF} {cs' : List Frame} (hc : FrRs θ ρ cs cs') (hh : HT θ F ρ h nx w)
    {s' : SM} (hs : scode P X i e ds cs h nx dr k c = some s') : To θ F base P ρ (lone fr (cs' ++ base) w) s' := by
  obtain ⟨i', k', ht, h1, h2⟩ := hf.td.cons
  cases h1
  have he := hf.env.ev hh.gl
  unfold scode at hs
  split at hs
  · exact mkS_to hf hc (.refl ρ) hh h2 (by simp only [stepG.exec, ht, GStep.bare_go]) hs
  · rename_i id ops d
    unfold sdr at hs
    split at hs
    · obtain ⟨x, hx, hs⟩ := on1_ok hs
      obtain ⟨e', h', nx'⟩ := x
      cases hs
      obtain ⟨ρ', tmps', w', a1, a2, a3, a4, a5⟩ := hdr F ρ w h nx i e fr (cs' ++ base) id ops k' e' h' nx' hx hh ht hf.mode hf.n hf.env
      have h3 := hf.mono a1
      exact ⟨ρ', _, a1, a2, ⟨_, cs', w', rfl, ⟨h3.fn, a3, a4, .inr (h2.mono a1), h3.defers, h3.mode, h3.kind, h3.round⟩, hc.mono a1, a5⟩⟩
    · exact mkS_to hf hc (.refl ρ) hh (k := .reg ops ops.toList :: k) (k' := .inRegion ops (List.range ops.size) :: k') ⟨.reg ops 0 (by simp) (by simp), h2⟩ (by simp only [stepG.exec, ht, Bool.not_false, if_true, GStep.bare_go]) hs
  · rename_i a b
    exact mkS_to hf hc (.refl ρ) hh (k := .code a :: .code b :: k) (k' := .code a :: .code b :: k') ⟨.code a, .code b, h2⟩ (by simp only [stepG.exec, ht, GStep.bare_go]) hs
  · rename_i c x y
    obtain ⟨v, hv, hs⟩ := on1_ok hs
    have hv := he _ _ hv
    unfold scond at hs
    split at hs
    · have hv := hv.toBool
      exact mkS_to hf hc (.refl ρ) hh (k := .code x :: k) (k' := .code x :: k') ⟨.code x, h2⟩ (by simp only [stepG.exec, ht, hv, if_true, GStep.bare_go]) hs
    · have hv := hv.toBool
      exact mkS_to hf hc (.refl ρ) hh (k := .code y :: k) (k' := .code y :: k') ⟨.code y, h2⟩ (by simp only [stepG.exec, ht, hv, Bool.false_eq_true, if_false, GStep.bare_go]) hs
    · cases hs
  · rename_i id b
    exact mkS_to hf hc (.refl ρ) hh (k := .code b :: .blk id :: k) (k' := .code b :: .inBlock id :: k') ⟨.code b, .blk id, h2⟩ (by simp only [stepG.exec, ht, GStep.bare_go]) hs
  · rename_i b
    exact mkS_to hf hc (.refl ρ) hh (k := .code b :: .lp b :: k) (k' := .code b :: .inLoop b :: k') ⟨.code b, .lp b, h2⟩ (by simp only [stepG.exec, ht, GStep.bare_go]) hs
  · rename_i f ps as bd
    obtain ⟨v, hv, hs⟩ := on1_ok hs
    exact srf_ok hX hN hf ht h2 hc hh (he _ _ hv) hs
  · rename_i id
    unfold sexit at hs
    obtain ⟨x1, x2⟩ := h2.exitTo id
    split at hs
    · rename_i kk hk
      obtain ⟨k2, y1, y2⟩ := x1 _ hk
      exact mkS_to hf hc (.refl ρ) hh y2 (by simp only [stepG.exec, ht, y1, Option.elim, GStep.bare_go]) hs
    · rename_i hk
      exact sleave_ok hf hc hh (by simp only [stepG.exec, ht, x2 hk, Option.elim]; rfl) hs
  · rename_i b
    exact mkS_to hf hc (.refl ρ) hh (k := .code b :: .sc b :: k) (k' := .code b :: .inScope b :: k') ⟨.code b, .sc b, h2⟩ (by simp only [stepG.exec, ht, GStep.bare_go]) hs
  · exact mkS_to hf hc (.refl ρ) hh h2 (by simp only [stepG.exec, ht, GStep.bare_go]) hs
  · exact sleave_ok hf hc hh (by
      simp only [stepG.exec, ht, leaveG]
      cases fr.roundOf <;> first | rfl | simp) hs
  · cases hs
theorem sitem_ok (hX : ∀ f k, X f = some k → XOK P f k) (hN : NoNG P) (hdr : DrOK θ P dr) {i : SI0} {e : Tr Value} {k : List SI} {it : SI} {ds : List Deferred} {fr : Frame} (hf : FrR θ ρ ⟨i, e, it :: k, ds, false⟩ fr) {cs : List SF} {cs' : List Frame} (hc : FrRs θ ρ cs cs') (hh : HT θ F ρ h nx w)
    {s' : SM} (hs : sitem P X i e ds cs h nx dr k it = some s') : To θ F base P ρ (lone fr (cs' ++ base) w) s' := by
  unfold sitem at hs
  split at hs
  · exact scode_ok hX hN hdr hf hc hh hs
  · obtain ⟨i', k', ht, h1, h2⟩ := hf.td.cons
    cases h1
    exact mkS_to hf hc (.refl ρ) hh h2 (by simp only [stepG.exec, ht, GStep.bare_go]) hs
  · rename_i b
    obtain ⟨i', k', ht, h1, h2⟩ := hf.td.cons
    cases h1
    exact mkS_to hf hc (.refl ρ) hh (k := .code b :: .lp b :: k) (k' := .code b :: .inLoop b :: k') ⟨.code b, .lp b, h2⟩ (by simp only [stepG.exec, ht, GStep.bare_go]) hs
  · obtain ⟨i', k', ht, h1, h2⟩ := hf.td.cons
    cases h1
    exact mkS_to hf hc (.refl ρ) hh h2 (by simp only [stepG.exec, ht, GStep.bare_go]) hs
  · exact sreg_ok hX hN hf hc hh hs
  · cases hs
  · rename_i l
    obtain ⟨i', k', ht, h1, h2⟩ := hf.td.cons
    cases h1 with
    | erf hp =>
      rename_i p
      obtain ⟨so, hl, hs⟩ := on1_ok hs
      unfold serf2 at hs
      split at hs
      · cases hs
      · rename_i st pd fn n env ps as bd dfs hne
        obtain ⟨lo, g2, g3, g4⟩ := hh.loopAt hl hp
        obtain ⟨k1, k2, _⟩ := g3
        have hb : (lo.state == .busy) = false := by
          rw [k1]
          cases st with
          | busy => exact (hne rfl).elim
          | _ => rfl
        have he : (Instr.endLoop p.b).run P w = .ok pd { w with heap := w.heap.setIfInBounds p.b (.loop { lo with state := .exhausted, pending := pd }) } := by
          have e1 : ({ lo with state := .exhausted, pending := pd } : Loop) = { lo with state := .exhausted } := by rw [← k2]
          rw [e1]
          simp only [Instr.endLoop, Sem.run_bind, run_getLoop g2, Result.andThen_ok, hb, Bool.false_eq_true, if_false, run_setLoop g2, Sem.run_pure, k2]
        refine mkS_to hf hc (.refl ρ) (g4 .exhausted pd) (k := pendI pd ++ k) (k' := (pd.map Item.code).toList ++ k') ?_ ?_ hs
        · cases pd with
          | none => exact h2
          | some c => exact ⟨.code c, h2⟩
        · simp only [stepG.exec, ht, Sem.runT_eq, he, GStep.bare_after, GStep.bare_go]
      · cases hs
  · obtain ⟨i', k', ht, h1, h2⟩ := hf.td.cons
    cases h1
    obtain ⟨l, hro, hs⟩ := on1_ok hs
    obtain ⟨so, hl, hs⟩ := on1_ok hs
    have hr := hf.round
    simp only [hro] at hr
    obtain ⟨p, hp, hr⟩ := hr
    unfold sbr2 at hs
    split at hs
    · rename_i pd fn n env ps as bd dfs
      obtain ⟨lo, g2, g3, g4⟩ := hh.loopAt hl hp
      obtain ⟨k1, k2, _⟩ := g3
      refine mkS_to hf hc (.refl ρ) (g4 .busy pd) h2 ?_ hs
      have he : (Instr.beginRound p.b).run P w = .ok () { w with heap := w.heap.setIfInBounds p.b (.loop { lo with state := .busy, pending := pd }) } := by
        have e1 : ({ lo with state := .busy, pending := pd } : Loop) = { lo with state := .busy } := by rw [← k2]
        rw [e1]
        simp only [Instr.beginRound, Sem.run_bind, run_getLoop g2, Result.andThen_ok, run_setLoop g2, k1, Sem.run_pure]
      have hrun : (do fr.roundOf.elim (stuck "beginRound: no round") Instr.beginRound; pure .skip : Sem Next).run P w = .ok .skip { w with heap := w.heap.setIfInBounds p.b (.loop { lo with state := .busy, pending := pd }) } := by
        rw [hr]
        simp only [Option.elim, Sem.run_bind, he, Result.andThen_ok, Sem.run_pure]
      have hfin : fr.finish undef = { fr with todo := k' } := by simp only [Frame.finish, ht]
      simp only [stepG.exec, ht, stepG.apply, if_true, Sem.runT_eq, hrun, GStep.bare_after, GStep.bare_go, hfin]
    · cases hs
theorem stodo_ok (hX : ∀ f k, X f = some k → XOK P f k) (hN : NoNG P) (hdr : DrOK θ P dr) {i : SI0} {e : Tr Value} {todo : List SI} {ds : List Deferred} {fr : Frame} (hf : FrR θ ρ ⟨i, e, todo, ds, false⟩ fr) {cs : List SF} {cs' : List Frame} (hc : FrRs θ ρ cs cs') (hh : HT θ F ρ h nx w)
    {s' : SM} (hs : stodo P X i e ds cs h nx dr todo = some s') : To θ F base P ρ (lone fr (cs' ++ base) w) s' := by
  unfold stodo at hs
  split at hs
  · have ht := hf.td.nil
    exact sleave_ok hf hc hh (by
      simp only [stepG.exec, ht, leaveG]
      cases fr.roundOf <;> first | rfl | simp) hs
  · exact sitem_ok hX hN hdr hf hc hh hs
theorem sretS_ok (hX : ∀ f k, X f = some k → XOK P f k) (hN : NoNG P) {i : SI0} {e : Tr Value} {todo : List SI} {ds : List Deferred} {fr : Frame} (hf : FrR θ ρ ⟨i, e, todo, ds, true⟩ fr) {cs : List SF} {cs' : List Frame} (hc : FrRs θ ρ cs cs') (hh : HT θ F ρ h nx w)
    {s' : SM} (hs : sretS P X i e ds cs h nx = some s') : To θ F base P ρ (lone fr (cs' ++ base) w) s' := by
  have hm : fr.mode = .returning := hf.mode
  unfold sretS at hs
  split at hs
  · have hd : fr.defers = [] := by
      have := hf.defers
      cases hq : fr.defers with
      | nil => rfl
      | cons a l => rw [hq] at this; exact this.elim
    unfold sback at hs
    obtain ⟨fn, hfn, hs⟩ := on1_ok hs
    obtain ⟨vs, hvs, hs⟩ := on1_ok hs
    obtain ⟨v', h1, h2⟩ := sresults_ok hh hf.env hvs
    have hfn : P.funcs[fr.fn]? = some fn := by rw [hf.fn]; exact hfn
    unfold sback2 at hs
    split at hs
    · rename_i c cs _ _
      obtain ⟨cf, cs'', rfl, hc1, hc2⟩ := hc.cons
      have hk := hf.kind
      cases hd2 : i.dfr with
      | true =>
        rw [hd2] at hs
        cases hs
        have hk : fr.kind = .deferred := by rw [hk]; show (bif i.dfr then CallKind.deferred else .normal) = _; rw [hd2]; rfl
        refine .ret (fr' := cf) (cs2 := cs'') hm ?_ (.refl ρ) hc1 hc2 hh
        have hcm : ∀ (l : List PanicEntry), cf.mode ≠ .panicking l := fun l => by rw [hc1.mode]; cases c.ret <;> simp
        simp only [unwind, hd, hm, hfn, Sem.runT_eq, h2, GStep.bare_after, List.cons_append, doReturn, hk]
        split
        · rename_i hq; exact (hcm _ hq).elim
        · simp only [GStep.bare_go]
      | false =>
        rw [hd2] at hs
        obtain ⟨c', hc', hs⟩ := on1_ok (show on1 (sfin c (sresult vs)) (topS cs h nx) = some s' from hs)
        cases hs
        have hk : fr.kind = .normal := by rw [hk]; show (bif i.dfr then CallKind.deferred else .normal) = _; rw [hd2]; rfl
        refine .ret (fr' := cf.finish v') (cs2 := cs'') hm ?_ (.refl ρ) (sfin_ok hc' hc1 h1) hc2 hh
        simp only [unwind, hd, hm, hfn, Sem.runT_eq, h2, GStep.bare_after, List.cons_append, doReturn, hk, GStep.bare_go]
    · cases hs
  · rename_i d ds
    have hdd := hf.defers
    cases hq : fr.defers with
    | nil => rw [hq] at hdd; exact hdd.elim
    | cons d' ds' =>
      rw [hq] at hdd
      obtain ⟨hd1, hd2⟩ := hdd
      obtain ⟨tg, args⟩ := d
      obtain ⟨tg', args'⟩ := d'
      obtain ⟨ht, ha⟩ := hd1
      dsimp only at ht ha
      unfold sdef at hs
      dsimp only at hs
      split at hs
      · rename_i r
        obtain ⟨so, hr, hs⟩ := on1_ok hs
        cases tg' with
        | collected b =>
          obtain ⟨p, hp, hb⟩ := ht
          subst hb
          unfold scol at hs
          split at hs
          · rename_i calls
            cases hs
            obtain ⟨p', o', g1, g2, g3, g4⟩ := hh.obj r _ hr
            rw [hp] at g1; cases g1
            cases o' with
            | deferred x =>
              cases x with
              | none => exact g3.elim
              | some calls' =>
                have h3 := hh.turn (p := p) hr rfl rfl hp (o1 := .dfd none) (o1' := .deferred none) trivial (w' := { w with heap := w.heap.setIfInBounds p.b (.deferred none) }) rfl rfl rfl rfl
                have he : (Instr.takeDeferred p.b).run P w = .ok calls' { w with heap := w.heap.setIfInBounds p.b (.deferred none) } := by
                  simp only [Instr.takeDeferred, Sem.run_bind, run_getIt g2 (by intro _ _ _ h; cases h), Result.andThen_ok, run_setIt g2 (by intro _ _ _ h; cases h), Sem.run_pure]
                refine .ret (fr' := { fr with defers := calls' ++ ds' }) (cs2 := cs') hm ?_ (.refl ρ) ⟨hf.fn, hf.n, hf.env, .inl ⟨rfl, rfl⟩, RDefs.append g3 hd2, hf.mode, hf.kind, hf.round⟩ hc h3
                simp only [unwind, hq, Sem.runT_eq, he, GStep.bare_after, GStep.bare_go]
            | _ => exact g3.elim
          · cases hs
        | _ => exact ht.elim
      · rename_i g cap
        obtain ⟨r, hr, hs⟩ := on1_ok hs
        cases tg' with
        | fn f' cap' =>
          obtain ⟨hfe, hcap⟩ := ht
          cases f' with
          | func g' =>
            cases hfe
            have hv : Rv θ ρ (.func (.func g) #[] cap) (.func (.func g) #[] cap') := by
              have h0 := (Rl.nil (θ := θ) (ρ := ρ)).arr
              exact .fn h0.1 h0.2 hcap.1 hcap.2
            have hok := rcallF_ok hh hX hN hv (Ra.list.1 ha) hr
            have hinv : (do let d ← Deferred.ofValue (.func (.func g) #[] cap') args'.toList.toArray; invoke d.target d.args : Sem Next) = invoke (.fn (.func g) cap') args' := by
              simp [Deferred.ofValue]
            rw [hinv] at hok
            have hf2 : FrR θ ρ ⟨i, e, [], ds, true⟩ { fr with defers := ds' } := ⟨hf.fn, hf.n, hf.env, .inl ⟨rfl, rfl⟩, hd2, hf.mode, hf.kind, hf.round⟩
            have hun : unwind P true fr (cs' ++ base) none w = callDeferred P { fr with defers := ds' } (cs' ++ base) none { target := .fn (.func g) cap', args := args' } w := by
              simp only [unwind, hq]
            have hnil : ((Target.fn (.func g) cap' matches .nil) && (fr.mode matches .panicking _)) = false := rfl
            unfold sdef2 at hs
            split at hs
            · rename_i v h' nx'
              cases hs
              obtain ⟨ρ', v', w', a1, a2, a3, a4⟩ := hok
              refine .ret (fr' := { fr with defers := ds' }) (cs2 := cs') hm ?_ a1 (hf2.mono a1) (hc.mono a1) a3
              rw [hun]
              rcases a4 with a4 | ⟨_, a4⟩ <;> simp only [callDeferred, Bool.false_and, Bool.false_eq_true, if_false, Sem.runT_eq, a4, GStep.bare_after, GStep.bare_go]
            · rename_i f2 vs
              obtain ⟨t, ht2, hs⟩ := on1_ok hs
              cases hs
              obtain ⟨args2, a1, a2⟩ := hok
              refine .ret (fr' := Frame.enter P f2 args2 .deferred) (cs2 := { fr with defers := ds' } :: cs') hm ?_ (.refl ρ) (enterF_ok ht2 a1) ⟨hf2, hc⟩ hh
              rw [hun]
              simp only [callDeferred, Bool.false_and, Bool.false_eq_true, if_false, Sem.runT_eq, a2, GStep.bare_after, GStep.bare_go]
              rfl
            · cases hs
          | _ => cases hfe
        | _ => exact ht.elim
      · cases hs
/-- One step of ours is some of the machine's. -/
theorem sstep_ok (hX : ∀ f k, X f = some k → XOK P f k) (hN : NoNG P) (hdr : DrOK θ P dr) {s s' : SM} (hs : sstep P X dr s = some s') {m : Machine} (hm : MR θ F base ρ s m) : To θ F base P ρ m s' := by
  obtain ⟨⟨i, e, todo, ds, ret⟩, cs, h, nx⟩ := s
  obtain ⟨fr, cs', w, rfl, hf, hc, hh⟩ := hm.out
  cases ret with
  | true => exact sretS_ok hX hN hf hc hh hs
  | false => exact stodo_ok hX hN hdr hf hc hh hs
end
end Ex
end Go.Proofs.YtlcdaalalihaiaaGreat

/- Running code by calculation: a region's blocks, in any order. -/
namespace Go.Proofs.YtlcdaalalihaiaaGreat
open Go Go.RowKit
set_option linter.unusedVariables false
set_option linter.unusedSectionVars false
set_option linter.unusedSimpArgs false
set_option maxRecDepth 100000
namespace Ex
variable [GN]
section
variable {θ : Nat → Value} {ρ ρ' : Ren} {F : Fm} {w w' : World} {g g' : Nat → Option SO} {T T' : Tr SO} {nx nx' : Nat}
/-- The blocks under Q stay out of a part's reach. -/
def Fm.hold (F : Fm) (w : World) (ρ : Ren) (g : Nat → Option SO) (Q : Nat → Prop) : Fm := ⟨w, F.N, fun b => F.K b ∨ ∃ k p u, Q k ∧ g k = some u ∧ ρ k = some p ∧ p.b = b, F.R⟩
theorem HR.frame (hh : HR θ F ρ g nx w) (Q : Nat → Prop) (hT : ∀ k u, T.get k = some u → g k = some u ∧ ¬ Q k) : HT θ (F.hold w ρ g Q) ρ T nx w := by
  have h1 := hh.sub (fun k o ho => (hT k o ho).1)
  refine ⟨rfl, rfl, rfl, Nat.le_refl _, fun b _ => rfl, fun b hb => ?_, Nat.le_trans hh.nle hh.size, h1.inj, h1.lt, h1.new, h1.res, fun k o ho => ?_, h1.gl⟩
  · rcases hb with hb | ⟨k, p, u, _, _, h3, h4⟩
    · exact Nat.lt_of_lt_of_le (hh.klt b hb) hh.size
    · rw [← h4]; exact hh.lt k p h3
  · obtain ⟨p, o', a1, a2, a3, a4, a5⟩ := h1.obj k o ho
    refine ⟨p, o', a1, a2, a3, fun hr => ⟨(a4 hr).1, fun hK => ?_⟩, a5⟩
    rcases hK with hK | ⟨k2, p2, u, h1, h2, h3, h4⟩
    · exact (a4 hr).2 hK
    · have := hh.inj k k2 p p2 a1 h3 h4.symm (by rw [(hT k o ho).1]; rfl) (by rw [h2]; rfl)
      subst this
      exact (hT k o ho).2 h1
theorem HR.unframe (hh : HR θ F ρ g nx w) {Q : Nat → Prop} (hrw : ∀ k u, Q k → g k = some u → u.rw = true) (hl : ρ.le ρ') (hh' : HT θ (F.hold w ρ g Q) ρ' T' nx' w') {R' : Nat → Prop}
    (hg : ∀ k u, g' k = some u → (Q k ∧ g k = some u) ∨ T'.get k = some u) (hR : ∀ k, R' k → F.R k) : HR θ { F with R := R' } ρ' g' nx' w' ∧ ∀ k u, Q k → g k = some u → T'.get k = none := by
  have out : ∀ k u, Q k → g k = some u → ∀ j v p q, T'.get j = some v → ρ' k = some p → ρ' j = some q → q.b ≠ p.b := fun k u hq hgk j v p q hj hp hqj he => by
    obtain ⟨p1, o1, a1, a2, a3, a4⟩ := hh.obj k u hgk
    have := hl k p1 a1
    rw [hp] at this; cases this
    obtain ⟨q1, o2, b1, b2, b3, b4, b5⟩ := hh'.obj j v hj
    rw [hqj] at b1; cases b1
    cases hv : v.rw with
    | true => exact (b4 hv).2 (.inr ⟨k, p, u, hq, hgk, a1, he.symm⟩)
    | false =>
      have h1 := b5 hv
      have h2 := (a4.1 (hrw k u hq hgk)).1
      have h3 : q.b < F.N := h1
      omega
  have none_ : ∀ k u, Q k → g k = some u → T'.get k = none := fun k u hq hgk => by
    cases ht : T'.get k with
    | none => rfl
    | some v =>
      exfalso
      obtain ⟨p1, o1, a1, _⟩ := hh.obj k u hgk
      exact out k u hq hgk k v p1 p1 ht (hl _ _ a1) (hl _ _ a1) rfl
  refine ⟨⟨hh'.os.trans hh.os, hh'.tape.trans hh.tape, hh'.output.trans hh.output, Nat.le_trans hh.size hh'.size, fun b hb => (hh'.keep b (.inl hb)).trans (hh.keep b hb), hh.klt, hh.nle, fun k k' p p' h1 h2 h0 h3 h4 => ?_, hh'.lt, fun k hk => hh'.new k (hk.imp id (hR k)), fun k hk => hh'.res k (hR k hk), fun k u hu => ?_, hh'.gl⟩, none_⟩
  · obtain ⟨u, hu⟩ := Option.isSome_iff_exists.1 h3
    obtain ⟨u', hu'⟩ := Option.isSome_iff_exists.1 h4
    rcases hg k u hu with ⟨c1, c2⟩ | c
    · rcases hg k' u' hu' with ⟨d1, d2⟩ | d
      · obtain ⟨p1, _, a1, _⟩ := hh.obj k u c2
        obtain ⟨p2, _, a2, _⟩ := hh.obj k' u' d2
        have e1 := hl _ _ a1
        have e2 := hl _ _ a2
        rw [h1] at e1; rw [h2] at e2
        cases e1; cases e2
        exact hh.inj k k' p p' a1 a2 h0 (by rw [c2]; rfl) (by rw [d2]; rfl)
      · exact absurd h0.symm (out k u c1 c2 k' u' p p' d h1 h2)
    · rcases hg k' u' hu' with ⟨d1, d2⟩ | d
      · exact absurd h0 (out k' u' d1 d2 k u p' p c h2 h1)
      · exact hh'.inj k k' p p' h1 h2 h0 (by rw [c]; rfl) (by rw [d]; rfl)
  · rcases hg k u hu with ⟨c1, c2⟩ | c
    · obtain ⟨p1, o1, a1, a2, a3, a4⟩ := hh.obj k u c2
      exact ⟨p1, o1, hl _ _ a1, (hh'.keep p1.b (.inr ⟨k, p1, u, c1, c2, a1, rfl⟩)).trans a2, a3.mono hl, a4⟩
    · obtain ⟨p1, o1, a1, a2, a3, a4, a5⟩ := hh'.obj k u c
      exact ⟨p1, o1, a1, a2, a3, fun hr => ⟨(a4 hr).1, fun hK => (a4 hr).2 (.inl hK)⟩, a5⟩
/-- Fewer numbers are kept free. -/
theorem HR.less (hh : HR θ F ρ g nx w) {R' : Nat → Prop} (hR : ∀ k, R' k → F.R k) (hg : ∀ k u, g' k = some u → g k = some u) : HR θ { F with R := R' } ρ g' nx w :=
  let h1 := hh.sub hg
  ⟨h1.os, h1.tape, h1.output, h1.size, h1.keep, h1.klt, h1.nle, h1.inj, h1.lt, fun k hk => h1.new k (hk.imp id (hR k)), fun k hk => h1.res k (hR k hk), h1.obj, h1.gl⟩
end
section
variable {P : Program} {X : FuncId → Option XK} {callF : FuncId → Array Value → Tr SO → Nat → Option (Value × Tr SO × Nat)} {n nx0 : Nat} {ops : Array Oper} {L : List Pn1} {S : Nat → DS} {e0 : Tr Value} {h0 : Tr SO} {θ : Nat → Value} {ρ ρ' : Ren} {F : Fm} {w : World}
def hdT (S : Nat → DS) (c : Nat) : Tr SO := (S c).hs.headD .leaf
open Classical in
/-- The blocks, where D is done, and of the effects those ahead of c. -/
noncomputable def gD (L : List Pn1) (S : Nat → DS) (N nx0 : Nat) (D : Nat → Prop) (c k : Nat) : Option SO := if ∃ j so, k = nx0 + j ∧ Fl L S N D c j so then alF S (k - nx0) else (hdT S c).get k
theorem gD_float {N : Nat} {D : Nat → Prop} {c j : Nat} {so : SO} (h : Fl L S N D c j so) : gD L S N nx0 D c (nx0 + j) = some so := by
  unfold gD
  rw [if_pos ⟨j, so, rfl, h⟩, Nat.add_sub_cancel_left]; exact h.2.2.1
theorem gD_cases {N : Nat} {D : Nat → Prop} {c k : Nat} {u : SO} (h : gD L S N nx0 D c k = some u) : (∃ j, k = nx0 + j ∧ Fl L S N D c j u) ∨ ((hdT S c).get k = some u ∧ ¬ ∃ j so, k = nx0 + j ∧ Fl L S N D c j so) := by
  unfold gD at h
  split at h
  · rename_i hf
    obtain ⟨j, so, rfl, hf⟩ := hf
    rw [Nat.add_sub_cancel_left, hf.2.2.1] at h
    cases h
    exact .inl ⟨j, rfl, hf⟩
  · rename_i hf; exact .inr ⟨h, hf⟩
theorem gD_table {N : Nat} {D : Nat → Prop} {c k : Nat} {u : SO} (h : (hdT S c).get k = some u) (hn : ¬ ∃ j so, k = nx0 + j ∧ Fl L S N D c j so) : gD L S N nx0 D c k = some u := by
  unfold gD
  rw [if_neg hn]; exact h
/-- The numbers of what is not done are kept free. -/
def FD (F : Fm) (nx0 N : Nat) (D : Nat → Prop) : Fm := { F with R := fun k => F.R k ∨ ∃ j, j < N ∧ k = nx0 + j ∧ ¬ D j }
theorem RG.quiet (R : RG P X callF n nx0 ops L S e0 h0) {c : Nat} : ∀ {c' : Nat}, c ≤ c' → c' ≤ ops.size → (∀ k, c ≤ k → k < c' → ¬ isE S k) → mE S c = mE S c'
  | 0, h, _, _ => by rw [Nat.le_zero.1 h]
  | c' + 1, h, hc, hk => by
    rcases Nat.lt_or_eq_of_le h with h | rfl
    · have ih := R.quiet (by omega : c ≤ c') (by omega) (fun k h1 h2 => hk k h1 (by omega))
      have h1 := R.mono1 (by omega : c' < ops.size)
      have h2 := hk c' (by omega) (by omega)
      unfold isE at h2
      omega
    · rfl
/-- Where the same effects stand ahead, all is the same. -/
theorem RG.shift (R : RG P X callF n nx0 ops L S e0 h0) {c c' : Nat} (hc : c ≤ ops.size) (hc' : c' ≤ ops.size) (hk : ∀ k, k < ops.size → isE S k → (k < c ↔ k < c')) : (S c).hs = (S c').hs ∧ (S c).nx = (S c').nx ∧ (S c).effs = (S c').effs ∧ ∀ j, Ab L S c j ↔ Ab L S c' j := by
  have hab : ∀ j, Ab L S c j ↔ Ab L S c' j := fun j => ⟨fun ⟨i, x, h1, h2, h3, h4⟩ => ⟨i, x, (hk i (R.lt h2) h3).1 h1, h2, h3, h4⟩, fun ⟨i, x, h1, h2, h3, h4⟩ => ⟨i, x, (hk i (R.lt h2) h3).2 h1, h2, h3, h4⟩⟩
  rcases Nat.le_total c c' with h | h
  · have := R.quiet h hc' (fun k h1 h2 h3 => by have := (hk k (by omega) h3).2 h2; omega)
    obtain ⟨a, b, d⟩ := R.stage h hc' this
    exact ⟨a, b, d, hab⟩
  · have := R.quiet h hc (fun k h1 h2 h3 => by have := (hk k (by omega) h3).1 h2; omega)
    obtain ⟨a, b, d⟩ := R.stage h hc this
    exact ⟨a.symm, b.symm, d.symm, hab⟩
/-- What is known where D is done. -/
structure Inv (θ : Nat → Value) (F : Fm) (L : List Pn1) (S : Nat → DS) (n nx0 N : Nat) (D : Nat → Prop) (c : Nat) (ρ : Ren) (tmps : Array Value) (w : World) : Prop where
  cle : c ≤ N
  eff : ∀ i, i < N → isE S i → (D i ↔ i < c)
  cl : Closed L D
  env : Env θ ρ L S N D tmps
  sz : tmps.size = n
  hr : HR θ (FD F nx0 N D) ρ (gD L S N nx0 D c) (S c).nx w
  dis : ∀ j so, Fl L S N D c j so → (hdT S c).get (nx0 + j) = none
  rw_ : ∀ j so, Fl L S N D c j so → so.rw = true
  low : ∀ k, F.R k → k < nx0
theorem Inv.shift (R : RG P X callF n nx0 ops L S e0 h0) {D : Nat → Prop} {c c' : Nat} {tmps : Array Value} (h : Inv θ F L S n nx0 ops.size D c ρ tmps w) (hc' : c' ≤ ops.size) (hk : ∀ k, k < ops.size → isE S k → (D k ↔ k < c')) : Inv θ F L S n nx0 ops.size D c' ρ tmps w := by
  obtain ⟨a1, a2, a3, a4⟩ := R.shift h.cle hc' (fun k h1 h2 => (h.eff k h1 h2).symm.trans (hk k h1 h2))
  have hfl : ∀ j so, Fl L S ops.size D c' j so ↔ Fl L S ops.size D c j so := fun j so => by unfold Fl; rw [a4]
  have ht : hdT S c' = hdT S c := by unfold hdT; rw [a1]
  have hg : gD L S ops.size nx0 D c' = gD L S ops.size nx0 D c := by
    have hfl2 : Fl L S ops.size D c' = Fl L S ops.size D c := funext fun j => funext fun so => propext (hfl j so)
    funext k
    unfold gD
    rw [hfl2, ht]
  exact ⟨hc', hk, h.cl, h.env, h.sz, by rw [hg, ← a2]; exact h.hr, fun j so hj => by rw [ht]; exact h.dis j so ((hfl j so).1 hj), fun j so hj => h.rw_ j so ((hfl j so).1 hj), h.low⟩
theorem RG.hs_len (R : RG P X callF n nx0 ops L S e0 h0) : ∀ {i : Nat}, i ≤ ops.size → (S i).hs.length = mE S i + 1
  | 0, _ => by unfold mE; rw [R.s0]; rfl
  | i + 1, hi => by
    obtain ⟨x, hx⟩ := R.at_ (by omega : i < ops.size)
    have ih := R.hs_len (by omega : i ≤ ops.size)
    unfold mE at ih ⊢
    rcases R.one hx with ⟨h1, h2, _⟩ | ⟨h1, ⟨h', h2⟩, _⟩
    · rw [h1, h2]; exact ih
    · rw [h1, h2]; simp [ih]
theorem RG.hs_pre (R : RG P X callF n nx0 ops L S e0 h0) {i : Nat} : ∀ {j : Nat}, i ≤ j → j ≤ ops.size → ∃ pre, (S j).hs = pre ++ (S i).hs
  | 0, h, _ => by rw [Nat.le_zero.1 h]; exact ⟨[], rfl⟩
  | j + 1, h, hj => by
    rcases Nat.lt_or_eq_of_le h with h | rfl
    · obtain ⟨pre, hp⟩ := R.hs_pre (by omega : i ≤ j) (by omega)
      obtain ⟨x, hx⟩ := R.at_ (by omega : j < ops.size)
      rcases R.one hx with ⟨_, h2, _⟩ | ⟨_, ⟨h', h2⟩, _⟩
      · exact ⟨pre, h2.trans hp⟩
      · exact ⟨h' :: pre, by rw [h2, hp]; rfl⟩
    · exact ⟨[], rfl⟩
theorem RG.recs (R : RG P X callF n nx0 ops L S e0 h0) {i : Nat} {r : Rec} : ∀ {j : Nat}, i ≤ j → j ≤ ops.size → r ∈ (S i).recs → r ∈ (S j).recs
  | 0, h, _, hr => by rw [Nat.le_zero.1 h] at hr; exact hr
  | j + 1, h, hj, hr => by
    rcases Nat.lt_or_eq_of_le h with h | rfl
    · obtain ⟨x, hx⟩ := R.at_ (by omega : j < ops.size)
      have ih := R.recs (by omega : i ≤ j) (by omega) hr
      obtain ⟨hd, tl, v, _, hdid⟩ := R.did hx
      cases hdid with
      | off hw he h1 h2 h3 h4 h5 => rw [h1]; exact ih
      | pure v hw hk hp he h1 h2 h3 h4 h5 => exact h1.2 _ ih
      | alloc so sh hw hk hp he h1 h2 h3 h4 h5 => rw [h1]; exact ih
      | eff v h' r hw hk hc hp hd he h1 h2 h4 h5 => rw [h1]; exact ih
    · exact hr
theorem RG.effs_at (R : RG P X callF n nx0 ops L S e0 h0) : ∀ {j : Nat}, j ≤ ops.size → ∀ q y, (S j).effs[q]? = some y → ∃ x, y.1 < j ∧ L[y.1]? = some x ∧ y.2 = x.b ∧ isE S y.1 ∧ mE S y.1 = mE S j - 1 - q
  | 0, _, q, y, hy => by rw [R.s0] at hy; simp at hy
  | j + 1, hj, q, y, hy => by
    obtain ⟨x, hx⟩ := R.at_ (by omega : j < ops.size)
    rcases R.one hx with ⟨h1, _⟩ | ⟨h1, _⟩
    · rw [h1] at hy
      obtain ⟨x', a1, a2, a3, a4, a5⟩ := R.effs_at (by omega : j ≤ ops.size) q y hy
      exact ⟨x', by omega, a2, a3, a4, by rw [a5]; unfold mE; rw [h1]⟩
    · rw [h1] at hy
      have hm : mE S (j + 1) = mE S j + 1 := by unfold mE; rw [h1]; simp
      cases q with
      | zero =>
        simp at hy; subst hy
        exact ⟨x, by simp, hx, rfl, hm, by simp [hm]⟩
      | succ q =>
        simp at hy
        obtain ⟨x', a1, a2, a3, a4, a5⟩ := R.effs_at (by omega : j ≤ ops.size) q y hy
        exact ⟨x', by omega, a2, a3, a4, by rw [a5, hm]; omega⟩
theorem RG.hs_cons (R : RG P X callF n nx0 ops L S e0 h0) {c : Nat} (hc : c ≤ ops.size) : ∃ tl, (S c).hs = hdT S c :: tl := by
  have := R.hs_len hc
  unfold hdT
  cases h : (S c).hs with
  | nil => rw [h] at this; simp at this
  | cons a l => exact ⟨l, rfl⟩
/-- What is read is the same in every order. -/
theorem RG.read (R : RG P X callF n nx0 ops L S e0 h0) (hok : okRecs P (S ops.size) = true) {D : Nat → Prop} {c : Nat} (hcle : c ≤ ops.size) (heff : ∀ i, i < ops.size → isE S i → (D i ↔ i < c)) (hcl : Closed L D) {i : Nat} {x : Pn1} (hx : L[i]? = some x) (hn : ¬ D i) (hb : ∀ j, bitB x.b j = true → D j)
    {v : Value} (hrds : rds x.o.op = true) (hrec : (⟨i, x.o, x.b, pickE (S i).env x.ns, v⟩ : Rec) ∈ (S (i + 1)).recs) {hd : Tr SO} {tl : List (Tr SO)} (hhs : (S i).hs = hd :: tl) (hp : pop P (pickE (S i).env x.ns) hd x.o = some v) : pop P (pickE (S i).env x.ns) (hdT S c) x.o = some v := by
  have hi := R.lt hx
  cases he : (S ops.size).effs with
  | nil =>
    have hm : mE S ops.size = 0 := by unfold mE; rw [he]; rfl
    have h1 := R.mono (i := i) (j := ops.size) (by omega) (Nat.le_refl _)
    have h2 := R.mono (i := c) (j := ops.size) hcle (Nat.le_refl _)
    obtain ⟨a1, _⟩ := R.stage (i := i) (j := ops.size) (by omega) (Nat.le_refl _) (by omega)
    obtain ⟨b1, _⟩ := R.stage (i := c) (j := ops.size) hcle (Nat.le_refl _) (by omega)
    have : hdT S c = hd := by unfold hdT; rw [b1, ← a1, hhs]; rfl
    rw [this]; exact hp
  | cons y l =>
    have hrec := R.recs (i := i + 1) (j := ops.size) (by omega) (Nat.le_refl _) hrec
    unfold okRecs at hok
    have hok : ((S ops.size).recs.all fun r => okRec P (S ops.size).effs r (S ops.size).hs (S ops.size).hs.length) = true := by
      rw [he] at hok ⊢
      exact hok
    have hok := List.all_eq_true.1 hok _ hrec
    obtain ⟨pre, hpre⟩ := R.hs_pre hcle (Nat.le_refl _)
    obtain ⟨tl', htl⟩ := R.hs_cons hcle
    rw [htl] at hpre
    have hlen := R.hs_len (Nat.le_refl ops.size)
    have hlenc := R.hs_len hcle
    have hK : (S ops.size).hs.length - 1 - pre.length = mE S c := by
      have : (S ops.size).hs.length = pre.length + (S c).hs.length := by rw [hpre, htl]; simp
      omega
    have := okRec_at hok pre tl' (hdT S c) hpre (by
      rw [hK]
      refine mayIn_all fun q z hz => ?_
      obtain ⟨x', b1, b2, b3, b4, b5⟩ := R.effs_at (Nat.le_refl _) q z hz
      have hb5 : (S ops.size).effs.length - 1 - q = mE S z.1 := b5.symm
      rw [hb5]
      unfold may1
      rw [Bool.and_eq_true]
      have hez := heff z.1 b1 b4
      constructor
      · cases hbz : bitB x.b z.1 with
        | false => rfl
        | true =>
          have h1 := hez.1 (hb _ hbz)
          have h2 := R.mono (i := z.1 + 1) (j := c) (by omega) hcle
          unfold isE at b4
          have : mE S z.1 < mE S c := by omega
          simp [Nat.blt_eq, this]
      · cases hbz : bitB z.2 i with
        | false => rfl
        | true =>
          have h1 : ¬ D z.1 := fun hD => hn (hcl z.1 x' b2 hD i (by rw [← b3]; exact hbz))
          have h2 : c ≤ z.1 := Nat.le_of_not_lt fun h => h1 (hez.2 h)
          have h3 := R.mono (i := c) (j := z.1) h2 (by omega)
          simp [Nat.ble_eq, h3])
    unfold popIs at this
    split at this
    · rename_i u hu
      rw [hu, veq_eq this]
    · cases this
end
end Ex
end Go.Proofs.YtlcdaalalihaiaaGreat
