/- Running code by calculation: the symbolic step is the machine's. -/
import Derived.Test.YtpfmhnjogfjekaaGreatExL
namespace Go.Proofs.YtpfmhnjogfjekaaGreat
open Go Go.RowKit
set_option linter.unusedVariables false
set_option linter.unusedSectionVars false
set_option linter.unusedSimpArgs false
set_option maxRecDepth 100000
namespace Ex
section
variable {θ : Nat → Value} {ρ ρ' : Ren} {P : Program} {F : Fm} {w : World} {h : Tr SO} {nx : Nat} {X : FuncId → Option XK} {base : List Frame}
theorem fnG {f : FuncId} {fn : Func} {c : Code} (hf : P.funcs[f]? = some fn) (hb : fn.body = some c) (args : Array Value) (kd : CallKind) : Frame.enter P f args kd = { fn := f, tmps := args ++ Array.replicate (fn.ntmps - args.size) undef, todo := [.code c], defers := [], mode := .run, kind := kd } := by
  simp [Frame.enter, hf, hb]
theorem enterF_ok {f : FuncId} {args args' : Array Value} {dfr : Bool} {t : SF} (hs : enterF P f args dfr = some t) (ha : Ra θ ρ args args') : FrR θ ρ t (Frame.enter P f args' (bif dfr then .deferred else .normal)) := by
  unfold enterF at hs
  obtain ⟨fn, hf, hs⟩ := on1_ok hs
  obtain ⟨c, hb, hs⟩ := on1_ok hs
  cases hs
  rw [fnG hf hb]
  refine ⟨rfl, ?_, fun k v hk => ?_, .inr ⟨.code c, trivial⟩, trivial, rfl, rfl, rfl⟩
  · simp only [Array.size_append, Array.size_replicate, Array.length_toList, ← ha.1]; rfl
  · rcases envOf_get _ _ _ _ _ hk with ⟨_, h1⟩ | h1
    · rw [Nat.sub_zero, Array.getElem?_toList] at h1
      have hlt := (Array.getElem?_eq_some_iff.1 h1).1
      have hlt' : k < args'.size := by rw [← ha.1]; exact hlt
      refine ⟨args'[k], ?_, ha.2 k _ _ h1 (Array.getElem?_eq_getElem hlt')⟩
      rw [Array.getElem?_append_left hlt', Array.getElem?_eq_getElem hlt']
    · cases h1
theorem putPs_ok {n : Nat} : ∀ {ps : List Tmp} {vs vs' : List Value} {e e' : Tr Value} {tmps : Array Value}, putPs n ps vs e = some e' → Rl θ ρ vs vs' → REnv θ ρ e tmps → tmps.size = n →
    ps.length = vs.length ∧ REnv θ ρ e' ((ps.zip vs').foldl (fun tmps x => tmps.setIfInBounds x.1 x.2) tmps) ∧ ((ps.zip vs').foldl (fun tmps x => tmps.setIfInBounds x.1 x.2) tmps).size = n
  | [], [], vs', e, e', tmps, hs, hv, he, hn => by
    cases hs
    exact ⟨rfl, he, hn⟩
  | [], _ :: _, _, _, _, _, hs, _, _, _ => by cases hs
  | _ :: _, [], _, _, _, _, hs, _, _, _ => by cases hs
  | p :: ps, v :: vs, vs', e, e', tmps, hs, hv, he, hn => by
    have hs : (bif Nat.blt p n then putPs n ps vs (e.put p v) else none) = some e' := hs
    cases hb : Nat.blt p n with
    | false => rw [hb] at hs; cases hs
    | true =>
      rw [hb] at hs
      have hlt : p < n := by simpa [Nat.blt_eq] using hb
      cases vs' with
      | nil => have := hv.1; simp at this
      | cons v' vs' =>
        obtain ⟨h1, h2, h3⟩ := putPs_ok (tmps := tmps.setIfInBounds p v') hs hv.tail (he.put (by rw [hn]; exact hlt) hv.head) (by simpa using hn)
        exact ⟨by simp [h1], h2, h3⟩
/-- What a step must come to. -/
def To (θ : Nat → Value) (F : Fm) (base : List Frame) (P : Program) (ρ : Ren) (m : Machine) (s : SM) : Prop := ∃ ρ' m', ρ.le ρ' ∧ Steps P m m' ∧ MR θ F base ρ' s m'
theorem To.one {fr fr' : Frame} {cs cs2 : List Frame} {w w' : World} {s : SM} (hm : fr.mode = .run) (hx : (stepG.exec P true true fr (cs ++ base) none w).bare = .go { frame := fr', callers := cs2 ++ base, status := .running, dying := none } w')
    (hl : ρ.le ρ') (hf : FrR θ ρ' s.top fr') (hc : FrRs θ ρ' s.cs cs2) (hh : HT θ F ρ' s.h s.nx w') : To θ F base P ρ (lone fr (cs ++ base) w) s := ⟨ρ', _, hl, .one (step_run hm rfl hx), ⟨fr', cs2, w', rfl, hf, hc, hh⟩⟩
theorem To.ret {fr fr' : Frame} {cs cs2 : List Frame} {w w' : World} {s : SM} (hm : fr.mode = .returning) (hx : (unwind P true fr (cs ++ base) none w).bare = .go { frame := fr', callers := cs2 ++ base, status := .running, dying := none } w')
    (hl : ρ.le ρ') (hf : FrR θ ρ' s.top fr') (hc : FrRs θ ρ' s.cs cs2) (hh : HT θ F ρ' s.h s.nx w') : To θ F base P ρ (lone fr (cs ++ base) w) s := ⟨ρ', _, hl, .one (step_ret' hm hx), ⟨fr', cs2, w', rfl, hf, hc, hh⟩⟩
theorem NoC {i : SI0} {e : Tr Value} {todo : List SI} {ds : List Deferred} {fr : Frame} (hf : FrR θ ρ ⟨i, e, todo, ds, false⟩ fr) {d : Deferred} {r : String} {a : Array Value} {l : List Item} : fr.todo = .call d true r a :: l → False := fun ht => by
  have := hf.td
  rw [ht] at this
  cases todo with
  | nil => exact this.elim
  | cons i l => cases this.1
theorem bif_mode {b : Bool} : (bif b then CallKind.deferred else .normal) = .early → False := by cases b <;> simp
theorem spush_ok {i : SI0} {e : Tr Value} {todo : List SI} {ds : List Deferred} {fr : Frame} (hf : FrR θ ρ ⟨i, e, todo, ds, false⟩ fr) {cs : List SF} {cs' : List Frame} (hc : FrRs θ ρ cs cs') (hh : HT θ F ρ h nx w) {r : SN} {s : Sem Next} (hr : SNok θ F ρ w (s.run P w) r) {s' : SM} (hs : spush P i e ds cs h nx todo r = some s') :
    ∃ ρ' fr' cs2 w', ρ.le ρ' ∧ (stepG.apply P true fr (cs' ++ base) none s w).bare = .go { frame := fr', callers := cs2 ++ base, status := .running, dying := none } w' ∧ FrR θ ρ' s'.top fr' ∧ FrRs θ ρ' s'.cs cs2 ∧ HT θ F ρ' s'.h s'.nx w' := by
  unfold spush at hs
  split at hs
  · rename_i v h' nx'
    obtain ⟨t, ht, hs⟩ := on1_ok hs
    cases hs
    obtain ⟨ρ', v', w', h1, h2, h3, h4⟩ := hr
    have ht' : sfin ⟨i, e, todo, ds, false⟩ v = some t := ht
    refine ⟨ρ', fr.finish v', cs', w', h1, ?_, sfin_ok ht' (hf.mono h1) h2, hc.mono h1, h3⟩
    rcases h4 with h4 | ⟨rfl, h4⟩ <;> simp only [stepG.apply, if_true, Sem.runT_eq, h4, GStep.bare_after, GStep.bare_go]
  · rename_i f args
    obtain ⟨t, ht, hs⟩ := on1_ok hs
    cases hs
    obtain ⟨args', h1, h2⟩ := hr
    refine ⟨ρ, Frame.enter P f args' .normal, fr :: cs', w, .refl ρ, ?_, enterF_ok ht h1, ⟨hf, hc⟩, hh⟩
    simp only [stepG.apply, if_true, Sem.runT_eq, h2, GStep.bare_after, GStep.bare_go]
    split
    · rename_i hk; exact (NoC hf hk).elim
    · rfl
  · rename_i l args
    obtain ⟨so, hl, hs⟩ := on1_ok hs
    obtain ⟨t, ht, hs⟩ := on1_ok hs
    cases hs
    obtain ⟨p, lo, args', h1, h2, h3, h4⟩ := hr
    unfold roundF at ht
    split at ht
    · rename_i pd fn n env ps as bd dfs
      obtain ⟨e', hp, ht⟩ := on1_ok ht
      cases ht
      obtain ⟨p', o', g1, g2, g3, g4⟩ := hh.obj l _ hl
      rw [h1] at g1; cases g1
      rw [h2] at g2; cases g2
      obtain ⟨k1, k2, k3, k4, k5, k6, k7, k8, k9⟩ := g3
      obtain ⟨q1, q2, q3⟩ := putPs_ok (tmps := lo.tmps) hp (Ra.list.1 h3) k5 k4
      have hsz : args'.size = lo.params.size := by
        rw [← h3.1, k6]; simpa using q1.symm
      have h4 := h4 hsz
      have e2 : ((lo.params.zip args').foldl (fun tmps (t, a) => tmps.setIfInBounds t a) lo.tmps) = ((ps.toList.zip args'.toList).foldl (fun tmps x => tmps.setIfInBounds x.1 x.2) lo.tmps) := by
        rw [← Array.foldl_toList, k6]; simp
      rw [e2, k3, k7, k8] at h4
      refine ⟨ρ, Frame.round p.b fn _ as bd .normal, fr :: cs', w, .refl ρ, ?_, ⟨rfl, q3, q2, .inr ⟨.code _, .br, .code _, trivial⟩, trivial, rfl, rfl, ⟨p, h1, rfl⟩⟩, ⟨hf, hc⟩, hh⟩
      simp only [stepG.apply, if_true, Sem.runT_eq, h4, GStep.bare_after, GStep.bare_go]
      rfl
    · cases ht
  · rename_i d
    cases hro : i.round with
    | some l => rw [hro] at hs; cases hs
    | none =>
      rw [hro] at hs
      obtain ⟨t, ht, hs⟩ := on1_ok (show on1 (sfinT i e (d :: ds) false undef todo) (topS cs h nx) = some s' from hs)
      cases hs
      obtain ⟨d', h1, h2⟩ := hr
      have ht' : sfin ⟨i, e, todo, d :: ds, false⟩ undef = some t := ht
      have hf' : FrR θ ρ ⟨i, e, todo, d :: ds, false⟩ { fr with defers := d' :: fr.defers } := ⟨hf.fn, hf.n, hf.env, hf.todo, ⟨h1, hf.defers⟩, hf.mode, hf.kind, hf.round⟩
      refine ⟨ρ, _, cs', w, .refl ρ, ?_, sfin_ok ht' hf' Rv.undef, hc, hh⟩
      simp only [stepG.apply, if_true, Sem.runT_eq, h2, GStep.bare_after, GStep.bare_go]
theorem mkS_to {i : SI0} {e : Tr Value} {todo k : List SI} {ds : List Deferred} {fr : Frame} (hf : FrR θ ρ ⟨i, e, todo, ds, false⟩ fr) {cs : List SF} {cs' : List Frame} (hc : FrRs θ ρ cs cs') {w' : World} (hl : ρ.le ρ') (hh : HT θ F ρ' h nx w') {k' : List Item} (hk : RIs ρ' k k')
    (hx : (stepG.exec P true true fr (cs' ++ base) none w).bare = .go { frame := { fr with todo := k' }, callers := cs' ++ base, status := .running, dying := none } w') {s' : SM} (hs : mkS i e ds cs h nx k = some s') : To θ F base P ρ (lone fr (cs' ++ base) w) s' := by
  cases hs
  have hf' := hf.mono hl
  exact .one hf.mode hx hl ⟨hf'.fn, hf'.n, hf'.env, .inr hk, hf'.defers, hf'.mode, hf'.kind, hf'.round⟩ (hc.mono hl) hh
/-- Leaving a frame. -/
def leaveG (P : Program) (fr : Frame) (callers : List Frame) (jump : Option Code) (w : World) : GStep := match fr.roundOf with
  | none => if jump matches none | some .ret then .go { frame := { fr with mode := .returning }, callers, status := .running, dying := none } w else .ended (.stuck "exit, goto: no such block or label" (fr.pos P)) w
  | some l =>
    let (r, es) := (Instr.endRound l jump).runT P w #[]
    GStep.after (seen P fr.fn es) <| match r with
    | .ok v w => doReturn P true fr callers none v w
    | .halt _ w => .ended (.stuck "range over a function: no such loop" (fr.pos P)) w
theorem HR.loopAt (hh : HT θ F ρ h nx w) {l : Nat} {st : LoopState} {pd : Option Code} {fn n : Nat} {env : Tr Value} {ps : Array Tmp} {as bd : Code} {dfs : Nat} (hl : h.get l = some (.loop st pd fn n env ps as bd dfs)) {p : Pl} (hp : ρ l = some p) :
    ∃ lo, w.heap[p.b]? = some (.loop lo) ∧ Ro θ ρ p (.loop st pd fn n env ps as bd dfs) (.loop lo) ∧ (∀ st' pd', HT θ F ρ (h.put l (.loop st' pd' fn n env ps as bd dfs)) nx { w with heap := w.heap.setIfInBounds p.b (.loop { lo with state := st', pending := pd' }) }) := by
  obtain ⟨p', o', g1, g2, g3, g4⟩ := hh.obj l _ hl
  rw [hp] at g1; cases g1
  cases o' with
  | loop lo =>
    refine ⟨lo, g2, g3, fun st' pd' => ?_⟩
    obtain ⟨k1, k2, k3⟩ := g3
    exact hh.turn (p := p) hl rfl rfl hp (o1 := .loop st' pd' fn n env ps as bd dfs) (o1' := .loop { lo with state := st', pending := pd' }) ⟨rfl, rfl, k3⟩ rfl rfl rfl rfl
  | _ => exact g3.elim
theorem run_getLoop {b : Nat} {lo : Loop} (hb : w.heap[b]? = some (.loop lo)) : (Instr.getLoop b).run P w = .ok lo w := by simp [Instr.getLoop, getObj, Sem.run, hb]
theorem run_setLoop {b : Nat} {lo lo' : Loop} (hb : w.heap[b]? = some (.loop lo)) : (setObj b (.loop lo')).run P w = .ok () { w with heap := w.heap.setIfInBounds b (.loop lo') } := run_setIt hb (by intro _ _ _ h; cases h)
theorem sleave_ok {i : SI0} {e : Tr Value} {todo : List SI} {ds : List Deferred} {fr : Frame} (hf : FrR θ ρ ⟨i, e, todo, ds, false⟩ fr) {cs : List SF} {cs' : List Frame} (hc : FrRs θ ρ cs cs') (hh : HT θ F ρ h nx w) {jump : Option Code}
    (hx : stepG.exec P true true fr (cs' ++ base) none w = leaveG P fr (cs' ++ base) jump w) {s' : SM} (hs : sleave i e ds cs h nx jump = some s') : To θ F base P ρ (lone fr (cs' ++ base) w) s' := by
  unfold sleave at hs
  have hr := hf.round
  split at hs
  · rename_i hro
    simp only [hro] at hr
    cases hj : retOk jump with
    | false => rw [hj] at hs; cases hs
    | true =>
      rw [hj] at hs
      cases hs
      refine .one (fr' := { fr with mode := .returning }) (cs2 := cs') hf.mode ?_ (.refl ρ) ⟨hf.fn, hf.n, hf.env, .inl ⟨rfl, rfl⟩, hf.defers, rfl, hf.kind, by simp only [hro]; exact hr⟩ hc hh
      rw [hx]
      unfold leaveG
      rw [hr]
      unfold retOk at hj
      split at hj
      · rfl
      · rfl
      · cases hj
  · rename_i l hro
    simp only [hro] at hr
    obtain ⟨p, hp, hr⟩ := hr
    cases hd : i.dfr with
    | true => rw [hd] at hs; cases hs
    | false =>
      rw [hd] at hs
      obtain ⟨so, hl, hs⟩ := on1_ok (show on1 (h.get l) (endR2 cs h nx l jump) = some s' from hs)
      unfold endR2 at hs
      split at hs
      · rename_i st pd fn n env ps as bd dfs c cs
        obtain ⟨c', hc', hs⟩ := on1_ok hs
        cases hs
        obtain ⟨cf, cs'', rfl, hc1, hc2⟩ := hc.cons
        obtain ⟨lo, g2, g3, g4⟩ := hh.loopAt hl hp
        refine .one (fr' := cf.finish (.bool jump.isNone)) (cs2 := cs'') hf.mode ?_ (.refl ρ) (sfin_ok hc' hc1 (.bool _)) hc2 (g4 _ _)
        rw [hx]
        unfold leaveG
        rw [hr]
        have hkd : fr.kind = .normal := by rw [hf.kind]; show (bif i.dfr then CallKind.deferred else .normal) = _; rw [hd]; rfl
        have he : (Instr.endRound p.b jump).run P w = .ok (.bool jump.isNone) { w with heap := w.heap.setIfInBounds p.b (.loop { lo with state := bif jump.isNone then .ready else .done, pending := jump }) } := by
          simp only [Instr.endRound, Sem.run_bind, run_getLoop g2, Result.andThen_ok, run_setLoop g2, Sem.run_pure]
          cases jump <;> rfl
        simp only [Sem.runT_eq, he, GStep.bare_after, List.cons_append, doReturn, hkd, GStep.bare_go]
      · cases hs
theorem rset_enter {k o : Nat} {u v : Value} {g : FuncId} {args : Array Value} (hs : rset h nx k o u v = some (.enter g args)) : False := by
  unfold rset at hs
  split at hs
  · rename_i c T sz hk
    cases hc : (Nat.blt o c.len && (c.get o).isSome) <;> rw [hc] at hs <;> cases hs
  · cases hs
theorem rext_enter {k : XK} {vs : List Value} {g : FuncId} {args : Array Value} (hs : rext h nx k vs = some (.enter g args)) : False := by
  unfold rext at hs
  split at hs
  · cases hs
  · cases hs
  · split at hs
    · split at hs <;> cases hs
    · cases hs
  · exact rset_enter hs
  · split at hs
    · split at hs
      · exact rset_enter hs
      · cases hs
    · cases hs
  · split at hs
    · split at hs
      · exact rset_enter hs
      · cases hs
    · cases hs
  · cases hs
theorem rcallF_enter {v : Value} {vs : List Value} {g : FuncId} {args : Array Value} (hs : rcallF P X h nx v vs = some (.enter g args)) (h' : Tr SO) (nx' : Nat) : rcallF P X h' nx' v vs = some (.enter g args) := by
  unfold rcallF at hs ⊢
  split at hs
  · obtain ⟨fn, hf, hs⟩ := on1_ok hs
    rw [hf]
    show rcallB X h' nx' _ _ fn.body = _
    cases hb : fn.body with
    | some c => rw [hb] at hs; exact hs
    | none =>
      rw [hb] at hs
      obtain ⟨x, hx, hs⟩ := on1_ok hs
      exact (rext_enter hs).elim
  · obtain ⟨so, hl, hs⟩ := on1_ok hs
    unfold rloop at hs
    split at hs <;> cases hs
  · cases hs
theorem isWant_ok {want b : Bool} {v v' : Value} (hv : Rv θ ρ v v') (hs : isWant want v = some b) : ((match some v' with | some (.bool b) => some b | _ => none) == some want) = b := by
  unfold isWant at hs
  split at hs
  · cases hs
    obtain rfl := hv.toBool
    rfl
  · cases hs
    obtain ⟨xs, rfl, _⟩ : ∃ xs, v' = .tuple xs ∧ True := by
      cases hv with
      | tup h1 h2 => exact ⟨_, rfl, trivial⟩
    rfl
  · cases hs
theorem swanted_ok {ops : Array Oper} {e : Tr Value} {tmps : Array Value} (he : REnv θ ρ e tmps) {o : Oper} {b : Bool} (hs : swanted ops e o.guard = some b) : Region.wanted o (yielded ops tmps) = b := by
  unfold Region.wanted
  cases hg : o.guard with
  | none => rw [hg] at hs; cases hs; rfl
  | some x =>
    obtain ⟨j, want⟩ := x
    rw [hg] at hs
    have hs : wantD ops e want ((ops[j]?).bind (·.dst)) = some b := hs
    show (yielded ops tmps j == some want) = b
    unfold yielded
    cases hd : ((ops[j]?).bind (·.dst)) with
    | none => rw [hd] at hs; cases hs; rfl
    | some d =>
      rw [hd] at hs
      obtain ⟨v, hv, hs⟩ := on1_ok (show on1 (e.get d) (isWant want) = some b from hs)
      obtain ⟨v', h1, h2⟩ := he _ _ hv
      rw [Option.bind_some, h1]
      exact isWant_ok h2 hs
theorem sreg_ok (hX : ∀ f k, X f = some k → XOK P f k) (hN : NoNG P) {i : SI0} {e : Tr Value} {k : List SI} {ops : Array Oper} {l : List Oper} {ds : List Deferred} {fr : Frame} (hf : FrR θ ρ ⟨i, e, .reg ops l :: k, ds, false⟩ fr) {cs : List SF} {cs' : List Frame} (hc : FrRs θ ρ cs cs') (hh : HT θ F ρ h nx w)
    {s' : SM} (hs : sreg P X i e ds cs h nx k ops l = some s') : To θ F base P ρ (lone fr (cs' ++ base) w) s' := by
  obtain ⟨i', k', ht, h1, h2⟩ := hf.td.cons
  cases h1 with
  | reg _ j hl hm =>
    unfold sreg at hs
    split at hs
    · have : j ≥ ops.size := by
        have := congrArg List.length hl
        simp at this; omega
      rw [List.drop_eq_nil_of_le (by simpa using this)] at hm
      subst hm
      exact mkS_to hf hc (.refl ρ) hh h2 (by simp only [stepG.exec, ht, GStep.bare_go]) hs
    · rename_i o r
      obtain ⟨g1, g2, g3⟩ := reg_cons hl hm
      subst g2
      obtain ⟨b, hb, hs⟩ := on1_ok hs
      have hw := swanted_ok hf.env hb
      unfold sreg2 at hs
      split at hs
      · obtain ⟨t, ht2, hs⟩ := on1_ok hs
        cases hs
        have ht' : sfin ⟨i, e, .reg ops (o :: r) :: k, ds, false⟩ undef = some t := ht2
        refine .one (fr' := fr.finish undef) (cs2 := cs') hf.mode ?_ (.refl ρ) (sfin_ok ht' hf Rv.undef) hc hh
        simp only [stepG.exec, ht, g1, Option.map_some, hw, Option.getD_some, Bool.false_eq_true, if_false, GStep.bare_go]
      · obtain ⟨r', hr, hs⟩ := on1_ok hs
        have hok := sop_ok hh hf.env.ev hX hN hr
        obtain ⟨ρ', fr', cs2, w', a1, a2, a3, a4, a5⟩ := spush_ok hf hc hh hok hs
        refine .one hf.mode ?_ a1 a3 a4 a5
        rw [← a2]
        have ho : fr.oper? = some o := by simp [Frame.oper?, ht, g1]
        simp only [stepG.exec, ht, g1, Option.map_some, hw, Option.getD_some, if_true, stepG.oper, ho]
        cases hro : fr.roundOf with
        | none => rfl
        | some l =>
          cases hop : o.op with
          | defer c =>
            exfalso
            have hro' : i.round ≠ none := fun e0 => by
              have := hf.round
              simp only [e0] at this
              rw [this] at hro; cases hro
            have hk : opK o.op = .e := by rw [hop]; rfl
            unfold sop at hr
            rw [hk] at hr
            have hr : eop P X e h nx o = some r' := hr
            unfold eop at hr
            rw [hop] at hr
            have hr : edeferC e c = some r' := hr
            unfold edeferC at hr
            split at hr
            · obtain ⟨v1, vs, b1, b2, hr⟩ := on2_ok hr
              unfold edefer at hr
              split at hr
              · cases hr
                cases hq : i.round with
                | none => exact hro' hq
                | some q =>
                  have hs : (bif i.round.isNone then on1 (sfinT i e (_ :: ds) false undef (.reg ops (o :: r) :: k)) (topS cs h nx) else none) = some s' := hs
                  rw [hq] at hs
                  cases hs
              · cases hr
            · cases hr
          | _ => rfl
end
end Ex
end Go.Proofs.YtpfmhnjogfjekaaGreat
