/- Running code by calculation: the symbolic step is the machine's, all of it. -/
import Derived.Test.YtpfmhnjogfjekaaGreatExN
namespace Go.Proofs.YtpfmhnjogfjekaaGreat
open Go Go.RowKit
set_option linter.unusedVariables false
set_option linter.unusedSectionVars false
set_option linter.unusedSimpArgs false
set_option maxRecDepth 100000
namespace Ex
section
variable {θ : Nat → Value} {ρ ρ' : Ren} {P : Program} {F : Fm} {w : World} {h : Tr SO} {nx : Nat} {X : FuncId → Option XK} {base : List Frame} {dr : SI0 → Tr Value → Tr SO → Nat → Array Oper → Option (Tr Value × Tr SO × Nat)}
/-- 'dr' runs a drawn region as the machine does. -/
def DrOK (θ : Nat → Value) (P : Program) (dr : SI0 → Tr Value → Tr SO → Nat → Array Oper → Option (Tr Value × Tr SO × Nat)) : Prop :=
  ∀ (F : Fm) (ρ : Ren) (w : World) (h : Tr SO) (nx : Nat) (i : SI0) (e : Tr Value) (fr : Frame) (cs : List Frame) (id : Nat) (ops : Array Oper) (k' : List Item) (e' : Tr Value) (h' : Tr SO) (nx' : Nat), dr i e h nx ops = some (e', h', nx') → HT θ F ρ h nx w →
    fr.todo = .code (.region id ops true) :: k' → fr.mode = .run → fr.tmps.size = i.n → REnv θ ρ e fr.tmps →
    ∃ ρ' tmps' w', ρ.le ρ' ∧ Steps P (lone fr cs w) (lone { fr with tmps := tmps', todo := k' } cs w') ∧ tmps'.size = i.n ∧ REnv θ ρ' e' tmps' ∧ HT θ F ρ' h' nx' w'
theorem srf_ok (hX : ∀ f k, X f = some k → XOK P f k) (hN : NoNG P) {i : SI0} {e : Tr Value} {k : List SI} {ds : List Deferred} {fo : Operand} {ps : Array Tmp} {as bd : Code} {fr : Frame} (hf : FrR θ ρ ⟨i, e, .code (.rangeFunc fo ps as bd) :: k, ds, false⟩ fr) {k' : List Item} (ht : fr.todo = .code (.rangeFunc fo ps as bd) :: k') (h2 : RIs ρ k k') {cs : List SF} {cs' : List Frame} (hc : FrRs θ ρ cs cs') (hh : HT θ F ρ h nx w)
    {v : Value} (hv : Rv θ ρ v (fr.eval fo)) {s' : SM} (hs : srf P X i e ds cs h nx k ps as bd v = some s') : To θ F base P ρ (lone fr (cs' ++ base) w) s' := by
  have fin : ∀ (mk : List Deferred) (mk' : List Deferred) (l dfs : Nat) (h0 : Tr SO) (ρ1 : Ren) (w1 : World) (lo : Loop), ρ.le ρ1 → RDefs θ ρ1 mk mk' → HT θ F ρ1 h0 l w1 → lo = { state := .ready, pending := none, fn := fr.fn, tmps := fr.tmps, params := ps, assign := as, body := bd, defers := lo.defers } → (∃ s, ρ1 dfs = some s ∧ s.b = lo.defers) →
      (Instr.enterLoop fr.fn fr.tmps ps as bd fr.roundOf).run P w = .ok (w1.heap.size, mk') (w1.alloc (.loop lo)) →
      on1 (rcallF P X h nx v [.func (.yield l) #[] #[]]) (rf2 P i e ds cs k ps as bd mk l dfs h0) = some s' → To θ F base P ρ (lone fr (cs' ++ base) w) s' := by
    intro mk mk' l dfs h0 ρ1 w1 lo hl hm hh1 hlo hdf hel hs
    obtain ⟨r, hr, hs⟩ := on1_ok hs
    unfold rf2 at hs
    split at hs
    · rename_i g args
      obtain ⟨ρ2, j1, j2, j3⟩ := hh1.alloc none (o := .loop .ready none i.fn i.n e ps as bd dfs) (o' := .loop lo) (fun ρ' hρ => by
        rw [hlo]
        obtain ⟨s, hs1, hs2⟩ := hdf
        exact ⟨rfl, rfl, hf.fn, hf.n, (hf.env.mono hl).mono hρ, rfl, rfl, rfl, s, hρ _ _ hs1, hs2⟩) rfl
      have hl2 := hl.trans j1
      have hr2 := rcallF_enter hr (h0.put l (.loop .ready none i.fn i.n e ps as bd dfs)) (l + 1)
      have hok := rcallF_ok j3 hX hN (hv.mono hl2) (Rl.cons (Rv.yield j2) Rl.nil) hr2
      have hf2 : FrR θ ρ2 ⟨i, e, .rf l :: k, mk ++ ds, false⟩ { fr with todo := .inRangeFunc w1.heap.size :: k', defers := mk' ++ fr.defers } := by
        have h3 := hf.mono hl2
        exact ⟨h3.fn, h3.n, h3.env, .inr ⟨.rf j2, h2.mono hl2⟩, RDefs.append (hm.mono j1) h3.defers, h3.mode, h3.kind, h3.round⟩
      obtain ⟨ρ', fr', cs2, w', a1, a2, a3, a4, a5⟩ := spush_ok (base := base) hf2 (hc.mono hl2) j3 hok (show spush P i e (mk ++ ds) cs (h0.put l (.loop .ready none i.fn i.n e ps as bd dfs)) (l + 1) (.rf l :: k) (.enter g args) = some s' from hs)
      refine .one hf.mode ?_ (hl2.trans a1) a3 a4 a5
      rw [← a2]
      have e1 : ({ fr with todo := .inRangeFunc w1.heap.size :: k', defers := mk' ++ fr.defers } : Frame).eval = fr.eval := by funext x; cases x <;> rfl
      have e2 : (#[Operand.const (.func (.yield w1.heap.size) #[] #[])] : Array Operand).map fr.eval = #[.func (.yield w1.heap.size) #[] #[]] := by simp [Frame.eval]
      simp only [stepG.exec, ht, Sem.runT_eq, hel, GStep.bare_after, resolve, e1, e2]
    · cases hs
  unfold srf at hs
  have hro := hf.round
  split at hs
  · rename_i hi
    simp only [hi] at hro
    obtain ⟨ρ1, j1, j2, j3⟩ := hh.alloc none (o := .dfd (some [])) (o' := .deferred (some [])) (fun ρ' hρ => trivial) rfl
    exact fin [{ target := .collected nx, args := #[] }] [{ target := .collected w.heap.size, args := #[] }] _ _ _ ρ1 _ { state := .ready, pending := none, fn := fr.fn, tmps := fr.tmps, params := ps, assign := as, body := bd, defers := w.heap.size } j1 ⟨⟨⟨_, j2, rfl⟩, Ra.list.2 Rl.nil⟩, trivial⟩ j3 rfl ⟨_, j2, rfl⟩ (by rw [hro]; simp [Instr.enterLoop]) hs
  · rename_i l0 hi
    simp only [hi] at hro
    obtain ⟨p, hp, hro⟩ := hro
    obtain ⟨so, hl, hs⟩ := on1_ok hs
    unfold rfIn at hs
    split at hs
    · obtain ⟨lo, g2, g3, g4⟩ := hh.loopAt hl hp
      obtain ⟨_, _, _, _, _, _, _, _, s, q1, q2⟩ := g3
      exact fin [] [] _ _ _ ρ _ { state := .ready, pending := none, fn := fr.fn, tmps := fr.tmps, params := ps, assign := as, body := bd, defers := lo.defers } (.refl ρ) trivial hh rfl ⟨s, q1, q2⟩ (by rw [hro]; simp [Instr.enterLoop, run_getLoop g2]) hs
    · cases hs
theorem scode_ok (hX : ∀ f k, X f = some k → XOK P f k) (hN : NoNG P) (hdr : DrOK θ P dr) {i : SI0} {e : Tr Value} {k : List SI} {c : Code} {ds : List Deferred} {fr : Frame} (hf : FrR θ ρ ⟨i, e, .code c :: k, ds, false⟩ fr) {cs : List SF} {cs' : List Frame} (hc : FrRs θ ρ cs cs') (hh : HT θ F ρ h nx w)
    {s' : SM} (hs : scode P X i e ds cs h nx dr k c = some s') : To θ F base P ρ (lone fr (cs' ++ base) w) s' := by
  obtain ⟨i', k', ht, h1, h2⟩ := hf.td.cons
  cases h1
  have he := hf.env.ev
  unfold scode at hs
  split at hs
  · exact mkS_to hf hc (.refl ρ) hh h2 (by simp only [stepG.exec, ht, GStep.bare_go]) hs
  · rename_i id ops d
    unfold sdr at hs
    split at hs
    · obtain ⟨x, hx, hs⟩ := on1_ok hs
      obtain ⟨e', h', nx'⟩ := x
      cases hs
      obtain ⟨ρ', tmps', w', a1, a2, a3, a4, a5⟩ := hdr F ρ w h nx i e fr (cs' ++ base) id ops k' e' h' nx' hx hh ht hf.mode hf.n hf.env
      have h3 := hf.mono a1
      exact ⟨ρ', _, a1, a2, ⟨_, cs', w', rfl, ⟨h3.fn, a3, a4, .inr (h2.mono a1), h3.defers, h3.mode, h3.kind, h3.round⟩, hc.mono a1, a5⟩⟩
    · exact mkS_to hf hc (.refl ρ) hh (k := .reg ops ops.toList :: k) (k' := .inRegion ops (List.range ops.size) :: k') ⟨.reg ops 0 (by simp) (by simp), h2⟩ (by simp only [stepG.exec, ht, Bool.not_false, if_true, GStep.bare_go]) hs
  · rename_i a b
    exact mkS_to hf hc (.refl ρ) hh (k := .code a :: .code b :: k) (k' := .code a :: .code b :: k') ⟨.code a, .code b, h2⟩ (by simp only [stepG.exec, ht, GStep.bare_go]) hs
  · rename_i c x y
    obtain ⟨v, hv, hs⟩ := on1_ok hs
    have hv := he _ _ hv
    unfold scond at hs
    split at hs
    · have hv := hv.toBool
      exact mkS_to hf hc (.refl ρ) hh (k := .code x :: k) (k' := .code x :: k') ⟨.code x, h2⟩ (by simp only [stepG.exec, ht, hv, if_true, GStep.bare_go]) hs
    · have hv := hv.toBool
      exact mkS_to hf hc (.refl ρ) hh (k := .code y :: k) (k' := .code y :: k') ⟨.code y, h2⟩ (by simp only [stepG.exec, ht, hv, Bool.false_eq_true, if_false, GStep.bare_go]) hs
    · cases hs
  · rename_i id b
    exact mkS_to hf hc (.refl ρ) hh (k := .code b :: .blk id :: k) (k' := .code b :: .inBlock id :: k') ⟨.code b, .blk id, h2⟩ (by simp only [stepG.exec, ht, GStep.bare_go]) hs
  · rename_i b
    exact mkS_to hf hc (.refl ρ) hh (k := .code b :: .lp b :: k) (k' := .code b :: .inLoop b :: k') ⟨.code b, .lp b, h2⟩ (by simp only [stepG.exec, ht, GStep.bare_go]) hs
  · rename_i f ps as bd
    obtain ⟨v, hv, hs⟩ := on1_ok hs
    exact srf_ok hX hN hf ht h2 hc hh (he _ _ hv) hs
  · rename_i id
    unfold sexit at hs
    obtain ⟨x1, x2⟩ := h2.exitTo id
    split at hs
    · rename_i kk hk
      obtain ⟨k2, y1, y2⟩ := x1 _ hk
      exact mkS_to hf hc (.refl ρ) hh y2 (by simp only [stepG.exec, ht, y1, Option.elim, GStep.bare_go]) hs
    · rename_i hk
      exact sleave_ok hf hc hh (by simp only [stepG.exec, ht, x2 hk, Option.elim]; rfl) hs
  · rename_i b
    exact mkS_to hf hc (.refl ρ) hh (k := .code b :: .sc b :: k) (k' := .code b :: .inScope b :: k') ⟨.code b, .sc b, h2⟩ (by simp only [stepG.exec, ht, GStep.bare_go]) hs
  · exact mkS_to hf hc (.refl ρ) hh h2 (by simp only [stepG.exec, ht, GStep.bare_go]) hs
  · exact sleave_ok hf hc hh (by
      simp only [stepG.exec, ht, leaveG]
      cases fr.roundOf <;> first | rfl | simp) hs
  · cases hs
theorem sitem_ok (hX : ∀ f k, X f = some k → XOK P f k) (hN : NoNG P) (hdr : DrOK θ P dr) {i : SI0} {e : Tr Value} {k : List SI} {it : SI} {ds : List Deferred} {fr : Frame} (hf : FrR θ ρ ⟨i, e, it :: k, ds, false⟩ fr) {cs : List SF} {cs' : List Frame} (hc : FrRs θ ρ cs cs') (hh : HT θ F ρ h nx w)
    {s' : SM} (hs : sitem P X i e ds cs h nx dr k it = some s') : To θ F base P ρ (lone fr (cs' ++ base) w) s' := by
  unfold sitem at hs
  split at hs
  · exact scode_ok hX hN hdr hf hc hh hs
  · obtain ⟨i', k', ht, h1, h2⟩ := hf.td.cons
    cases h1
    exact mkS_to hf hc (.refl ρ) hh h2 (by simp only [stepG.exec, ht, GStep.bare_go]) hs
  · rename_i b
    obtain ⟨i', k', ht, h1, h2⟩ := hf.td.cons
    cases h1
    exact mkS_to hf hc (.refl ρ) hh (k := .code b :: .lp b :: k) (k' := .code b :: .inLoop b :: k') ⟨.code b, .lp b, h2⟩ (by simp only [stepG.exec, ht, GStep.bare_go]) hs
  · obtain ⟨i', k', ht, h1, h2⟩ := hf.td.cons
    cases h1
    exact mkS_to hf hc (.refl ρ) hh h2 (by simp only [stepG.exec, ht, GStep.bare_go]) hs
  · exact sreg_ok hX hN hf hc hh hs
  · cases hs
  · rename_i l
    obtain ⟨i', k', ht, h1, h2⟩ := hf.td.cons
    cases h1 with
    | erf hp =>
      rename_i p
      obtain ⟨so, hl, hs⟩ := on1_ok hs
      unfold serf2 at hs
      split at hs
      · cases hs
      · rename_i st pd fn n env ps as bd dfs hne
        obtain ⟨lo, g2, g3, g4⟩ := hh.loopAt hl hp
        obtain ⟨k1, k2, _⟩ := g3
        have hb : (lo.state == .busy) = false := by
          rw [k1]
          cases st with
          | busy => exact (hne rfl).elim
          | _ => rfl
        have he : (Instr.endLoop p.b).run P w = .ok pd { w with heap := w.heap.setIfInBounds p.b (.loop { lo with state := .exhausted, pending := pd }) } := by
          have e1 : ({ lo with state := .exhausted, pending := pd } : Loop) = { lo with state := .exhausted } := by rw [← k2]
          rw [e1]
          simp only [Instr.endLoop, Sem.run_bind, run_getLoop g2, Result.andThen_ok, hb, Bool.false_eq_true, if_false, run_setLoop g2, Sem.run_pure, k2]
        refine mkS_to hf hc (.refl ρ) (g4 .exhausted pd) (k := pendI pd ++ k) (k' := (pd.map Item.code).toList ++ k') ?_ ?_ hs
        · cases pd with
          | none => exact h2
          | some c => exact ⟨.code c, h2⟩
        · simp only [stepG.exec, ht, Sem.runT_eq, he, GStep.bare_after, GStep.bare_go]
      · cases hs
  · obtain ⟨i', k', ht, h1, h2⟩ := hf.td.cons
    cases h1
    obtain ⟨l, hro, hs⟩ := on1_ok hs
    obtain ⟨so, hl, hs⟩ := on1_ok hs
    have hr := hf.round
    simp only [hro] at hr
    obtain ⟨p, hp, hr⟩ := hr
    unfold sbr2 at hs
    split at hs
    · rename_i pd fn n env ps as bd dfs
      obtain ⟨lo, g2, g3, g4⟩ := hh.loopAt hl hp
      obtain ⟨k1, k2, _⟩ := g3
      refine mkS_to hf hc (.refl ρ) (g4 .busy pd) h2 ?_ hs
      have he : (Instr.beginRound p.b).run P w = .ok () { w with heap := w.heap.setIfInBounds p.b (.loop { lo with state := .busy, pending := pd }) } := by
        have e1 : ({ lo with state := .busy, pending := pd } : Loop) = { lo with state := .busy } := by rw [← k2]
        rw [e1]
        simp only [Instr.beginRound, Sem.run_bind, run_getLoop g2, Result.andThen_ok, run_setLoop g2, k1, Sem.run_pure]
      have hrun : (do fr.roundOf.elim (stuck "beginRound: no round") Instr.beginRound; pure .skip : Sem Next).run P w = .ok .skip { w with heap := w.heap.setIfInBounds p.b (.loop { lo with state := .busy, pending := pd }) } := by
        rw [hr]
        simp only [Option.elim, Sem.run_bind, he, Result.andThen_ok, Sem.run_pure]
      have hfin : fr.finish undef = { fr with todo := k' } := by simp only [Frame.finish, ht]
      simp only [stepG.exec, ht, stepG.apply, if_true, Sem.runT_eq, hrun, GStep.bare_after, GStep.bare_go, hfin]
    · cases hs
theorem stodo_ok (hX : ∀ f k, X f = some k → XOK P f k) (hN : NoNG P) (hdr : DrOK θ P dr) {i : SI0} {e : Tr Value} {todo : List SI} {ds : List Deferred} {fr : Frame} (hf : FrR θ ρ ⟨i, e, todo, ds, false⟩ fr) {cs : List SF} {cs' : List Frame} (hc : FrRs θ ρ cs cs') (hh : HT θ F ρ h nx w)
    {s' : SM} (hs : stodo P X i e ds cs h nx dr todo = some s') : To θ F base P ρ (lone fr (cs' ++ base) w) s' := by
  unfold stodo at hs
  split at hs
  · have ht := hf.td.nil
    exact sleave_ok hf hc hh (by
      simp only [stepG.exec, ht, leaveG]
      cases fr.roundOf <;> first | rfl | simp) hs
  · exact sitem_ok hX hN hdr hf hc hh hs
theorem sretS_ok (hX : ∀ f k, X f = some k → XOK P f k) (hN : NoNG P) {i : SI0} {e : Tr Value} {todo : List SI} {ds : List Deferred} {fr : Frame} (hf : FrR θ ρ ⟨i, e, todo, ds, true⟩ fr) {cs : List SF} {cs' : List Frame} (hc : FrRs θ ρ cs cs') (hh : HT θ F ρ h nx w)
    {s' : SM} (hs : sretS P X i e ds cs h nx = some s') : To θ F base P ρ (lone fr (cs' ++ base) w) s' := by
  have hm : fr.mode = .returning := hf.mode
  unfold sretS at hs
  split at hs
  · have hd : fr.defers = [] := by
      have := hf.defers
      cases hq : fr.defers with
      | nil => rfl
      | cons a l => rw [hq] at this; exact this.elim
    unfold sback at hs
    obtain ⟨fn, hfn, hs⟩ := on1_ok hs
    obtain ⟨vs, hvs, hs⟩ := on1_ok hs
    obtain ⟨v', h1, h2⟩ := sresults_ok hh hf.env hvs
    have hfn : P.funcs[fr.fn]? = some fn := by rw [hf.fn]; exact hfn
    unfold sback2 at hs
    split at hs
    · rename_i c cs _ _
      obtain ⟨cf, cs'', rfl, hc1, hc2⟩ := hc.cons
      have hk := hf.kind
      cases hd2 : i.dfr with
      | true =>
        rw [hd2] at hs
        cases hs
        have hk : fr.kind = .deferred := by rw [hk]; show (bif i.dfr then CallKind.deferred else .normal) = _; rw [hd2]; rfl
        refine .ret (fr' := cf) (cs2 := cs'') hm ?_ (.refl ρ) hc1 hc2 hh
        have hcm : ∀ (l : List PanicEntry), cf.mode ≠ .panicking l := fun l => by rw [hc1.mode]; cases c.ret <;> simp
        simp only [unwind, hd, hm, hfn, Sem.runT_eq, h2, GStep.bare_after, List.cons_append, doReturn, hk]
        split
        · rename_i hq; exact (hcm _ hq).elim
        · simp only [GStep.bare_go]
      | false =>
        rw [hd2] at hs
        obtain ⟨c', hc', hs⟩ := on1_ok (show on1 (sfin c (sresult vs)) (topS cs h nx) = some s' from hs)
        cases hs
        have hk : fr.kind = .normal := by rw [hk]; show (bif i.dfr then CallKind.deferred else .normal) = _; rw [hd2]; rfl
        refine .ret (fr' := cf.finish v') (cs2 := cs'') hm ?_ (.refl ρ) (sfin_ok hc' hc1 h1) hc2 hh
        simp only [unwind, hd, hm, hfn, Sem.runT_eq, h2, GStep.bare_after, List.cons_append, doReturn, hk, GStep.bare_go]
    · cases hs
  · rename_i d ds
    have hdd := hf.defers
    cases hq : fr.defers with
    | nil => rw [hq] at hdd; exact hdd.elim
    | cons d' ds' =>
      rw [hq] at hdd
      obtain ⟨hd1, hd2⟩ := hdd
      obtain ⟨tg, args⟩ := d
      obtain ⟨tg', args'⟩ := d'
      obtain ⟨ht, ha⟩ := hd1
      dsimp only at ht ha
      unfold sdef at hs
      dsimp only at hs
      split at hs
      · rename_i r
        obtain ⟨so, hr, hs⟩ := on1_ok hs
        cases tg' with
        | collected b =>
          obtain ⟨p, hp, hb⟩ := ht
          subst hb
          unfold scol at hs
          split at hs
          · rename_i calls
            cases hs
            obtain ⟨p', o', g1, g2, g3, g4⟩ := hh.obj r _ hr
            rw [hp] at g1; cases g1
            cases o' with
            | deferred x =>
              cases x with
              | none => exact g3.elim
              | some calls' =>
                have h3 := hh.turn (p := p) hr rfl rfl hp (o1 := .dfd none) (o1' := .deferred none) trivial (w' := { w with heap := w.heap.setIfInBounds p.b (.deferred none) }) rfl rfl rfl rfl
                have he : (Instr.takeDeferred p.b).run P w = .ok calls' { w with heap := w.heap.setIfInBounds p.b (.deferred none) } := by
                  simp only [Instr.takeDeferred, Sem.run_bind, run_getIt g2 (by intro _ _ _ h; cases h), Result.andThen_ok, run_setIt g2 (by intro _ _ _ h; cases h), Sem.run_pure]
                refine .ret (fr' := { fr with defers := calls' ++ ds' }) (cs2 := cs') hm ?_ (.refl ρ) ⟨hf.fn, hf.n, hf.env, .inl ⟨rfl, rfl⟩, RDefs.append g3 hd2, hf.mode, hf.kind, hf.round⟩ hc h3
                simp only [unwind, hq, Sem.runT_eq, he, GStep.bare_after, GStep.bare_go]
            | _ => exact g3.elim
          · cases hs
        | _ => exact ht.elim
      · rename_i g cap
        obtain ⟨r, hr, hs⟩ := on1_ok hs
        cases tg' with
        | fn f' cap' =>
          obtain ⟨hfe, hcap⟩ := ht
          cases f' with
          | func g' =>
            cases hfe
            have hv : Rv θ ρ (.func (.func g) #[] cap) (.func (.func g) #[] cap') := by
              have h0 := (Rl.nil (θ := θ) (ρ := ρ)).arr
              exact .fn h0.1 h0.2 hcap.1 hcap.2
            have hok := rcallF_ok hh hX hN hv (Ra.list.1 ha) hr
            have hinv : (do let d ← Deferred.ofValue (.func (.func g) #[] cap') args'.toList.toArray; invoke d.target d.args : Sem Next) = invoke (.fn (.func g) cap') args' := by
              simp [Deferred.ofValue]
            rw [hinv] at hok
            have hf2 : FrR θ ρ ⟨i, e, [], ds, true⟩ { fr with defers := ds' } := ⟨hf.fn, hf.n, hf.env, .inl ⟨rfl, rfl⟩, hd2, hf.mode, hf.kind, hf.round⟩
            have hun : unwind P true fr (cs' ++ base) none w = callDeferred P { fr with defers := ds' } (cs' ++ base) none { target := .fn (.func g) cap', args := args' } w := by
              simp only [unwind, hq]
            have hnil : ((Target.fn (.func g) cap' matches .nil) && (fr.mode matches .panicking _)) = false := rfl
            unfold sdef2 at hs
            split at hs
            · rename_i v h' nx'
              cases hs
              obtain ⟨ρ', v', w', a1, a2, a3, a4⟩ := hok
              refine .ret (fr' := { fr with defers := ds' }) (cs2 := cs') hm ?_ a1 (hf2.mono a1) (hc.mono a1) a3
              rw [hun]
              rcases a4 with a4 | ⟨_, a4⟩ <;> simp only [callDeferred, Bool.false_and, Bool.false_eq_true, if_false, Sem.runT_eq, a4, GStep.bare_after, GStep.bare_go]
            · rename_i f2 vs
              obtain ⟨t, ht2, hs⟩ := on1_ok hs
              cases hs
              obtain ⟨args2, a1, a2⟩ := hok
              refine .ret (fr' := Frame.enter P f2 args2 .deferred) (cs2 := { fr with defers := ds' } :: cs') hm ?_ (.refl ρ) (enterF_ok ht2 a1) ⟨hf2, hc⟩ hh
              rw [hun]
              simp only [callDeferred, Bool.false_and, Bool.false_eq_true, if_false, Sem.runT_eq, a2, GStep.bare_after, GStep.bare_go]
              rfl
            · cases hs
          | _ => cases hfe
        | _ => exact ht.elim
      · cases hs
/-- One step of ours is some of the machine's. -/
theorem sstep_ok (hX : ∀ f k, X f = some k → XOK P f k) (hN : NoNG P) (hdr : DrOK θ P dr) {s s' : SM} (hs : sstep P X dr s = some s') {m : Machine} (hm : MR θ F base ρ s m) : To θ F base P ρ m s' := by
  obtain ⟨⟨i, e, todo, ds, ret⟩, cs, h, nx⟩ := s
  obtain ⟨fr, cs', w, rfl, hf, hc, hh⟩ := hm.out
  cases ret with
  | true => exact sretS_ok hX hN hf hc hh hs
  | false => exact stodo_ok hX hN hdr hf hc hh hs
end
end Ex
end Go.Proofs.YtpfmhnjogfjekaaGreat
