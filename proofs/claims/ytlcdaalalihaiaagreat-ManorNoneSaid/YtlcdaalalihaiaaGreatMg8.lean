import Derived.Test.YtlcdaalalihaiaaGreatMg7

/- Running code by calculation: a drawn region, in the order that is drawn. -/
namespace Go.Proofs.YtlcdaalalihaiaaGreat
open Go Go.RowKit
set_option linter.unusedVariables false
set_option linter.unusedSectionVars false
set_option linter.unusedSimpArgs false
set_option maxRecDepth 100000
namespace Ex
variable [GN]
section
variable {P : Program} {X : FuncId → Option XK} {callF : FuncId → Array Value → Tr SO → Nat → Option (Value × Tr SO × Nat)} {n nx0 : Nat} {ops : Array Oper} {L : List Pn1} {S : Nat → DS} {e0 : Tr Value} {h0 : Tr SO} {θ : Nat → Value} {ρ ρ' : Ren} {F : Fm} {w : World}
/-- Calls are run as the machine does. -/
def CallOK (θ : Nat → Value) (P : Program) (callF : FuncId → Array Value → Tr SO → Nat → Option (Value × Tr SO × Nat)) : Prop :=
  ∀ (F : Fm) (ρ : Ren) (w : World) (h : Tr SO) (nx : Nat) (f : FuncId) (args args' : Array Value) (v : Value) (h' : Tr SO) (nx' : Nat), callF f args h nx = some (v, h', nx') → Ra θ ρ args args' → HT θ F ρ h nx w → ∀ base,
    ∃ ρ' w' v' fr, ρ.le ρ' ∧ Rv θ ρ' v v' ∧ HT θ F ρ' h' nx' w' ∧ Steps P (lone (Frame.enter P f args' .normal) base w) (lone fr base w') ∧ fr.fn = f ∧ fr.leaving P w' (.returned v')
def putV (d : Option Tmp) (tmps : Array Value) (v : Value) : Array Value := match d with
  | some d => tmps.setIfInBounds d v
  | none => tmps
theorem putV_size (d : Option Tmp) (tmps : Array Value) (v : Value) : (putV d tmps v).size = tmps.size := by
  cases d <;> simp [putV]
theorem finish_at' {fr : Frame} {i : Nat} {l : List Nat} {k' : List Item} {o : Oper} (ht : fr.todo = .inRegion ops (i :: l) :: k') (ho : ops[i]? = some o) (v : Value) : fr.finish v = { fr with tmps := putV o.dst fr.tmps v, todo := .inRegion ops l :: k' } := by
  simp only [Frame.finish, ht, ho, Option.bind_some]
  cases o.dst <;> rfl
theorem exec_op {fr : Frame} {cs : List Frame} {i : Nat} {l : List Nat} {k' : List Item} {o : Oper} (ht : fr.todo = .inRegion ops (i :: l) :: k') (ho : ops[i]? = some o) (hw : Region.wanted o (yielded ops fr.tmps) = true) (hd : ∀ c, o.op ≠ .defer c) : stepG.exec P true true fr cs none w = stepG.apply P true fr cs none (execOp fr.eval o) w := by
  have ho' : fr.oper? = some o := by simp [Frame.oper?, ht, ho]
  simp only [stepG.exec, ht, ho, Option.map_some, hw, Option.getD_some, if_true, stepG.oper, ho']
  cases hro : fr.roundOf with
  | none => rfl
  | some l =>
    cases hop : o.op with
    | defer c => exact absurd hop (hd c)
    | _ => rfl
theorem step_val {fr : Frame} {cs : List Frame} {w w' : World} {s : Sem Next} (hm : fr.mode = .run) (hx : stepG.exec P true true fr cs none w = stepG.apply P true fr cs none s w) {v : Value} (hr : s.run P w = .ok (.value v) w' ∨ (v = undef ∧ s.run P w = .ok .skip w')) : step P (lone fr cs w) = .next (lone (fr.finish v) cs w') := by
  refine step_run hm rfl ?_
  rw [hx]
  rcases hr with hr | ⟨rfl, hr⟩ <;> simp only [stepG.apply, if_true, Sem.runT_eq, hr, GStep.bare_after, GStep.bare_go]
theorem RG.al_none (R : RG P X callF n nx0 ops L S e0 h0) {i : Nat} (h : ∀ y ∈ (S (i + 1)).als, y.1 < i) : alF S i = none := by
  unfold alF
  split
  · rename_i j' so l hl
    have := h (j', so) (by rw [hl]; exact .head _)
    rw [if_neg (by omega)]
  · rfl
theorem gD_more {N i c k : Nat} {D : Nat → Prop} {u : SO} (hal : alF S i = none) (h : gD L S N nx0 (fun j => D j ∨ j = i) c k = some u) : gD L S N nx0 D c k = some u := by
  rcases gD_cases h with ⟨j, rfl, h1, h2, h3, h4⟩ | ⟨h1, h2⟩
  · refine gD_float ⟨h1, ?_, h3, h4⟩
    rcases h2 with h2 | rfl
    · exact h2
    · rw [hal] at h3; cases h3
  · exact gD_table h1 fun ⟨j, so, e, a, b, d⟩ => h2 ⟨j, so, e, a, .inl b, d⟩
/-- An operation that makes no block and has no effect. -/
theorem Inv.calm (R : RG P X callF n nx0 ops L S e0 h0) {D : Nat → Prop} {c i : Nat} {tmps : Array Value} (h : Inv θ F L S n nx0 ops.size D c ρ tmps w) (hal : alF S i = none) (hne : ¬ isE S i) (hcl : Closed L (fun j => D j ∨ j = i)) {tmps' : Array Value} (henv : Env θ ρ L S ops.size (fun j => D j ∨ j = i) tmps') (hsz : tmps'.size = n) : Inv θ F L S n nx0 ops.size (fun j => D j ∨ j = i) c ρ tmps' w := by
  have back : ∀ j so, Fl L S ops.size (fun j => D j ∨ j = i) c j so → Fl L S ops.size D c j so := fun j so ⟨h1, h2, h3, h4⟩ => ⟨h1, (by
    rcases h2 with h2 | rfl
    · exact h2
    · rw [hal] at h3; cases h3), h3, h4⟩
  refine ⟨h.cle, fun k hk he => ?_, hcl, henv, hsz, ?_, fun j so hj => h.dis j so (back j so hj), fun j so hj => h.rw_ j so (back j so hj), h.low⟩
  · rw [← h.eff k hk he]
    exact ⟨fun e => e.elim id fun e => by subst e; exact absurd he hne, .inl⟩
  · exact h.hr.less (R' := (FD F nx0 ops.size (fun j => D j ∨ j = i)).R) (fun k hk => hk.imp id fun ⟨j, a, b, d⟩ => ⟨j, a, b, fun e => d (.inl e)⟩) (fun k u hu => gD_more hal hu)
theorem RG.step1 (R : RG P X callF n nx0 ops L S e0 h0) (hok : okRecs P (S ops.size) = true) (hX : ∀ f k, X f = some k → XOK P f k) (hN : NoNG P) (hcall : CallOK θ P callF) {D : Nat → Prop} {c : Nat} {fr : Frame} (hI : Inv θ F L S n nx0 ops.size D c ρ fr.tmps w) {i : Nat} {l : List Nat} {k' : List Item} (ht : fr.todo = .inRegion ops (i :: l) :: k') (hm : fr.mode = .run) {o : Oper} (ho : ops[i]? = some o) (hn : ¬ D i) (hedge : ∀ e ∈ o.after, Region.binds .any e = true → D e.on) (cs : List Frame) :
    ∃ ρ' c' tmps' w', ρ.le ρ' ∧ Steps P (lone fr cs w) (lone { fr with tmps := tmps', todo := .inRegion ops l :: k' } cs w') ∧ Inv θ F L S n nx0 ops.size (fun j => D j ∨ j = i) c' ρ' tmps' w' := by
  have hi := (Array.getElem?_eq_some_iff.1 ho).1
  obtain ⟨x, hx⟩ := R.at_ hi
  have hxo := (R.pl.o i x hx).1
  rw [ho] at hxo
  have hxo : o = x.o := by cases hxo; rfl
  subst hxo
  have hb : ∀ j, bitB x.b j = true → D j := fun j hj => by
    obtain ⟨e, e1, e2, e3, e4⟩ := R.pl.bits i x hx j hj
    have := hedge e e1 e2
    rcases e4 with rfl | ⟨y, y1, y2⟩
    · exact this
    · exact hI.cl _ y y1 this j y2
  have hlook := R.look hI.cl hI.env hx hn hb
  have hcl : Closed L (fun j => D j ∨ j = i) := fun k y hy hk j hj => by
    rcases hk with hk | rfl
    · exact .inl (hI.cl k y hy hk j hj)
    · rw [hx] at hy; cases hy; exact .inl (hb j hj)
  have hals := R.als (Nat.le_of_lt hi)
  obtain ⟨hd, tl, v, hhs, hdid⟩ := R.did hx
  have hput : ∀ {ρ' : Ren} {v' : Value}, ρ.le ρ' → Rv θ ρ' v v' → Env θ ρ' L S ops.size (fun j => D j ∨ j = i) (putV x.o.dst fr.tmps v') := fun hl hv => R.put hI.cl hI.sz (hI.env.mono hl) hx hn hv hdid.env
  have hsz : ∀ v', (putV x.o.dst fr.tmps v').size = n := fun v' => by rw [putV_size]; exact hI.sz
  have hal0 : (S (i + 1)).als = (S i).als → alF S i = none := fun e => R.al_none fun y hy => by
    rw [e] at hy; exact (hals y.1 y.2 hy).1
  have hne0 : (S (i + 1)).effs = (S i).effs → ¬ isE S i := fun e h => by unfold isE mE at h; rw [e] at h; omega
  cases hdid with
  | off hw he h1 h2 h3 h4 h5 =>
    have hw := swanted_ok hlook hw
    refine ⟨ρ, c, putV x.o.dst fr.tmps undef, w, .refl ρ, .one ?_, hI.calm R (hal0 h5) (hne0 h4) hcl (hput (.refl ρ) Rv.undef) (hsz _)⟩
    rw [← finish_at' ht ho]
    refine step_run hm rfl ?_
    simp only [stepG.exec, ht, ho, Option.map_some, hw, Option.getD_some, Bool.false_eq_true, if_false, GStep.bare_go]
  | pure v hw hk hp he h1 h2 h3 h4 h5 =>
    have hw := swanted_ok hlook hw
    have hp2 : pop P (pickE (S i).env x.ns) (hdT S c) x.o = some v := by
      cases hr : rds x.o.op with
      | false => rw [pop_noread P _ (hdT S c) hd x.o hr]; exact hp
      | true => exact R.read hok hI.cle hI.eff hI.cl hx hn hb hr (h1.1 hr) hhs hp
    have hT : HT θ (FD F nx0 ops.size D) ρ (hdT S c) (S c).nx w := hI.hr.sub fun k u hu => gD_table hu fun ⟨j, so, e, hf⟩ => by
      subst e
      rw [hI.dis j so hf] at hu; cases hu
    obtain ⟨v', a1, a2⟩ := pop_ok hT (hlook.ev hT.gl) hp2
    have hnd : ∀ c, x.o.op ≠ .defer c := fun c e => by rw [e] at hk; cases hk
    refine ⟨ρ, c, putV x.o.dst fr.tmps v', w, .refl ρ, .one ?_, hI.calm R (hal0 h5) (hne0 h4) hcl (hput (.refl ρ) a1) (hsz _)⟩
    rw [← finish_at' ht ho]
    exact step_val hm (exec_op ht ho hw hnd) (.inl a2)
  | alloc so sh hw hk hp he h1 h2 h3 h4 h5 =>
    have hw := swanted_ok hlook hw
    obtain ⟨b0, o', v', b1, b2, b3⟩ := aop_ok (w := w) (hlook.ev hI.hr.gl) hp
    have hkn : ρ (nx0 + i) = none := hI.hr.new _ (.inr (.inr ⟨i, hi, rfl, hn⟩))
    have hal : alF S i = some so := by unfold alF; rw [h5]; simp
    have hfree : (hdT S c).get (nx0 + i) = none := by
      cases hq : (hdT S c).get (nx0 + i) with
      | none => rfl
      | some u =>
        exfalso
        have : gD L S ops.size nx0 D c (nx0 + i) = some u := gD_table hq fun ⟨j, so, e, hf⟩ => by
          have : j = i := by omega
          subst this
          exact hn hf.2.1
        obtain ⟨p, _, a1, _⟩ := hI.hr.obj _ u this
        rw [hkn] at a1; cases a1
    have hlt : nx0 + i < (S c).nx := hI.hr.res _ (.inr ⟨i, hi, rfl, hn⟩)
    have hback : ∀ j so', Fl L S ops.size (fun j => D j ∨ j = i) c j so' → (j = i ∧ so' = so) ∨ (j ≠ i ∧ Fl L S ops.size D c j so') := fun j so' ⟨f1, f2, f3, f4⟩ => by
      by_cases hji : j = i
      · subst hji; rw [hal] at f3; cases f3; exact .inl ⟨rfl, rfl⟩
      · exact .inr ⟨hji, f1, f2.resolve_right hji, f3, f4⟩
    obtain ⟨g1, g2⟩ := hI.hr.allocAt (nx0 + i) hkn none (o := so) (o' := o') (b1 _ (Ren.ext_le hkn)) b0 (g' := gD L S ops.size nx0 (fun j => D j ∨ j = i) c) (fun k u hu => by
      rcases gD_cases hu with ⟨j, rfl, hf⟩ | ⟨h1, h2⟩
      · rcases hback j u hf with ⟨rfl, rfl⟩ | ⟨f1, f2⟩
        · exact .inl ⟨rfl, rfl⟩
        · exact .inr ⟨by omega, gD_float f2⟩
      · refine .inr ⟨fun e => ?_, gD_table h1 fun ⟨j, so, e, a, b, d⟩ => h2 ⟨j, so, e, a, .inl b, d⟩⟩
        rw [e, hfree] at h1; cases h1) (nx' := (S c).nx) (R' := (FD F nx0 ops.size (fun j => D j ∨ j = i)).R) (fun j hj => by
      rcases hj with hj | hj | ⟨j1, a1, a2, a3⟩
      · exact ⟨by omega, .inl hj⟩
      · have := hI.low j hj
        exact ⟨by omega, .inr (.inl hj)⟩
      · exact ⟨fun e => a3 (.inr (by omega)), .inr (.inr ⟨j1, a1, a2, fun e => a3 (.inl e)⟩)⟩) (fun j hj => by
      refine hI.hr.res j ?_
      rcases hj with hj | ⟨j1, a1, a2, a3⟩
      · exact .inl hj
      · exact .inr ⟨j1, a1, a2, fun e => a3 (.inl e)⟩)
    have hnd : ∀ c, x.o.op ≠ .defer c := fun c e => by rw [e] at hk; cases hk
    refine ⟨_, c, putV x.o.dst fr.tmps v', w.alloc o', g1, .one ?_, ⟨hI.cle, fun k hk hek => ?_, hcl, hput g1 (b2 _ _ Ren.ext_self), hsz _, g2, fun j so' hj => ?_, fun j so' hj => ?_, hI.low⟩⟩
    · rw [← finish_at' ht ho]
      exact step_val hm (exec_op ht ho hw hnd) (.inl b3)
    · rw [← hI.eff k hk hek]
      exact ⟨fun e => e.elim id fun e => by subst e; exact absurd hek (hne0 h4), .inl⟩
    · rcases hback j so' hj with ⟨rfl, rfl⟩ | ⟨f1, f2⟩
      · exact hfree
      · exact hI.dis j so' f2
    · rcases hback j so' hj with ⟨rfl, rfl⟩ | ⟨f1, f2⟩
      · exact b0
      · exact hI.rw_ j so' f2
  | eff v h' r hw hk hc hp hdf he h1 h2 h4 h5 =>
    have hw := swanted_ok hlook hw
    have hE : isE S i := by unfold isE mE; rw [h4]; simp
    have heff : ∀ k, k < ops.size → isE S k → (D k ↔ k < i) := fun k hk hek => ⟨fun hDk => by
      rcases Nat.lt_trichotomy k i with h | h | h
      · exact h
      · subst h; exact absurd hDk hn
      · obtain ⟨y, hy⟩ := R.at_ hk
        exact absurd (R.chain hI.cl k y hy hek (hI.cl k y hy hDk) i h hE) hn, fun h => R.chain hI.cl i x hx hE hb k h hek⟩
    have hI' := hI.shift R (Nat.le_of_lt hi) heff
    have hhd : hdT S i = hd := by unfold hdT; rw [hhs]; rfl
    have hal : alF S i = none := R.al_none fun y hy => by
      rw [h5, List.mem_filter] at hy
      exact (hals y.1 y.2 hy.1).1
    have hnd : ∀ c, x.o.op ≠ .defer c := fun c e => by
      unfold eop at hp
      rw [e] at hp
      have hp : edeferC (pickE (S i).env x.ns) c = some r := hp
      unfold edeferC at hp
      split at hp
      · obtain ⟨v1, vs, b1, b2, hp⟩ := on2_ok hp
        unfold edefer at hp
        split at hp
        · cases hp; cases hdf
        · cases hp
      · cases hp
    let Q : Nat → Prop := fun k => ∃ j so, k = nx0 + j ∧ Fl L S ops.size D i j so ∧ bitB x.b j = false
    have hnoF : ∀ {k : Nat} {u : SO}, hd.get k = some u → ¬ ∃ j so, k = nx0 + j ∧ Fl L S ops.size D i j so := fun {k u} hu ⟨j, so, e, hf⟩ => by
      have := hI'.dis j so hf
      rw [hhd, ← e, hu] at this; cases this
    have hframe := hI'.hr.frame (T := putAls nx0 x.b hd (S i).als) Q (fun k u hu => by
      rcases putAls_get hu with ⟨j, a1, a2, rfl⟩ | hu
      · obtain ⟨c1, c2, c3⟩ := hals j u a1
        exact ⟨gD_float ⟨by omega, hb j a2, c2, c3⟩, fun ⟨j', so', e, hf, hbit⟩ => by
          have : j' = j := by omega
          subst this
          rw [a2] at hbit; cases hbit⟩
      · exact ⟨gD_table (by rw [hhd]; exact hu) (hnoF hu), fun ⟨j, so, e, hf, _⟩ => hnoF hu ⟨j, so, e, hf⟩⟩)
    have hsn := eop_ok hframe (hlook.ev hframe.gl) hX hN hp
    have hrun : ∃ ρ' v' w', ρ.le ρ' ∧ Rv θ ρ' v v' ∧ HT θ ((FD F nx0 ops.size D).hold w ρ (gD L S ops.size nx0 D i) Q) ρ' h' (S (i + 1)).nx w' ∧ Steps P (lone fr cs w) (lone (fr.finish v') cs w') := by
      unfold dEff at hdf
      split at hdf
      · cases hdf
        obtain ⟨ρ', v', w', a1, a2, a3, a4⟩ := hsn
        exact ⟨ρ', v', w', a1, a2, a3, .one (step_val hm (exec_op ht ho hw hnd) a4)⟩
      · rename_i f args
        obtain ⟨args', a1, a2⟩ := hsn
        obtain ⟨ρ', w', v', fr2, b1, b2, b3, b4, b5, b6⟩ := hcall _ _ _ _ _ _ _ args' _ _ _ hdf a1 hframe (fr :: cs)
        refine ⟨ρ', v', w', b1, b2, b3, .trans (.head (m₁ := lone (Frame.enter P f args' .normal) (fr :: cs) w) ?_ b4) (.one (step_leave_returned b6))⟩
        refine step_run hm rfl ?_
        rw [exec_op ht ho hw hnd]
        simp only [stepG.apply, if_true, Sem.runT_eq, a2, GStep.bare_after, GStep.bare_go]
        split
        · rename_i hq; rw [ht] at hq; cases hq
        · rfl
      · cases hdf
    obtain ⟨ρ', v', w', hl, hv, hh', hst⟩ := hrun
    have hhd' : hdT S (i + 1) = h' := by unfold hdT; rw [h2]; rfl
    have hbackE : ∀ j so, Fl L S ops.size (fun j => D j ∨ j = i) (i + 1) j so → Fl L S ops.size D i j so ∧ bitB x.b j = false := fun j so ⟨f1, f2, f3, f4⟩ => by
      have hDj : D j := by
        rcases f2 with f2 | rfl
        · exact f2
        · rw [hal] at f3; cases f3
      refine ⟨⟨f1, hDj, f3, fun ⟨k, y, q1, q2, q3, q4⟩ => f4 ⟨k, y, by omega, q2, q3, q4⟩⟩, ?_⟩
      cases hbj : bitB x.b j with
      | false => rfl
      | true => exact absurd ⟨i, x, Nat.lt_succ_self i, hx, hE, hbj⟩ f4
    obtain ⟨u1, u2⟩ := hI'.hr.unframe (Q := Q) (fun k u ⟨j, so, e, hf, _⟩ hgk => by
      subst e
      rw [gD_float hf] at hgk; cases hgk
      exact hI'.rw_ j _ hf) hl hh' (g' := gD L S ops.size nx0 (fun j => D j ∨ j = i) (i + 1)) (R' := (FD F nx0 ops.size (fun j => D j ∨ j = i)).R) (fun k u hu => by
      rcases gD_cases hu with ⟨j, rfl, hf⟩ | ⟨h1, _⟩
      · obtain ⟨f1, f2⟩ := hbackE j u hf
        exact .inl ⟨⟨j, u, rfl, f1, f2⟩, gD_float f1⟩
      · rw [hhd'] at h1; exact .inr h1) (fun k hk => hk.imp id fun ⟨j, a, b, d⟩ => ⟨j, a, b, fun e => d (.inl e)⟩)
    refine ⟨ρ', i + 1, putV x.o.dst fr.tmps v', w', hl, by rw [← finish_at' ht ho]; exact hst, ⟨hi, fun k hk hek => ?_, hcl, hput hl hv, hsz _, u1, fun j so hj => ?_, fun j so hj => ?_, hI.low⟩⟩
    · constructor
      · rintro (h | rfl)
        · have := (heff k hk hek).1 h; omega
        · omega
      · intro h
        rcases Nat.lt_or_eq_of_le (Nat.le_of_lt_succ h) with h | rfl
        · exact .inl ((heff k hk hek).2 h)
        · exact .inr rfl
    · obtain ⟨f1, f2⟩ := hbackE j so hj
      rw [hhd']
      exact u2 _ so ⟨j, so, rfl, f1, f2⟩ (gD_float f1)
    · exact hI'.rw_ j so (hbackE j so hj).1
/-- .. and all of it. -/
theorem RG.steps (R : RG P X callF n nx0 ops L S e0 h0) (hok : okRecs P (S ops.size) = true) (hX : ∀ f k, X f = some k → XOK P f k) (hN : NoNG P) (hcall : CallOK θ P callF) {D : Nat → Prop} {l : List Nat} (hs : Sch ops D l) : ∀ {c : Nat} {ρ : Ren} {w : World} {fr : Frame} (hI : Inv θ F L S n nx0 ops.size D c ρ fr.tmps w) {k' : List Item} (ht : fr.todo = .inRegion ops l :: k') (hm : fr.mode = .run) (cs : List Frame),
    ∃ ρ' c' tmps' w' D', ρ.le ρ' ∧ Steps P (lone fr cs w) (lone { fr with tmps := tmps', todo := k' } cs w') ∧ Inv θ F L S n nx0 ops.size D' c' ρ' tmps' w' ∧ ∀ i, i < ops.size → D' i := by
  induction hs with
  | nil h =>
    intro c ρ w fr hI k' ht hm cs
    refine ⟨ρ, c, fr.tmps, w, _, .refl ρ, .one (step_run hm rfl ?_), hI, h⟩
    simp only [stepG.exec, ht, GStep.bare_go]
  | cons ho hn he hs ih =>
    intro c ρ w fr hI k' ht hm cs
    obtain ⟨ρ1, c1, tmps1, w1, a1, a2, a3⟩ := R.step1 hok hX hN hcall hI ht hm ho hn he cs
    obtain ⟨ρ2, c2, tmps2, w2, D2, b1, b2, b3, b4⟩ := ih (fr := { fr with tmps := tmps1, todo := _ }) a3 rfl hm cs
    exact ⟨ρ2, c2, tmps2, w2, D2, a1.trans b1, a2.trans b2, b3, b4⟩
end
end Ex
end Go.Proofs.YtlcdaalalihaiaaGreat

/- Running code by calculation: whole runs. -/
namespace Go.Proofs.YtlcdaalalihaiaaGreat
open Go Go.RowKit
set_option linter.unusedVariables false
set_option linter.unusedSectionVars false
set_option linter.unusedSimpArgs false
set_option maxRecDepth 100000
namespace Ex
variable [GN]
section
variable {P : Program} {X : FuncId → Option XK} {θ : Nat → Value}
theorem HR.order {F : Fm} {ρ : Ren} {g : Nat → Option SO} {nx : Nat} {w : World} (hh : HR θ F ρ g nx w) (q : Question) : ∃ t w1, (choose q).run P w = .ok t w1 ∧ HR θ F ρ g nx w1 := by
  rw [run_choose_drew]
  split
  · exact ⟨_, _, rfl, hh⟩
  · exact ⟨_, _, rfl, hh.drew⟩
theorem sdraw_ok (hX : ∀ f k, X f = some k → XOK P f k) (hN : NoNG P) (hP : P.follows .mixedOrders = true) {callF : FuncId → Array Value → Tr SO → Nat → Option (Value × Tr SO × Nat)} (hcall : CallOK θ P callF) : DrOK θ P (sdraw P X callF) := by
  intro F ρ w h nx i e fr cs id ops k' e' h' nx' hs hh ht hm hn he
  unfold sdraw at hs
  obtain ⟨L, hL, hs⟩ := on1_ok hs
  obtain ⟨d, hd, hs⟩ := on1_ok hs
  obtain ⟨hpl, hlen⟩ := plan_ok hL
  obtain ⟨S, s0, sN, sst⟩ := dgo_states hd
  have R : RG P X callF i.n nx ops L S e h := ⟨hpl, hlen, s0, fun j x hx => by have := sst j x hx; rwa [Nat.zero_add] at this⟩
  rw [Nat.zero_add, hlen] at sN
  unfold dfin at hs
  cases hok : okRecs P d with
  | false => rw [hok] at hs; cases hs
  | true =>
    rw [hok] at hs
    have hs : dend nx d d.hs = some (e', h', nx') := hs
    have hok : okRecs P (S ops.size) = true := by rw [sN]; exact hok
    obtain ⟨t, w1, hc, hh1⟩ := hh.order (P := P) (.order fr.fn id)
    have hnoF : ∀ c j so, ¬ Fl L S ops.size (fun _ => False) c j so := fun c j so hf => hf.2.1
    have hT0 : hdT S 0 = h := by unfold hdT; rw [s0]; rfl
    have hg0 : ∀ k u, gD L S ops.size nx (fun _ => False) 0 k = some u → h.get k = some u := fun k u hu => by
      rcases gD_cases hu with ⟨j, _, hf⟩ | ⟨h1, _⟩
      · exact (hnoF _ _ _ hf).elim
      · rw [hT0] at h1; exact h1
    have h1 := hh1.sub hg0
    have hI : Inv θ F L S i.n nx ops.size (fun _ => False) 0 ρ fr.tmps w1 := by
      refine ⟨Nat.zero_le _, fun k _ _ => ⟨False.elim, fun h => by omega⟩, fun k x _ hk => hk.elim, fun t k v hk a1 a2 hv => ?_, hn, ?_, fun j so hj => (hnoF _ _ _ hj).elim, fun j so hj => (hnoF _ _ _ hj).elim, hh.res⟩
      · have := R.same (Nat.zero_le k) hk (fun j _ hj hd => a1 j hj hd) hv
        rw [s0] at this
        exact he t v this
      · rw [s0]
        show HR θ _ ρ _ (nx + ops.size) w1
        exact ⟨h1.os, h1.tape, h1.output, h1.size, h1.keep, h1.klt, h1.nle, h1.inj, h1.lt, fun k hk => h1.new k (by
          rcases hk with hk | hk | ⟨j, _, e1, _⟩
          · exact .inl (by omega)
          · exact .inr hk
          · exact .inl (by omega)), fun k hk => by
          rcases hk with hk | ⟨j, e0, e1, _⟩
          · have := h1.res k hk; omega
          · omega, h1.obj, h1.gl⟩
    have hsch := sch_schedule hpl hlen t
    obtain ⟨ρ', c', tmps', w', D', a1, a2, a3, a4⟩ := R.steps hok hX hN hcall hsch (fr := { fr with todo := .inRegion ops (Region.schedule true ops t) :: k' }) hI rfl hm cs
    have a5 := a3.shift R (Nat.le_refl _) (fun k hk _ => ⟨fun _ => hk, fun _ => a4 k hk⟩)
    obtain ⟨tl, htl⟩ := R.hs_cons (Nat.le_refl ops.size)
    rw [← sN, htl] at hs
    cases hs
    refine ⟨ρ', tmps', w', a1, .head (m₁ := lone { fr with todo := .inRegion ops (Region.schedule true ops t) :: k' } cs w1) (step_run hm rfl ?_) a2, a3.sz, fun t v hv => ?_, ?_⟩
    · simp only [stepG.exec, ht, Bool.not_true, Bool.false_eq_true, if_false, hc, hP, GStep.bare_go]
    · exact a3.env t ops.size v (Nat.le_refl _) (fun j hj _ => a4 j hj) (fun j hj ⟨x, hx, _⟩ => by
        have := R.lt hx; omega) hv
    · exact a5.hr.less (R' := F.R) (fun k hk => .inl hk) (fun k u hu => by
        rcases allA_get hu with ⟨j, b1, rfl⟩ | hu
        · obtain ⟨c1, c2, c3⟩ := R.als (Nat.le_refl _) j u b1
          exact gD_float ⟨c1, a4 j c1, c2, c3⟩
        · exact gD_table hu fun ⟨j, so, e1, hf⟩ => by
            subst e1
            rw [a5.dis j so hf] at hu; cases hu)
theorem srunX_ok (hX : ∀ f k, X f = some k → XOK P f k) {go : SM → Out} (hc : CallOK θ P (srunF P go)) : CallOK θ P (srunX P X go) := by
  intro F ρ w h nx f args args' v h' nx' hs ha hh base
  unfold srunX at hs
  split at hs
  · rename_i r hm
    obtain ⟨m, hm, hx⟩ := memoOf_ok hX hm
    cases hs
    obtain ⟨ρ', w', v', fr, a1, a2, a3, a4, a5, a6⟩ := hm F ρ w h nx args args' _ _ _ hx ha hh base
    exact ⟨ρ', w', v', fr, a1, a2, a3, a4, a5, a6⟩
  · exact hc F ρ w h nx f args args' v h' nx' hs ha hh base
/-- A run that comes to its end. -/
def RunOK (θ : Nat → Value) (P : Program) (go : SM → Out) : Prop :=
  ∀ (F : Fm) (base : List Frame) (ρ : Ren) (s : SM) (m : Machine) (g : FuncId) (v : Value) (h' : Tr SO) (nx' : Nat), go s = .done g v h' nx' → MR θ F base ρ s m →
    ∃ ρ' fr w' v', ρ.le ρ' ∧ Rv θ ρ' v v' ∧ HT θ F ρ' h' nx' w' ∧ Steps P m (lone fr base w') ∧ fr.fn = g ∧ fr.leaving P w' (.returned v')
theorem srunF_ok {go : SM → Out} (hg : RunOK θ P go) : CallOK θ P (srunF P go) := by
  intro F ρ w h nx f args args' v h' nx' hs ha hh base
  unfold srunF at hs
  obtain ⟨t, ht, hs⟩ := on1_ok hs
  unfold outOf at hs
  split at hs
  · rename_i g v0 h0 nx0 hgo
    cases hb : Nat.beq g f with
    | false => rw [hb] at hs; cases hs
    | true =>
      rw [hb] at hs
      cases hs
      obtain rfl := Nat.eq_of_beq_eq_true hb
      obtain ⟨ρ', fr, w', v', a1, a2, a3, a4, a5, a6⟩ := hg F base ρ _ (lone (Frame.enter P g args' .normal) base w) _ _ _ _ hgo ⟨_, [], w, rfl, enterF_ok ht ha, trivial, hh⟩
      exact ⟨ρ', w', v', fr, a1, a2, a3, a4, a5, a6⟩
  · cases hs
theorem sfinal_ok {F : Fm} {base : List Frame} {ρ : Ren} {s : SM} {m : Machine} {v : Value} (hs : sfinal P s = some v) (hm : MR θ F base ρ s m) : ∃ fr w' v', Rv θ ρ v v' ∧ HT θ F ρ s.h s.nx w' ∧ m = lone fr base w' ∧ fr.fn = s.top.i.fn ∧ fr.leaving P w' (.returned v') := by
  obtain ⟨fr, cs', w, rfl, hf, hc, hh⟩ := hm.out
  unfold sfinal at hs
  split at hs
  · rename_i f n r e td h nx
    unfold sfinal2 at hs
    obtain ⟨fn, hfn, hs⟩ := on1_ok hs
    obtain ⟨vs, hvs, hs⟩ := on1_ok hs
    cases hs
    obtain ⟨v', h1, h2⟩ := sresults_ok hh hf.env hvs
    have hcs : cs' = [] := by
      cases cs' with
      | nil => rfl
      | cons a l => exact hc.elim
    subst hcs
    have hd : fr.defers = [] := by
      have := hf.defers
      cases hq : fr.defers with
      | nil => rfl
      | cons a l => rw [hq] at this; exact this.elim
    exact ⟨fr, w, v', h1, hh, rfl, hf.fn, hf.mode, hd, hf.kind, fn, by rw [hf.fn]; exact hfn, h2⟩
  · cases hs
theorem srun_ok (hX : ∀ f k, X f = some k → XOK P f k) (hN : NoNG P) (hP : P.follows .mixedOrders = true) : ∀ n, RunOK θ P (srun P X n)
  | 0 => fun F base ρ s m g v h' nx' hs _ => by cases hs
  | n + 1 => by
    intro F base ρ s m g v h' nx' hs hm
    have ih := srun_ok hX hN hP n
    have hs : srunK P (srun P X n) s (sstep P X (sdraw P X (srunX P X (srun P X n))) s) = .done g v h' nx' := hs
    cases hst : sstep P X (sdraw P X (srunX P X (srun P X n))) s with
    | some s' =>
      rw [hst] at hs
      obtain ⟨ρ1, m1, b1, b2, b3⟩ := sstep_ok hX hN (sdraw_ok hX hN hP (srunX_ok hX (srunF_ok ih))) hst hm
      obtain ⟨ρ', fr, w', v', a1, a2, a3, a4, a5⟩ := ih F base ρ1 s' m1 g v h' nx' hs b3
      exact ⟨ρ', fr, w', v', b1.trans a1, a2, a3, b2.trans a4, a5⟩
    | none =>
      rw [hst] at hs
      have hs : srunL P s (sfinal P s) = .done g v h' nx' := hs
      cases hfi : sfinal P s with
      | none => rw [hfi] at hs; cases hs
      | some u =>
        rw [hfi] at hs
        cases hs
        obtain ⟨fr, w', v', a1, a2, rfl, a4, a5⟩ := sfinal_ok hfi hm
        exact ⟨ρ, fr, w', v', .refl ρ, a1, a2, .refl P _, a4, a5⟩
/-- The world's own blocks stay. -/
def own (w : World) : Fm := ⟨w, w.heap.size, fun b => b < w.heap.size, fun _ => False⟩
/-- The package variables, at the beginning. -/
def glR : Ren := fun k => if k < GN.n then some ⟨k, 0, none⟩ else none
/-- What is known of the package variables. -/
def Known (θ : Nat → Value) (h : Tr SO) (w : World) : Prop := GN.n ≤ w.heap.size ∧ ∀ k o, h.get k = some o → k < GN.n ∧ o.rw = false ∧ ∃ o', w.heap[k]? = some o' ∧ Ro θ glR ⟨k, 0, none⟩ o o'
theorem glR_some {k : Nat} {p : Pl} (h : glR k = some p) : k < GN.n ∧ p = ⟨k, 0, none⟩ := by
  unfold glR at h
  split at h
  · rename_i hk; cases h; exact ⟨hk, rfl⟩
  · cases h
theorem own_start {w : World} {h : Tr SO} (hk : Known θ h w) : HT θ (own w) glR h GN.n w := by
  refine ⟨rfl, rfl, rfl, Nat.le_refl _, fun _ _ => rfl, fun _ h => h, Nat.le_refl _, fun k k' p p' h1 h2 h3 _ _ => ?_, fun k p h1 => ?_, fun k hk => ?_, fun _ h => h.elim, fun k o h => ?_, fun g hg => if_pos hg⟩
  · rw [(glR_some h1).2, (glR_some h2).2] at h3; exact h3
  · rw [(glR_some h1).2]; exact Nat.lt_of_lt_of_le (glR_some h1).1 hk.1
  · rcases hk with hk | hk
    · unfold glR; rw [if_neg (by omega)]
    · exact hk.elim
  · obtain ⟨h1, h2, o', h3, h4⟩ := hk.2 k o h
    exact ⟨⟨k, 0, none⟩, o', if_pos h1, h3, h4, fun e => by (rw [h2] at e; cases e), fun _ => Nat.lt_of_lt_of_le h1 hk.1⟩
end
end Ex
end Go.Proofs.YtlcdaalalihaiaaGreat

/- Running code by calculation: a run in parts. -/
namespace Go.Proofs.YtlcdaalalihaiaaGreat
open Go Go.RowKit
set_option linter.unusedVariables false
set_option linter.unusedSectionVars false
set_option maxRecDepth 100000
namespace Ex
variable [GN]
/-- So many steps. -/
noncomputable def sgo (P : Program) (X : FuncId → Option XK) (n : Nat) : Nat → SM → Option SM := Nat.rec (motive := fun _ => SM → Option SM) (fun s => some s) fun _ go s => on1 (sstep P X (sdraw P X (srunX P X (srun P X n))) s) go
section
variable {α : Type}
/-- A table of these entries. -/
noncomputable def mkT (l : List (Nat × α)) : Tr α := List.rec (motive := fun _ => Tr α) .leaf (fun x _ ih => ih.put x.1 x.2) l
noncomputable def pickT (t : Tr α) : List Nat → Option (List (Nat × α)) := List.rec (motive := fun _ => Option (List (Nat × α))) (some []) fun k _ ih => on1 (t.get k) fun v => on1 ih fun l => some ((k, v) :: l)
theorem pickT_ok {t : Tr α} : ∀ {ks : List Nat} {l : List (Nat × α)}, pickT t ks = some l → ∀ k v, (mkT l).get k = some v → t.get k = some v
  | [], l, h, k, v, hk => by cases h; cases hk
  | j :: ks, l, h, k, v, hk => by
    have h : (on1 (t.get j) fun u => on1 (pickT t ks) fun l => some ((j, u) :: l)) = some l := h
    obtain ⟨u, hu, h⟩ := on1_ok h
    obtain ⟨l', hl, h⟩ := on1_ok h
    cases h
    rcases Tr.get_put (t := mkT l') hk with ⟨rfl, rfl⟩ | ⟨_, h1⟩
    · exact hu
    · exact pickT_ok hl k v h1
end
noncomputable def thinF (f : SF) (ks : List Nat) : Option SF := on1 (pickT f.env ks) fun l => some ⟨f.i, mkT l, f.todo, f.defers, f.ret⟩
noncomputable def thinFs : List SF → List (List Nat) → Option (List SF) := List.rec (motive := fun _ => List (List Nat) → Option (List SF))
  (fun ks => match ks with
    | [] => some []
    | _ => none) fun f _ ih ks => match ks with
    | k :: ks => on1 (thinF f k) fun f' => on1 (ih ks) fun l => some (f' :: l)
    | [] => none
/-- Of slots and blocks these are kept. -/
noncomputable def thin (kt : List Nat) (ke : List (List Nat)) (kh : List Nat) (s : SM) : Option SM := on1 (thinF s.top kt) fun t => on1 (thinFs s.cs ke) fun c => on1 (pickT s.h kh) fun l => some ⟨t, c, mkT l, s.nx⟩
section
variable {P : Program} {X : FuncId → Option XK} {θ : Nat → Value}
theorem thinF_ok {f f' : SF} {ks : List Nat} {ρ : Ren} {fr : Frame} (h : thinF f ks = some f') (hf : FrR θ ρ f fr) : FrR θ ρ f' fr := by
  obtain ⟨l, hl, h⟩ := on1_ok h
  cases h
  exact ⟨hf.fn, hf.n, fun k v hk => hf.env k v (pickT_ok hl k v hk), hf.todo, hf.defers, hf.mode, hf.kind, hf.round⟩
theorem thinFs_ok {ρ : Ren} : ∀ {c c' : List SF} {ks : List (List Nat)} {l : List Frame}, thinFs c ks = some c' → FrRs θ ρ c l → FrRs θ ρ c' l
  | [], c', [], l, h, hf => by cases h; exact hf
  | [], c', _ :: _, l, h, hf => by cases h
  | _ :: _, c', [], l, h, hf => by cases h
  | f :: c, c', k :: ks, l, h, hf => by
    have h : (on1 (thinF f k) fun f' => on1 (thinFs c ks) fun l => some (f' :: l)) = some c' := h
    obtain ⟨f', h1, h⟩ := on1_ok h
    obtain ⟨d, h2, h⟩ := on1_ok h
    cases h
    obtain ⟨fr, l', rfl, a, b⟩ := hf.cons
    exact ⟨thinF_ok h1 a, thinFs_ok h2 b⟩
theorem thin_ok {F : Fm} {base : List Frame} {kt : List Nat} {ke : List (List Nat)} {kh : List Nat} {s s' : SM} {ρ : Ren} {m : Machine} (h : thin kt ke kh s = some s') (hm : MR θ F base ρ s m) : MR θ F base ρ s' m := by
  obtain ⟨t, h1, h⟩ := on1_ok h
  obtain ⟨c, h2, h⟩ := on1_ok h
  obtain ⟨l, h3, h⟩ := on1_ok h
  cases h
  obtain ⟨fr, cs, w, e, a, b, d⟩ := hm.out
  exact ⟨fr, cs, w, e, thinF_ok h1 a, thinFs_ok h2 b, d.sub fun k o => pickT_ok h3 k o⟩
theorem sgo_ok (hX : ∀ f k, X f = some k → XOK P f k) (hN : NoNG P) (hP : P.follows .mixedOrders = true) {F : Fm} {base : List Frame} {n : Nat} : ∀ {k : Nat} {s s' : SM} {ρ : Ren} {m : Machine}, sgo P X n k s = some s' → MR θ F base ρ s m → To θ F base P ρ m s'
  | 0, s, s', ρ, m, h, hm => by cases h; exact ⟨ρ, m, .refl ρ, .refl P _, hm⟩
  | k + 1, s, s', ρ, m, h, hm => by
    have h : on1 (sstep P X (sdraw P X (srunX P X (srun P X n))) s) (sgo P X n k) = some s' := h
    obtain ⟨s1, h1, h⟩ := on1_ok h
    obtain ⟨ρ1, m1, b1, b2, b3⟩ := sstep_ok hX hN (sdraw_ok hX hN hP (srunX_ok hX (srunF_ok (srun_ok hX hN hP n)))) h1 hm
    obtain ⟨ρ2, m2, c1, c2, c3⟩ := sgo_ok hX hN hP h b3
    exact ⟨ρ2, m2, b1.trans c1, b2.trans c2, c3⟩
/-- From this state on the run ends so. -/
def Ends (θ : Nat → Value) (P : Program) (s : SM) (g : FuncId) (v : Value) : Prop := ∀ (F : Fm) (base : List Frame) (ρ : Ren) (m : Machine), MR θ F base ρ s m →
  ∃ ρ' fr w' v' h' nx', ρ.le ρ' ∧ Rv θ ρ' v v' ∧ HT θ F ρ' h' nx' w' ∧ Steps P m (lone fr base w') ∧ fr.fn = g ∧ fr.leaving P w' (.returned v')
noncomputable def endOf : Out → Option (FuncId × Value)
  | .done g v _ _ => some (g, v)
  | _ => none
theorem Ends.done (hX : ∀ f k, X f = some k → XOK P f k) (hN : NoNG P) (hP : P.follows .mixedOrders = true) {n : Nat} {s : SM} {g : FuncId} {v : Value} (h : endOf (srun P X n s) = some (g, v)) : Ends θ P s g v := by
  intro F base ρ m hm
  cases ho : srun P X n s with
  | done g1 v1 h1 nx1 =>
    rw [ho] at h
    cases h
    obtain ⟨ρ', fr, w', v', a⟩ := srun_ok hX hN hP n F base ρ s m _ _ _ _ ho hm
    exact ⟨ρ', fr, w', v', h1, nx1, a⟩
  | stuck => rw [ho] at h; cases h
  | long => rw [ho] at h; cases h
theorem Ends.cut (hX : ∀ f k, X f = some k → XOK P f k) (hN : NoNG P) (hP : P.follows .mixedOrders = true) {n k : Nat} {s s' : SM} {g : FuncId} {v : Value} {kt : List Nat} {ke : List (List Nat)} {kh : List Nat} (h : on1 (sgo P X n k s) (thin kt ke kh) = some s') (hs : Ends θ P s' g v) : Ends θ P s g v := by
  intro F base ρ m hm
  obtain ⟨s1, h1, h2⟩ := on1_ok h
  obtain ⟨ρ1, m1, a1, a2, a3⟩ := sgo_ok hX hN hP h1 hm
  obtain ⟨ρ', fr, w', v', h', nx', b1, b2, b3, b4, b5⟩ := hs F base ρ1 m1 (thin_ok h2 a3)
  exact ⟨ρ', fr, w', v', h', nx', a1.trans b1, b2, b3, a2.trans b4, b5⟩
/-- The first state of a call. -/
noncomputable def start (P : Program) (h : Tr SO) (f : FuncId) (args : Array Value) : Option SM := on1 (enterF P f args false) fun t => some ⟨t, [], h, GN.n⟩
noncomputable def startGo (P : Program) (X : FuncId → Option XK) (n k : Nat) (h : Tr SO) (f : FuncId) (args : Array Value) : Option SM := on1 (start P h f args) (sgo P X n k)
theorem Ends.calls (hX : ∀ f k, X f = some k → XOK P f k) (hN : NoNG P) (hP : P.follows .mixedOrders = true) {n k : Nat} {h : Tr SO} {f : FuncId} {args args' : Array Value} {v : Value} {s' : SM} {kt : List Nat} {ke : List (List Nat)} {kh : List Nat} (h1 : on1 (startGo P X n k h f args) (thin kt ke kh) = some s') (hs : Ends θ P s' f v) (ha : Ra θ glR args args') {w : World} (hk : Known θ h w) :
    Calls P f args' w fun e w' => ∃ v' ρ' h' nx', e = .returned v' ∧ Rv θ ρ' v v' ∧ HT θ (own w) ρ' h' nx' w' := fun cs => by
  obtain ⟨s1, h1, h2⟩ := on1_ok h1
  obtain ⟨s0, h0, h1⟩ := on1_ok h1
  obtain ⟨t, ht, h0⟩ := on1_ok h0
  cases h0
  obtain ⟨ρ', fr, w', v', h', nx', a1, a2, a3, a4, a5, a6⟩ := Ends.cut (s := ⟨t, [], h, GN.n⟩) hX hN hP (by rw [h1]; exact h2) hs (own w) cs _ (lone (Frame.enter P f args' .normal) cs w) ⟨_, [], w, rfl, enterF_ok ht ha, trivial, own_start hk⟩
  exact ⟨.returned v', w', fr, ⟨v', ρ', h', nx', rfl, a2, a3⟩, a4, a5, a6⟩
/-! Where a code stands in a program. -/
noncomputable def cat : List Nat → Code → Code := List.rec (motive := fun _ => Code → Code) (fun c => c) fun k _ ih c => match c with
  | .seq a b => bif Nat.beq k 0 then ih a else ih b
  | .cond _ a b => bif Nat.beq k 0 then ih a else ih b
  | .block _ b => ih b
  | .loop b => ih b
  | .scope b => ih b
  | .rangeFunc _ _ a b => bif Nat.beq k 0 then ih a else ih b
  | _ => .skip
noncomputable def bodyAt (P : Program) (f : FuncId) (path : List Nat) : Code := match (P.funcs[f]?).bind (·.body) with
  | some c => cat path c
  | none => .skip
noncomputable def opsOf : Code → Array Oper
  | .region _ ops _ => ops
  | _ => #[]
/-- What is left of a region from its operation k on. -/
noncomputable def regAt (c : Code) (k : Nat) : SI := .reg (opsOf c) ((opsOf c).toList.drop k)
end
end Ex
end Go.Proofs.YtlcdaalalihaiaaGreat

/- Running code by calculation: new blocks that a call leaves. -/
namespace Go.Proofs.YtlcdaalalihaiaaGreat
open Go Go.RowKit
set_option linter.unusedVariables false
set_option linter.unusedSectionVars false
set_option maxRecDepth 100000
namespace Ex
variable [GN]
section
variable {P : Program} {θ : Nat → Value} {ρ : Ren} {F : Fm} {w w' : World} {h : Tr SO} {nx : Nat}
theorem HR.extend (hh : HT θ F ρ h nx w) (hb : Below w.heap.size w w') : HT θ F ρ h nx w' :=
  ⟨hb.os.trans hh.os, hb.tape.trans hh.tape, hb.output.trans hh.output, Nat.le_trans hh.size hb.size, fun b hk => (hb.block b (Nat.lt_of_lt_of_le (hh.klt b hk) hh.size)).trans (hh.keep b hk), hh.klt, hh.nle, hh.inj, fun k p hk => Nat.lt_of_lt_of_le (hh.lt k p hk) hb.size, hh.new, hh.res, fun k o ho => by
    obtain ⟨p, o', a, b, c, d⟩ := hh.obj k o ho
    exact ⟨p, o', a, (hb.block _ (hh.lt _ _ a)).trans b, c, d⟩, hh.gl⟩
/-- A block that is there already gets a number. -/
theorem HR.add (hh : HT θ F ρ h nx w) {b : Nat} {o : SO} {o' : Obj} (hw : w.heap[b]? = some o') (hf : ∀ k p, ρ k = some p → p.b ≠ b) (hN : F.w.heap.size ≤ b) (ho : Ro θ (ρ.ext nx ⟨b, 0, none⟩) ⟨b, 0, none⟩ o o') (hrw : o.rw = true) :
    ρ.le (ρ.ext nx ⟨b, 0, none⟩) ∧ HT θ F (ρ.ext nx ⟨b, 0, none⟩) (h.put nx o) (nx + 1) w := by
  have hk := hh.new nx (.inl (Nat.le_refl _))
  have hl : ρ.le (ρ.ext nx ⟨b, 0, none⟩) := Ren.ext_le hk
  have get : ∀ {j : Nat} {p : Pl}, (ρ.ext nx ⟨b, 0, none⟩) j = some p → (j = nx ∧ p = ⟨b, 0, none⟩) ∨ (j ≠ nx ∧ ρ j = some p) := fun {j p} h => by
    unfold Ren.ext at h
    split at h
    · rename_i e; cases h; exact .inl ⟨e, rfl⟩
    · rename_i e; exact .inr ⟨e, h⟩
  refine ⟨hl, hh.os, hh.tape, hh.output, hh.size, hh.keep, hh.klt, hh.nle, fun j j' p p' h1 h2 h0 h3 h4 => ?_, fun j p h1 => ?_, fun j hj => ?_, fun j hj => Nat.lt_succ_of_lt (hh.res j hj), fun j u hu => ?_, fun g hg => hl _ _ (hh.gl g hg)⟩
  · rcases get h1 with ⟨e1, rfl⟩ | ⟨e1, g1⟩
    · rcases get h2 with ⟨e2, rfl⟩ | ⟨e2, g2⟩
      · rw [e1, e2]
      · exact absurd h0.symm (hf _ _ g2)
    · rcases get h2 with ⟨e2, rfl⟩ | ⟨e2, g2⟩
      · exact absurd h0 (hf _ _ g1)
      · have old : ∀ {i : Nat}, i ≠ nx → ((h.put nx o).get i).isSome = true → (h.get i).isSome = true := fun {i} hi hs => by
          obtain ⟨x, hx⟩ := Option.isSome_iff_exists.1 hs
          rcases Tr.get_put hx with ⟨e, _⟩ | ⟨_, e⟩
          · exact absurd e hi
          · rw [e]; rfl
        exact hh.inj j j' p p' g1 g2 h0 (old e1 h3) (old e2 h4)
  · rcases get h1 with ⟨_, rfl⟩ | ⟨_, g1⟩
    · exact (Array.getElem?_eq_some_iff.1 hw).1
    · exact hh.lt _ _ g1
  · have hne : j ≠ nx := by
      rcases hj with e | e
      · omega
      · have := hh.res j e; omega
    unfold Ren.ext
    rw [if_neg hne]
    exact hh.new j (hj.imp (fun e => by omega) id)
  · rcases Tr.get_put hu with ⟨rfl, rfl⟩ | ⟨_, h2⟩
    · exact ⟨_, o', Ren.ext_self, hw, ho, fun _ => ⟨Nat.le_trans hh.nle hN, fun hb => by have := hh.klt _ hb; simp only at this; omega⟩, fun e => by rw [hrw] at e; cases e⟩
    · obtain ⟨p, u', g1, g2, g3, g4⟩ := hh.obj j u h2
      exact ⟨p, u', hl _ _ g1, g2, g3.mono hl, g4⟩
theorem Ren.ext_ne {k b : Nat} {x : Pl} (hf : ∀ j p, ρ j = some p → p.b ≠ b) (hx : x.b ≠ b) : ∀ j p, (ρ.ext k x) j = some p → p.b ≠ b := fun j p h => by
  unfold Ren.ext at h
  split at h
  · cases h; exact hx
  · exact hf j p h
/-- Cells that are all alike. -/
theorem Ro.alike {T : TypeId} {b n : Nat} {z : List Value} {cur : Array Value} (hz : z.all okc = true) (hs : cur.size = n) (hc : ∀ i, i < n → cur[i]? = z[i % z.length]?) : Ro θ ρ ⟨b, 0, none⟩ (.cells ⟨.leaf, n, z⟩ T true 0) (.cells cur T (0, 0)) := by
  refine ⟨rfl, rfl, ⟨by simp only; omega, fun sz' z' e => by cases e⟩, fun i x hx => ?_⟩
  rw [CL.get_eq] at hx
  split at hx
  · rename_i hi
    have hx : z[i % z.length]? = some x := hx
    refine ⟨x, by simp only [Nat.zero_add]; rw [hc i hi, hx], okc_rv (List.all_eq_true.1 hz x (List.mem_of_getElem? hx))⟩
  · cases hx
end
end Ex
end Go.Proofs.YtlcdaalalihaiaaGreat
