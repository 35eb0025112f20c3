/- Running code by calculation: a drawn region, in the order that is drawn. -/
import Derived.Test.YtpfmhnjogfjekaaGreatExU
namespace Go.Proofs.YtpfmhnjogfjekaaGreat
open Go Go.RowKit
set_option linter.unusedVariables false
set_option linter.unusedSectionVars false
set_option linter.unusedSimpArgs false
set_option maxRecDepth 100000
namespace Ex
section
variable {P : Program} {X : FuncId → Option XK} {callF : FuncId → Array Value → Tr SO → Nat → Option (Value × Tr SO × Nat)} {n nx0 : Nat} {ops : Array Oper} {L : List Pn1} {S : Nat → DS} {e0 : Tr Value} {h0 : Tr SO} {θ : Nat → Value} {ρ ρ' : Ren} {F : Fm} {w : World}
/-- Calls are run as the machine does. -/
def CallOK (θ : Nat → Value) (P : Program) (callF : FuncId → Array Value → Tr SO → Nat → Option (Value × Tr SO × Nat)) : Prop :=
  ∀ (F : Fm) (ρ : Ren) (w : World) (h : Tr SO) (nx : Nat) (f : FuncId) (args args' : Array Value) (v : Value) (h' : Tr SO) (nx' : Nat), callF f args h nx = some (v, h', nx') → Ra θ ρ args args' → HT θ F ρ h nx w → ∀ base,
    ∃ ρ' w' v' fr, ρ.le ρ' ∧ Rv θ ρ' v v' ∧ HT θ F ρ' h' nx' w' ∧ Steps P (lone (Frame.enter P f args' .normal) base w) (lone fr base w') ∧ fr.fn = f ∧ fr.leaving P w' (.returned v')
def putV (d : Option Tmp) (tmps : Array Value) (v : Value) : Array Value := match d with
  | some d => tmps.setIfInBounds d v
  | none => tmps
theorem putV_size (d : Option Tmp) (tmps : Array Value) (v : Value) : (putV d tmps v).size = tmps.size := by
  cases d <;> simp [putV]
theorem finish_at' {fr : Frame} {i : Nat} {l : List Nat} {k' : List Item} {o : Oper} (ht : fr.todo = .inRegion ops (i :: l) :: k') (ho : ops[i]? = some o) (v : Value) : fr.finish v = { fr with tmps := putV o.dst fr.tmps v, todo := .inRegion ops l :: k' } := by
  simp only [Frame.finish, ht, ho, Option.bind_some]
  cases o.dst <;> rfl
theorem exec_op {fr : Frame} {cs : List Frame} {i : Nat} {l : List Nat} {k' : List Item} {o : Oper} (ht : fr.todo = .inRegion ops (i :: l) :: k') (ho : ops[i]? = some o) (hw : Region.wanted o (yielded ops fr.tmps) = true) (hd : ∀ c, o.op ≠ .defer c) : stepG.exec P true true fr cs none w = stepG.apply P true fr cs none (execOp fr.eval o) w := by
  have ho' : fr.oper? = some o := by simp [Frame.oper?, ht, ho]
  simp only [stepG.exec, ht, ho, Option.map_some, hw, Option.getD_some, if_true, stepG.oper, ho']
  cases hro : fr.roundOf with
  | none => rfl
  | some l =>
    cases hop : o.op with
    | defer c => exact absurd hop (hd c)
    | _ => rfl
theorem step_val {fr : Frame} {cs : List Frame} {w w' : World} {s : Sem Next} (hm : fr.mode = .run) (hx : stepG.exec P true true fr cs none w = stepG.apply P true fr cs none s w) {v : Value} (hr : s.run P w = .ok (.value v) w' ∨ (v = undef ∧ s.run P w = .ok .skip w')) : step P (lone fr cs w) = .next (lone (fr.finish v) cs w') := by
  refine step_run hm rfl ?_
  rw [hx]
  rcases hr with hr | ⟨rfl, hr⟩ <;> simp only [stepG.apply, if_true, Sem.runT_eq, hr, GStep.bare_after, GStep.bare_go]
theorem RG.al_none (R : RG P X callF n nx0 ops L S e0 h0) {i : Nat} (h : ∀ y ∈ (S (i + 1)).als, y.1 < i) : alF S i = none := by
  unfold alF
  split
  · rename_i j' so l hl
    have := h (j', so) (by rw [hl]; exact .head _)
    rw [if_neg (by omega)]
  · rfl
theorem gD_more {N i c k : Nat} {D : Nat → Prop} {u : SO} (hal : alF S i = none) (h : gD L S N nx0 (fun j => D j ∨ j = i) c k = some u) : gD L S N nx0 D c k = some u := by
  rcases gD_cases h with ⟨j, rfl, h1, h2, h3, h4⟩ | ⟨h1, h2⟩
  · refine gD_float ⟨h1, ?_, h3, h4⟩
    rcases h2 with h2 | rfl
    · exact h2
    · rw [hal] at h3; cases h3
  · exact gD_table h1 fun ⟨j, so, e, a, b, d⟩ => h2 ⟨j, so, e, a, .inl b, d⟩
/-- An operation that makes no block and has no effect. -/
theorem Inv.calm (R : RG P X callF n nx0 ops L S e0 h0) {D : Nat → Prop} {c i : Nat} {tmps : Array Value} (h : Inv θ F L S n nx0 ops.size D c ρ tmps w) (hal : alF S i = none) (hne : ¬ isE S i) (hcl : Closed L (fun j => D j ∨ j = i)) {tmps' : Array Value} (henv : Env θ ρ L S ops.size (fun j => D j ∨ j = i) tmps') (hsz : tmps'.size = n) : Inv θ F L S n nx0 ops.size (fun j => D j ∨ j = i) c ρ tmps' w := by
  have back : ∀ j so, Fl L S ops.size (fun j => D j ∨ j = i) c j so → Fl L S ops.size D c j so := fun j so ⟨h1, h2, h3, h4⟩ => ⟨h1, (by
    rcases h2 with h2 | rfl
    · exact h2
    · rw [hal] at h3; cases h3), h3, h4⟩
  refine ⟨h.cle, fun k hk he => ?_, hcl, henv, hsz, ?_, fun j so hj => h.dis j so (back j so hj), fun j so hj => h.rw_ j so (back j so hj), h.low⟩
  · rw [← h.eff k hk he]
    exact ⟨fun e => e.elim id fun e => by subst e; exact absurd he hne, .inl⟩
  · exact h.hr.less (R' := (FD F nx0 ops.size (fun j => D j ∨ j = i)).R) (fun k hk => hk.imp id fun ⟨j, a, b, d⟩ => ⟨j, a, b, fun e => d (.inl e)⟩) (fun k u hu => gD_more hal hu)
theorem RG.step1 (R : RG P X callF n nx0 ops L S e0 h0) (hok : okRecs P (S ops.size) = true) (hX : ∀ f k, X f = some k → XOK P f k) (hN : NoNG P) (hcall : CallOK θ P callF) {D : Nat → Prop} {c : Nat} {fr : Frame} (hI : Inv θ F L S n nx0 ops.size D c ρ fr.tmps w) {i : Nat} {l : List Nat} {k' : List Item} (ht : fr.todo = .inRegion ops (i :: l) :: k') (hm : fr.mode = .run) {o : Oper} (ho : ops[i]? = some o) (hn : ¬ D i) (hedge : ∀ e ∈ o.after, Region.binds .any e = true → D e.on) (cs : List Frame) :
    ∃ ρ' c' tmps' w', ρ.le ρ' ∧ Steps P (lone fr cs w) (lone { fr with tmps := tmps', todo := .inRegion ops l :: k' } cs w') ∧ Inv θ F L S n nx0 ops.size (fun j => D j ∨ j = i) c' ρ' tmps' w' := by
  have hi := (Array.getElem?_eq_some_iff.1 ho).1
  obtain ⟨x, hx⟩ := R.at_ hi
  have hxo := (R.pl.o i x hx).1
  rw [ho] at hxo
  have hxo : o = x.o := by cases hxo; rfl
  subst hxo
  have hb : ∀ j, bitB x.b j = true → D j := fun j hj => by
    obtain ⟨e, e1, e2, e3, e4⟩ := R.pl.bits i x hx j hj
    have := hedge e e1 e2
    rcases e4 with rfl | ⟨y, y1, y2⟩
    · exact this
    · exact hI.cl _ y y1 this j y2
  have hlook := R.look hI.cl hI.env hx hn hb
  have hcl : Closed L (fun j => D j ∨ j = i) := fun k y hy hk j hj => by
    rcases hk with hk | rfl
    · exact .inl (hI.cl k y hy hk j hj)
    · rw [hx] at hy; cases hy; exact .inl (hb j hj)
  have hals := R.als (Nat.le_of_lt hi)
  obtain ⟨hd, tl, v, hhs, hdid⟩ := R.did hx
  have hput : ∀ {ρ' : Ren} {v' : Value}, ρ.le ρ' → Rv θ ρ' v v' → Env θ ρ' L S ops.size (fun j => D j ∨ j = i) (putV x.o.dst fr.tmps v') := fun hl hv => R.put hI.cl hI.sz (hI.env.mono hl) hx hn hv hdid.env
  have hsz : ∀ v', (putV x.o.dst fr.tmps v').size = n := fun v' => by rw [putV_size]; exact hI.sz
  have hal0 : (S (i + 1)).als = (S i).als → alF S i = none := fun e => R.al_none fun y hy => by
    rw [e] at hy; exact (hals y.1 y.2 hy).1
  have hne0 : (S (i + 1)).effs = (S i).effs → ¬ isE S i := fun e h => by unfold isE mE at h; rw [e] at h; omega
  cases hdid with
  | off hw he h1 h2 h3 h4 h5 =>
    have hw := swanted_ok hlook hw
    refine ⟨ρ, c, putV x.o.dst fr.tmps undef, w, .refl ρ, .one ?_, hI.calm R (hal0 h5) (hne0 h4) hcl (hput (.refl ρ) Rv.undef) (hsz _)⟩
    rw [← finish_at' ht ho]
    refine step_run hm rfl ?_
    simp only [stepG.exec, ht, ho, Option.map_some, hw, Option.getD_some, Bool.false_eq_true, if_false, GStep.bare_go]
  | pure v hw hk hp he h1 h2 h3 h4 h5 =>
    have hw := swanted_ok hlook hw
    have hp2 : pop P (pickE (S i).env x.ns) (hdT S c) x.o = some v := by
      cases hr : rds x.o.op with
      | false => rw [pop_noread P _ (hdT S c) hd x.o hr]; exact hp
      | true => exact R.read hok hI.cle hI.eff hI.cl hx hn hb hr (h1.1 hr) hhs hp
    have hT : HT θ (FD F nx0 ops.size D) ρ (hdT S c) (S c).nx w := hI.hr.sub fun k u hu => gD_table hu fun ⟨j, so, e, hf⟩ => by
      subst e
      rw [hI.dis j so hf] at hu; cases hu
    obtain ⟨v', a1, a2⟩ := pop_ok hT hlook.ev hp2
    have hnd : ∀ c, x.o.op ≠ .defer c := fun c e => by rw [e] at hk; cases hk
    refine ⟨ρ, c, putV x.o.dst fr.tmps v', w, .refl ρ, .one ?_, hI.calm R (hal0 h5) (hne0 h4) hcl (hput (.refl ρ) a1) (hsz _)⟩
    rw [← finish_at' ht ho]
    exact step_val hm (exec_op ht ho hw hnd) (.inl a2)
  | alloc so sh hw hk hp he h1 h2 h3 h4 h5 =>
    have hw := swanted_ok hlook hw
    obtain ⟨b0, o', v', b1, b2, b3⟩ := aop_ok (w := w) hlook.ev hp
    have hkn : ρ (nx0 + i) = none := hI.hr.new _ (.inr (.inr ⟨i, hi, rfl, hn⟩))
    have hal : alF S i = some so := by unfold alF; rw [h5]; simp
    have hfree : (hdT S c).get (nx0 + i) = none := by
      cases hq : (hdT S c).get (nx0 + i) with
      | none => rfl
      | some u =>
        exfalso
        have : gD L S ops.size nx0 D c (nx0 + i) = some u := gD_table hq fun ⟨j, so, e, hf⟩ => by
          have : j = i := by omega
          subst this
          exact hn hf.2.1
        obtain ⟨p, _, a1, _⟩ := hI.hr.obj _ u this
        rw [hkn] at a1; cases a1
    have hlt : nx0 + i < (S c).nx := hI.hr.res _ (.inr ⟨i, hi, rfl, hn⟩)
    have hback : ∀ j so', Fl L S ops.size (fun j => D j ∨ j = i) c j so' → (j = i ∧ so' = so) ∨ (j ≠ i ∧ Fl L S ops.size D c j so') := fun j so' ⟨f1, f2, f3, f4⟩ => by
      by_cases hji : j = i
      · subst hji; rw [hal] at f3; cases f3; exact .inl ⟨rfl, rfl⟩
      · exact .inr ⟨hji, f1, f2.resolve_right hji, f3, f4⟩
    obtain ⟨g1, g2⟩ := hI.hr.allocAt (nx0 + i) hkn none (o := so) (o' := o') (b1 _ (Ren.ext_le hkn)) b0 (g' := gD L S ops.size nx0 (fun j => D j ∨ j = i) c) (fun k u hu => by
      rcases gD_cases hu with ⟨j, rfl, hf⟩ | ⟨h1, h2⟩
      · rcases hback j u hf with ⟨rfl, rfl⟩ | ⟨f1, f2⟩
        · exact .inl ⟨rfl, rfl⟩
        · exact .inr ⟨by omega, gD_float f2⟩
      · refine .inr ⟨fun e => ?_, gD_table h1 fun ⟨j, so, e, a, b, d⟩ => h2 ⟨j, so, e, a, .inl b, d⟩⟩
        rw [e, hfree] at h1; cases h1) (nx' := (S c).nx) (R' := (FD F nx0 ops.size (fun j => D j ∨ j = i)).R) (fun j hj => by
      rcases hj with hj | hj | ⟨j1, a1, a2, a3⟩
      · exact ⟨by omega, .inl hj⟩
      · have := hI.low j hj
        exact ⟨by omega, .inr (.inl hj)⟩
      · exact ⟨fun e => a3 (.inr (by omega)), .inr (.inr ⟨j1, a1, a2, fun e => a3 (.inl e)⟩)⟩) (fun j hj => by
      refine hI.hr.res j ?_
      rcases hj with hj | ⟨j1, a1, a2, a3⟩
      · exact .inl hj
      · exact .inr ⟨j1, a1, a2, fun e => a3 (.inl e)⟩)
    have hnd : ∀ c, x.o.op ≠ .defer c := fun c e => by rw [e] at hk; cases hk
    refine ⟨_, c, putV x.o.dst fr.tmps v', w.alloc o', g1, .one ?_, ⟨hI.cle, fun k hk hek => ?_, hcl, hput g1 (b2 _ _ Ren.ext_self), hsz _, g2, fun j so' hj => ?_, fun j so' hj => ?_, hI.low⟩⟩
    · rw [← finish_at' ht ho]
      exact step_val hm (exec_op ht ho hw hnd) (.inl b3)
    · rw [← hI.eff k hk hek]
      exact ⟨fun e => e.elim id fun e => by subst e; exact absurd hek (hne0 h4), .inl⟩
    · rcases hback j so' hj with ⟨rfl, rfl⟩ | ⟨f1, f2⟩
      · exact hfree
      · exact hI.dis j so' f2
    · rcases hback j so' hj with ⟨rfl, rfl⟩ | ⟨f1, f2⟩
      · exact b0
      · exact hI.rw_ j so' f2
  | eff v h' r hw hk hc hp hdf he h1 h2 h4 h5 =>
    have hw := swanted_ok hlook hw
    have hE : isE S i := by unfold isE mE; rw [h4]; simp
    have heff : ∀ k, k < ops.size → isE S k → (D k ↔ k < i) := fun k hk hek => ⟨fun hDk => by
      rcases Nat.lt_trichotomy k i with h | h | h
      · exact h
      · subst h; exact absurd hDk hn
      · obtain ⟨y, hy⟩ := R.at_ hk
        exact absurd (R.chain hI.cl k y hy hek (hI.cl k y hy hDk) i h hE) hn, fun h => R.chain hI.cl i x hx hE hb k h hek⟩
    have hI' := hI.shift R (Nat.le_of_lt hi) heff
    have hhd : hdT S i = hd := by unfold hdT; rw [hhs]; rfl
    have hal : alF S i = none := R.al_none fun y hy => by
      rw [h5, List.mem_filter] at hy
      exact (hals y.1 y.2 hy.1).1
    have hnd : ∀ c, x.o.op ≠ .defer c := fun c e => by
      unfold eop at hp
      rw [e] at hp
      have hp : edeferC (pickE (S i).env x.ns) c = some r := hp
      unfold edeferC at hp
      split at hp
      · obtain ⟨v1, vs, b1, b2, hp⟩ := on2_ok hp
        unfold edefer at hp
        split at hp
        · cases hp; cases hdf
        · cases hp
      · cases hp
    let Q : Nat → Prop := fun k => ∃ j so, k = nx0 + j ∧ Fl L S ops.size D i j so ∧ bitB x.b j = false
    have hnoF : ∀ {k : Nat} {u : SO}, hd.get k = some u → ¬ ∃ j so, k = nx0 + j ∧ Fl L S ops.size D i j so := fun {k u} hu ⟨j, so, e, hf⟩ => by
      have := hI'.dis j so hf
      rw [hhd, ← e, hu] at this; cases this
    have hframe := hI'.hr.frame (T := putAls nx0 x.b hd (S i).als) Q (fun k u hu => by
      rcases putAls_get hu with ⟨j, a1, a2, rfl⟩ | hu
      · obtain ⟨c1, c2, c3⟩ := hals j u a1
        exact ⟨gD_float ⟨by omega, hb j a2, c2, c3⟩, fun ⟨j', so', e, hf, hbit⟩ => by
          have : j' = j := by omega
          subst this
          rw [a2] at hbit; cases hbit⟩
      · exact ⟨gD_table (by rw [hhd]; exact hu) (hnoF hu), fun ⟨j, so, e, hf, _⟩ => hnoF hu ⟨j, so, e, hf⟩⟩)
    have hsn := eop_ok hframe hlook.ev hX hN hp
    have hrun : ∃ ρ' v' w', ρ.le ρ' ∧ Rv θ ρ' v v' ∧ HT θ ((FD F nx0 ops.size D).hold w ρ (gD L S ops.size nx0 D i) Q) ρ' h' (S (i + 1)).nx w' ∧ Steps P (lone fr cs w) (lone (fr.finish v') cs w') := by
      unfold dEff at hdf
      split at hdf
      · cases hdf
        obtain ⟨ρ', v', w', a1, a2, a3, a4⟩ := hsn
        exact ⟨ρ', v', w', a1, a2, a3, .one (step_val hm (exec_op ht ho hw hnd) a4)⟩
      · rename_i f args
        obtain ⟨args', a1, a2⟩ := hsn
        obtain ⟨ρ', w', v', fr2, b1, b2, b3, b4, b5, b6⟩ := hcall _ _ _ _ _ _ _ args' _ _ _ hdf a1 hframe (fr :: cs)
        refine ⟨ρ', v', w', b1, b2, b3, .trans (.head (m₁ := lone (Frame.enter P f args' .normal) (fr :: cs) w) ?_ b4) (.one (step_leave_returned b6))⟩
        refine step_run hm rfl ?_
        rw [exec_op ht ho hw hnd]
        simp only [stepG.apply, if_true, Sem.runT_eq, a2, GStep.bare_after, GStep.bare_go]
        split
        · rename_i hq; rw [ht] at hq; cases hq
        · rfl
      · cases hdf
    obtain ⟨ρ', v', w', hl, hv, hh', hst⟩ := hrun
    have hhd' : hdT S (i + 1) = h' := by unfold hdT; rw [h2]; rfl
    have hbackE : ∀ j so, Fl L S ops.size (fun j => D j ∨ j = i) (i + 1) j so → Fl L S ops.size D i j so ∧ bitB x.b j = false := fun j so ⟨f1, f2, f3, f4⟩ => by
      have hDj : D j := by
        rcases f2 with f2 | rfl
        · exact f2
        · rw [hal] at f3; cases f3
      refine ⟨⟨f1, hDj, f3, fun ⟨k, y, q1, q2, q3, q4⟩ => f4 ⟨k, y, by omega, q2, q3, q4⟩⟩, ?_⟩
      cases hbj : bitB x.b j with
      | false => rfl
      | true => exact absurd ⟨i, x, Nat.lt_succ_self i, hx, hE, hbj⟩ f4
    obtain ⟨u1, u2⟩ := hI'.hr.unframe (Q := Q) (fun k u ⟨j, so, e, hf, _⟩ hgk => by
      subst e
      rw [gD_float hf] at hgk; cases hgk
      exact hI'.rw_ j _ hf) hl hh' (g' := gD L S ops.size nx0 (fun j => D j ∨ j = i) (i + 1)) (R' := (FD F nx0 ops.size (fun j => D j ∨ j = i)).R) (fun k u hu => by
      rcases gD_cases hu with ⟨j, rfl, hf⟩ | ⟨h1, _⟩
      · obtain ⟨f1, f2⟩ := hbackE j u hf
        exact .inl ⟨⟨j, u, rfl, f1, f2⟩, gD_float f1⟩
      · rw [hhd'] at h1; exact .inr h1) (fun k hk => hk.imp id fun ⟨j, a, b, d⟩ => ⟨j, a, b, fun e => d (.inl e)⟩)
    refine ⟨ρ', i + 1, putV x.o.dst fr.tmps v', w', hl, by rw [← finish_at' ht ho]; exact hst, ⟨hi, fun k hk hek => ?_, hcl, hput hl hv, hsz _, u1, fun j so hj => ?_, fun j so hj => ?_, hI.low⟩⟩
    · constructor
      · rintro (h | rfl)
        · have := (heff k hk hek).1 h; omega
        · omega
      · intro h
        rcases Nat.lt_or_eq_of_le (Nat.le_of_lt_succ h) with h | rfl
        · exact .inl ((heff k hk hek).2 h)
        · exact .inr rfl
    · obtain ⟨f1, f2⟩ := hbackE j so hj
      rw [hhd']
      exact u2 _ so ⟨j, so, rfl, f1, f2⟩ (gD_float f1)
    · exact hI'.rw_ j so (hbackE j so hj).1
/-- .. and all of it. -/
theorem RG.steps (R : RG P X callF n nx0 ops L S e0 h0) (hok : okRecs P (S ops.size) = true) (hX : ∀ f k, X f = some k → XOK P f k) (hN : NoNG P) (hcall : CallOK θ P callF) {D : Nat → Prop} {l : List Nat} (hs : Sch ops D l) : ∀ {c : Nat} {ρ : Ren} {w : World} {fr : Frame} (hI : Inv θ F L S n nx0 ops.size D c ρ fr.tmps w) {k' : List Item} (ht : fr.todo = .inRegion ops l :: k') (hm : fr.mode = .run) (cs : List Frame),
    ∃ ρ' c' tmps' w' D', ρ.le ρ' ∧ Steps P (lone fr cs w) (lone { fr with tmps := tmps', todo := k' } cs w') ∧ Inv θ F L S n nx0 ops.size D' c' ρ' tmps' w' ∧ ∀ i, i < ops.size → D' i := by
  induction hs with
  | nil h =>
    intro c ρ w fr hI k' ht hm cs
    refine ⟨ρ, c, fr.tmps, w, _, .refl ρ, .one (step_run hm rfl ?_), hI, h⟩
    simp only [stepG.exec, ht, GStep.bare_go]
  | cons ho hn he hs ih =>
    intro c ρ w fr hI k' ht hm cs
    obtain ⟨ρ1, c1, tmps1, w1, a1, a2, a3⟩ := R.step1 hok hX hN hcall hI ht hm ho hn he cs
    obtain ⟨ρ2, c2, tmps2, w2, D2, b1, b2, b3, b4⟩ := ih (fr := { fr with tmps := tmps1, todo := _ }) a3 rfl hm cs
    exact ⟨ρ2, c2, tmps2, w2, D2, a1.trans b1, a2.trans b2, b3, b4⟩
end
end Ex
end Go.Proofs.YtpfmhnjogfjekaaGreat
