/- Running code by calculation: whole runs. -/
import Derived.Test.YtpfmhnjogfjekaaGreatExV
namespace Go.Proofs.YtpfmhnjogfjekaaGreat
open Go Go.RowKit
set_option linter.unusedVariables false
set_option linter.unusedSectionVars false
set_option linter.unusedSimpArgs false
set_option maxRecDepth 100000
namespace Ex
section
variable {P : Program} {X : FuncId → Option XK} {θ : Nat → Value}
theorem HR.order {F : Fm} {ρ : Ren} {g : Nat → Option SO} {nx : Nat} {w : World} (hh : HR θ F ρ g nx w) (q : Question) : ∃ t w1, (choose q).run P w = .ok t w1 ∧ HR θ F ρ g nx w1 := by
  rw [run_choose_drew]
  split
  · exact ⟨_, _, rfl, hh⟩
  · exact ⟨_, _, rfl, hh.drew⟩
theorem sdraw_ok (hX : ∀ f k, X f = some k → XOK P f k) (hN : NoNG P) (hP : P.follows .mixedOrders = true) {callF : FuncId → Array Value → Tr SO → Nat → Option (Value × Tr SO × Nat)} (hcall : CallOK θ P callF) : DrOK θ P (sdraw P X callF) := by
  intro F ρ w h nx i e fr cs id ops k' e' h' nx' hs hh ht hm hn he
  unfold sdraw at hs
  obtain ⟨L, hL, hs⟩ := on1_ok hs
  obtain ⟨d, hd, hs⟩ := on1_ok hs
  obtain ⟨hpl, hlen⟩ := plan_ok hL
  obtain ⟨S, s0, sN, sst⟩ := dgo_states hd
  have R : RG P X callF i.n nx ops L S e h := ⟨hpl, hlen, s0, fun j x hx => by have := sst j x hx; rwa [Nat.zero_add] at this⟩
  rw [Nat.zero_add, hlen] at sN
  unfold dfin at hs
  cases hok : okRecs P d with
  | false => rw [hok] at hs; cases hs
  | true =>
    rw [hok] at hs
    have hs : dend nx d d.hs = some (e', h', nx') := hs
    have hok : okRecs P (S ops.size) = true := by rw [sN]; exact hok
    obtain ⟨t, w1, hc, hh1⟩ := hh.order (P := P) (.order fr.fn id)
    have hnoF : ∀ c j so, ¬ Fl L S ops.size (fun _ => False) c j so := fun c j so hf => hf.2.1
    have hT0 : hdT S 0 = h := by unfold hdT; rw [s0]; rfl
    have hg0 : ∀ k u, gD L S ops.size nx (fun _ => False) 0 k = some u → h.get k = some u := fun k u hu => by
      rcases gD_cases hu with ⟨j, _, hf⟩ | ⟨h1, _⟩
      · exact (hnoF _ _ _ hf).elim
      · rw [hT0] at h1; exact h1
    have h1 := hh1.sub hg0
    have hI : Inv θ F L S i.n nx ops.size (fun _ => False) 0 ρ fr.tmps w1 := by
      refine ⟨Nat.zero_le _, fun k _ _ => ⟨False.elim, fun h => by omega⟩, fun k x _ hk => hk.elim, fun t k v hk a1 a2 hv => ?_, hn, ?_, fun j so hj => (hnoF _ _ _ hj).elim, fun j so hj => (hnoF _ _ _ hj).elim, hh.res⟩
      · have := R.same (Nat.zero_le k) hk (fun j _ hj hd => a1 j hj hd) hv
        rw [s0] at this
        exact he t v this
      · rw [s0]
        show HR θ _ ρ _ (nx + ops.size) w1
        exact ⟨h1.os, h1.tape, h1.output, h1.size, h1.keep, h1.klt, h1.nle, h1.inj, h1.lt, fun k hk => h1.new k (by
          rcases hk with hk | hk | ⟨j, _, e1, _⟩
          · exact .inl (by omega)
          · exact .inr hk
          · exact .inl (by omega)), fun k hk => by
          rcases hk with hk | ⟨j, e0, e1, _⟩
          · have := h1.res k hk; omega
          · omega, h1.obj⟩
    have hsch := sch_schedule hpl hlen t
    obtain ⟨ρ', c', tmps', w', D', a1, a2, a3, a4⟩ := R.steps hok hX hN hcall hsch (fr := { fr with todo := .inRegion ops (Region.schedule true ops t) :: k' }) hI rfl hm cs
    have a5 := a3.shift R (Nat.le_refl _) (fun k hk _ => ⟨fun _ => hk, fun _ => a4 k hk⟩)
    obtain ⟨tl, htl⟩ := R.hs_cons (Nat.le_refl ops.size)
    rw [← sN, htl] at hs
    cases hs
    refine ⟨ρ', tmps', w', a1, .head (m₁ := lone { fr with todo := .inRegion ops (Region.schedule true ops t) :: k' } cs w1) (step_run hm rfl ?_) a2, a3.sz, fun t v hv => ?_, ?_⟩
    · simp only [stepG.exec, ht, Bool.not_true, Bool.false_eq_true, if_false, hc, hP, GStep.bare_go]
    · exact a3.env t ops.size v (Nat.le_refl _) (fun j hj _ => a4 j hj) (fun j hj ⟨x, hx, _⟩ => by
        have := R.lt hx; omega) hv
    · exact a5.hr.less (R' := F.R) (fun k hk => .inl hk) (fun k u hu => by
        rcases allA_get hu with ⟨j, b1, rfl⟩ | hu
        · obtain ⟨c1, c2, c3⟩ := R.als (Nat.le_refl _) j u b1
          exact gD_float ⟨c1, a4 j c1, c2, c3⟩
        · exact gD_table hu fun ⟨j, so, e1, hf⟩ => by
            subst e1
            rw [a5.dis j so hf] at hu; cases hu)
/-- A run that comes to its end. -/
def RunOK (θ : Nat → Value) (P : Program) (go : SM → Out) : Prop :=
  ∀ (F : Fm) (base : List Frame) (ρ : Ren) (s : SM) (m : Machine) (g : FuncId) (v : Value) (h' : Tr SO) (nx' : Nat), go s = .done g v h' nx' → MR θ F base ρ s m →
    ∃ ρ' fr w' v', ρ.le ρ' ∧ Rv θ ρ' v v' ∧ HT θ F ρ' h' nx' w' ∧ Steps P m (lone fr base w') ∧ fr.fn = g ∧ fr.leaving P w' (.returned v')
theorem srunF_ok {go : SM → Out} (hg : RunOK θ P go) : CallOK θ P (srunF P go) := by
  intro F ρ w h nx f args args' v h' nx' hs ha hh base
  unfold srunF at hs
  obtain ⟨t, ht, hs⟩ := on1_ok hs
  unfold outOf at hs
  split at hs
  · rename_i g v0 h0 nx0 hgo
    cases hb : Nat.beq g f with
    | false => rw [hb] at hs; cases hs
    | true =>
      rw [hb] at hs
      cases hs
      obtain rfl := Nat.eq_of_beq_eq_true hb
      obtain ⟨ρ', fr, w', v', a1, a2, a3, a4, a5, a6⟩ := hg F base ρ _ (lone (Frame.enter P g args' .normal) base w) _ _ _ _ hgo ⟨_, [], w, rfl, enterF_ok ht ha, trivial, hh⟩
      exact ⟨ρ', w', v', fr, a1, a2, a3, a4, a5, a6⟩
  · cases hs
theorem sfinal_ok {F : Fm} {base : List Frame} {ρ : Ren} {s : SM} {m : Machine} {v : Value} (hs : sfinal P s = some v) (hm : MR θ F base ρ s m) : ∃ fr w' v', Rv θ ρ v v' ∧ HT θ F ρ s.h s.nx w' ∧ m = lone fr base w' ∧ fr.fn = s.top.i.fn ∧ fr.leaving P w' (.returned v') := by
  obtain ⟨fr, cs', w, rfl, hf, hc, hh⟩ := hm.out
  unfold sfinal at hs
  split at hs
  · rename_i f n r e td h nx
    unfold sfinal2 at hs
    obtain ⟨fn, hfn, hs⟩ := on1_ok hs
    obtain ⟨vs, hvs, hs⟩ := on1_ok hs
    cases hs
    obtain ⟨v', h1, h2⟩ := sresults_ok hh hf.env hvs
    have hcs : cs' = [] := by
      cases cs' with
      | nil => rfl
      | cons a l => exact hc.elim
    subst hcs
    have hd : fr.defers = [] := by
      have := hf.defers
      cases hq : fr.defers with
      | nil => rfl
      | cons a l => rw [hq] at this; exact this.elim
    exact ⟨fr, w, v', h1, hh, rfl, hf.fn, hf.mode, hd, hf.kind, fn, by rw [hf.fn]; exact hfn, h2⟩
  · cases hs
theorem srun_ok (hX : ∀ f k, X f = some k → XOK P f k) (hN : NoNG P) (hP : P.follows .mixedOrders = true) : ∀ n, RunOK θ P (srun P X n)
  | 0 => fun F base ρ s m g v h' nx' hs _ => by cases hs
  | n + 1 => by
    intro F base ρ s m g v h' nx' hs hm
    have ih := srun_ok hX hN hP n
    have hs : srunK P (srun P X n) s (sstep P X (sdraw P X (srunF P (srun P X n))) s) = .done g v h' nx' := hs
    cases hst : sstep P X (sdraw P X (srunF P (srun P X n))) s with
    | some s' =>
      rw [hst] at hs
      obtain ⟨ρ1, m1, b1, b2, b3⟩ := sstep_ok hX hN (sdraw_ok hX hN hP (srunF_ok ih)) hst hm
      obtain ⟨ρ', fr, w', v', a1, a2, a3, a4, a5⟩ := ih F base ρ1 s' m1 g v h' nx' hs b3
      exact ⟨ρ', fr, w', v', b1.trans a1, a2, a3, b2.trans a4, a5⟩
    | none =>
      rw [hst] at hs
      have hs : srunL P s (sfinal P s) = .done g v h' nx' := hs
      cases hfi : sfinal P s with
      | none => rw [hfi] at hs; cases hs
      | some u =>
        rw [hfi] at hs
        cases hs
        obtain ⟨fr, w', v', a1, a2, rfl, a4, a5⟩ := sfinal_ok hfi hm
        exact ⟨ρ, fr, w', v', .refl ρ, a1, a2, .refl P _, a4, a5⟩
/-- The world's own blocks stay. -/
def own (w : World) : Fm := ⟨w, w.heap.size, fun b => b < w.heap.size, fun _ => False⟩
theorem own_start (w : World) : HT θ (own w) (fun _ => none) .leaf 0 w :=
  ⟨rfl, rfl, rfl, Nat.le_refl _, fun _ _ => rfl, fun _ h => h, Nat.le_refl _, fun k k' p p' h => by (cases h), fun k p h => by (cases h), fun _ _ => rfl, fun _ h => h.elim, fun k o h => by cases h⟩
/-- A call that is run to its end here is run so by the machine. -/
theorem scall_calls (hX : ∀ f k, X f = some k → XOK P f k) (hN : NoNG P) (hP : P.follows .mixedOrders = true) {n : Nat} {f : FuncId} {args args' : Array Value} {v : Value} {h' : Tr SO} {nx' : Nat} (hs : scall P X n f args = some (v, h', nx')) (ha : Ra θ (fun _ => none) args args') (w : World) :
    Calls P f args' w fun e w' => ∃ v' ρ', e = .returned v' ∧ Rv θ ρ' v v' ∧ HT θ (own w) ρ' h' nx' w' := fun cs => by
  obtain ⟨ρ', w', v', fr, a1, a2, a3, a4, a5, a6⟩ := srunF_ok (srun_ok hX hN hP n) (own w) _ w .leaf 0 f args args' v h' nx' hs ha (own_start w) cs
  exact ⟨.returned v', w', fr, ⟨v', ρ', rfl, a2, a3⟩, a4, a5, a6⟩
end
end Ex
end Go.Proofs.YtpfmhnjogfjekaaGreat
