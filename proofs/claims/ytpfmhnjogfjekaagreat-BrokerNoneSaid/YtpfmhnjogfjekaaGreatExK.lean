/- Running code by calculation: frames, and a machine's step. -/
import Derived.Test.YtpfmhnjogfjekaaGreatExJ
namespace Go.Proofs.YtpfmhnjogfjekaaGreat
open Go Go.RowKit
set_option linter.unusedVariables false
set_option linter.unusedSectionVars false
set_option linter.unusedSimpArgs false
set_option maxRecDepth 100000
namespace Ex
structure SI0 where
  fn : FuncId
  n : Nat
  dfr : Bool
  round : Option Nat
inductive SI where
  | code (c : Code)
  | blk (id : Nat)
  | lp (b : Code)
  | sc (b : Code)
  | reg (ops : Array Oper) (l : List Oper)
  | rf (l : Nat)
  | erf (l : Nat)
  | br
structure SF where
  i : SI0
  env : Tr Value
  todo : List SI
  defers : List Deferred
  ret : Bool
structure SM where
  top : SF
  cs : List SF
  h : Tr SO
  nx : Nat
inductive RI (ρ : Ren) : SI → Item → Prop where
  | code (c : Code) : RI ρ (.code c) (.code c)
  | blk (id : Nat) : RI ρ (.blk id) (.inBlock id)
  | lp (b : Code) : RI ρ (.lp b) (.inLoop b)
  | sc (b : Code) : RI ρ (.sc b) (.inScope b)
  | reg (ops : Array Oper) (i : Nat) {l : List Oper} {m : List Nat} (hl : l = ops.toList.drop i) (hm : m = (List.range ops.size).drop i) : RI ρ (.reg ops l) (.inRegion ops m)
  | rf {k : Nat} {p : Pl} (h : ρ k = some p) : RI ρ (.rf k) (.inRangeFunc p.b)
  | erf {k : Nat} {p : Pl} (h : ρ k = some p) : RI ρ (.erf k) (.endRangeFunc p.b)
  | br : RI ρ .br .beginRound
def RIs (ρ : Ren) : List SI → List Item → Prop
  | [], [] => True
  | i :: l, i' :: l' => RI ρ i i' ∧ RIs ρ l l'
  | _, _ => False
noncomputable def sexitTo (id : Nat) : List SI → Option (List SI) := List.rec (motive := fun _ => Option (List SI)) none fun i l ih => match i with
  | .blk id' => bif Nat.beq id' id then some l else ih
  | _ => ih
section
variable {θ : Nat → Value} {ρ ρ' : Ren} {P : Program} {F : Fm} {w : World} {h : Tr SO} {nx : Nat}
theorem RI.mono (hl : ρ.le ρ') {i : SI} {i' : Item} (h : RI ρ i i') : RI ρ' i i' := by
  cases h with
  | code c => exact .code c
  | blk id => exact .blk id
  | lp b => exact .lp b
  | sc b => exact .sc b
  | reg o i h1 h2 => exact .reg o i h1 h2
  | rf h => exact .rf (hl _ _ h)
  | erf h => exact .erf (hl _ _ h)
  | br => exact .br
theorem RIs.mono (hl : ρ.le ρ') : ∀ {l : List SI} {l' : List Item}, RIs ρ l l' → RIs ρ' l l'
  | [], [], _ => trivial
  | _ :: _, _ :: _, ⟨h1, h2⟩ => ⟨h1.mono hl, h2.mono hl⟩
  | [], _ :: _, h => h.elim
  | _ :: _, [], h => h.elim
theorem RIs.cons {i : SI} {l : List SI} {t : List Item} (h : RIs ρ (i :: l) t) : ∃ i' l', t = i' :: l' ∧ RI ρ i i' ∧ RIs ρ l l' := by
  cases t with
  | nil => exact h.elim
  | cons i' l' => exact ⟨i', l', rfl, h.1, h.2⟩
theorem RIs.nil {t : List Item} (h : RIs ρ [] t) : t = [] := by
  cases t with
  | nil => rfl
  | cons => exact h.elim
theorem RIs.exitTo (id : Nat) : ∀ {l : List SI} {l' : List Item}, RIs ρ l l' → (∀ k, sexitTo id l = some k → ∃ k', Go.exitTo id l' = some k' ∧ RIs ρ k k') ∧ (sexitTo id l = none → Go.exitTo id l' = none)
  | [], [], _ => ⟨(fun k h => by cases h), fun _ => rfl⟩
  | [], _ :: _, h => h.elim
  | _ :: _, [], h => h.elim
  | i :: l, i' :: l', ⟨h1, h2⟩ => by
    have ih := RIs.exitTo id h2
    cases h1 with
    | blk j =>
      have e1 : sexitTo id (.blk j :: l) = bif Nat.beq j id then some l else sexitTo id l := rfl
      rw [e1]
      simp only [Go.exitTo]
      cases hb : Nat.beq j id with
      | true =>
        have := Nat.eq_of_beq_eq_true hb
        subst this
        simp only [beq_self_eq_true, if_true, cond_true]
        exact ⟨(fun k hk => by cases hk; exact ⟨l', rfl, h2⟩), (fun hk => by cases hk)⟩
      | false =>
        have : (j == id) = false := beq_eq_false_iff_ne.2 fun e => by subst e; rw [Nat.beq_refl] at hb; cases hb
        simp only [this, cond_false]
        exact ih
    | _ => exact ih
/-- What a frame of ours says of a frame. -/
structure FrR (θ : Nat → Value) (ρ : Ren) (s : SF) (fr : Frame) : Prop where
  fn : fr.fn = s.i.fn
  n : fr.tmps.size = s.i.n
  env : REnv θ ρ s.env fr.tmps
  todo : (s.ret = true ∧ s.todo = []) ∨ RIs ρ s.todo fr.todo
  defers : RDefs θ ρ s.defers fr.defers
  mode : fr.mode = bif s.ret then .returning else .run
  kind : fr.kind = bif s.i.dfr then .deferred else .normal
  round : match s.i.round with
    | none => fr.roundOf = none
    | some l => ∃ p, ρ l = some p ∧ fr.roundOf = some p.b
theorem FrR.mono (hl : ρ.le ρ') {s : SF} {fr : Frame} (h : FrR θ ρ s fr) : FrR θ ρ' s fr := ⟨h.fn, h.n, h.env.mono hl, h.todo.imp id (·.mono hl), h.defers.mono hl, h.mode, h.kind, by
  have := h.round
  split at this
  · exact this
  · obtain ⟨p, h1, h2⟩ := this; exact ⟨p, hl _ _ h1, h2⟩⟩
def FrRs (θ : Nat → Value) (ρ : Ren) : List SF → List Frame → Prop
  | [], [] => True
  | s :: l, fr :: l' => FrR θ ρ s fr ∧ FrRs θ ρ l l'
  | _, _ => False
theorem FrRs.mono (hl : ρ.le ρ') : ∀ {l : List SF} {l' : List Frame}, FrRs θ ρ l l' → FrRs θ ρ' l l'
  | [], [], _ => trivial
  | _ :: _, _ :: _, ⟨h1, h2⟩ => ⟨h1.mono hl, h2.mono hl⟩
  | [], _ :: _, h => h.elim
  | _ :: _, [], h => h.elim
theorem FrRs.cons {s : SF} {l : List SF} {t : List Frame} (h : FrRs θ ρ (s :: l) t) : ∃ fr l', t = fr :: l' ∧ FrR θ ρ s fr ∧ FrRs θ ρ l l' := by
  cases t with
  | nil => exact h.elim
  | cons i' l' => exact ⟨i', l', rfl, h.1, h.2⟩
theorem FrR.td {i : SI0} {e : Tr Value} {todo : List SI} {ds : List Deferred} {fr : Frame} (h : FrR θ ρ ⟨i, e, todo, ds, false⟩ fr) : RIs ρ todo fr.todo := by
  rcases h.todo with ⟨h1, _⟩ | h1
  · cases h1
  · exact h1
/-- .. a machine of a machine. -/
structure MR (θ : Nat → Value) (F : Fm) (base : List Frame) (ρ : Ren) (s : SM) (m : Machine) : Prop where
  out : ∃ fr cs w, m = lone fr (cs ++ base) w ∧ FrR θ ρ s.top fr ∧ FrRs θ ρ s.cs cs ∧ HT θ F ρ s.h s.nx w
/-! ### Steps of the machine itself -/
theorem step_run {fr : Frame} {cs : List Frame} {w : World} {r : GStep} (hm : fr.mode = .run) (hr : (stepG.exec P true true fr cs none w).bare = r) {fr' : Frame} {cs' : List Frame} {w' : World} (h : r = .go { frame := fr', callers := cs', status := .running, dying := none } w') : step P (lone fr cs w) = .next (lone fr' cs' w') := by
  refine step_lone_go ?_
  rw [← h, ← hr]
  simp [stepG, hm]
theorem step_ret' {fr : Frame} {cs : List Frame} {w : World} (hm : fr.mode = .returning) {fr' : Frame} {cs' : List Frame} {w' : World} (h : (unwind P true fr cs none w).bare = .go { frame := fr', callers := cs', status := .running, dying := none } w') : step P (lone fr cs w) = .next (lone fr' cs' w') := by
  refine step_lone_go ?_
  rw [← h]
  simp [stepG, hm]
/-! ### Values into slots -/
noncomputable def sput (n : Nat) (e : Tr Value) (v : Value) (d : Option Tmp) : Option (Tr Value) := match d with
  | some d => bif Nat.blt d n then some (e.put d v) else none
  | none => some e
noncomputable def sfinO (i : SI0) (e : Tr Value) (ds : List Deferred) (ret : Bool) (v : Value) (k : List SI) (ops : Array Oper) (l : List Oper) : Option SF := match l with
  | o :: r => on1 (sput i.n e v o.dst) fun e' => some ⟨i, e', .reg ops r :: k, ds, ret⟩
  | [] => none
noncomputable def sfinI (i : SI0) (e : Tr Value) (ds : List Deferred) (ret : Bool) (v : Value) (k : List SI) (it : SI) : Option SF := match it with
  | .reg ops l => sfinO i e ds ret v k ops l
  | .rf l => some ⟨i, e, .erf l :: k, ds, ret⟩
  | .br => some ⟨i, e, k, ds, ret⟩
  | _ => none
noncomputable def sfinT (i : SI0) (e : Tr Value) (ds : List Deferred) (ret : Bool) (v : Value) (todo : List SI) : Option SF := match todo with
  | it :: k => sfinI i e ds ret v k it
  | [] => none
noncomputable def sfin (f : SF) (v : Value) : Option SF := match f with
  | ⟨i, e, todo, ds, ret⟩ => sfinT i e ds ret v todo
theorem drop_cons {α : Type} {l : List α} {i : Nat} {a : α} {r : List α} (h : a :: r = l.drop i) : l[i]? = some a ∧ r = l.drop (i + 1) := by
  have h1 : (l.drop i)[0]? = some a := by rw [← h]; rfl
  rw [List.getElem?_drop, Nat.add_zero] at h1
  refine ⟨h1, ?_⟩
  have h2 : (l.drop i).drop 1 = r := by rw [← h]; rfl
  rw [← h2, List.drop_drop]
theorem range_drop {n i : Nat} (h : i < n) : (List.range n).drop i = i :: (List.range n).drop (i + 1) := by
  have h1 : i < (List.range n).length := by simpa using h
  rw [List.drop_eq_getElem_cons h1]; simp
theorem reg_cons {ops : Array Oper} {i : Nat} {o : Oper} {r : List Oper} {m : List Nat} (hl : o :: r = ops.toList.drop i) (hm : m = (List.range ops.size).drop i) : ops[i]? = some o ∧ m = i :: (List.range ops.size).drop (i + 1) ∧ r = ops.toList.drop (i + 1) := by
  obtain ⟨h1, h2⟩ := drop_cons hl
  rw [Array.getElem?_toList] at h1
  have hlt := (Array.getElem?_eq_some_iff.1 h1).1
  exact ⟨h1, by rw [hm, range_drop hlt], h2⟩
theorem sfin_ok {s s' : SF} {v v' : Value} (hs : sfin s v = some s') {fr : Frame} (hf : FrR θ ρ s fr) (hv : Rv θ ρ v v') : FrR θ ρ s' (fr.finish v') := by
  obtain ⟨fn, tmps, todo, defers, mode, kind, ro⟩ := fr
  obtain ⟨si, e, st, ds, ret⟩ := s
  unfold sfin sfinT at hs
  dsimp only at hs
  split at hs
  · rename_i it k
    have h1 : RIs ρ (it :: k) todo := by
      rcases hf.todo with ⟨_, h1⟩ | h1
      · cases h1
      · exact h1
    obtain ⟨i', l', e1, h2, h3⟩ := h1.cons
    subst e1
    unfold sfinI at hs
    split at hs
    · rename_i ops l
      cases h2 with
      | reg _ i hl hm =>
        unfold sfinO at hs
        split at hs
        · rename_i o r
          obtain ⟨e2, hp, hs⟩ := on1_ok hs
          cases hs
          obtain ⟨g1, g2, g3⟩ := reg_cons hl hm
          subst g2
          unfold sput at hp
          cases hd : o.dst with
          | none =>
            rw [hd] at hp; cases hp
            simp only [Frame.finish, g1, Option.bind_some, hd]
            exact ⟨hf.fn, hf.n, hf.env, .inr ⟨.reg ops (i + 1) g3 rfl, h3⟩, hf.defers, hf.mode, hf.kind, hf.round⟩
          | some d =>
            rw [hd] at hp
            cases hb : Nat.blt d si.n with
            | false => simp only [hb] at hp; cases hp
            | true =>
              simp only [hb, cond_true] at hp
              cases hp
              have hlt : d < si.n := by simpa [Nat.blt_eq] using hb
              simp only [Frame.finish, g1, Option.bind_some, hd]
              have hn : tmps.size = si.n := hf.n
              exact ⟨hf.fn, by simpa using hn, hf.env.put (by rw [hn]; exact hlt) hv, .inr ⟨.reg ops (i + 1) g3 rfl, h3⟩, hf.defers, hf.mode, hf.kind, hf.round⟩
        · cases hs
    · cases hs
      cases h2 with
      | rf hp => exact ⟨hf.fn, hf.n, hf.env, .inr ⟨.erf hp, h3⟩, hf.defers, hf.mode, hf.kind, hf.round⟩
    · cases hs
      cases h2
      exact ⟨hf.fn, hf.n, hf.env, .inr h3, hf.defers, hf.mode, hf.kind, hf.round⟩
    · cases hs
  · cases hs
/-! ### Results -/
noncomputable def sres1 (P : Program) (e : Tr Value) (h : Tr SO) : ResultVar → Option Value
  | .tmp t => e.get t
  | .cell a t => on1 (e.get a) (rload P h t)
noncomputable def sres (P : Program) (e : Tr Value) (h : Tr SO) : List ResultVar → Option (List Value) := List.rec (motive := fun _ => Option (List Value)) (some []) fun x _ ih => on2 (sres1 P e h x) ih consO
noncomputable def sresult : List Value → Value
  | [v] => v
  | vs => .tuple vs.toArray
def resOf' (tmps : Array Value) : ResultVar → Sem Value
  | .tmp t => pure (tmps.getD t undef)
  | .cell p t => do loadVar t (← asAddr (tmps.getD p undef))
theorem results_resOf' (fn : Func) (tmps : Array Value) : results fn tmps = (do let vs ← fn.results.mapM (resOf' tmps); pure (if h : vs.size = 1 then vs[0] else .tuple vs)) := by
  unfold results
  congr 1
theorem getD_of {tmps : Array Value} {t : Nat} {v : Value} (h : tmps[t]? = some v) : tmps.getD t undef = v := by
  rw [Array.getD_eq_getD_getElem?, h]; rfl
theorem sres_ok (hh : HT θ F ρ h nx w) {e : Tr Value} {tmps : Array Value} (he : REnv θ ρ e tmps) : ∀ {l : List ResultVar} {vs : List Value}, sres P e h l = some vs → ∃ vs', Rl θ ρ vs vs' ∧ (l.mapM (resOf' tmps)).run P w = .ok vs' w
  | [], vs, hs => by cases hs; exact ⟨[], Rl.nil, by simp⟩
  | x :: l, vs, hs => by
    obtain ⟨v, us, hx, hu, e1⟩ := on2_ok (show on2 (sres1 P e h x) (sres P e h l) consO = some vs from hs)
    cases e1
    obtain ⟨vs', h1, h2⟩ := sres_ok hh he hu
    have h3 : ∃ v', Rv θ ρ v v' ∧ (resOf' tmps x).run P w = .ok v' w := by
      unfold sres1 at hx
      split at hx
      · obtain ⟨v', h3, h4⟩ := he _ _ hx
        exact ⟨v', h4, by simp only [resOf', getD_of h3, Sem.run_pure]⟩
      · obtain ⟨p, hp, hx⟩ := on1_ok hx
        obtain ⟨p', h3, h4⟩ := he _ _ hp
        obtain ⟨v', h5, h6⟩ := rload_ok hh h4 hx
        refine ⟨v', h5, ?_⟩
        unfold rload at hx
        split at hx
        · obtain ⟨q, hq, rfl⟩ := h4.toPtr
          simp only [resOf', getD_of h3, asAddr, Sem.run_bind, Sem.run_pure, Result.andThen_ok]
          simpa [Instr.loadAt, Instr.sureAddr] using h6
        · cases hx
    obtain ⟨v', h3, h4⟩ := h3
    exact ⟨v' :: vs', Rl.cons h3 h1, by simp only [List.mapM_cons, Sem.run_bind, h4, Sem.run_pure, Result.andThen_ok, h2]⟩
theorem sresults_ok (hh : HT θ F ρ h nx w) {e : Tr Value} {tmps : Array Value} (he : REnv θ ρ e tmps) {fn : Func} {vs : List Value} (hs : sres P e h fn.results.toList = some vs) : ∃ v', Rv θ ρ (sresult vs) v' ∧ (results fn tmps).run P w = .ok v' w := by
  obtain ⟨vs', h1, h2⟩ := sres_ok (P := P) hh he hs
  have hr : (results fn tmps).run P w = .ok (if h : vs'.toArray.size = 1 then vs'.toArray[0] else .tuple vs'.toArray) w := by
    rw [results_resOf']
    have h3 : fn.results = fn.results.toList.toArray := by simp
    rw [h3, List.mapM_toArray]
    simp [Sem.run_bind, h2, Result.andThen]
  refine ⟨_, ?_, hr⟩
  have hl := h1.1
  unfold sresult
  split
  · rename_i v
    obtain ⟨v', rfl, hv⟩ := h1.one1
    simpa using hv
  · rename_i hne
    have : vs'.toArray.size ≠ 1 := fun e => by
      simp at e
      rw [e] at hl
      match vs, hl with
      | [v], _ => exact hne v rfl
    rw [dif_neg this]
    exact Rv.ofTup h1.arr
end
end Ex
end Go.Proofs.YtpfmhnjogfjekaaGreat
