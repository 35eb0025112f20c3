/- Running code by calculation: a run in parts. -/
import Derived.Test.YtpfmhnjogfjekaaGreatExW
namespace Go.Proofs.YtpfmhnjogfjekaaGreat
open Go Go.RowKit
set_option linter.unusedVariables false
set_option linter.unusedSectionVars false
set_option maxRecDepth 100000
namespace Ex
/-- So many steps. -/
noncomputable def sgo (P : Program) (X : FuncId → Option XK) (n : Nat) : Nat → SM → Option SM := Nat.rec (motive := fun _ => SM → Option SM) (fun s => some s) fun _ go s => on1 (sstep P X (sdraw P X (srunF P (srun P X n))) s) go
section
variable {α : Type}
/-- A table of these entries. -/
noncomputable def mkT (l : List (Nat × α)) : Tr α := List.rec (motive := fun _ => Tr α) .leaf (fun x _ ih => ih.put x.1 x.2) l
noncomputable def pickT (t : Tr α) : List Nat → Option (List (Nat × α)) := List.rec (motive := fun _ => Option (List (Nat × α))) (some []) fun k _ ih => on1 (t.get k) fun v => on1 ih fun l => some ((k, v) :: l)
theorem pickT_ok {t : Tr α} : ∀ {ks : List Nat} {l : List (Nat × α)}, pickT t ks = some l → ∀ k v, (mkT l).get k = some v → t.get k = some v
  | [], l, h, k, v, hk => by cases h; cases hk
  | j :: ks, l, h, k, v, hk => by
    have h : (on1 (t.get j) fun u => on1 (pickT t ks) fun l => some ((j, u) :: l)) = some l := h
    obtain ⟨u, hu, h⟩ := on1_ok h
    obtain ⟨l', hl, h⟩ := on1_ok h
    cases h
    rcases Tr.get_put (t := mkT l') hk with ⟨rfl, rfl⟩ | ⟨_, h1⟩
    · exact hu
    · exact pickT_ok hl k v h1
end
noncomputable def thinF (f : SF) (ks : List Nat) : Option SF := on1 (pickT f.env ks) fun l => some ⟨f.i, mkT l, f.todo, f.defers, f.ret⟩
noncomputable def thinFs : List SF → List (List Nat) → Option (List SF) := List.rec (motive := fun _ => List (List Nat) → Option (List SF))
  (fun ks => match ks with
    | [] => some []
    | _ => none) fun f _ ih ks => match ks with
    | k :: ks => on1 (thinF f k) fun f' => on1 (ih ks) fun l => some (f' :: l)
    | [] => none
/-- Of slots and blocks these are kept. -/
noncomputable def thin (kt : List Nat) (ke : List (List Nat)) (kh : List Nat) (s : SM) : Option SM := on1 (thinF s.top kt) fun t => on1 (thinFs s.cs ke) fun c => on1 (pickT s.h kh) fun l => some ⟨t, c, mkT l, s.nx⟩
section
variable {P : Program} {X : FuncId → Option XK} {θ : Nat → Value}
theorem thinF_ok {f f' : SF} {ks : List Nat} {ρ : Ren} {fr : Frame} (h : thinF f ks = some f') (hf : FrR θ ρ f fr) : FrR θ ρ f' fr := by
  obtain ⟨l, hl, h⟩ := on1_ok h
  cases h
  exact ⟨hf.fn, hf.n, fun k v hk => hf.env k v (pickT_ok hl k v hk), hf.todo, hf.defers, hf.mode, hf.kind, hf.round⟩
theorem thinFs_ok {ρ : Ren} : ∀ {c c' : List SF} {ks : List (List Nat)} {l : List Frame}, thinFs c ks = some c' → FrRs θ ρ c l → FrRs θ ρ c' l
  | [], c', [], l, h, hf => by cases h; exact hf
  | [], c', _ :: _, l, h, hf => by cases h
  | _ :: _, c', [], l, h, hf => by cases h
  | f :: c, c', k :: ks, l, h, hf => by
    have h : (on1 (thinF f k) fun f' => on1 (thinFs c ks) fun l => some (f' :: l)) = some c' := h
    obtain ⟨f', h1, h⟩ := on1_ok h
    obtain ⟨d, h2, h⟩ := on1_ok h
    cases h
    obtain ⟨fr, l', rfl, a, b⟩ := hf.cons
    exact ⟨thinF_ok h1 a, thinFs_ok h2 b⟩
theorem thin_ok {F : Fm} {base : List Frame} {kt : List Nat} {ke : List (List Nat)} {kh : List Nat} {s s' : SM} {ρ : Ren} {m : Machine} (h : thin kt ke kh s = some s') (hm : MR θ F base ρ s m) : MR θ F base ρ s' m := by
  obtain ⟨t, h1, h⟩ := on1_ok h
  obtain ⟨c, h2, h⟩ := on1_ok h
  obtain ⟨l, h3, h⟩ := on1_ok h
  cases h
  obtain ⟨fr, cs, w, e, a, b, d⟩ := hm.out
  exact ⟨fr, cs, w, e, thinF_ok h1 a, thinFs_ok h2 b, d.sub fun k o => pickT_ok h3 k o⟩
theorem sgo_ok (hX : ∀ f k, X f = some k → XOK P f k) (hN : NoNG P) (hP : P.follows .mixedOrders = true) {F : Fm} {base : List Frame} {n : Nat} : ∀ {k : Nat} {s s' : SM} {ρ : Ren} {m : Machine}, sgo P X n k s = some s' → MR θ F base ρ s m → To θ F base P ρ m s'
  | 0, s, s', ρ, m, h, hm => by cases h; exact ⟨ρ, m, .refl ρ, .refl P _, hm⟩
  | k + 1, s, s', ρ, m, h, hm => by
    have h : on1 (sstep P X (sdraw P X (srunF P (srun P X n))) s) (sgo P X n k) = some s' := h
    obtain ⟨s1, h1, h⟩ := on1_ok h
    obtain ⟨ρ1, m1, b1, b2, b3⟩ := sstep_ok hX hN (sdraw_ok hX hN hP (srunF_ok (srun_ok hX hN hP n))) h1 hm
    obtain ⟨ρ2, m2, c1, c2, c3⟩ := sgo_ok hX hN hP h b3
    exact ⟨ρ2, m2, b1.trans c1, b2.trans c2, c3⟩
/-- From this state on the run ends so. -/
def Ends (θ : Nat → Value) (P : Program) (s : SM) (g : FuncId) (v : Value) : Prop := ∀ (F : Fm) (base : List Frame) (ρ : Ren) (m : Machine), MR θ F base ρ s m →
  ∃ ρ' fr w' v' h' nx', ρ.le ρ' ∧ Rv θ ρ' v v' ∧ HT θ F ρ' h' nx' w' ∧ Steps P m (lone fr base w') ∧ fr.fn = g ∧ fr.leaving P w' (.returned v')
noncomputable def endOf : Out → Option (FuncId × Value)
  | .done g v _ _ => some (g, v)
  | _ => none
theorem Ends.done (hX : ∀ f k, X f = some k → XOK P f k) (hN : NoNG P) (hP : P.follows .mixedOrders = true) {n : Nat} {s : SM} {g : FuncId} {v : Value} (h : endOf (srun P X n s) = some (g, v)) : Ends θ P s g v := by
  intro F base ρ m hm
  cases ho : srun P X n s with
  | done g1 v1 h1 nx1 =>
    rw [ho] at h
    cases h
    obtain ⟨ρ', fr, w', v', a⟩ := srun_ok hX hN hP n F base ρ s m _ _ _ _ ho hm
    exact ⟨ρ', fr, w', v', h1, nx1, a⟩
  | stuck => rw [ho] at h; cases h
  | long => rw [ho] at h; cases h
theorem Ends.cut (hX : ∀ f k, X f = some k → XOK P f k) (hN : NoNG P) (hP : P.follows .mixedOrders = true) {n k : Nat} {s s' : SM} {g : FuncId} {v : Value} {kt : List Nat} {ke : List (List Nat)} {kh : List Nat} (h : on1 (sgo P X n k s) (thin kt ke kh) = some s') (hs : Ends θ P s' g v) : Ends θ P s g v := by
  intro F base ρ m hm
  obtain ⟨s1, h1, h2⟩ := on1_ok h
  obtain ⟨ρ1, m1, a1, a2, a3⟩ := sgo_ok hX hN hP h1 hm
  obtain ⟨ρ', fr, w', v', h', nx', b1, b2, b3, b4, b5⟩ := hs F base ρ1 m1 (thin_ok h2 a3)
  exact ⟨ρ', fr, w', v', h', nx', a1.trans b1, b2, b3, a2.trans b4, b5⟩
/-- The first state of a call. -/
noncomputable def start (P : Program) (f : FuncId) (args : Array Value) : Option SM := on1 (enterF P f args false) fun t => some ⟨t, [], .leaf, 0⟩
noncomputable def startGo (P : Program) (X : FuncId → Option XK) (n k : Nat) (f : FuncId) (args : Array Value) : Option SM := on1 (start P f args) (sgo P X n k)
theorem Ends.calls (hX : ∀ f k, X f = some k → XOK P f k) (hN : NoNG P) (hP : P.follows .mixedOrders = true) {n k : Nat} {f : FuncId} {args args' : Array Value} {v : Value} {s' : SM} {kt : List Nat} {ke : List (List Nat)} {kh : List Nat} (h : on1 (startGo P X n k f args) (thin kt ke kh) = some s') (hs : Ends θ P s' f v) (ha : Ra θ (fun _ => none) args args') (w : World) :
    Calls P f args' w fun e w' => ∃ v' ρ' h' nx', e = .returned v' ∧ Rv θ ρ' v v' ∧ HT θ (own w) ρ' h' nx' w' := fun cs => by
  obtain ⟨s1, h1, h2⟩ := on1_ok h
  obtain ⟨s0, h0, h1⟩ := on1_ok h1
  obtain ⟨t, ht, h0⟩ := on1_ok h0
  cases h0
  obtain ⟨ρ', fr, w', v', h', nx', a1, a2, a3, a4, a5, a6⟩ := Ends.cut (s := ⟨t, [], .leaf, 0⟩) hX hN hP (by rw [h1]; exact h2) hs (own w) cs _ (lone (Frame.enter P f args' .normal) cs w) ⟨_, [], w, rfl, enterF_ok ht ha, trivial, own_start w⟩
  exact ⟨.returned v', w', fr, ⟨v', ρ', h', nx', rfl, a2, a3⟩, a4, a5, a6⟩
/-! Where a code stands in a program. -/
noncomputable def cat : List Nat → Code → Code := List.rec (motive := fun _ => Code → Code) (fun c => c) fun k _ ih c => match c with
  | .seq a b => bif Nat.beq k 0 then ih a else ih b
  | .cond _ a b => bif Nat.beq k 0 then ih a else ih b
  | .block _ b => ih b
  | .loop b => ih b
  | .scope b => ih b
  | .rangeFunc _ _ a b => bif Nat.beq k 0 then ih a else ih b
  | _ => .skip
noncomputable def bodyAt (P : Program) (f : FuncId) (path : List Nat) : Code := match (P.funcs[f]?).bind (·.body) with
  | some c => cat path c
  | none => .skip
noncomputable def opsOf : Code → Array Oper
  | .region _ ops _ => ops
  | _ => #[]
/-- What is left of a region from its operation k on. -/
noncomputable def regAt (c : Code) (k : Nat) : SI := .reg (opsOf c) ((opsOf c).toList.drop k)
end
end Ex
end Go.Proofs.YtpfmhnjogfjekaaGreat
