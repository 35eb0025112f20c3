import Derived.Test.YtlcdaalalihaiaaGreatGoMem
import Derived.Test.YtlcdaalalihaiaaGreatLooseT
import Derived.LoopN
/- Laws of walking for regions that draw the order of their operations: those that read, and call what only reads, in one walk in the order of the text; then a tail that comes up in that order. -/
namespace Go.Proofs.YtlcdaalalihaiaaGreat
open Go Go.RowKit Go.MapKept
set_option linter.unusedVariables false
set_option linter.unusedSectionVars false
set_option linter.unusedSimpArgs false

section
variable {P : Program} {ops : Array Oper} {F : List HProp} {Z : Act → Prop}
def bareS (S : Nat → Option LSpec) : Prop := ∀ i u, lpieces S i u = []
theorem needs_bareS {S : Nat → Option LSpec} (h : bareS S) (k : Nat) (o : Oper) (a : Act) : needs ops S k o a = [] := by
  unfold needs
  refine List.flatMap_eq_nil_iff.2 fun i _ => ?_
  split
  · unfold pieceAt; split
    · rfl
    · exact h _ _
  · rfl
theorem loose_congr {S S' : Nat → Option LSpec} (hs : bareS S) (hs' : bareS S') : ∀ (l : List Oper) (k : Nat) (a : Act), (∀ j, k ≤ j → S j = S' j) → wpLoose P ops S F Z k l a → wpLoose P ops S' F Z k l a
  | [], k, a, _, h => h
  | o :: l, k, a, he, h => by
    unfold wpLoose at h ⊢
    have ih : ∀ a, wpLoose P ops S F Z (k + 1) l a → wpLoose P ops S' F Z (k + 1) l a := fun a => loose_congr hs hs' l (k + 1) a fun j hj => he j (by omega)
    split at h
    · rename_i hw
      rw [if_pos hw]
      unfold LooseOp at h ⊢
      rw [← he k (Nat.le_refl _)]
      cases hS : S k with
      | none =>
        rw [hS] at h
        intro w F' hh
        rw [needs_bareS hs'] at hh
        exact exactUpon_mono (h w F' (by rw [needs_bareS hs]; exact hh)) fun v _ hv => ih _ hv
      | some s =>
        rw [hS] at h
        refine ⟨fun w F' hh => ?_, fun u hu => ih _ (h.2 u hu)⟩
        rw [needs_bareS hs'] at hh ⊢
        have := h.1 w F' (by rw [needs_bareS hs]; exact hh)
        rw [needs_bareS hs] at this
        have e1 : ∀ u, lpieces S k u = lpieces S' k u := fun u => by rw [hs, hs']
        simp only [e1] at this
        exact this
    · rename_i hw
      rw [if_neg hw]
      exact ih _ h
end

section
variable (P : Program) (n : Nat) (ops : Array Oper)
/-- The rest of a drawn region. -/
structure GD (F : List HProp) (Z : Act → Prop) (k : Nat) (rest : List Oper) (env : Env) : Prop where
  out : ∃ S, bareS S ∧ ∀ a, Fits n a env → wpLoose P ops S F Z k rest a
end
section
variable {P : Program} {n : Nat} {ops : Array Oper} {Q : Exit → Act → World → Prop} {env : Env} {F : List HProp} {Z : Act → Prop} {k : Nat} {rest : List Oper} {d : Tmp} {ty : TypeId} {pos : String} {aft : Array Edge}
theorem GD.nil (h : ∀ a, Fits n a env → Z a) : GD P n ops F Z k [] env := .mk ⟨fun _ => none, fun i u => rfl, fun a hf => h a hf⟩
theorem GD.nilE (h : GE n .normal Q env F) : GD P n ops F (fun a' => ∀ w', holds w' F → Q .normal a' w') k [] env := GD.nil fun a hf w hw => h a w hf hw
theorem GD.nilL {l : List Oper} (h : GL P n ops Q l env F) : GD P n ops F (fun a' => ∀ w', holds w' F → wpList P ops Q l a' w') k [] env := GD.nil fun a hf w hw => h a w hf hw
theorem GD.step {op : Op} {env' : Env} {dst : Option Tmp} {g : Option (Nat × Bool)} (sp : Option LSpec) (hsp : ∀ s, sp = some s → ∀ u : Value, (match u with | Value.tuple t => if t.size = 0 then ([] : List HProp) else s.N u | _ => s.N u) = [])
    (hg : ∀ a, Fits n a env → Region.wanted (⟨dst, op, ty, pos, aft, g⟩ : Oper) (yielded ops a.tmps) = true)
    (h1 : ∀ a, Fits n a env → match sp with
      | none => ∀ w F', holds w (F ++ F') → ∃ v, (execOp a.eval ⟨dst, op, ty, pos, aft, g⟩).run P w = Result.ok (Next.value v) w ∧ Fits n (a.put dst v) env'
      | some s => (∀ w F', holds w (F ++ F') → looseUpon P (fun u w' => s.R u ∧ holds w' (F ++ F')) ((execOp a.eval ⟨dst, op, ty, pos, aft, g⟩).run P w)) ∧ ∀ u, s.R u → Fits n (a.put dst u) env')
    (h : GD P n ops F Z (k + 1) rest env') : GD P n ops F Z k (⟨dst, op, ty, pos, aft, g⟩ :: rest) env := by
  obtain ⟨S', hb', h'⟩ := h.out
  let S : Nat → Option LSpec := fun i => if i = k then sp else S' i
  have hb : bareS S := by
    intro i u
    by_cases hi : i = k
    · unfold lpieces
      simp only [S, hi, if_true]
      cases hspq : sp with
      | none => rfl
      | some s => exact hsp s hspq u
    · have := hb' i u
      unfold lpieces at this ⊢
      simp only [S, hi, if_false]
      exact this
  have hcg : ∀ a, wpLoose P ops S' F Z (k + 1) rest a → wpLoose P ops S F Z (k + 1) rest a := fun a => loose_congr hb' hb rest (k + 1) a fun j hj => by
    have : j ≠ k := by omega
    simp [S, this]
  refine .mk ⟨S, hb, fun a hf => ?_⟩
  unfold wpLoose
  rw [if_pos (hg a hf)]
  unfold LooseOp
  have hSk : S k = sp := by simp [S]
  rw [hSk]
  have h1 := h1 a hf
  cases sp with
  | none =>
    intro w F' hh
    rw [needs_bareS hb] at hh
    obtain ⟨v, hr, hv⟩ := h1 w F' hh
    rw [hr]
    exact ⟨rfl, hcg _ (h' _ hv)⟩
  | some s =>
    refine ⟨fun w F' hh => ?_, fun u hu => hcg _ (h' _ (h1.2 u hu))⟩
    rw [needs_bareS hb] at hh ⊢
    have e1 : ∀ u, lpieces S k u = [] := fun u => hb k u
    simp only [e1, List.nil_append]
    exact h1.1 w F' hh
theorem GD.run {op : Op} {v : Value} (hr : Runs P n env F op v) (hd : Nat.blt d n = true) (h : GD P n ops F Z (k + 1) rest ((d, v) :: env)) : GD P n ops F Z k (⟨some d, op, ty, pos, aft, none⟩ :: rest) env :=
  GD.step none (fun s hs => by cases hs) (fun a hf => rfl) (fun a hf w F' hh => ⟨v, hr a w _ _ _ _ _ hf (hh.perm_drop (Z := F') (.refl _)), hf.put hd v⟩) h
/-- A call that only reads. -/
theorem GD.call {f : FuncId} {xs : List Operand} {ts : Array TypeId} {vs : List Value} {v : Value} [ho : Own P f] (hx : opnds env xs = some vs) (hd : Nat.blt d n = true)
    (hc : ∀ w F', holds w (F ++ F') → Ct P f vs.toArray w fun e w' => e = .returned v ∧ holds w' (F ++ F')) (h : GD P n ops F Z (k + 1) rest ((d, v) :: env)) :
    GD P n ops F Z k (⟨some d, .call { callee := .value (.func f), args := xs.toArray, argTypes := ts }, ty, pos, aft, none⟩ :: rest) env := by
  refine GD.step (some ⟨fun u => u = v, fun _ => []⟩) (fun s hs u => by cases hs; cases u <;> simp) (fun a hf => rfl) (fun a hf => ⟨fun w F' hh => ?_, fun u hu => by subst hu; exact hf.put hd _⟩) h
  have hr : (execOp a.eval ⟨some d, .call { callee := .value (.func f), args := xs.toArray, argTypes := ts }, ty, pos, aft, none⟩).run P w = .ok (.enter f vs.toArray) w := by
    simp [execOp, resolve, Act.eval, Deferred.ofValue, invoke, hf.evals hx, Result.andThen]
    exact ho.run _ _
  rw [hr]
  exact (hc w F' hh).out.mono fun e w' ⟨he, hh'⟩ => ⟨v, he, rfl, hh'⟩
/-- Under a guard. -/
theorem GD.guard {op : Op} {dst : Option Tmp} {j : Nat} {want b : Bool} {dj : Tmp} (hj : (ops[j]?).bind (·.dst) = some dj) (hb : look env dj = some (.bool b))
    (hy : b = want → GD P n ops F Z k (⟨dst, op, ty, pos, aft, none⟩ :: rest) ((dj, .bool want) :: env)) (hn : b = !want → GD P n ops F Z k (⟨dst, op, ty, pos, aft, some (j, want)⟩ :: rest) ((dj, .bool !want) :: env)) :
    GD P n ops F Z k (⟨dst, op, ty, pos, aft, some (j, want)⟩ :: rest) env := by
  have hs : ∀ c, b = c → ∀ a, Fits n a env → Fits n a ((dj, .bool c) :: env) := fun c hc a hf => ⟨hf.size, hf.defs, fun k v hk => by
    rw [look_cons] at hk
    split at hk
    · rename_i e; subst e; cases hk; subst hc; exact hf.at_ _ _ hb
    · exact hf.at_ _ _ hk⟩
  by_cases h : b = want
  · obtain ⟨S, hbare, h1⟩ := (hy h).out
    refine .mk ⟨S, hbare, fun a hf => ?_⟩
    have hyl : yielded ops a.tmps j = some b := by
      have := hf.at_ _ _ hb
      unfold yielded; rw [hj, Option.bind_some, this]
    have h2 := h1 a (hs _ h a hf)
    unfold wpLoose at h2 ⊢
    have hw : Region.wanted (⟨dst, op, ty, pos, aft, some (j, want)⟩ : Oper) (yielded ops a.tmps) = true := by simp [Region.wanted, hyl, h]
    rw [if_pos hw]
    rw [if_pos (by simp [Region.wanted])] at h2
    unfold LooseOp at h2 ⊢
    rw [needs_bareS hbare] at h2 ⊢
    exact h2
  · have hb' : b = !want := by revert h; cases b <;> cases want <;> simp
    obtain ⟨S, hbare, h1⟩ := (hn hb').out
    exact .mk ⟨S, hbare, fun a hf => h1 a (hs _ hb' a hf)⟩
theorem GD.guardY {op : Op} {dst : Option Tmp} {j : Nat} {want : Bool} {dj : Tmp} (hj : (ops[j]?).bind (·.dst) = some dj) (hb : look env dj = some (.bool want)) (h : GD P n ops F Z k (⟨dst, op, ty, pos, aft, none⟩ :: rest) env) :
    GD P n ops F Z k (⟨dst, op, ty, pos, aft, some (j, want)⟩ :: rest) env := by
  obtain ⟨S, hbare, h1⟩ := h.out
  refine .mk ⟨S, hbare, fun a hf => ?_⟩
  have hyl : yielded ops a.tmps j = some want := by
    have := hf.at_ _ _ hb
    unfold yielded; rw [hj, Option.bind_some, this]
  have h2 := h1 a hf
  unfold wpLoose at h2 ⊢
  have hw : Region.wanted (⟨dst, op, ty, pos, aft, some (j, want)⟩ : Oper) (yielded ops a.tmps) = true := by simp [Region.wanted, hyl]
  rw [if_pos hw]
  rw [if_pos (by simp [Region.wanted])] at h2
  unfold LooseOp at h2 ⊢
  rw [needs_bareS hbare] at h2 ⊢
  exact h2
theorem GD.guardN {op : Op} {d : Tmp} {j : Nat} {want : Bool} {dj : Tmp} (hj : (ops[j]?).bind (·.dst) = some dj) (hb : look env dj = some (.bool !want)) (hd : Nat.blt d n = true) (h : GD P n ops F Z (k + 1) rest ((d, undef) :: env)) :
    GD P n ops F Z k (⟨some d, op, ty, pos, aft, some (j, want)⟩ :: rest) env := by
  obtain ⟨S, hbare, h1⟩ := h.out
  refine .mk ⟨S, hbare, fun a hf => ?_⟩
  have hyl : yielded ops a.tmps j = some !want := by
    have := hf.at_ _ _ hb
    unfold yielded; rw [hj, Option.bind_some, this]
  unfold wpLoose
  have hw : Region.wanted (⟨some d, op, ty, pos, aft, some (j, want)⟩ : Oper) (yielded ops a.tmps) = false := by
    simp only [Region.wanted, hyl]; cases want <;> rfl
  rw [hw]
  exact h1 _ (hf.put hd _)

theorem GD.guardU {op : Op} {d : Tmp} {j : Nat} {want : Bool} {dj : Tmp} (hj : (ops[j]?).bind (·.dst) = some dj) (hb : look env dj = some undef) (hd : Nat.blt d n = true) (h : GD P n ops F Z (k + 1) rest ((d, undef) :: env)) :
    GD P n ops F Z k (⟨some d, op, ty, pos, aft, some (j, want)⟩ :: rest) env := by
  obtain ⟨S, hbare, h1⟩ := h.out
  refine .mk ⟨S, hbare, fun a hf => ?_⟩
  have hyl : yielded ops a.tmps j = none := by
    have := hf.at_ _ _ hb
    unfold yielded; rw [hj, Option.bind_some, this]; rfl
  unfold wpLoose
  have hw : Region.wanted (⟨some d, op, ty, pos, aft, some (j, want)⟩ : Oper) (yielded ops a.tmps) = false := by
    simp only [Region.wanted, hyl]; cases want <;> rfl
  rw [hw]
  exact h1 _ (hf.put hd _)
theorem G.draw {id : Nat} {l : List Oper} (hm : P.follows .mixedOrders = true) (hB : (Region.lexB .any l.toArray && looseB l.toArray .any) = true)
    (h : GD P n l.toArray F (fun a' => ∀ w', holds w' F → Q .normal a' w') 0 l env) : G P n (.region id l.toArray true) Q env F := .mk fun a w hf hw => by
  obtain ⟨S, _, h1⟩ := h.out
  exact wp_region_loose S F hm hB hw (h1 a hf)
theorem G.drawTail {id : Nat} {l l1 l2 : List Oper} (m : Nat) (hm : P.follows .mixedOrders = true) (h1 : l.take m = l1) (h2 : l.drop m = l2) (hB : (Region.lexTailB .any l.toArray m && looseB l.toArray .any) = true)
    (h : GD P n l.toArray F (fun a' => ∀ w', holds w' F → wpList P l.toArray Q l2 a' w') 0 l1 env) : G P n (.region id l.toArray true) Q env F := .mk fun a w hf hw => by
  subst h1 h2
  obtain ⟨S, _, h1⟩ := h.out
  exact wp_region_loose_tail m S F hm hB hw (h1 a hf)

/-! ### Loops of few rounds -/
theorem GE.again {m : Nat} {c : Code} (h : G P n c (Exit.then (Code.rounds P c Q m) Q) env F) : GE n .normal (Exit.then (Code.rounds P c Q (m + 1)) Q) env F := .mk fun a w hf hw => h a w hf hw

/-! ### Results -/
def resOf (tmps : Array Value) : ResultVar → Sem Value
  | .tmp t => pure (tmps.getD t undef)
  | .cell p t => do loadVar t (← asAddr (tmps.getD p undef))
theorem results_resOf (fn : Func) (tmps : Array Value) : results fn tmps = (do let vs ← fn.results.mapM (resOf tmps); pure (if h : vs.size = 1 then vs[0] else .tuple vs)) := by
  unfold results
  congr 1
structure Res (P : Program) (n : Nat) (env : Env) (F : List HProp) (rs : List ResultVar) (vs : List Value) : Prop where
  out : ∀ a w, Fits n a env → holds w F → (rs.mapM (resOf a.tmps)).run P w = .ok vs w
theorem Res.nil : Res P n env F [] [] := ⟨fun a w hf hw => by simp⟩
theorem Res.tmp {t : Tmp} {v : Value} {rs : List ResultVar} {vs : List Value} (hv : look env t = some v) (h : Res P n env F rs vs) : Res P n env F (.tmp t :: rs) (v :: vs) := ⟨fun a w hf hw => by
  have h1 : a.tmps.getD t undef = v := by have := hf.at_ _ _ hv; simp [this]
  simp only [List.mapM_cons, resOf, h1, Sem.run_bind, Sem.run_pure, Result.andThen_ok, h.out a w hf hw]⟩
theorem Res.cellA {t : TypeId} {p : Tmp} {b o size : Nat} {c : Array Value} {us : List Value} {rs : List ResultVar} {vs : List Value} [AggT P t size] (hv : look env p = some (.pointer (some ⟨b, o, none⟩))) [hb : SeesBlk F b c] (hu : (c.toList.drop o).take size = us) (hl : Nat.beq us.length size = true) (h : Res P n env F rs vs) : Res P n env F (.cell p t :: rs) (.agg us.toArray :: vs) := ⟨fun a w hf hw => by
  have h1 : a.tmps.getD p undef = .pointer (some ⟨b, o, none⟩) := by have := hf.at_ _ _ hv; simp [this]
  have hl : us.length = size := Nat.eq_of_beq_eq_true hl
  obtain ⟨T, fz, hbw⟩ := hb.at_ w hw
  have h2 := run_loadAgg (P := P) (t := t) (b := b) (off := o) (w := w) (vs := us) hl fun j hj => by
    rw [cell_of_row w b (o + j) c T fz hbw, ← hu, List.getElem?_take, if_pos hj, List.getElem?_drop, Array.getElem?_toList]
  simp only [List.mapM_cons, resOf, h1, asAddr, pure_bind, Sem.run_bind, Sem.run_pure, Result.andThen_ok, h2, h.out a w hf hw]⟩
theorem Res.cell1 {t : TypeId} {p : Tmp} {b o : Nat} {c : Array Value} {u : Value} {rs : List ResultVar} {vs : List Value} [CellT P t] (hv : look env p = some (.pointer (some ⟨b, o, none⟩))) [hb : SeesBlk F b c] (hu : nthL c.toList o = some u) (h : Res P n env F rs vs) : Res P n env F (.cell p t :: rs) (u :: vs) := ⟨fun a w hf hw => by
  have hu := nthL_arr hu
  have h1 : a.tmps.getD p undef = .pointer (some ⟨b, o, none⟩) := by have := hf.at_ _ _ hv; simp [this]
  obtain ⟨T, fz, hbw⟩ := hb.at_ w hw
  have h2 : (loadVar t ⟨b, o, none⟩).run P w = .ok u w := run_loadCell ((cell_of_row w b o c T fz hbw).trans hu)
  simp only [List.mapM_cons, resOf, h1, asAddr, pure_bind, Sem.run_bind, Sem.run_pure, Result.andThen_ok, h2, h.out a w hf hw]⟩
theorem Res.run {rs : List ResultVar} {vs : List Value} {fn : Func} (h : Res P n env F rs vs) (hr : fn.results = rs.toArray) {a : Act} {w : World} (hf : Fits n a env) (hw : holds w F) : (results fn a.tmps).run P w = .ok (if h : vs.toArray.size = 1 then vs.toArray[0] else .tuple vs.toArray) w := by
  rw [results_resOf, hr]
  have h2 := h.out a w hf hw
  rw [List.mapM_toArray]
  simp [Sem.run_bind, h2, Result.andThen]
theorem GE.resOne {rs : List ResultVar} {v : Value} {fn : Func} {R : Ending → World → Prop} (hr : fn.results = rs.toArray) (h : Res P n env F rs [v]) (hR : ∀ w, holds w F → R (.returned v) w) : GE n .ret (bodyPost P fn R) env F := .mk fun a w hf hw =>
  bodyPost_ret (by simpa using h.run hr hf hw) hf.defs (hR w hw)
/-! ### Calls -/
/-- Some pieces among others. -/
class Takes (F pre : List HProp) (F0 : outParam (List HProp)) : Prop where
  perm : F.Perm (pre ++ F0)
instance Takes.nil : Takes F [] F := ⟨.refl _⟩
instance Takes.cons {X : HProp} {pre F1 F0 : List HProp} [h : Has F X F1] [h2 : Takes F1 pre F0] : Takes F (X :: pre) F0 := ⟨h.perm.trans (h2.perm.cons X)⟩
/-- A call through a function value. -/
theorem GL.callV {x : Operand} {f : FuncId} {first captured : List Value} {xs : List Operand} {ts : Array TypeId} {vs : List Value} {α : Sort _} {v : α → Value} {F' : α → List HProp} [ho : Own P f] (hf : opnd env x = some (.func (.func f) first.toArray captured.toArray)) (hx : opnds env xs = some vs) (hd : Nat.blt d n = true)
    (hc : ∀ w, holds w F → Ct P f (first ++ vs ++ captured).toArray w fun e w' => ∃ x, e = .returned (v x) ∧ holds w' (F' x)) (h : ∀ x, GL P n ops Q rest ((d, v x) :: env) (F' x)) :
    GL P n ops Q (⟨some d, .call { callee := .value x, args := xs.toArray, argTypes := ts }, ty, pos, aft, none⟩ :: rest) env F := .mk fun a w hff hw => by
  refine wpList_plain rfl fun K hK => ?_
  have hr : (execOp a.eval ⟨some d, .call { callee := .value x, args := xs.toArray, argTypes := ts }, ty, pos, aft, none⟩).run P w = .ok (.enter f (first ++ vs ++ captured).toArray) w := by
    simp [execOp, resolve, Deferred.ofValue, invoke, hff.evals hx, hff.eval hf, Result.andThen]
    exact ho.run _ _
  unfold Oper.wp
  rw [hr]
  refine (hc w hw).out.mono fun e w' ⟨x, he, hh⟩ => ?_
  subst he
  exact hK _ _ (h x _ _ (hff.put hd _) hh)
theorem Runs.makeFunc {f : FuncId} {fs cs : List Operand} {us vs : List Value} (hx : opnds env fs = some us) (hy : opnds env cs = some vs) : Runs P n env F (.makeFunc (.func f) fs.toArray cs.toArray) (.func (.func f) us.toArray vs.toArray) := .mk fun a w ty pos aft g d hf hw => by
  simp [execOp, Instr.makeFunc, hf.evals hx, hf.evals hy, Result.andThen]

/-! ### Shifts, masks -/
class Pow2 (c : Int) (p : outParam Int) : Prop where
  ok : 0 ≤ c ∧ p = 2 ^ (min c.toNat 64) ∧ 0 < p
instance : Pow2 0 1 := ⟨by decide⟩
instance : Pow2 1 2 := ⟨by decide⟩
instance : Pow2 20 1048576 := ⟨by decide⟩
instance : Pow2 40 1099511627776 := ⟨by decide⟩
instance : Pow2 60 1152921504606846976 := ⟨by decide⟩
section
variable {xT yT : TypeId} {x y : Operand} {i c p : Int}
theorem Runs.shl [hp : Pow2 c p] (hx : opnd env x = some (.int .i64 i)) (hy : opnd env y = some (.int .i64 c)) (h : -9223372036854775808 ≤ i * p ∧ i * p ≤ 9223372036854775807) : Runs P n env F (.binOp .shl xT x y yT) (.int .i64 (i * p)) := .mk fun a w ty pos aft g d hf hw => by
  obtain ⟨h0, hp, _⟩ := hp.ok
  have hc : ¬ c < 0 := by omega
  have := IntWalk.i64_in (i * p) (by omega)
  rw [hp] at this
  simp [execOp, hf.eval hx, hf.eval hy, eqGuard, binOp, Op.shift, IntKind.bits, hc, hp, Result.andThen]
  exact this
theorem Runs.shr [hp : Pow2 c p] (hx : opnd env x = some (.int .i64 i)) (hy : opnd env y = some (.int .i64 c)) : Runs P n env F (.binOp .shr xT x y yT) (.int .i64 (i / p)) := .mk fun a w ty pos aft g d hf hw => by
  obtain ⟨h0, hp, h1⟩ := hp.ok
  have hc : ¬ c < 0 := by omega
  have h2 := Int.fdiv_eq_ediv_of_nonneg i (b := p) (by omega)
  rw [hp] at h2
  simp [execOp, hf.eval hx, hf.eval hy, eqGuard, binOp, Op.shift, IntKind.bits, hc, hp, Result.andThen]
  exact h2
theorem Runs.and20 (hx : opnd env x = some (.int .i64 i)) (hy : opnd env y = some (.int .i64 1048575)) : Runs P n env F (.binOp .and xT x y yT) (.int .i64 (i % 1048576)) := .mk fun a w ty pos aft g d hf hw => by
  have h127 : (BitVec.ofInt 64 1048575).toNat = 2 ^ 20 - 1 := by decide
  have key : (BitVec.ofInt 64 i &&& BitVec.ofInt 64 1048575).toNat = (i % ((2 ^ 64 : Nat) : Int)).toNat % 2 ^ 20 := by
    rw [BitVec.toNat_and, BitVec.toNat_ofInt, h127, Nat.and_two_pow_sub_one_eq_mod]
  have h2 : IntKind.i64.wrap ((BitVec.ofInt 64 i &&& BitVec.ofInt 64 1048575).toNat : Nat) = i % 1048576 := by
    rw [key, IntKind.wrap_i64]
    omega
  have e : Op.intBits .and .i64 i 1048575 = pure (.int .i64 (IntKind.i64.wrap ((BitVec.ofInt 64 i &&& BitVec.ofInt 64 1048575).toNat : Nat))) := rfl
  simp only [execOp, hf.eval hx, hf.eval hy]
  have e2 : eqGuard .and xT x y (.int .i64 i) (.int .i64 1048575) = pure () := rfl
  have e3 : binOp .and xT (.int .i64 i) (.int .i64 1048575) = Op.intBits .and .i64 i 1048575 := rfl
  rw [e2, e3, e, h2]
  simp [Result.andThen]
end
section
variable {v : Value} {x y c : Operand} {t u : TypeId}
/-- min, max of two. -/
theorem Runs.min2 {x y : Operand} {i j : Int} {ts : Array TypeId} (hx : opnd env x = some (.int .i64 i)) (hy : opnd env y = some (.int .i64 j)) : Runs P n env F (.call { callee := .builtin .min, args := #[x, y], argTypes := ts }) (.int .i64 (min i j)) := .mk fun a w ty pos aft g d hf hw => by
  have e : (if j < i then j else i) = min i j := by rw [Int.min_def]; split <;> split <;> omega
  simp [execOp, resolve, invoke, builtin, Builtin.min_, Builtin.min2, hf.eval hx, hf.eval hy, e, Result.andThen]
theorem Runs.max2 {x y : Operand} {i j : Int} {ts : Array TypeId} (hx : opnd env x = some (.int .i64 i)) (hy : opnd env y = some (.int .i64 j)) : Runs P n env F (.call { callee := .builtin .max, args := #[x, y], argTypes := ts }) (.int .i64 (max i j)) := .mk fun a w ty pos aft g d hf hw => by
  have e : (if i < j then j else i) = max i j := by rw [Int.max_def]; split <;> split <;> omega
  simp [execOp, resolve, invoke, builtin, Builtin.max_, Builtin.max2, hf.eval hx, hf.eval hy, e, Result.andThen]
/-- Between kinds of integers, what fits. -/
class InKind (k : IntKind) (lo hi : outParam Int) : Prop where
  ok : ∀ n, lo ≤ n ∧ n ≤ hi → k.wrap n = n
instance : InKind .i64 (-9223372036854775808) 9223372036854775807 := ⟨fun n h => IntWalk.i64_in n h⟩
instance : InKind .u64 0 18446744073709551615 := ⟨fun n h => IntWalk.u64_in n h⟩
instance : InKind .u8 0 255 := ⟨fun n h => IntWalk.u8_in n h⟩
instance : InKind .i32 (-2147483648) 2147483647 := ⟨fun n h => IntWalk.i32_in n h⟩
theorem Runs.convII {t u : TypeId} {x : Operand} {i lo hi : Int} {j k : IntKind} [ht : IntT P t j] [hu : IntT P u k] [hk : InKind k lo hi] (hx : opnd env x = some (.int j i)) (h : lo ≤ i ∧ i ≤ hi) : Runs P n env F (.convert t u x) (.int k i) := .mk fun a w ty pos aft g d hf hw => by
  have := hk.ok i h
  simp [execOp, hf.eval hx, convert, run_underlying ht.ok, run_underlying hu.ok, Conv.intToInt, this, Result.andThen]
theorem Runs.shrU {xT yT : TypeId} {x y : Operand} {i : Int} (hx : opnd env x = some (.int .u64 i)) (hy : opnd env y = some (.int .u64 1)) : Runs P n env F (.binOp .shr xT x y yT) (.int .u64 (i / 2)) := .mk fun a w ty pos aft g d hf hw => by
  have h2 := Int.fdiv_eq_ediv_of_nonneg i (b := 2) (by omega)
  simp [execOp, hf.eval hx, hf.eval hy, eqGuard, binOp, Op.shift, IntKind.bits, Result.andThen]
  exact h2
theorem Runs.isSlice {a b c : Option Operand} (h : Runs P n env F (.slice t x a b c) v) : Runs P n env F (.slice t x a b c) v := h
theorem Runs.isLookup {b : Bool} (h : Runs P n env F (.lookup t x y b) v) : Runs P n env F (.lookup t x y b) v := h
theorem Runs.isConvert (h : Runs P n env F (.convert t u x) v) : Runs P n env F (.convert t u x) v := h
theorem Runs.isBuiltin {b : Builtin} {l : Array Operand} {m : Array TypeId} (h : Runs P n env F (.call { callee := .builtin b, args := l, argTypes := m }) v) : Runs P n env F (.call { callee := .builtin b, args := l, argTypes := m }) v := h
end
theorem Runs.indexAgg {t e : TypeId} {x y : Operand} {i : Int} {k len size : Nat} {cs : Array Value} [ht : ArrT P t len e size] [hc : AggT P e size] (hx : opnd env x = some (.agg cs)) (hy : opnd env y = some (.int .i64 i)) (hik : i = (k : Int)) (hk : Nat.blt k len = true) (hl : Nat.beq cs.size (len * size) = true) :
    Runs P n env F (.index t x y) (.agg ((cs.toList.drop (k * size)).take size).toArray) := .mk fun a w ty pos aft g d hf hw => by
  subst hik
  have hk : k < len := by simpa [Nat.blt_eq] using hk
  obtain ⟨i, h1, h2, h3⟩ := ht.ok
  obtain ⟨i', d', g1, g2, g3, g4⟩ := hc.ok
  have he : cs.extract (k * size) (k * size + size) = ((cs.toList.drop (k * size)).take size).toArray := by
    apply Array.ext'
    simp [List.take_drop]
  cases d' <;> simp [aggDesc] at g4 <;> simp [execOp, hf.eval hx, hf.eval hy, Instr.index, asIntOf, run_underlying h1, sizeOf, typeInfo, h2, h3, hk, part, isAgg, run_underlying g3, he, Result.andThen]

/-! ### Which law serves: by the operation's form alone -/
variable {v : Value} {x y c : Operand} {t u : TypeId} {f : Nat}
theorem Runs.isMove (h : Runs P n env F (.move x) v) : Runs P n env F (.move x) v := h
theorem Runs.isAssign (h : Runs P n env F (.assign x) v) : Runs P n env F (.assign x) v := h
theorem Runs.isLoad (h : Runs P n env F (.load t x) v) : Runs P n env F (.load t x) v := h
theorem Runs.isFieldA (h : Runs P n env F (.fieldAddr t x f) v) : Runs P n env F (.fieldAddr t x f) v := h
theorem Runs.isField (h : Runs P n env F (.field t x f) v) : Runs P n env F (.field t x f) v := h
theorem Runs.isIndexA (h : Runs P n env F (.indexAddr t x y) v) : Runs P n env F (.indexAddr t x y) v := h
theorem Runs.isIndex (h : Runs P n env F (.index t x y) v) : Runs P n env F (.index t x y) v := h
theorem Runs.isBin {o : BinOp} (h : Runs P n env F (.binOp o t x y u) v) : Runs P n env F (.binOp o t x y u) v := h
theorem Runs.isUn {o : UnOp} (h : Runs P n env F (.unOp o t x) v) : Runs P n env F (.unOp o t x) v := h
theorem Runs.isPick (h : Runs P n env F (.pick c x y) v) : Runs P n env F (.pick c x y) v := h
theorem Runs.isExtract (h : Runs P n env F (.extract x f) v) : Runs P n env F (.extract x f) v := h
theorem Runs.isNilCheck (h : Runs P n env F (.nilCheck x) v) : Runs P n env F (.nilCheck x) v := h
theorem Runs.isBuild {l : Array (Nat × Operand)} (h : Runs P n env F (.build t l) v) : Runs P n env F (.build t l) v := h
theorem Runs.isMakeFunc {fn : Fn} {l m : Array Operand} (h : Runs P n env F (.makeFunc fn l m) v) : Runs P n env F (.makeFunc fn l m) v := h
theorem GL.isStore (h : GL P n ops Q (⟨none, .store t x y, ty, pos, aft, none⟩ :: rest) env F) : GL P n ops Q (⟨none, .store t x y, ty, pos, aft, none⟩ :: rest) env F := h
theorem GL.isBox (h : GL P n ops Q (⟨some d, .box t x, ty, pos, aft, none⟩ :: rest) env F) : GL P n ops Q (⟨some d, .box t x, ty, pos, aft, none⟩ :: rest) env F := h
theorem GL.isBuildS {l : Array (Nat × Operand)} (h : GL P n ops Q (⟨some d, .buildSlice t f l, ty, pos, aft, none⟩ :: rest) env F) : GL P n ops Q (⟨some d, .buildSlice t f l, ty, pos, aft, none⟩ :: rest) env F := h
theorem GL.isAlloc (h : GL P n ops Q (⟨some d, .alloc t, ty, pos, aft, none⟩ :: rest) env F) : GL P n ops Q (⟨some d, .alloc t, ty, pos, aft, none⟩ :: rest) env F := h
theorem GL.isCall {c : Call} {dst : Option Tmp} (h : GL P n ops Q (⟨dst, .call c, ty, pos, aft, none⟩ :: rest) env F) : GL P n ops Q (⟨dst, .call c, ty, pos, aft, none⟩ :: rest) env F := h
theorem GL.isAny {o : Oper} (h : GL P n ops Q (o :: rest) env F) : GL P n ops Q (o :: rest) env F := h
theorem GD.isAny {o : Oper} (h : GD P n ops F Z k (o :: rest) env) : GD P n ops F Z k (o :: rest) env := h
theorem G.isCond {a b : Code} (h : G P n (.cond c a b) Q env F) : G P n (.cond c a b) Q env F := h
theorem GE.isAny {e : Exit} (h : GE n e Q env F) : GE n e Q env F := h
end
end Go.Proofs.YtlcdaalalihaiaaGreat

/- Laws of walking for drawn regions whose operations make rows and take them (append of append of ..): one walk in the order of the text. Laws of walking: 'm[x] = y' among several assignments (the entry is laid first, its value stored then). -/
section
namespace Go.Proofs.YtlcdaalalihaiaaGreat
open Go Go.RowKit Go.MapKept
set_option linter.unusedVariables false
set_option linter.unusedSectionVars false
set_option linter.unusedSimpArgs false

/-- An operation that makes a piece (k none: a piece that is there from the start): its number, the pieces (by their numbers in the list) that it takes, who takes what it makes, its slot, which values it yields, the piece. -/
structure Eff where
  k : Option Nat
  takes : List Nat
  cons : Option Nat
  d : Tmp
  R : Value → Prop
  piece : Value → HProp
def NU (u : Value) : Prop := isUndef u = false
def effToks (E : List Eff) : List Tok := E.map fun e => ⟨e.k, e.cons, if e.k.isSome then [e.d] else [], fun vs => e.piece (vs.headD undef)⟩
def effIdx : List Eff → Nat → Nat → Option (Nat × Eff)
  | [], _, _ => none
  | e :: E, i, k => bif (match e.k with | some j => Nat.beq j k | none => false) then some (i, e) else effIdx E (i + 1) k
def effS (E : List Eff) (k : Nat) : TSpec :=
  match effIdx E 0 k with
  | none => ⟨none, [], [], []⟩
  | some (i, e) => ⟨some e.R, e.takes, [], [i]⟩
/-- What the pieces of these numbers are now. -/
def effNow (E : List Eff) (env : Env) : List Nat → Option (List HProp)
  | [] => some []
  | i :: is => match E[i]?, effNow E env is with
    | some e, some l => match e.k with
      | none => some (e.piece undef :: l)
      | some _ => match look env e.d with
        | some v => some (e.piece v :: l)
        | none => none
    | _, _ => none
def effDefined (E : List Eff) (env : Env) : List Nat → Prop
  | [] => True
  | i :: is => (∃ e, E[i]? = some e ∧ (e.k = none ∨ ∃ v, look env e.d = some v ∧ isUndef v = false)) ∧ effDefined E env is

section
variable {P : Program} {n : Nat} {ops : Array Oper} {Q : Exit → Act → World → Prop} {env : Env} {F : List HProp} {Z : Act → Prop} {k : Nat} {rest : List Oper} {d : Tmp} {ty : TypeId} {pos : String} {aft : Array Edge} {E : List Eff}
theorem effNow_at {a : Act} (hf : Fits n a env) : ∀ (is : List Nat) (T : List HProp), effNow E env is = some T → effDefined E env is → toksAt ops (effToks E) a is = T
  | [], T, h, _ => by simp only [effNow, Option.some.injEq] at h; subst h; rfl
  | i :: is, T, h, ⟨⟨e, he, hv⟩, hd⟩ => by
    unfold effNow at h
    rw [he] at h
    cases hl : effNow E env is with
    | none => simp [hl] at h
    | some l =>
      have ih := effNow_at hf is l hl hd
      unfold toksAt at ih ⊢
      rw [List.flatMap_cons, ih]
      have ht : tokNo (effToks E) i = ⟨e.k, e.cons, if e.k.isSome then [e.d] else [], fun vs => e.piece (vs.headD undef)⟩ := by
        simp [tokNo, effToks, List.getD, he]
      rw [ht]
      cases hk : e.k with
      | none =>
        simp only [hl, hk, Option.some.injEq] at h
        subst h
        simp [tokAt, skipped]
      | some k0 =>
        rcases hv with hv | ⟨v, hv, hu⟩
        · rw [hk] at hv; cases hv
        simp only [hl, hk, hv, Option.some.injEq] at h
        subst h
        have hs : slotOf a e.d = v := by have := hf.at_ _ _ hv; simp [slotOf, this]
        have hsk : skipped ops a ⟨some k0, e.cons, if (some k0).isSome then [e.d] else [], fun vs => e.piece (vs.headD undef)⟩ = false := by
          unfold skipped
          simp only
          cases hd' : (ops[k0]?).bind (·.dst) with
          | none => rfl
          | some d' =>
            simp only
            by_cases hdd : d' = e.d
            · subst hdd; rw [hs, hu]; simp
            · simp [hdd]
        unfold tokAt
        rw [hsk]
        simp [hs]

section
variable (P n ops E)
structure GT (F : List HProp) (Z : Act → Prop) (k : Nat) (rest : List Oper) (env : Env) : Prop where
  out : ∀ a, Fits n a env → wpTok P ops (effToks E) (effS E) F Z k rest a
end
theorem GT.nilE {last : List Nat} {T : List HProp} (hT : effNow E env last = some T) (hd : effDefined E env last) (h : GE n .normal Q env (T ++ F)) : GT P n ops E F (fun a' => ∀ w', holds w' (toksAt ops (effToks E) a' last ++ F) → Q .normal a' w') k [] env :=
  ⟨fun a hf => tok_nil fun w' hw' => h a w' hf (by rw [effNow_at hf last T hT hd] at hw'; exact hw')⟩
theorem GT.run {op : Op} {v : Value} (hi : effIdx E 0 k = none) (hr : Runs P n env F op v) (hd : Nat.blt d n = true) (h : GT P n ops E F Z (k + 1) rest ((d, v) :: env)) : GT P n ops E F Z k (⟨some d, op, ty, pos, aft, none⟩ :: rest) env := ⟨fun a hf => by
  refine tok_exact (by simp [effS, hi]) fun K hK => ?_
  rw [if_pos (by simp [Region.wanted])]
  intro w hw
  rw [hr a w _ _ _ _ _ hf hw]
  exact ⟨rfl, hK _ (h.out _ (hf.put hd v))⟩⟩
/-- What an operation does to the pieces T, beside whatever else. -/
structure Does (P : Program) (n : Nat) (env : Env) (F T : List HProp) (op : Op) (piece : Value → HProp) : Prop where
  out : ∀ a w F' ty pos aft g d, Fits n a env → holds w (T ++ (F ++ F')) → looseUpon P (fun u w' => isUndef u = false ∧ holds w' (piece u :: (F ++ F'))) ((execOp a.eval ⟨d, op, ty, pos, aft, g⟩).run P w)
theorem GT.eff {op : Op} {i : Nat} {e : Eff} {T : List HProp} (hi : effIdx E 0 k = some (i, e)) (hE : E[i]? = some e) (hek : e.k = some k) (hed : Nat.beq e.d d = true) (hT : effNow E env e.takes = some T) (hdef : effDefined E env e.takes) (hR : e.R = NU) (hD : Does P n env F T op e.piece) (hd : Nat.blt d n = true)
    (h : ∀ u, isUndef u = false → GT P n ops E F Z (k + 1) rest ((d, u) :: env)) : GT P n ops E F Z k (⟨some d, op, ty, pos, aft, none⟩ :: rest) env := ⟨fun a hf => by
  have hed : e.d = d := Nat.eq_of_beq_eq_true hed
  subst hed
  refine tok_op (R := fun u => isUndef u = false) T [] (fun u => [e.piece u]) ?_ ?_ ?_ rfl (fun u hu => ?_) (fun w F' hw => ?_) (fun u hu => (h u hu).out _ (hf.put hd u))
  · simp only [effS, hi]; exact effNow_at hf _ _ hT hdef
  · simp [effS, hi, toksAt]
  · simp only [effS, hi, hR]; rfl
  · simp only [effS, hi]
    refine effNow_at (hf.put hd u) [i] [e.piece u] ?_ ⟨⟨e, hE, .inr ⟨u, by rw [look_cons, if_pos rfl], hu⟩⟩, trivial⟩
    simp [effNow, hE, hek, look_cons]
  · have := hD.out a w F' ty pos aft none (some e.d) hf (by simpa using hw)
    simpa using this⟩
/-- A call of one value that keeps what is there. -/
theorem GT.call {f : FuncId} {xs : List Operand} {ts : Array TypeId} {vs : List Value} {v : Value} {i : Nat} {e : Eff} [ho : Own P f] (hi : effIdx E 0 k = some (i, e)) (hE : E[i]? = some e) (hek : e.k = some k) (hed : Nat.beq e.d d = true) (hT : e.takes = []) (hR : e.R = fun u => u = v) (hv : isUndef v = false) (hp : e.piece = fun _ _ => True) (hx : opnds env xs = some vs) (hd : Nat.blt d n = true)
    (hc : ∀ w F', holds w (F ++ F') → Ct P f vs.toArray w fun e w' => e = .returned v ∧ holds w' (F ++ F')) (h : GT P n ops E F Z (k + 1) rest ((d, v) :: env)) :
    GT P n ops E F Z k (⟨some d, .call { callee := .value (.func f), args := xs.toArray, argTypes := ts }, ty, pos, aft, none⟩ :: rest) env := ⟨fun a hf => by
  have hed : e.d = d := Nat.eq_of_beq_eq_true hed
  subst hed
  refine tok_op (R := fun u => u = v) [] [] (fun u => [fun _ => True]) ?_ ?_ ?_ rfl (fun u hu => ?_) (fun w F' hw => ?_) (fun u hu => by subst hu; exact h.out _ (hf.put hd _))
  · simp [effS, hi, hT, toksAt]
  · simp [effS, hi, toksAt]
  · simp only [effS, hi, hR]
  · subst hu
    simp only [effS, hi]
    refine effNow_at (hf.put hd u) [i] [fun _ => True] ?_ ⟨⟨e, hE, .inr ⟨u, by rw [look_cons, if_pos rfl], hv⟩⟩, trivial⟩
    simp [effNow, hE, hek, look_cons, hp]
  · have hr : (execOp a.eval ⟨some e.d, .call { callee := .value (.func f), args := xs.toArray, argTypes := ts }, ty, pos, aft, none⟩).run P w = .ok (.enter f vs.toArray) w := by
      simp [execOp, resolve, Act.eval, Deferred.ofValue, invoke, hf.evals hx, Result.andThen]
      exact ho.run _ _
    rw [hr]
    refine (hc w F' (by simpa using hw)).out.mono fun en w' ⟨he, hh⟩ => ⟨v, he, rfl, ?_⟩
    have h1 := (holds_sep (l := []) (m := F ++ F')).2 hh
    have h2 := h1.mono (B := fun _ => True) fun _ _ => trivial
    simpa using h2⟩
theorem G.isRegion (id : Nat) {l : Array Oper} {b : Bool} (h : G P n (.region id l b) Q env F) : G P n (.region id l b) Q env F := h
theorem GT.isAny {o : Oper} (h : GT P n ops E F Z k (o :: rest) env) : GT P n ops E F Z k (o :: rest) env := h
/-! ### What operations do -/
theorem owns_form {α : Type} {T : TypeId} {enc : α → List Value} {m : Nat} {v : Value} {l : List α} {w : World} {G : List HProp} (h : holds w (owns T enc m v l :: G)) : isUndef v = false := by
  rcases (holds.open_own h).2 with ⟨rfl, _⟩ | ⟨g, cap, cur, rfl, _⟩ <;> rfl
theorem run_append_any {α : Type} {t e : TypeId} {size bytes m : Nat} {z v u : Value} {enc : α → List Value} {l ys : List α} (ht : SliceT P t e size) (hz : ZeroT P e z size bytes) (he : Enc enc m) (hm : m = size) {w : World} {G : List HProp} (hw : holds w (owns e enc m v l :: G)) (hr : reads w m u ys.length (ys.flatMap enc))
    (hlen : (l.length + ys.length) * bytes ≤ 140737488355328) (hl63 : l.length + ys.length ≤ 140737488355328) (tT : TypeId) :
    ∃ v' w', (Builtin.append_ #[t, t] tT #[v, u]).run P w = .ok v' w' ∧ isUndef v' = false ∧ holds w' (owns e enc m v' (l ++ ys) :: G) := by
  subst hm
  obtain ⟨i, h1, h2, h3⟩ := ht.ok
  obtain ⟨i', g1, g2, g3, g4, g5⟩ := hz.ok
  have hii : i = i' := by rw [h2] at g1; exact Option.some.inj g1
  subst hii
  by_cases h0 : 0 < ys.length
  · obtain ⟨b, off, cap, rfl, hcap, hcell⟩ := hr.cells (Nat.mul_pos h0 he.pos)
    obtain ⟨v', w', hrun, hh⟩ := run_append_sl (P := P) (ty := tT) (c := cap) h1 h2 g2 h3 g4 g5 he.pos hw (a := ⟨b, off, none⟩) (m := ys.length) (news := ys.flatMap enc) (Enc.flat_len ys) (fun j x hx => by
      have hj := (List.getElem?_eq_some_iff.1 hx).1
      rw [Enc.flat_len ys] at hj
      rw [addr_add, hcell j hj]; exact hx) (fun x hx => by
      obtain ⟨y, _, hy'⟩ := List.mem_flatMap.1 hx
      exact he.one y x hy') (by unfold maxLen; omega) hlen h0
    refine ⟨v', w', hrun, ?_, ?_⟩
    · rcases (holds.open_own hh).2 with ⟨rfl, _⟩ | ⟨g, cap, cur, rfl, _⟩ <;> rfl
    · unfold owns; rw [List.length_append, List.flatMap_append]; exact hh
  · have hys : ys = [] := List.eq_nil_of_length_eq_zero (by omega)
    subst hys
    obtain ⟨c, cap, rfl, _⟩ := hr.form
    refine ⟨v, w, ?_, owns_form hw, by simpa using hw⟩
    rcases (holds.open_own hw).2 with ⟨rfl, hn, _⟩ | ⟨g, cap', cur, rfl, hc, _⟩
    · simp at hn; subst hn
      cases c <;> simp [Builtin.append_, run_underlying h1, sizeOf, typeInfo, h2, Builtin.lenOf, Builtin.firstCells, loadCells, loadCellsFrom, h3, Result.andThen]
    · cases c <;> simp [Builtin.append_, run_underlying h1, sizeOf, typeInfo, h2, Builtin.lenOf, Builtin.firstCells, loadCells, loadCellsFrom, storeCells, h3, hc, Result.andThen]
/-- append of a row that the region made. -/
theorem Does.append {α : Type} {t e : TypeId} {size bytes m : Nat} {z v u : Value} {x y : Operand} {enc : α → List Value} {l ys : List α} [ht : SliceT P t e size] [hz : ZeroT P e z size bytes] [he : Enc enc m] (hm : m = size) (hx : opnd env x = some v) (hy : opnd env y = some u)
    (hlen : (l.length + ys.length) * bytes ≤ 140737488355328) (hl63 : l.length + ys.length ≤ 140737488355328) :
    Does P n env F [owns e enc m v l, owns e enc m u ys] (.call { callee := .builtin .append, args := #[x, y], argTypes := #[t, t] }) (fun r => owns e enc m r (l ++ ys)) := ⟨fun a w F' ty pos aft g d hf hw => by
  have hw' : holds w (owns e enc m v l :: owns e enc m u ys :: (F ++ F')) := hw
  have hread : reads w m u ys.length (ys.flatMap enc) := holds.ownReads hw'.tail
  obtain ⟨v', w', hrun, hu, hh⟩ := run_append_any ht hz he hm hw' hread hlen hl63 ty
  simp only [execOp, resolve, invoke, builtin, Sem.run_bind, Sem.run_pure, Result.andThen_ok, List.map_toArray, List.map_cons, List.map_nil, hf.eval hx, hf.eval hy, hrun, looseUpon]
  exact ⟨hu, (hh.perm (.swap _ _ _)).tail⟩⟩
/-- .. of a row that was there. -/
theorem Does.appendR {α : Type} {t e : TypeId} {size bytes m m' : Nat} {z v u : Value} {x y : Operand} {enc enc' : α → List Value} {l ys : List α} [ht : SliceT P t e size] [hz : ZeroT P e z size bytes] [he : Enc enc m] (hm : m = size) (hx : opnd env x = some v) (hy : opnd env y = some u) [hr : Reads F u enc' m' ys] (hee : enc' = enc) (hmm : m' = m)
    (hlen : (l.length + ys.length) * bytes ≤ 140737488355328) (hl63 : l.length + ys.length ≤ 140737488355328) :
    Does P n env F [owns e enc m v l] (.call { callee := .builtin .append, args := #[x, y], argTypes := #[t, t] }) (fun r => owns e enc m r (l ++ ys)) := ⟨fun a w F' ty pos aft g d hf hw => by
  subst hee hmm
  have hw' : holds w (owns e enc' m' v l :: (F ++ F')) := hw
  have hread : reads w m' u ys.length (ys.flatMap enc') := hr.at_ w (hw'.tail.perm_drop (Z := F') (.refl _))
  obtain ⟨v', w', hrun, hu, hh⟩ := run_append_any ht hz he hm hw' hread hlen hl63 ty
  simp only [execOp, resolve, invoke, builtin, Sem.run_bind, Sem.run_pure, Result.andThen_ok, List.map_toArray, List.map_cons, List.map_nil, hf.eval hx, hf.eval hy, hrun, looseUpon]
  exact ⟨hu, hh⟩⟩
/-- A call that makes a row. -/
theorem Does.call {f : FuncId} {xs : List Operand} {ts : Array TypeId} {vs : List Value} {T : List HProp} {piece : Value → HProp} [ho : Own P f] (hx : opnds env xs = some vs)
    (hc : ∀ w F', holds w (T ++ (F ++ F')) → Ct P f vs.toArray w fun e w' => ∃ u, e = .returned u ∧ isUndef u = false ∧ holds w' (piece u :: (F ++ F'))) :
    Does P n env F T (.call { callee := .value (.func f), args := xs.toArray, argTypes := ts }) piece := ⟨fun a w F' ty pos aft g d hf hw => by
  have hr : (execOp a.eval ⟨d, .call { callee := .value (.func f), args := xs.toArray, argTypes := ts }, ty, pos, aft, g⟩).run P w = .ok (.enter f vs.toArray) w := by
    simp [execOp, resolve, Act.eval, Deferred.ofValue, invoke, hf.evals hx, Result.andThen]
    exact ho.run _ _
  rw [hr]
  exact (hc w F' hw).out.mono fun e w' ⟨u, he, hu, hh⟩ => ⟨u, he, hu, hh⟩⟩

end
end Go.Proofs.YtlcdaalalihaiaaGreat
end
section
namespace Go.Proofs.YtlcdaalalihaiaaGreat
open Go Go.RowKit Go.MapKept
set_option linter.unusedVariables false
set_option linter.unusedSectionVars false
set_option linter.unusedSimpArgs false

section
variable {β : Type} {P : Program} {n : Nat} {Q : Exit → Act → World → Prop} {env : Env} {F : List HProp} {ops : Array Oper} {rest : List Oper} {d : Tmp} {ty : TypeId} {pos : String} {aft : Array Edge}
/-- Block b is a map whose entries are m, but that the value at x, which bears the stamp s, is not yet there. -/
def imapHole (enc : β → Value) (b : Nat) (m : List (Int × β)) (x : Int) (s : Nat) : HProp := fun f =>
  ∃ es clock i, ((Stamped es clock ∧ (∃ e, es[i]? = some e ∧ e.born = s)) ∧ ∀ v, (es.modify i fun e => { e with val := enc v }).toList.map (fun e => (e.key, e.val)) = (alSet m x v).map (kv enc)) ∧ blk b (.map es clock) f
class HasHole {β : outParam Type} (F : List HProp) (b : Nat) (enc : outParam (β → Value)) (m : outParam (List (Int × β))) (x : outParam Int) (s : outParam Nat) (F' : outParam (List HProp)) : Prop where
  perm : F.Perm (imapHole enc b m x s :: F')
instance HasHole.here {b : Nat} {enc : β → Value} {m : List (Int × β)} {x : Int} {s : Nat} {F : List HProp} : HasHole (imapHole enc b m x s :: F) b enc m x s F := ⟨.refl _⟩
instance (priority := 500) HasHole.there {b : Nat} {enc : β → Value} {m : List (Int × β)} {x : Int} {s : Nat} {F F' : List HProp} {X : HProp} [h : HasHole F b enc m x s F'] : HasHole (X :: F) b enc m x s (X :: F') := ⟨(h.perm.cons X).trans (.swap _ _ _)⟩

theorem run_mapEntry_sl {t k e : TypeId} {z : Value} {w : World} {l : List HProp} {enc : β → Value} {b : Nat} {m : List (Int × β)} (ht : P.underlying t = some (.map k e)) (hk : P.underlying k = some (.int .i64)) (hz : ∀ w, (zeroValue e).run P w = .ok z w)
    (h : holds w (imap enc b m :: l)) (x : Int) :
    ∃ u s w', (Instr.mapEntry t (.map (some b)) (.int .i64 x)).run P w = .ok (.tuple #[u, .int .i64 (s : Nat)]) w' ∧ holds w' (imapHole enc b m x s :: l) := by
  obtain ⟨es, clock, h1, h2, h3⟩ := h.open_map
  have hf := findNow_int enc x es.toList m 0 h1
  have hck := run_checkKey (P := P) (w := w) (kt := k) (k := .int .i64 x) hk (by simp [IsKey]) false 9999
  have hlt : b < w.heap.size := (Array.getElem?_eq_some_iff.1 h3.get_blk).1
  cases hg : alFind x m 0 with
  | none =>
    obtain ⟨g1, g2, g3⟩ := alFind_none x m hg
    refine ⟨z, clock, { w with heap := w.heap.setIfInBounds b (.map (es.push { key := .int .i64 x, val := z, born := clock }) (clock + 1)) }, ?_, ?_⟩
    · simp [Instr.mapEntry, run_underlying ht, MapKept.run_getObj_map h3.get_blk, hck, Instr.findKey, run_underlying hk, hf, hg, hz, MapKept.run_setObj_map _ h3.get_blk, Result.andThen, goInt]
    · have h4 := h3.turn (w' := { w with heap := w.heap.setIfInBounds b (.map (es.push { key := .int .i64 x, val := z, born := clock }) (clock + 1)) })
        ⟨rfl, rfl, rfl, by simp, fun i _ hi => by simp at hi; simp [Ne.symm hi]⟩ (o' := .map (es.push { key := .int .i64 x, val := z, born := clock }) (clock + 1)) (by simp [hlt])
      refine h4.mono fun f hb => ⟨_, _, es.size, ⟨⟨stamped_push h2 fun y hy he => ?_, ⟨{ key := .int .i64 x, val := z, born := clock }, by simp, rfl⟩⟩, fun v => ?_⟩, hb⟩
      · have : (y.key, y.val) ∈ m.map (kv enc) := by rw [← h1]; exact List.mem_map.2 ⟨y, hy, rfl⟩
        obtain ⟨p, hp, hpe⟩ := List.mem_map.1 this
        simp only [kv, Prod.mk.injEq] at hpe
        rw [he] at hpe
        exact g1 p hp (by simpa using hpe.1)
      · rw [g2]
        have hm : es.size = m.length := size_of_kv h1
        apply List.ext_getElem?
        intro j
        simp only [List.getElem?_map, Array.getElem?_toList, Array.getElem?_modify, Array.getElem?_push, List.map_append, List.map_cons, List.map_nil, List.getElem?_append, List.length_map]
        have hj := congrArg (fun l => l[j]?) h1
        simp only [List.getElem?_map, Array.getElem?_toList] at hj
        by_cases hjs : j = es.size
        · subst hjs; simp [hm, kv]
        · by_cases hjl : j < es.size
          · rw [if_neg (fun h => hjs h.symm), if_neg hjs, if_pos (by omega)]; exact hj
          · have : es[j]? = none := by simp; omega
            rw [if_neg (fun h => hjs h.symm), if_neg hjs, this, if_neg (by omega)]
            have : j - m.length ≠ 0 := by omega
            cases hjm : j - m.length with
            | zero => omega
            | succ q => simp
  | some p =>
    obtain ⟨j, u⟩ := p
    obtain ⟨g1, g2, g3⟩ := alFind_spec x m j u hg
    have hes : ∃ e, es[j]? = some e ∧ e.key = .int .i64 x := by
      have hi := congrArg (fun l => l[j]?) h1
      simp only [List.getElem?_map, Array.getElem?_toList, g1, Option.map_some] at hi
      cases he : es[j]? with
      | none => simp [he] at hi
      | some e => simp [he, kv] at hi; exact ⟨e, rfl, hi.1⟩
    obtain ⟨e0, he0, hk0⟩ := hes
    refine ⟨enc u, e0.born, { w with heap := w.heap.setIfInBounds b (.map (es.modify j fun e => { e with key := .int .i64 x }) clock) }, ?_, ?_⟩
    · simp [Instr.mapEntry, run_underlying ht, MapKept.run_getObj_map h3.get_blk, hck, Instr.findKey, run_underlying hk, hf, hg, MapKept.run_setObj_map _ h3.get_blk, Result.andThen, Instr.keyThatStays, he0, hk0, Instr.sameBits, goInt]
    · have h4 := h3.turn (w' := { w with heap := w.heap.setIfInBounds b (.map (es.modify j fun e => { e with key := .int .i64 x }) clock) })
        ⟨rfl, rfl, rfl, by simp, fun i _ hi => by simp at hi; simp [Ne.symm hi]⟩ (o' := .map (es.modify j fun e => { e with key := .int .i64 x }) clock) (by simp [hlt])
      refine h4.mono fun f hb => ⟨_, _, j, ⟨⟨stamped_modify h2 j _ fun e he => ?_, ⟨{ e0 with key := .int .i64 x }, by rw [Array.getElem?_modify, if_pos rfl, he0]; rfl, rfl⟩⟩, fun v => ?_⟩, hb⟩
      · rw [he0] at he; cases he
        exact ⟨rfl, hk0.symm⟩
      · rw [g2]
        have e1 : ((es.modify j fun e => { e with key := .int .i64 x }).modify j fun e => { e with val := enc v }) = es.modify j fun e => { e with key := .int .i64 x, val := enc v } := by
          apply Array.ext_getElem?
          intro i
          simp only [Array.getElem?_modify]
          split <;> simp [Function.comp_def]
        rw [e1]
        exact kv_modify h1 g1 _ fun e => ⟨rfl, rfl⟩
theorem run_entryStore_sl {t : TypeId} {w : World} {l : List HProp} {enc : β → Value} {b : Nat} {m : List (Int × β)} {x : Int} {s : Nat} (h : holds w (imapHole enc b m x s :: l)) (v : β) :
    ∃ w', (Instr.entryStore t (.map (some b)) (.int .i64 s) (enc v)).run P w = .ok () w' ∧ holds w' (imap enc b (alSet m x v) :: l) := by
  obtain ⟨es, h⟩ := h.open_ex
  obtain ⟨clock, h⟩ := h.open_ex
  obtain ⟨i, h⟩ := h.open_ex
  obtain ⟨⟨⟨hst, e, he, hb⟩, hv⟩, h3⟩ := h.open_pure
  have hlt : b < w.heap.size := (Array.getElem?_eq_some_iff.1 h3.get_blk).1
  have hlti : i < es.size := (Array.getElem?_eq_some_iff.1 he).1
  have hei : es[i] = e := by rw [Array.getElem?_eq_getElem hlti] at he; exact Option.some.inj he
  have hfi : es.findIdx? (fun e => (e.born : Int) == (s : Int)) = some i := by
    rw [Array.findIdx?_eq_some_iff_getElem]
    refine ⟨hlti, by simp [hei, hb], fun j hj => ?_⟩
    obtain ⟨_, hnd, _⟩ := hst
    have hjlt : j < es.size := by omega
    simp only [beq_iff_eq, Bool.not_eq_true, beq_eq_false_iff_ne, ne_eq]
    intro hcon
    have h5 := (List.pairwise_iff_getElem.1 hnd) j i (by simpa using hjlt) (by simpa using hlti) hj
    simp [hei, hb] at h5
    omega
  refine ⟨{ w with heap := w.heap.setIfInBounds b (.map (es.modify i fun e => { e with val := enc v }) clock) }, ?_, ?_⟩
  · simp [Instr.entryStore, MapKept.run_getObj_map h3.get_blk, asInt, asIntOf, hfi, MapKept.run_setObj_map _ h3.get_blk, Result.andThen]
  · have h4 := h3.turn (w' := { w with heap := w.heap.setIfInBounds b (.map (es.modify i fun e => { e with val := enc v }) clock) })
      ⟨rfl, rfl, rfl, by simp, fun i _ hi => by simp at hi; simp [Ne.symm hi]⟩ (o' := .map (es.modify i fun e => { e with val := enc v }) clock) (by simp [hlt])
    exact h4.mkMap (hv v) (stamped_modify hst i _ fun e _ => ⟨rfl, rfl⟩)
theorem GL.mapEntry {t k e : TypeId} {x y : Operand} {b size bytes : Nat} {i : Int} {z : Value} {enc : β → Value} {m : List (Int × β)} {F' : List HProp} [hm : MapT P t k e] [hk : IntT P k .i64] [hz : ZeroT P e z size bytes] (hx : opnd env x = some (.map (some b))) (hy : opnd env y = some (.int .i64 i)) [hr : HasMap F b enc m F'] (hd : Nat.blt d n = true)
    (h : ∀ (u : Value) (s : Nat), GL P n ops Q rest ((d, .tuple #[u, .int .i64 s]) :: env) (imapHole enc b m i s :: F')) : GL P n ops Q (⟨some d, .mapEntry t x y, ty, pos, aft, none⟩ :: rest) env F := .mk fun a w hf hw => by
  refine wpList_plain rfl fun K hK => ?_
  obtain ⟨iz, g1, g2, _⟩ := hz.ok
  have hzr : ∀ w, (zeroValue e).run P w = .ok z w := fun w => by simp [zeroValue, typeInfo, g1, g2, Result.andThen]
  obtain ⟨u, s, w', hrun, hh⟩ := run_mapEntry_sl (P := P) hm.ok hk.ok hzr (hw.perm hr.perm) i
  unfold Oper.wp
  simp only [execOp, hf.eval hx, hf.eval hy, Sem.run_bind, Sem.run_pure, hrun, Result.andThen_ok]
  exact hK _ _ (h u s _ _ (hf.put hd _) hh)
theorem GL.entryStore {t : TypeId} {x y u : Operand} {b s : Nat} {i : Int} {val : Value} {enc : β → Value} {m : List (Int × β)} {F' : List HProp} (v : β) (hx : opnd env x = some (.map (some b))) (hy : opnd env y = some (.int .i64 (s : Nat))) (hu : opnd env u = some val) [hr : HasHole F b enc m i s F'] (hv : val = enc v)
    (h : GL P n ops Q rest env (imap enc b (alSet m i v) :: F')) : GL P n ops Q (⟨none, .entryStore t x y u, ty, pos, aft, none⟩ :: rest) env F := .mk fun a w hf hw => by
  refine wpList_plain rfl fun K hK => ?_
  obtain ⟨w', hrun, hh⟩ := run_entryStore_sl (P := P) (t := t) (hw.perm hr.perm) v
  unfold Oper.wp
  simp only [execOp, hf.eval hx, hf.eval hy, hf.eval hu, hv, Sem.run_bind, Sem.run_pure, hrun, Result.andThen_ok]
  exact hK _ _ (h _ _ hf hh)
/-- 'm[x]', told ahead. -/
theorem Runs.lookupS {t k e : TypeId} {x y : Operand} {b size bytes : Nat} {i : Int} {z : Value} {enc : β → Value} {m : List (Int × β)} {F' : List HProp} {u : β} [hm : MapT P t k e] [hk : IntT P k .i64] [hz : ZeroT P e z size bytes] (hx : opnd env x = some (.map (some b))) (hy : opnd env y = some (.int .i64 i)) [hr : HasMap F b enc m F'] (h : alGet m i = some u) :
    Runs P n env F (.lookup t x y false) (enc u) := by
  have := Runs.lookup (P := P) (n := n) (env := env) (F := F) (t := t) (x := x) (y := y) (b := b) (i := i) hx hy
  rw [h] at this
  exact this
theorem Runs.lookupN {t k e : TypeId} {x y : Operand} {b size bytes : Nat} {i : Int} {z : Value} {enc : β → Value} {m : List (Int × β)} {F' : List HProp} [hm : MapT P t k e] [hk : IntT P k .i64] [hz : ZeroT P e z size bytes] (hx : opnd env x = some (.map (some b))) (hy : opnd env y = some (.int .i64 i)) [hr : HasMap F b enc m F'] (h : alGet m i = none) :
    Runs P n env F (.lookup t x y false) z := by
  have := Runs.lookup (P := P) (n := n) (env := env) (F := F) (t := t) (x := x) (y := y) (b := b) (i := i) hx hy
  rw [h] at this
  exact this
def encI (x : Int) : Value := .int .i64 x
theorem Runs.lookupI {t k e : TypeId} {x y : Operand} {b size bytes : Nat} {i : Int} {m : List (Int × Int)} {F' : List HProp} [hm : MapT P t k e] [hk : IntT P k .i64] [hz : ZeroT P e (.int .i64 0) size bytes] (hx : opnd env x = some (.map (some b))) (hy : opnd env y = some (.int .i64 i)) [hr : HasMap F b encI m F'] :
    Runs P n env F (.lookup t x y false) (.int .i64 ((alGet m i).getD 0)) := by
  have := Runs.lookup (P := P) (n := n) (env := env) (F := F) (t := t) (x := x) (y := y) (b := b) (i := i) hx hy
  cases h : alGet m i with
  | none => rw [h] at this; exact this
  | some u => rw [h] at this; exact this
end
end Go.Proofs.YtlcdaalalihaiaaGreat
end
