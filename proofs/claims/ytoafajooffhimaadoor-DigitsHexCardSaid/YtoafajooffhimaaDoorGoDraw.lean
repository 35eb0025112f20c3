/- Laws of walking for regions that draw the order of their operations: those that read, and call what only reads, in one walk in the order of the text; then a tail that comes up in that order. -/
import Derived.Test.YtoafajooffhimaaDoorGoMem
import Derived.Test.YtoafajooffhimaaDoorLooseT
import Derived.LoopN
namespace Go.Proofs.YtoafajooffhimaaDoor
open Go Go.RowKit Go.MapKept
set_option linter.unusedVariables false
set_option linter.unusedSectionVars false
set_option linter.unusedSimpArgs false

section
variable {P : Program} {ops : Array Oper} {F : List HProp} {Z : Act → Prop}
def bareS (S : Nat → Option LSpec) : Prop := ∀ i u, lpieces S i u = []
theorem needs_bareS {S : Nat → Option LSpec} (h : bareS S) (k : Nat) (o : Oper) (a : Act) : needs ops S k o a = [] := by
  unfold needs
  refine List.flatMap_eq_nil_iff.2 fun i _ => ?_
  split
  · unfold pieceAt; split
    · rfl
    · exact h _ _
  · rfl
theorem loose_congr {S S' : Nat → Option LSpec} (hs : bareS S) (hs' : bareS S') : ∀ (l : List Oper) (k : Nat) (a : Act), (∀ j, k ≤ j → S j = S' j) → wpLoose P ops S F Z k l a → wpLoose P ops S' F Z k l a
  | [], k, a, _, h => h
  | o :: l, k, a, he, h => by
    unfold wpLoose at h ⊢
    have ih : ∀ a, wpLoose P ops S F Z (k + 1) l a → wpLoose P ops S' F Z (k + 1) l a := fun a => loose_congr hs hs' l (k + 1) a fun j hj => he j (by omega)
    split at h
    · rename_i hw
      rw [if_pos hw]
      unfold LooseOp at h ⊢
      rw [← he k (Nat.le_refl _)]
      cases hS : S k with
      | none =>
        rw [hS] at h
        intro w F' hh
        rw [needs_bareS hs'] at hh
        exact exactUpon_mono (h w F' (by rw [needs_bareS hs]; exact hh)) fun v _ hv => ih _ hv
      | some s =>
        rw [hS] at h
        refine ⟨fun w F' hh => ?_, fun u hu => ih _ (h.2 u hu)⟩
        rw [needs_bareS hs'] at hh ⊢
        have := h.1 w F' (by rw [needs_bareS hs]; exact hh)
        rw [needs_bareS hs] at this
        have e1 : ∀ u, lpieces S k u = lpieces S' k u := fun u => by rw [hs, hs']
        simp only [e1] at this
        exact this
    · rename_i hw
      rw [if_neg hw]
      exact ih _ h
end

section
variable (P : Program) (n : Nat) (ops : Array Oper)
/-- The rest of a drawn region. -/
structure GD (F : List HProp) (Z : Act → Prop) (k : Nat) (rest : List Oper) (env : Env) : Prop where
  out : ∃ S, bareS S ∧ ∀ a, Fits n a env → wpLoose P ops S F Z k rest a
end
section
variable {P : Program} {n : Nat} {ops : Array Oper} {Q : Exit → Act → World → Prop} {env : Env} {F : List HProp} {Z : Act → Prop} {k : Nat} {rest : List Oper} {d : Tmp} {ty : TypeId} {pos : String} {aft : Array Edge}
theorem GD.nil (h : ∀ a, Fits n a env → Z a) : GD P n ops F Z k [] env := .mk ⟨fun _ => none, fun i u => rfl, fun a hf => h a hf⟩
theorem GD.nilE (h : GE n .normal Q env F) : GD P n ops F (fun a' => ∀ w', holds w' F → Q .normal a' w') k [] env := GD.nil fun a hf w hw => h a w hf hw
theorem GD.nilL {l : List Oper} (h : GL P n ops Q l env F) : GD P n ops F (fun a' => ∀ w', holds w' F → wpList P ops Q l a' w') k [] env := GD.nil fun a hf w hw => h a w hf hw
theorem GD.step {op : Op} {env' : Env} {dst : Option Tmp} {g : Option (Nat × Bool)} (sp : Option LSpec) (hsp : ∀ s, sp = some s → ∀ u : Value, (match u with | Value.tuple t => if t.size = 0 then ([] : List HProp) else s.N u | _ => s.N u) = [])
    (hg : ∀ a, Fits n a env → Region.wanted (⟨dst, op, ty, pos, aft, g⟩ : Oper) (yielded ops a.tmps) = true)
    (h1 : ∀ a, Fits n a env → match sp with
      | none => ∀ w F', holds w (F ++ F') → ∃ v, (execOp a.eval ⟨dst, op, ty, pos, aft, g⟩).run P w = Result.ok (Next.value v) w ∧ Fits n (a.put dst v) env'
      | some s => (∀ w F', holds w (F ++ F') → looseUpon P (fun u w' => s.R u ∧ holds w' (F ++ F')) ((execOp a.eval ⟨dst, op, ty, pos, aft, g⟩).run P w)) ∧ ∀ u, s.R u → Fits n (a.put dst u) env')
    (h : GD P n ops F Z (k + 1) rest env') : GD P n ops F Z k (⟨dst, op, ty, pos, aft, g⟩ :: rest) env := by
  obtain ⟨S', hb', h'⟩ := h.out
  let S : Nat → Option LSpec := fun i => if i = k then sp else S' i
  have hb : bareS S := by
    intro i u
    by_cases hi : i = k
    · unfold lpieces
      simp only [S, hi, if_true]
      cases hspq : sp with
      | none => rfl
      | some s => exact hsp s hspq u
    · have := hb' i u
      unfold lpieces at this ⊢
      simp only [S, hi, if_false]
      exact this
  have hcg : ∀ a, wpLoose P ops S' F Z (k + 1) rest a → wpLoose P ops S F Z (k + 1) rest a := fun a => loose_congr hb' hb rest (k + 1) a fun j hj => by
    have : j ≠ k := by omega
    simp [S, this]
  refine .mk ⟨S, hb, fun a hf => ?_⟩
  unfold wpLoose
  rw [if_pos (hg a hf)]
  unfold LooseOp
  have hSk : S k = sp := by simp [S]
  rw [hSk]
  have h1 := h1 a hf
  cases sp with
  | none =>
    intro w F' hh
    rw [needs_bareS hb] at hh
    obtain ⟨v, hr, hv⟩ := h1 w F' hh
    rw [hr]
    exact ⟨rfl, hcg _ (h' _ hv)⟩
  | some s =>
    refine ⟨fun w F' hh => ?_, fun u hu => hcg _ (h' _ (h1.2 u hu))⟩
    rw [needs_bareS hb] at hh ⊢
    have e1 : ∀ u, lpieces S k u = [] := fun u => hb k u
    simp only [e1, List.nil_append]
    exact h1.1 w F' hh
theorem GD.run {op : Op} {v : Value} (hr : Runs P n env F op v) (hd : Nat.blt d n = true) (h : GD P n ops F Z (k + 1) rest ((d, v) :: env)) : GD P n ops F Z k (⟨some d, op, ty, pos, aft, none⟩ :: rest) env :=
  GD.step none (fun s hs => by cases hs) (fun a hf => rfl) (fun a hf w F' hh => ⟨v, hr a w _ _ _ _ _ hf (hh.perm_drop (Z := F') (.refl _)), hf.put hd v⟩) h
theorem GD.run0 {op : Op} {v : Value} (hr : Runs P n env F op v) (h : GD P n ops F Z (k + 1) rest env) : GD P n ops F Z k (⟨none, op, ty, pos, aft, none⟩ :: rest) env :=
  GD.step none (fun s hs => by cases hs) (fun a hf => rfl) (fun a hf w F' hh => ⟨v, hr a w _ _ _ _ _ hf (hh.perm_drop (Z := F') (.refl _)), hf⟩) h
/-- A call that only reads. -/
theorem GD.call {f : FuncId} {xs : List Operand} {ts : Array TypeId} {vs : List Value} {v : Value} [ho : Own P f] (hx : opnds env xs = some vs) (hd : Nat.blt d n = true)
    (hc : ∀ w F', holds w (F ++ F') → Ct P f vs.toArray w fun e w' => e = .returned v ∧ holds w' (F ++ F')) (h : GD P n ops F Z (k + 1) rest ((d, v) :: env)) :
    GD P n ops F Z k (⟨some d, .call { callee := .value (.func f), args := xs.toArray, argTypes := ts }, ty, pos, aft, none⟩ :: rest) env := by
  refine GD.step (some ⟨fun u => u = v, fun _ => []⟩) (fun s hs u => by cases hs; cases u <;> simp) (fun a hf => rfl) (fun a hf => ⟨fun w F' hh => ?_, fun u hu => by subst hu; exact hf.put hd _⟩) h
  have hr : (execOp a.eval ⟨some d, .call { callee := .value (.func f), args := xs.toArray, argTypes := ts }, ty, pos, aft, none⟩).run P w = .ok (.enter f vs.toArray) w := by
    simp [execOp, resolve, Act.eval, Deferred.ofValue, invoke, hf.evals hx, Result.andThen]
    exact ho.run _ _
  rw [hr]
  exact (hc w F' hh).out.mono fun e w' ⟨he, hh'⟩ => ⟨v, he, rfl, hh'⟩
/-- Under a guard. -/
theorem GD.guard {op : Op} {dst : Option Tmp} {j : Nat} {want b : Bool} {dj : Tmp} (hj : (ops[j]?).bind (·.dst) = some dj) (hb : look env dj = some (.bool b))
    (hy : b = want → GD P n ops F Z k (⟨dst, op, ty, pos, aft, none⟩ :: rest) ((dj, .bool want) :: env)) (hn : b = !want → GD P n ops F Z k (⟨dst, op, ty, pos, aft, some (j, want)⟩ :: rest) ((dj, .bool !want) :: env)) :
    GD P n ops F Z k (⟨dst, op, ty, pos, aft, some (j, want)⟩ :: rest) env := by
  have hs : ∀ c, b = c → ∀ a, Fits n a env → Fits n a ((dj, .bool c) :: env) := fun c hc a hf => ⟨hf.size, hf.defs, fun k v hk => by
    rw [look_cons] at hk
    split at hk
    · rename_i e; subst e; cases hk; subst hc; exact hf.at_ _ _ hb
    · exact hf.at_ _ _ hk⟩
  by_cases h : b = want
  · obtain ⟨S, hbare, h1⟩ := (hy h).out
    refine .mk ⟨S, hbare, fun a hf => ?_⟩
    have hyl : yielded ops a.tmps j = some b := by
      have := hf.at_ _ _ hb
      unfold yielded; rw [hj, Option.bind_some, this]
    have h2 := h1 a (hs _ h a hf)
    unfold wpLoose at h2 ⊢
    have hw : Region.wanted (⟨dst, op, ty, pos, aft, some (j, want)⟩ : Oper) (yielded ops a.tmps) = true := by simp [Region.wanted, hyl, h]
    rw [if_pos hw]
    rw [if_pos (by simp [Region.wanted])] at h2
    unfold LooseOp at h2 ⊢
    rw [needs_bareS hbare] at h2 ⊢
    exact h2
  · have hb' : b = !want := by revert h; cases b <;> cases want <;> simp
    obtain ⟨S, hbare, h1⟩ := (hn hb').out
    exact .mk ⟨S, hbare, fun a hf => h1 a (hs _ hb' a hf)⟩
theorem GD.guardY {op : Op} {dst : Option Tmp} {j : Nat} {want : Bool} {dj : Tmp} (hj : (ops[j]?).bind (·.dst) = some dj) (hb : look env dj = some (.bool want)) (h : GD P n ops F Z k (⟨dst, op, ty, pos, aft, none⟩ :: rest) env) :
    GD P n ops F Z k (⟨dst, op, ty, pos, aft, some (j, want)⟩ :: rest) env := by
  obtain ⟨S, hbare, h1⟩ := h.out
  refine .mk ⟨S, hbare, fun a hf => ?_⟩
  have hyl : yielded ops a.tmps j = some want := by
    have := hf.at_ _ _ hb
    unfold yielded; rw [hj, Option.bind_some, this]
  have h2 := h1 a hf
  unfold wpLoose at h2 ⊢
  have hw : Region.wanted (⟨dst, op, ty, pos, aft, some (j, want)⟩ : Oper) (yielded ops a.tmps) = true := by simp [Region.wanted, hyl]
  rw [if_pos hw]
  rw [if_pos (by simp [Region.wanted])] at h2
  unfold LooseOp at h2 ⊢
  rw [needs_bareS hbare] at h2 ⊢
  exact h2
theorem GD.guardN {op : Op} {d : Tmp} {j : Nat} {want : Bool} {dj : Tmp} (hj : (ops[j]?).bind (·.dst) = some dj) (hb : look env dj = some (.bool !want)) (hd : Nat.blt d n = true) (h : GD P n ops F Z (k + 1) rest ((d, undef) :: env)) :
    GD P n ops F Z k (⟨some d, op, ty, pos, aft, some (j, want)⟩ :: rest) env := by
  obtain ⟨S, hbare, h1⟩ := h.out
  refine .mk ⟨S, hbare, fun a hf => ?_⟩
  have hyl : yielded ops a.tmps j = some !want := by
    have := hf.at_ _ _ hb
    unfold yielded; rw [hj, Option.bind_some, this]
  unfold wpLoose
  have hw : Region.wanted (⟨some d, op, ty, pos, aft, some (j, want)⟩ : Oper) (yielded ops a.tmps) = false := by
    simp only [Region.wanted, hyl]; cases want <;> rfl
  rw [hw]
  exact h1 _ (hf.put hd _)

theorem GD.guardU {op : Op} {d : Tmp} {j : Nat} {want : Bool} {dj : Tmp} (hj : (ops[j]?).bind (·.dst) = some dj) (hb : look env dj = some undef) (hd : Nat.blt d n = true) (h : GD P n ops F Z (k + 1) rest ((d, undef) :: env)) :
    GD P n ops F Z k (⟨some d, op, ty, pos, aft, some (j, want)⟩ :: rest) env := by
  obtain ⟨S, hbare, h1⟩ := h.out
  refine .mk ⟨S, hbare, fun a hf => ?_⟩
  have hyl : yielded ops a.tmps j = none := by
    have := hf.at_ _ _ hb
    unfold yielded; rw [hj, Option.bind_some, this]; rfl
  unfold wpLoose
  have hw : Region.wanted (⟨some d, op, ty, pos, aft, some (j, want)⟩ : Oper) (yielded ops a.tmps) = false := by
    simp only [Region.wanted, hyl]; cases want <;> rfl
  rw [hw]
  exact h1 _ (hf.put hd _)
theorem G.draw {id : Nat} {l : List Oper} (hm : P.follows .mixedOrders = true) (hB : (Region.lexB .any l.toArray && looseB l.toArray .any) = true)
    (h : GD P n l.toArray F (fun a' => ∀ w', holds w' F → Q .normal a' w') 0 l env) : G P n (.region id l.toArray true) Q env F := .mk fun a w hf hw => by
  obtain ⟨S, _, h1⟩ := h.out
  exact wp_region_loose S F hm hB hw (h1 a hf)
theorem G.drawTail {id : Nat} {l l1 l2 : List Oper} (m : Nat) (hm : P.follows .mixedOrders = true) (h1 : l.take m = l1) (h2 : l.drop m = l2) (hB : (Region.lexTailB .any l.toArray m && looseB l.toArray .any) = true)
    (h : GD P n l.toArray F (fun a' => ∀ w', holds w' F → wpList P l.toArray Q l2 a' w') 0 l1 env) : G P n (.region id l.toArray true) Q env F := .mk fun a w hf hw => by
  subst h1 h2
  obtain ⟨S, _, h1⟩ := h.out
  exact wp_region_loose_tail m S F hm hB hw (h1 a hf)

/-! ### Loops of few rounds -/
theorem G.unroll (m : Nat) {c : Code} (h : G P n c (Exit.then (Code.rounds P c Q m) Q) env F) : G P n (.loop c) Q env F := .mk fun a w hf hw => wp_loop_rounds (m + 1) (h a w hf hw)
theorem GE.again {m : Nat} {c : Code} (h : G P n c (Exit.then (Code.rounds P c Q m) Q) env F) : GE n .normal (Exit.then (Code.rounds P c Q (m + 1)) Q) env F := .mk fun a w hf hw => h a w hf hw

/-! ### Results -/
def resOf (tmps : Array Value) : ResultVar → Sem Value
  | .tmp t => pure (tmps.getD t undef)
  | .cell p t => do loadVar t (← asAddr (tmps.getD p undef))
theorem results_resOf (fn : Func) (tmps : Array Value) : results fn tmps = (do let vs ← fn.results.mapM (resOf tmps); pure (if h : vs.size = 1 then vs[0] else .tuple vs)) := by
  unfold results
  congr 1
structure Res (P : Program) (n : Nat) (env : Env) (F : List HProp) (rs : List ResultVar) (vs : List Value) : Prop where
  out : ∀ a w, Fits n a env → holds w F → (rs.mapM (resOf a.tmps)).run P w = .ok vs w
theorem Res.nil : Res P n env F [] [] := ⟨fun a w hf hw => by simp⟩
theorem Res.tmp {t : Tmp} {v : Value} {rs : List ResultVar} {vs : List Value} (hv : look env t = some v) (h : Res P n env F rs vs) : Res P n env F (.tmp t :: rs) (v :: vs) := ⟨fun a w hf hw => by
  have h1 : a.tmps.getD t undef = v := by have := hf.at_ _ _ hv; simp [this]
  simp only [List.mapM_cons, resOf, h1, Sem.run_bind, Sem.run_pure, Result.andThen_ok, h.out a w hf hw]⟩
theorem Res.cellA {t : TypeId} {p : Tmp} {b o size : Nat} {c : Array Value} {us : List Value} {rs : List ResultVar} {vs : List Value} [AggT P t size] (hv : look env p = some (.pointer (some ⟨b, o, none⟩))) [hb : SeesBlk F b c] (hu : (c.toList.drop o).take size = us) (hl : Nat.beq us.length size = true) (h : Res P n env F rs vs) : Res P n env F (.cell p t :: rs) (.agg us.toArray :: vs) := ⟨fun a w hf hw => by
  have h1 : a.tmps.getD p undef = .pointer (some ⟨b, o, none⟩) := by have := hf.at_ _ _ hv; simp [this]
  have hl : us.length = size := Nat.eq_of_beq_eq_true hl
  obtain ⟨T, fz, hbw⟩ := hb.at_ w hw
  have h2 := run_loadAgg (P := P) (t := t) (b := b) (off := o) (w := w) (vs := us) hl fun j hj => by
    rw [cell_of_row w b (o + j) c T fz hbw, ← hu, List.getElem?_take, if_pos hj, List.getElem?_drop, Array.getElem?_toList]
  simp only [List.mapM_cons, resOf, h1, asAddr, pure_bind, Sem.run_bind, Sem.run_pure, Result.andThen_ok, h2, h.out a w hf hw]⟩
theorem Res.cell1 {t : TypeId} {p : Tmp} {b o : Nat} {c : Array Value} {u : Value} {rs : List ResultVar} {vs : List Value} [CellT P t] (hv : look env p = some (.pointer (some ⟨b, o, none⟩))) [hb : SeesBlk F b c] (hu : nthL c.toList o = some u) (h : Res P n env F rs vs) : Res P n env F (.cell p t :: rs) (u :: vs) := ⟨fun a w hf hw => by
  have hu := nthL_arr hu
  have h1 : a.tmps.getD p undef = .pointer (some ⟨b, o, none⟩) := by have := hf.at_ _ _ hv; simp [this]
  obtain ⟨T, fz, hbw⟩ := hb.at_ w hw
  have h2 : (loadVar t ⟨b, o, none⟩).run P w = .ok u w := run_loadCell ((cell_of_row w b o c T fz hbw).trans hu)
  simp only [List.mapM_cons, resOf, h1, asAddr, pure_bind, Sem.run_bind, Sem.run_pure, Result.andThen_ok, h2, h.out a w hf hw]⟩
theorem Res.run {rs : List ResultVar} {vs : List Value} {fn : Func} (h : Res P n env F rs vs) (hr : fn.results = rs.toArray) {a : Act} {w : World} (hf : Fits n a env) (hw : holds w F) : (results fn a.tmps).run P w = .ok (if h : vs.toArray.size = 1 then vs.toArray[0] else .tuple vs.toArray) w := by
  rw [results_resOf, hr]
  have h2 := h.out a w hf hw
  rw [List.mapM_toArray]
  simp [Sem.run_bind, h2, Result.andThen]
theorem GE.resOne {rs : List ResultVar} {v : Value} {fn : Func} {R : Ending → World → Prop} (hr : fn.results = rs.toArray) (h : Res P n env F rs [v]) (hR : ∀ w, holds w F → R (.returned v) w) : GE n .ret (bodyPost P fn R) env F := .mk fun a w hf hw =>
  bodyPost_ret (by simpa using h.run hr hf hw) hf.defs (hR w hw)
theorem GE.resMany {rs : List ResultVar} {v u : Value} {vs : List Value} {fn : Func} {R : Ending → World → Prop} (hr : fn.results = rs.toArray) (h : Res P n env F rs (v :: u :: vs)) (hR : ∀ w, holds w F → R (.returned (.tuple (v :: u :: vs).toArray)) w) : GE n .ret (bodyPost P fn R) env F := .mk fun a w hf hw =>
  bodyPost_ret (by simpa using h.run hr hf hw) hf.defs (hR w hw)

/-! ### Calls -/
theorem holds.take1 {w : World} {X : HProp} {F0 : List HProp} [h : Has F X F0] (hw : holds w F) : holds w (X :: F0) := hw.perm h.perm
theorem holds.take2 {w : World} {X Y : HProp} {F0 F1 : List HProp} [h : Has F X F0] [h2 : Has F0 Y F1] (hw : holds w F) : holds w (X :: Y :: F1) := hw.perm (h.perm.trans (h2.perm.cons X))
theorem holds.take3 {w : World} {X Y Z : HProp} {F0 F1 F2 : List HProp} [h : Has F X F0] [h2 : Has F0 Y F1] [h3 : Has F1 Z F2] (hw : holds w F) : holds w (X :: Y :: Z :: F2) := hw.perm (h.perm.trans ((h2.perm.trans (h3.perm.cons Y)).cons X))
/-- Some pieces among others. -/
class Takes (F pre : List HProp) (F0 : outParam (List HProp)) : Prop where
  perm : F.Perm (pre ++ F0)
instance Takes.nil : Takes F [] F := ⟨.refl _⟩
instance Takes.cons {X : HProp} {pre F1 F0 : List HProp} [h : Has F X F1] [h2 : Takes F1 pre F0] : Takes F (X :: pre) F0 := ⟨h.perm.trans (h2.perm.cons X)⟩
/-- In a drawn region: a call that keeps the pieces that it looks at. -/
theorem GD.callK {f : FuncId} {xs : List Operand} {ts : Array TypeId} {vs : List Value} {v : Value} {F0 : List HProp} (pre : List HProp) [ho : Own P f] [ht : Takes F pre F0] (hx : opnds env xs = some vs) (hd : Nat.blt d n = true)
    (hc : ∀ w F', holds w (pre ++ F') → Ct P f vs.toArray w fun e w' => e = .returned v ∧ holds w' (pre ++ F')) (h : GD P n ops F Z (k + 1) rest ((d, v) :: env)) :
    GD P n ops F Z k (⟨some d, .call { callee := .value (.func f), args := xs.toArray, argTypes := ts }, ty, pos, aft, none⟩ :: rest) env :=
  GD.call hx hd (fun w F' hw => (hc w (F0 ++ F') (hw.perm (by rw [← List.append_assoc]; exact ht.perm.append_right F'))).mono fun e w' h => ⟨h.1, h.2.perm (by rw [← List.append_assoc]; exact (ht.perm.append_right F').symm)⟩) h
/-- A call through a function value. -/
theorem GL.callV {x : Operand} {f : FuncId} {first captured : List Value} {xs : List Operand} {ts : Array TypeId} {vs : List Value} {α : Sort _} {v : α → Value} {F' : α → List HProp} [ho : Own P f] (hf : opnd env x = some (.func (.func f) first.toArray captured.toArray)) (hx : opnds env xs = some vs) (hd : Nat.blt d n = true)
    (hc : ∀ w, holds w F → Ct P f (first ++ vs ++ captured).toArray w fun e w' => ∃ x, e = .returned (v x) ∧ holds w' (F' x)) (h : ∀ x, GL P n ops Q rest ((d, v x) :: env) (F' x)) :
    GL P n ops Q (⟨some d, .call { callee := .value x, args := xs.toArray, argTypes := ts }, ty, pos, aft, none⟩ :: rest) env F := .mk fun a w hff hw => by
  refine wpList_plain rfl fun K hK => ?_
  have hr : (execOp a.eval ⟨some d, .call { callee := .value x, args := xs.toArray, argTypes := ts }, ty, pos, aft, none⟩).run P w = .ok (.enter f (first ++ vs ++ captured).toArray) w := by
    simp [execOp, resolve, Deferred.ofValue, invoke, hff.evals hx, hff.eval hf, Result.andThen]
    exact ho.run _ _
  unfold Oper.wp
  rw [hr]
  refine (hc w hw).out.mono fun e w' ⟨x, he, hh⟩ => ?_
  subst he
  exact hK _ _ (h x _ _ (hff.put hd _) hh)
theorem GL.callV1 {x : Operand} {f : FuncId} {first captured : List Value} {xs : List Operand} {ts : Array TypeId} {vs : List Value} {v : Value} {F' : List HProp} [ho : Own P f] (hf : opnd env x = some (.func (.func f) first.toArray captured.toArray)) (hx : opnds env xs = some vs) (hd : Nat.blt d n = true)
    (hc : ∀ w, holds w F → Ct P f (first ++ vs ++ captured).toArray w fun e w' => e = .returned v ∧ holds w' F') (h : GL P n ops Q rest ((d, v) :: env) F') :
    GL P n ops Q (⟨some d, .call { callee := .value x, args := xs.toArray, argTypes := ts }, ty, pos, aft, none⟩ :: rest) env F :=
  GL.callV (α := Unit) hf hx hd (fun w hw => (hc w hw).mono fun e w' h => ⟨(), h⟩) fun _ => h
theorem Runs.makeFunc {f : FuncId} {fs cs : List Operand} {us vs : List Value} (hx : opnds env fs = some us) (hy : opnds env cs = some vs) : Runs P n env F (.makeFunc (.func f) fs.toArray cs.toArray) (.func (.func f) us.toArray vs.toArray) := .mk fun a w ty pos aft g d hf hw => by
  simp [execOp, Instr.makeFunc, hf.evals hx, hf.evals hy, Result.andThen]

/-! ### Shifts, masks -/
class Pow2 (c : Int) (p : outParam Int) : Prop where
  ok : 0 ≤ c ∧ p = 2 ^ (min c.toNat 64) ∧ 0 < p
instance : Pow2 0 1 := ⟨by decide⟩
instance : Pow2 1 2 := ⟨by decide⟩
instance : Pow2 20 1048576 := ⟨by decide⟩
instance : Pow2 40 1099511627776 := ⟨by decide⟩
instance : Pow2 60 1152921504606846976 := ⟨by decide⟩
section
variable {xT yT : TypeId} {x y : Operand} {i c p : Int}
theorem Runs.shl [hp : Pow2 c p] (hx : opnd env x = some (.int .i64 i)) (hy : opnd env y = some (.int .i64 c)) (h : -9223372036854775808 ≤ i * p ∧ i * p ≤ 9223372036854775807) : Runs P n env F (.binOp .shl xT x y yT) (.int .i64 (i * p)) := .mk fun a w ty pos aft g d hf hw => by
  obtain ⟨h0, hp, _⟩ := hp.ok
  have hc : ¬ c < 0 := by omega
  have := IntWalk.i64_in (i * p) (by omega)
  rw [hp] at this
  simp [execOp, hf.eval hx, hf.eval hy, eqGuard, binOp, Op.shift, IntKind.bits, hc, hp, Result.andThen]
  exact this
theorem Runs.shr [hp : Pow2 c p] (hx : opnd env x = some (.int .i64 i)) (hy : opnd env y = some (.int .i64 c)) : Runs P n env F (.binOp .shr xT x y yT) (.int .i64 (i / p)) := .mk fun a w ty pos aft g d hf hw => by
  obtain ⟨h0, hp, h1⟩ := hp.ok
  have hc : ¬ c < 0 := by omega
  have h2 := Int.fdiv_eq_ediv_of_nonneg i (b := p) (by omega)
  rw [hp] at h2
  simp [execOp, hf.eval hx, hf.eval hy, eqGuard, binOp, Op.shift, IntKind.bits, hc, hp, Result.andThen]
  exact h2
theorem Runs.and20 (hx : opnd env x = some (.int .i64 i)) (hy : opnd env y = some (.int .i64 1048575)) : Runs P n env F (.binOp .and xT x y yT) (.int .i64 (i % 1048576)) := .mk fun a w ty pos aft g d hf hw => by
  have h127 : (BitVec.ofInt 64 1048575).toNat = 2 ^ 20 - 1 := by decide
  have key : (BitVec.ofInt 64 i &&& BitVec.ofInt 64 1048575).toNat = (i % ((2 ^ 64 : Nat) : Int)).toNat % 2 ^ 20 := by
    rw [BitVec.toNat_and, BitVec.toNat_ofInt, h127, Nat.and_two_pow_sub_one_eq_mod]
  have h2 : IntKind.i64.wrap ((BitVec.ofInt 64 i &&& BitVec.ofInt 64 1048575).toNat : Nat) = i % 1048576 := by
    rw [key, IntKind.wrap_i64]
    omega
  have e : Op.intBits .and .i64 i 1048575 = pure (.int .i64 (IntKind.i64.wrap ((BitVec.ofInt 64 i &&& BitVec.ofInt 64 1048575).toNat : Nat))) := rfl
  simp only [execOp, hf.eval hx, hf.eval hy]
  have e2 : eqGuard .and xT x y (.int .i64 i) (.int .i64 1048575) = pure () := rfl
  have e3 : binOp .and xT (.int .i64 i) (.int .i64 1048575) = Op.intBits .and .i64 i 1048575 := rfl
  rw [e2, e3, e, h2]
  simp [Result.andThen]
end
section
variable {v : Value} {x y c : Operand} {t u : TypeId}
/-- min, max of two. -/
theorem Runs.min2 {x y : Operand} {i j : Int} {ts : Array TypeId} (hx : opnd env x = some (.int .i64 i)) (hy : opnd env y = some (.int .i64 j)) : Runs P n env F (.call { callee := .builtin .min, args := #[x, y], argTypes := ts }) (.int .i64 (min i j)) := .mk fun a w ty pos aft g d hf hw => by
  have e : (if j < i then j else i) = min i j := by rw [Int.min_def]; split <;> split <;> omega
  simp [execOp, resolve, invoke, builtin, Builtin.min_, Builtin.min2, hf.eval hx, hf.eval hy, e, Result.andThen]
theorem Runs.max2 {x y : Operand} {i j : Int} {ts : Array TypeId} (hx : opnd env x = some (.int .i64 i)) (hy : opnd env y = some (.int .i64 j)) : Runs P n env F (.call { callee := .builtin .max, args := #[x, y], argTypes := ts }) (.int .i64 (max i j)) := .mk fun a w ty pos aft g d hf hw => by
  have e : (if i < j then j else i) = max i j := by rw [Int.max_def]; split <;> split <;> omega
  simp [execOp, resolve, invoke, builtin, Builtin.max_, Builtin.max2, hf.eval hx, hf.eval hy, e, Result.andThen]
/-- Between kinds of integers, what fits. -/
class InKind (k : IntKind) (lo hi : outParam Int) : Prop where
  ok : ∀ n, lo ≤ n ∧ n ≤ hi → k.wrap n = n
instance : InKind .i64 (-9223372036854775808) 9223372036854775807 := ⟨fun n h => IntWalk.i64_in n h⟩
instance : InKind .u64 0 18446744073709551615 := ⟨fun n h => IntWalk.u64_in n h⟩
instance : InKind .u8 0 255 := ⟨fun n h => IntWalk.u8_in n h⟩
instance : InKind .i32 (-2147483648) 2147483647 := ⟨fun n h => IntWalk.i32_in n h⟩
theorem Runs.convII {t u : TypeId} {x : Operand} {i lo hi : Int} {j k : IntKind} [ht : IntT P t j] [hu : IntT P u k] [hk : InKind k lo hi] (hx : opnd env x = some (.int j i)) (h : lo ≤ i ∧ i ≤ hi) : Runs P n env F (.convert t u x) (.int k i) := .mk fun a w ty pos aft g d hf hw => by
  have := hk.ok i h
  simp [execOp, hf.eval hx, convert, run_underlying ht.ok, run_underlying hu.ok, Conv.intToInt, this, Result.andThen]
theorem Runs.shrU {xT yT : TypeId} {x y : Operand} {i : Int} (hx : opnd env x = some (.int .u64 i)) (hy : opnd env y = some (.int .u64 1)) : Runs P n env F (.binOp .shr xT x y yT) (.int .u64 (i / 2)) := .mk fun a w ty pos aft g d hf hw => by
  have h2 := Int.fdiv_eq_ediv_of_nonneg i (b := 2) (by omega)
  simp [execOp, hf.eval hx, hf.eval hy, eqGuard, binOp, Op.shift, IntKind.bits, Result.andThen]
  exact h2
theorem Runs.isSlice {a b c : Option Operand} (h : Runs P n env F (.slice t x a b c) v) : Runs P n env F (.slice t x a b c) v := h
theorem Runs.isLookup {b : Bool} (h : Runs P n env F (.lookup t x y b) v) : Runs P n env F (.lookup t x y b) v := h
theorem Runs.isConvert (h : Runs P n env F (.convert t u x) v) : Runs P n env F (.convert t u x) v := h
theorem Runs.isBuiltin {b : Builtin} {l : Array Operand} {m : Array TypeId} (h : Runs P n env F (.call { callee := .builtin b, args := l, argTypes := m }) v) : Runs P n env F (.call { callee := .builtin b, args := l, argTypes := m }) v := h
end
theorem Runs.indexAgg {t e : TypeId} {x y : Operand} {i : Int} {k len size : Nat} {cs : Array Value} [ht : ArrT P t len e size] [hc : AggT P e size] (hx : opnd env x = some (.agg cs)) (hy : opnd env y = some (.int .i64 i)) (hik : i = (k : Int)) (hk : Nat.blt k len = true) (hl : Nat.beq cs.size (len * size) = true) :
    Runs P n env F (.index t x y) (.agg ((cs.toList.drop (k * size)).take size).toArray) := .mk fun a w ty pos aft g d hf hw => by
  subst hik
  have hk : k < len := by simpa [Nat.blt_eq] using hk
  obtain ⟨i, h1, h2, h3⟩ := ht.ok
  obtain ⟨i', d', g1, g2, g3, g4⟩ := hc.ok
  have he : cs.extract (k * size) (k * size + size) = ((cs.toList.drop (k * size)).take size).toArray := by
    apply Array.ext'
    simp [List.take_drop]
  cases d' <;> simp [aggDesc] at g4 <;> simp [execOp, hf.eval hx, hf.eval hy, Instr.index, asIntOf, run_underlying h1, sizeOf, typeInfo, h2, h3, hk, part, isAgg, run_underlying g3, he, Result.andThen]

/-! ### Which law serves: by the operation's form alone -/
variable {v : Value} {x y c : Operand} {t u : TypeId} {f : Nat}
theorem Runs.isMove (h : Runs P n env F (.move x) v) : Runs P n env F (.move x) v := h
theorem Runs.isAssign (h : Runs P n env F (.assign x) v) : Runs P n env F (.assign x) v := h
theorem Runs.isLoad (h : Runs P n env F (.load t x) v) : Runs P n env F (.load t x) v := h
theorem Runs.isFieldA (h : Runs P n env F (.fieldAddr t x f) v) : Runs P n env F (.fieldAddr t x f) v := h
theorem Runs.isField (h : Runs P n env F (.field t x f) v) : Runs P n env F (.field t x f) v := h
theorem Runs.isIndexA (h : Runs P n env F (.indexAddr t x y) v) : Runs P n env F (.indexAddr t x y) v := h
theorem Runs.isIndex (h : Runs P n env F (.index t x y) v) : Runs P n env F (.index t x y) v := h
theorem Runs.isBin {o : BinOp} (h : Runs P n env F (.binOp o t x y u) v) : Runs P n env F (.binOp o t x y u) v := h
theorem Runs.isUn {o : UnOp} (h : Runs P n env F (.unOp o t x) v) : Runs P n env F (.unOp o t x) v := h
theorem Runs.isPick (h : Runs P n env F (.pick c x y) v) : Runs P n env F (.pick c x y) v := h
theorem Runs.isExtract (h : Runs P n env F (.extract x f) v) : Runs P n env F (.extract x f) v := h
theorem Runs.isNilCheck (h : Runs P n env F (.nilCheck x) v) : Runs P n env F (.nilCheck x) v := h
theorem Runs.isBuild {l : Array (Nat × Operand)} (h : Runs P n env F (.build t l) v) : Runs P n env F (.build t l) v := h
theorem Runs.isLen {l : Array Operand} {m : Array TypeId} (h : Runs P n env F (.call { callee := .builtin .len, args := l, argTypes := m }) v) : Runs P n env F (.call { callee := .builtin .len, args := l, argTypes := m }) v := h
theorem Runs.isMakeFunc {fn : Fn} {l m : Array Operand} (h : Runs P n env F (.makeFunc fn l m) v) : Runs P n env F (.makeFunc fn l m) v := h
theorem GL.isStore (h : GL P n ops Q (⟨none, .store t x y, ty, pos, aft, none⟩ :: rest) env F) : GL P n ops Q (⟨none, .store t x y, ty, pos, aft, none⟩ :: rest) env F := h
theorem GL.isBox (h : GL P n ops Q (⟨some d, .box t x, ty, pos, aft, none⟩ :: rest) env F) : GL P n ops Q (⟨some d, .box t x, ty, pos, aft, none⟩ :: rest) env F := h
theorem GL.isBuildS {l : Array (Nat × Operand)} (h : GL P n ops Q (⟨some d, .buildSlice t f l, ty, pos, aft, none⟩ :: rest) env F) : GL P n ops Q (⟨some d, .buildSlice t f l, ty, pos, aft, none⟩ :: rest) env F := h
theorem GL.isAlloc (h : GL P n ops Q (⟨some d, .alloc t, ty, pos, aft, none⟩ :: rest) env F) : GL P n ops Q (⟨some d, .alloc t, ty, pos, aft, none⟩ :: rest) env F := h
theorem GL.isCall {c : Call} {dst : Option Tmp} (h : GL P n ops Q (⟨dst, .call c, ty, pos, aft, none⟩ :: rest) env F) : GL P n ops Q (⟨dst, .call c, ty, pos, aft, none⟩ :: rest) env F := h
theorem GL.isAny {o : Oper} (h : GL P n ops Q (o :: rest) env F) : GL P n ops Q (o :: rest) env F := h
theorem GD.isAny {o : Oper} (h : GD P n ops F Z k (o :: rest) env) : GD P n ops F Z k (o :: rest) env := h
theorem G.isCond {a b : Code} (h : G P n (.cond c a b) Q env F) : G P n (.cond c a b) Q env F := h
theorem GE.isAny {e : Exit} (h : GE n e Q env F) : GE n e Q env F := h
end
end Go.Proofs.YtoafajooffhimaaDoor
