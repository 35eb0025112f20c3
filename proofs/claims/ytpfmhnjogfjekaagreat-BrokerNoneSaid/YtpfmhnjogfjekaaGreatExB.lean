/- Running code by calculation: what single operations do. -/
import Derived.Test.YtpfmhnjogfjekaaGreatExA
import Derived.Orders
import Derived.WalkSpells
import Derived.Laws.AppendOwn
namespace Go.Proofs.YtpfmhnjogfjekaaGreat
open Go Go.RowKit
set_option linter.unusedVariables false
set_option linter.unusedSectionVars false
set_option linter.unusedSimpArgs false
set_option maxRecDepth 100000
namespace Ex
/-! ### What needs no memory -/
noncomputable def spure {α : Type} (P : Program) : Sem α → Option α
  | .pure a => some a
  | .program k => spure P (k P)
  | .mark _ k => spure P k
  | _ => none
theorem spure_run {α : Type} {P : Program} : ∀ {s : Sem α} {a : α}, spure P s = some a → ∀ w, s.run P w = .ok a w
  | .pure a, _, h, w => by cases h; rfl
  | .program k, a, h, w => spure_run (s := k P) h w
  | .mark _ k, a, h, w => spure_run (s := k) h w
  | .load .., _, h, _ => by cases h
  | .store .., _, h, _ => by cases h
  | .new .., _, h, _ => by cases h
  | .shape .., _, h, _ => by cases h
  | .freeze .., _, h, _ => by cases h
  | .frozen .., _, h, _ => by cases h
  | .getObj .., _, h, _ => by cases h
  | .setObj .., _, h, _ => by cases h
  | .choose .., _, h, _ => by cases h
  | .sys .., _, h, _ => by cases h
  | .halt _, _, h, _ => by cases h
noncomputable def ok1 : Value → Bool
  | .bool _ | .int _ _ | .string _ | .pointer none | .map none | .nilFunc | .nilIface => true
  | .slice none n c => Nat.beq n 0 && Nat.beq c 0
  | _ => false
noncomputable def okc : Value → Bool
  | .agg cs => cs.toList.all ok1
  | .tuple cs => cs.toList.all ok1
  | v => ok1 v
section
variable {θ : Nat → Value} {ρ : Ren}
theorem ok1_rv {v : Value} (h : ok1 v = true) : Rv θ ρ v v := by
  unfold ok1 at h
  split at h
  · exact .bool _
  · exact .int _ _
  · exact .str _
  · exact .p0
  · exact .m0
  · exact .f0
  · exact .i0
  · simp only [Bool.and_eq_true] at h
    rw [Nat.eq_of_beq_eq_true h.1, Nat.eq_of_beq_eq_true h.2]; exact .s0
  · cases h
theorem ok1s_rl : ∀ {l : List Value}, l.all ok1 = true → Rl θ ρ l l
  | [], _ => Rl.nil
  | v :: l, h => by
    simp only [List.all_cons, Bool.and_eq_true] at h
    exact Rl.cons (ok1_rv h.1) (ok1s_rl h.2)
theorem okc_rv {v : Value} (h : okc v = true) : Rv θ ρ v v := by
  unfold okc at h
  split at h
  · exact Rv.ofAgg (Ra.list.2 (ok1s_rl h))
  · exact Rv.ofTup (Ra.list.2 (ok1s_rl h))
  · exact ok1_rv h
theorem ok1_eq {v v' : Value} (h : ok1 v = true) (hr : Rv θ ρ v v') : v' = v := by
  unfold ok1 at h
  split at h <;> first | exact absurd h Bool.false_ne_true | (cases hr; rfl)
theorem ok1s_eq : ∀ {l l' : List Value}, l.all ok1 = true → Rl θ ρ l l' → l' = l
  | [], [], _, _ => rfl
  | [], _ :: _, _, h => by have := h.1; simp at this
  | _ :: _, [], _, h => by have := h.1; simp at this
  | v :: l, v' :: l', h, hr => by
    simp only [List.all_cons, Bool.and_eq_true] at h
    rw [ok1_eq h.1 hr.head, ok1s_eq h.2 hr.tail]
theorem okc_eq {v v' : Value} (h : okc v = true) (hr : Rv θ ρ v v') : v' = v := by
  unfold okc at h
  split at h
  · obtain ⟨xs', rfl, h2⟩ := hr.toAgg
    rw [Ra.list] at h2
    have := ok1s_eq h h2
    congr 1; exact Array.ext' this
  · obtain ⟨xs', rfl, h2⟩ := hr.toTup
    rw [Ra.list] at h2
    have := ok1s_eq h h2
    congr 1; exact Array.ext' this
  · exact ok1_eq h hr
/-! ### Operands -/
noncomputable def evC (v : Value) : Option Value := bif okc v then some v else none
noncomputable def ev (e : Tr Value) : Operand → Option Value
  | .tmp t => e.get t
  | .const v => evC v
  | .global _ => none
  | .func f => some (.func (.func f) #[] #[])
section
variable {α β : Type}
/-- What is done with a value, if it is known. -/
noncomputable def on1 (o : Option β) (f : β → Option α) : Option α := Option.rec (motive := fun _ => Option α) none f o
noncomputable def on2 {γ : Type} (o : Option β) (p : Option γ) (f : β → γ → Option α) : Option α := Option.rec (motive := fun _ => Option α) none (fun b => Option.rec (motive := fun _ => Option α) none (f b) p) o
theorem on1_ok {o : Option β} {f : β → Option α} {r : α} (h : on1 o f = some r) : ∃ x, o = some x ∧ f x = some r := by
  cases o with
  | none => cases h
  | some x => exact ⟨x, rfl, h⟩
theorem on2_ok {γ : Type} {o : Option β} {p : Option γ} {f : β → γ → Option α} {r : α} (h : on2 o p f = some r) : ∃ x y, o = some x ∧ p = some y ∧ f x y = some r := by
  cases o with
  | none => cases h
  | some x => cases p with
    | none => cases h
    | some y => exact ⟨x, y, rfl, rfl, h⟩
end
noncomputable def consO {α : Type} (a : α) (l : List α) : Option (List α) := some (a :: l)
noncomputable def evs (e : Tr Value) : List Operand → Option (List Value) := List.rec (motive := fun _ => Option (List Value)) (some []) fun x _ ih => on2 (ev e x) ih consO
noncomputable def consP (i : Nat) (a : Value) (l : List (Nat × Value)) : Option (List (Nat × Value)) := some ((i, a) :: l)
noncomputable def evps (e : Tr Value) : List (Nat × Operand) → Option (List (Nat × Value)) := List.rec (motive := fun _ => Option (List (Nat × Value))) (some []) fun x _ ih => on2 (ev e x.2) ih (consP x.1)
/-- What is known of the operands holds of them. -/
noncomputable def REv (θ : Nat → Value) (ρ : Ren) (e : Tr Value) (f : Operand → Value) : Prop := ∀ x v, ev e x = some v → Rv θ ρ v (f x)
theorem REnv.ev {e : Tr Value} {fr : Frame} (h : REnv θ ρ e fr.tmps) : REv θ ρ e fr.eval := fun x v hv => by
  cases x with
  | tmp t =>
    obtain ⟨v', h1, h2⟩ := h t v hv
    simp only [Frame.eval, Array.getD_eq_getD_getElem?, h1, Option.getD_some]; exact h2
  | const u =>
    simp only [Ex.ev, Ex.evC] at hv
    cases hu : okc u with
    | true => rw [hu] at hv; cases hv; exact okc_rv hu
    | false => rw [hu] at hv; cases hv
  | global g => cases hv
  | func f => cases hv; exact .fn rfl (fun i x x' h => by simp at h) rfl (fun i x x' h => by simp at h)
variable {e : Tr Value} {f : Operand → Value}
theorem REv.list (h : REv θ ρ e f) : ∀ {l : List Operand} {vs : List Value}, evs e l = some vs → Rl θ ρ vs (l.map f)
  | [], vs, hv => by cases hv; exact Rl.nil
  | x :: l, vs, hv => by
    obtain ⟨v, us, hx, hl, e1⟩ := on2_ok (show on2 (ev e x) (evs e l) consO = some vs from hv)
    cases e1; exact Rl.cons (h x v hx) (h.list hl)
noncomputable def RPs (θ : Nat → Value) (ρ : Ren) : List (Nat × Value) → List (Nat × Value) → Prop
  | [], [] => True
  | (i, v) :: l, (j, v') :: l' => j = i ∧ Rv θ ρ v v' ∧ RPs θ ρ l l'
  | _, _ => False
theorem REv.parts (h : REv θ ρ e f) : ∀ {l : List (Nat × Operand)} {vs : List (Nat × Value)}, evps e l = some vs → RPs θ ρ vs (l.map fun p => (p.1, f p.2))
  | [], vs, hv => by cases hv; trivial
  | (i, x) :: l, vs, hv => by
    obtain ⟨v, us, hx, hl, e1⟩ := on2_ok (show on2 (ev e x) (evps e l) (consP i) = some vs from hv)
    cases e1; exact ⟨rfl, h x v hx, h.parts hl⟩

/-! ### What comes of an operation -/
inductive SN where
  | val (v : Value) (h : Tr SO) (nx : Nat)
  | enter (f : FuncId) (args : Array Value)
  | round (l : Nat) (args : Array Value)
  | dfr (d : Deferred)
variable {P : Program} {w0 : Fm} {w : World} {h : Tr SO} {nx : Nat}
/-- A value of the world w' comes of it. -/
structure Val (θ : Nat → Value) (w0 : Fm) (ρ : Ren) (v : Value) (h' : Tr SO) (nx' : Nat) (r : Result Value) : Prop where
  out : ∃ ρ' v' w', ρ.le ρ' ∧ Rv θ ρ' v v' ∧ HT θ w0 ρ' h' nx' w' ∧ r = .ok v' w'
/-- A value comes of it, and nothing is changed. -/
structure Pv (θ : Nat → Value) (ρ : Ren) (w : World) (v : Value) (r : Result Value) : Prop where
  out : ∃ v', Rv θ ρ v v' ∧ r = .ok v' w
structure Pn (θ : Nat → Value) (ρ : Ren) (w : World) (v : Value) (r : Result Next) : Prop where
  out : ∃ v', Rv θ ρ v v' ∧ r = .ok (.value v') w
theorem Pv.next {v : Value} {s : Sem Value} {r : Result Next} (h : Pv θ ρ w v (s.run P w)) (ho : r = ((do pure (.value (← s)) : Sem Next)).run P w) : Pn θ ρ w v r := by
  obtain ⟨v', h1, h2⟩ := h
  exact ⟨v', h1, by rw [ho]; simp [h2]⟩
theorem Val.same (hh : HT θ w0 ρ h nx w) {v v' : Value} {r : Result Value} (hv : Rv θ ρ v v') (hr : r = .ok v' w) : Val θ w0 ρ v h nx r := ⟨ρ, v', w, .refl ρ, hv, hh, hr⟩
noncomputable def SNok (θ : Nat → Value) (w0 : Fm) (ρ : Ren) (w : World) (r : Result Next) : SN → Prop
  | .val v h' nx' => ∃ ρ' v' w', ρ.le ρ' ∧ Rv θ ρ' v v' ∧ HT θ w0 ρ' h' nx' w' ∧ (r = .ok (.value v') w' ∨ (v' = undef ∧ r = .ok .skip w'))
  | .enter f args => ∃ args', Ra θ ρ args args' ∧ r = .ok (.enter f args') w
  | .round l args => ∃ p lo args', ρ l = some p ∧ w.heap[p.b]? = some (.loop lo) ∧ Ra θ ρ args args' ∧ (args'.size = lo.params.size → r = .ok (.round p.b lo.fn ((lo.params.zip args').foldl (fun tmps (t, a) => tmps.setIfInBounds t a) lo.tmps) lo.assign lo.body) w)
  | .dfr d => ∃ d', RDef θ ρ d d' ∧ r = .ok (.defer d') w
theorem SNok.ofVal {v : Value} {h' : Tr SO} {nx' : Nat} {s : Sem Value} {o : Oper} (hv : Val θ w0 ρ v h' nx' (s.run P w)) (ho : (execOp f o).run P w = ((do pure (.value (← s)) : Sem Next)).run P w) : SNok θ w0 ρ w ((execOp f o).run P w) (.val v h' nx') := by
  obtain ⟨ρ', v', w', h1, h2, h3, h4⟩ := hv
  refine ⟨ρ', v', w', h1, h2, h3, .inl ?_⟩
  rw [ho]; simp [h4]
/-- What is known whole is reckoned by the model itself. -/
noncomputable def isSel : Op → Bool
  | .select .. => true
  | _ => false
noncomputable def closed (e : Tr Value) (l : List Operand) : Bool := l.all fun x => match ev e x with
  | some v => okc v
  | none => false
noncomputable def evD (e : Tr Value) (x : Operand) : Value := match ev e x with
  | some v => v
  | none => undef
noncomputable def r0 (P : Program) (e : Tr Value) (o : Oper) : Option Value :=
  bif closed e o.op.operands.toList && !isSel o.op then match spure P (execOp (evD e) o) with
    | some (.value v) => bif okc v then some v else none
    | _ => none
  else none
theorem r0_ok (he : REv θ ρ e f) {o : Oper} {v : Value} (hs : r0 P e o = some v) : Pn θ ρ w v ((execOp f o).run P w) := by
  unfold r0 at hs
  cases hc : (closed e o.op.operands.toList && !isSel o.op) with
  | false => rw [hc] at hs; cases hs
  | true =>
    rw [hc] at hs
    simp only [Bool.and_eq_true] at hc
    have he' : execOp (evD e) o = execOp f o := execOp_congr o (fun cs b hb => by rw [hb] at hc; simp [isSel] at hc) fun x hx => by
      have h1 := List.all_eq_true.1 hc.1 x (by simpa using hx)
      unfold evD
      split at h1
      · rename_i v hv; exact (okc_eq h1 (he x v hv)).symm
      · cases h1
    simp only [cond_true] at hs
    split at hs
    · rename_i v hv
      cases hk : okc v with
      | false => rw [hk] at hs; cases hs
      | true =>
        rw [hk] at hs; cases hs
        exact ⟨v, okc_rv hk, by rw [← he']; exact spure_run hv w⟩
    · cases hs
end

/-! ### Loads and stores -/
noncomputable def aggD : TypeDesc → Bool
  | .struct _ | .array _ _ => true
  | _ => false
/-- A variable of the type t at o among the cells c. -/
noncomputable def part1 (P : Program) (t : TypeId) (c : List Value) (o : Nat) : Option Value := match P.info? t, P.underlying t with
  | some i, some d => bif aggD d then (bif Nat.ble (Nat.add o i.size) c.length then some (.agg ((c.drop o).take i.size).toArray) else none) else nth c o
  | _, _ => none
noncomputable def partM2 (c : CL) (o : Nat) (i : TypeInfo) (d : TypeDesc) : Option Value := bif aggD d then on1 (c.read i.size o) fun l => some (.agg l.toArray) else c.get o
noncomputable def partM (P : Program) (t : TypeId) (o : Nat) (c : CL) : Option Value := on2 (P.info? t) (P.underlying t) (partM2 c o)
noncomputable def rload2 (P : Program) (t : TypeId) (o : Nat) (so : SO) : Option Value := match so with
  | .cells c _ _ _ => partM P t o c
  | _ => none
noncomputable def rload (P : Program) (h : Tr SO) (t : TypeId) (v : Value) : Option Value := match v with
  | .pointer (some ⟨k, o, none⟩) => on1 (h.get k) (rload2 P t o)
  | _ => none
section
variable {θ : Nat → Value} {ρ : Ren} {P : Program} {w0 : Fm} {w : World} {h : Tr SO} {nx : Nat}
theorem run_isAgg {t : TypeId} {d : TypeDesc} (hd : P.underlying t = some d) : (isAgg t).run P w = .ok (aggD d) w := by
  unfold isAgg
  simp only [Sem.run_bind, run_underlying hd, Result.andThen_ok]
  cases d <;> rfl
theorem addr_plus (b o k : Nat) : (⟨b, o, none⟩ : Addr).add k = ⟨b, o + k, none⟩ := by
  unfold Addr.add; split
  · rename_i h; subst h; rfl
  · rfl
theorem rloadVar_ok (hh : HT θ w0 ρ h nx w) {t : TypeId} {k o : Nat} {p : Pl} {c : CL} {T : TypeId} {b : Bool} {sz : Nat} {v : Value} (hk : h.get k = some (.cells c T b sz)) (hp : ρ k = some p) (hs : partM P t o c = some v) :
    ∃ v', Rv θ ρ v v' ∧ (loadVar t ⟨p.b, p.s + o, none⟩).run P w = .ok v' w := by
  obtain ⟨i, d, hi, hd, hs⟩ := on2_ok hs
  unfold partM2 at hs
  cases ha : aggD d with
  | true =>
    rw [ha] at hs
    obtain ⟨l, hl, hs⟩ := on1_ok (show on1 (c.read i.size o) (fun l => some (.agg l.toArray)) = some v from hs)
    cases hs
    obtain ⟨ys, h1, h2, h3⟩ := hh.cells hk hp o i.size hl
    refine ⟨.agg ys.toArray, Rv.ofAgg h2.arr, ?_⟩
    have := run_loadCells_list (P := P) w ⟨p.b, p.s + o, none⟩ ys (fun j v hv => by rw [addr_plus]; exact h3 j v hv)
    rw [h1] at this
    simp [loadVar, run_isAgg hd, ha, sizeOf, typeInfo, hi, this]
  | false =>
    rw [ha] at hs
    obtain ⟨y, h1, h2⟩ := hh.cell hk hp hs
    refine ⟨y, h2, ?_⟩
    simp [loadVar, run_isAgg hd, ha, h1]
theorem rload_ok (hh : HT θ w0 ρ h nx w) {t : TypeId} {x x' v : Value} (hx : Rv θ ρ x x') (hs : rload P h t x = some v) : Pv θ ρ w v ((Instr.loadAt t x').run P w) := by
  unfold rload at hs
  split at hs
  · rename_i k o
    obtain ⟨so, hk, hs⟩ := on1_ok hs
    unfold rload2 at hs
    split at hs
    · rename_i c T b sz
      obtain ⟨p, hp, rfl⟩ := hx.toPtr
      obtain ⟨v', h1, h2⟩ := rloadVar_ok hh hk hp hs
      exact ⟨_, h1, by simp [Instr.loadAt, Instr.sureAddr, h2]⟩
    · cases hs
  · cases hs
theorem Rl.splice {cur : List Value} {c : CL} {vs vs' : List Value} {s o : Nat} (hc : ∀ (i : Nat) x, c.get i = some x → ∃ y, cur[s + i]? = some y ∧ Rv θ ρ x y) (hv : Rl θ ρ vs vs') (hl : s + o + vs.length ≤ cur.length) :
    ∀ (i : Nat) x, (CL.write vs c o).get i = some x → ∃ y, (cur.take (s + o) ++ vs' ++ cur.drop (s + o + vs'.length))[s + i]? = some y ∧ Rv θ ρ x y := by
  intro i x hx
  have h1 := hv.1
  rw [List.append_assoc, List.getElem?_append, List.length_take, List.getElem?_append]
  rcases (CL.write_ok vs c o).2 i x hx with ⟨k, e1, e2⟩ | ⟨e1, e2⟩
  · obtain ⟨y, g1, g2⟩ := hv.at_ e2
    have hk := (List.getElem?_eq_some_iff.1 g1).1
    rw [if_neg (by omega), if_pos (by omega)]
    refine ⟨y, ?_, g2⟩
    rw [← g1]; congr 1; omega
  · obtain ⟨y, g1, g2⟩ := hc i x e2
    rcases e1 with e1 | e1
    · rw [if_pos (by omega), List.getElem?_take, if_pos (by omega)]
      exact ⟨y, g1, g2⟩
    · rw [if_neg (by omega), if_neg (by omega), List.getElem?_drop]
      refine ⟨y, ?_, g2⟩
      rw [← g1]; congr 1; omega
theorem setRow_heap' (w : World) (g : Nat) (cur cs : Array Value) (T : TypeId) (fz : Nat × Nat) (hg : w.heap[g]? = some (.cells cur T fz)) : (w.setRow g cs).heap = w.heap.setIfInBounds g (.cells cs T fz) := by
  apply Array.ext_getElem?
  intro j
  by_cases hj : j = g
  · subst hj
    have hlt := (Array.getElem?_eq_some_iff.1 hg).1
    rw [setRow_heap w j cur cs T fz hg]; simp [hlt]
  · rw [setRow_other w g j cs hj, Array.getElem?_setIfInBounds_ne (fun e => hj e.symm)]
/-- Cells are written. -/
theorem HR.write (hh : HT θ w0 ρ h nx w) {k o : Nat} {p : Pl} {c : CL} {T : TypeId} {sz : Nat} (hk : h.get k = some (.cells c T true sz)) (hp : ρ k = some p) {vs vs' : List Value} (hv : Rl θ ρ vs vs') (h1 : ∀ v ∈ vs', v.oneCell' = true) (hl : o + vs.length ≤ c.len) :
    ∃ w', (storeCells ⟨p.b, p.s + o, none⟩ vs').run P w = .ok () w' ∧ HT θ w0 ρ (h.put k (.cells (CL.write vs c o) T true sz)) nx w' := by
  obtain ⟨p', o', g1, g2, g3, g4⟩ := hh.obj k _ hk
  rw [hp] at g1; cases g1
  cases o' with
  | cells cur T' fz =>
    obtain ⟨rfl, rfl, ⟨h3, h3'⟩, h4⟩ := g3
    have hle := hv.1
    have hst := run_storeCells_at P p.b (p.s + o) T' vs' 0 cur w g2 (by omega) h1
    rw [Nat.add_zero] at hst
    refine ⟨_, hst, hh.turn hk rfl rfl hp (o1 := .cells (CL.write vs c o) T' true sz) (o1' := .cells (cur.toList.take (p.s + o) ++ vs' ++ cur.toList.drop (p.s + o + vs'.length)).toArray T' (0, 0)) ⟨rfl, rfl, ⟨?_, fun sz' z hq => ?_⟩, ?_⟩ (setRow_heap' _ _ _ _ _ _ g2) rfl rfl rfl⟩
    · have := (CL.write_ok vs c o).1; simp; omega
    · obtain ⟨g5, g6, g7⟩ := h3' sz' z hq; refine ⟨g5, g6, ?_⟩; simp; omega
    · intro i x hx
      obtain ⟨y, e1, e2⟩ := Rl.splice (cur := cur.toList) (s := p.s) (by intro i x hx; rw [Array.getElem?_toList]; exact h4 i x hx) hv (by simp; omega) i x hx
      exact ⟨y, by simpa using e1, e2⟩
  | _ => exact g3.elim
noncomputable def rstore3 (h : Tr SO) (k o : Nat) (c : CL) (T : TypeId) (sz : Nat) (vs : List Value) (i : TypeInfo) : Option (Tr SO) := bif Nat.beq vs.length i.size && Nat.ble (Nat.add o i.size) c.len && vs.all Value.oneCell' then some (h.put k (.cells (CL.write vs c o) T true sz)) else none
noncomputable def rstore2 (P : Program) (h : Tr SO) (t : TypeId) (k o : Nat) (vs : List Value) (so : SO) : Option (Tr SO) := match so with
  | .cells c T true sz => on1 (P.info? t) (rstore3 h k o c T sz vs)
  | _ => none
noncomputable def rstore (P : Program) (h : Tr SO) (t : TypeId) (p v : Value) : Option (Tr SO) := match p with
  | .pointer (some ⟨k, o, none⟩) => on1 (h.get k) (rstore2 P h t k o v.cells.toList)
  | _ => none
theorem Rl.ones : ∀ {vs vs' : List Value}, Rl θ ρ vs vs' → vs.all Value.oneCell' = true → ∀ v ∈ vs', v.oneCell' = true
  | [], [], _, _ => by simp
  | [], _ :: _, h, _ => by have := h.1; simp at this
  | _ :: _, [], h, _ => by simp
  | v :: l, v' :: l', h, ha => by
    simp only [List.all_cons, Bool.and_eq_true] at ha
    intro u hu
    rcases List.mem_cons.1 hu with rfl | hu
    · exact h.head.one ha.1
    · exact Rl.ones h.tail ha.2 u hu
theorem rstore_ok (hh : HT θ w0 ρ h nx w) {t : TypeId} {x x' v v' : Value} (hx : Rv θ ρ x x') (hv : Rv θ ρ v v') {h' : Tr SO} (hs : rstore P h t x v = some h') : ∃ w', (Instr.storeAt t x' v').run P w = .ok () w' ∧ HT θ w0 ρ h' nx w' := by
  unfold rstore at hs
  split at hs
  · rename_i k o
    obtain ⟨so, hk, hs⟩ := on1_ok hs
    unfold rstore2 at hs
    split at hs
    · rename_i c T sz
      obtain ⟨i, hi, hs⟩ := on1_ok hs
      unfold rstore3 at hs
      cases hc : (Nat.beq v.cells.toList.length i.size && Nat.ble (Nat.add o i.size) c.len && v.cells.toList.all Value.oneCell') with
      | false => rw [hc] at hs; cases hs
      | true =>
        rw [hc] at hs; cases hs
        simp only [Bool.and_eq_true] at hc
        obtain ⟨⟨h1, h2⟩, h3⟩ := hc
        have h1 := Nat.eq_of_beq_eq_true h1
        have h2 := Nat.le_of_ble_eq_true h2
        obtain ⟨p, hp, rfl⟩ := hx.toPtr
        have hcs := Ra.list.1 hv.cells
        have hlen := hcs.1
        obtain ⟨w', g1, g2⟩ := hh.write (P := P) hk hp hcs (Rl.ones hcs h3) (o := o) (by rw [h1]; exact h2)
        refine ⟨w', ?_, g2⟩
        have hsz : v'.cells.size = i.size := by rw [← hv.cells.1, ← h1, Array.length_toList]
        simp [Instr.storeAt, Instr.sureAddr, storeVar, sizeOf, typeInfo, hi, hsz, g1]
    · cases hs
  · cases hs
end
end Ex
end Go.Proofs.YtpfmhnjogfjekaaGreat
