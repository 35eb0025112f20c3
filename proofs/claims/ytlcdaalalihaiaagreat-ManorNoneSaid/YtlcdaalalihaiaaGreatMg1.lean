import Derived.Test.YtlcdaalalihaiaaGreatMg0
import Derived.Orders
import Derived.WalkSpells
import Derived.Laws.AppendOwn
import Derived.Laws.OwnMore

/- Running code by calculation: what single operations do. -/
namespace Go.Proofs.YtlcdaalalihaiaaGreat
open Go Go.RowKit
set_option linter.unusedVariables false
set_option linter.unusedSectionVars false
set_option linter.unusedSimpArgs false
set_option maxRecDepth 100000
namespace Ex
variable [GN]
/-! ### What needs no memory -/
noncomputable def spure {α : Type} (P : Program) : Sem α → Option α
  | .pure a => some a
  | .program k => spure P (k P)
  | .mark _ k => spure P k
  | _ => none
theorem spure_run {α : Type} {P : Program} : ∀ {s : Sem α} {a : α}, spure P s = some a → ∀ w, s.run P w = .ok a w
  | .pure a, _, h, w => by cases h; rfl
  | .program k, a, h, w => spure_run (s := k P) h w
  | .mark _ k, a, h, w => spure_run (s := k) h w
  | .load .., _, h, _ => by cases h
  | .store .., _, h, _ => by cases h
  | .new .., _, h, _ => by cases h
  | .shape .., _, h, _ => by cases h
  | .freeze .., _, h, _ => by cases h
  | .frozen .., _, h, _ => by cases h
  | .getObj .., _, h, _ => by cases h
  | .setObj .., _, h, _ => by cases h
  | .choose .., _, h, _ => by cases h
  | .sys .., _, h, _ => by cases h
  | .halt _, _, h, _ => by cases h
noncomputable def ok1 : Value → Bool
  | .bool _ | .int _ _ | .string _ | .pointer none | .map none | .nilFunc | .nilIface => true
  | .slice none n c => Nat.beq n 0 && Nat.beq c 0
  | _ => false
noncomputable def okc : Value → Bool
  | .agg cs => cs.toList.all ok1
  | .tuple cs => cs.toList.all ok1
  | v => ok1 v
section
variable {θ : Nat → Value} {ρ : Ren}
theorem ok1_rv {v : Value} (h : ok1 v = true) : Rv θ ρ v v := by
  unfold ok1 at h
  split at h
  · exact .bool _
  · exact .int _ _
  · exact .str _
  · exact .p0
  · exact .m0
  · exact .f0
  · exact .i0
  · simp only [Bool.and_eq_true] at h
    rw [Nat.eq_of_beq_eq_true h.1, Nat.eq_of_beq_eq_true h.2]; exact .s0
  · cases h
theorem ok1s_rl : ∀ {l : List Value}, l.all ok1 = true → Rl θ ρ l l
  | [], _ => Rl.nil
  | v :: l, h => by
    simp only [List.all_cons, Bool.and_eq_true] at h
    exact Rl.cons (ok1_rv h.1) (ok1s_rl h.2)
theorem okc_rv {v : Value} (h : okc v = true) : Rv θ ρ v v := by
  unfold okc at h
  split at h
  · exact Rv.ofAgg (Ra.list.2 (ok1s_rl h))
  · exact Rv.ofTup (Ra.list.2 (ok1s_rl h))
  · exact ok1_rv h
theorem ok1_eq {v v' : Value} (h : ok1 v = true) (hr : Rv θ ρ v v') : v' = v := by
  unfold ok1 at h
  split at h <;> first | exact absurd h Bool.false_ne_true | (cases hr; rfl)
theorem ok1s_eq : ∀ {l l' : List Value}, l.all ok1 = true → Rl θ ρ l l' → l' = l
  | [], [], _, _ => rfl
  | [], _ :: _, _, h => by have := h.1; simp at this
  | _ :: _, [], _, h => by have := h.1; simp at this
  | v :: l, v' :: l', h, hr => by
    simp only [List.all_cons, Bool.and_eq_true] at h
    rw [ok1_eq h.1 hr.head, ok1s_eq h.2 hr.tail]
theorem okc_eq {v v' : Value} (h : okc v = true) (hr : Rv θ ρ v v') : v' = v := by
  unfold okc at h
  split at h
  · obtain ⟨xs', rfl, h2⟩ := hr.toAgg
    rw [Ra.list] at h2
    have := ok1s_eq h h2
    congr 1; exact Array.ext' this
  · obtain ⟨xs', rfl, h2⟩ := hr.toTup
    rw [Ra.list] at h2
    have := ok1s_eq h h2
    congr 1; exact Array.ext' this
  · exact ok1_eq h hr
/-! ### Operands -/
noncomputable def evC (v : Value) : Option Value := bif okc v then some v else none
noncomputable def ev (e : Tr Value) : Operand → Option Value
  | .tmp t => e.get t
  | .const v => evC v
  | .global g => bif Nat.blt g GN.n then some (.pointer (some ⟨g, 0, none⟩)) else none
  | .func f => some (.func (.func f) #[] #[])
section
variable {α β : Type}
/-- What is done with a value, if it is known. -/
noncomputable def on1 (o : Option β) (f : β → Option α) : Option α := Option.rec (motive := fun _ => Option α) none f o
noncomputable def on2 {γ : Type} (o : Option β) (p : Option γ) (f : β → γ → Option α) : Option α := Option.rec (motive := fun _ => Option α) none (fun b => Option.rec (motive := fun _ => Option α) none (f b) p) o
theorem on1_ok {o : Option β} {f : β → Option α} {r : α} (h : on1 o f = some r) : ∃ x, o = some x ∧ f x = some r := by
  cases o with
  | none => cases h
  | some x => exact ⟨x, rfl, h⟩
theorem on2_ok {γ : Type} {o : Option β} {p : Option γ} {f : β → γ → Option α} {r : α} (h : on2 o p f = some r) : ∃ x y, o = some x ∧ p = some y ∧ f x y = some r := by
  cases o with
  | none => cases h
  | some x => cases p with
    | none => cases h
    | some y => exact ⟨x, y, rfl, rfl, h⟩
end
noncomputable def consO {α : Type} (a : α) (l : List α) : Option (List α) := some (a :: l)
noncomputable def evs (e : Tr Value) : List Operand → Option (List Value) := List.rec (motive := fun _ => Option (List Value)) (some []) fun x _ ih => on2 (ev e x) ih consO
noncomputable def consP (i : Nat) (a : Value) (l : List (Nat × Value)) : Option (List (Nat × Value)) := some ((i, a) :: l)
noncomputable def evps (e : Tr Value) : List (Nat × Operand) → Option (List (Nat × Value)) := List.rec (motive := fun _ => Option (List (Nat × Value))) (some []) fun x _ ih => on2 (ev e x.2) ih (consP x.1)
/-- What is known of the operands holds of them. -/
noncomputable def REv (θ : Nat → Value) (ρ : Ren) (e : Tr Value) (f : Operand → Value) : Prop := ∀ x v, ev e x = some v → Rv θ ρ v (f x)
theorem REnv.ev {e : Tr Value} {fr : Frame} (h : REnv θ ρ e fr.tmps) (hg : ∀ g, g < GN.n → ρ g = some ⟨g, 0, none⟩) : REv θ ρ e fr.eval := fun x v hv => by
  cases x with
  | tmp t =>
    obtain ⟨v', h1, h2⟩ := h t v hv
    simp only [Frame.eval, Array.getD_eq_getD_getElem?, h1, Option.getD_some]; exact h2
  | const u =>
    simp only [Ex.ev, Ex.evC] at hv
    cases hu : okc u with
    | true => rw [hu] at hv; cases hv; exact okc_rv hu
    | false => rw [hu] at hv; cases hv
  | global g =>
    simp only [Ex.ev] at hv
    cases hb : Nat.blt g GN.n with
    | true => rw [hb] at hv; cases hv; exact .ptr (o := 0) (hg g (by simpa [Nat.blt_eq] using hb))
    | false => rw [hb] at hv; cases hv
  | func f => cases hv; exact .fn rfl (fun i x x' h => by simp at h) rfl (fun i x x' h => by simp at h)
variable {e : Tr Value} {f : Operand → Value}
theorem REv.list (h : REv θ ρ e f) : ∀ {l : List Operand} {vs : List Value}, evs e l = some vs → Rl θ ρ vs (l.map f)
  | [], vs, hv => by cases hv; exact Rl.nil
  | x :: l, vs, hv => by
    obtain ⟨v, us, hx, hl, e1⟩ := on2_ok (show on2 (ev e x) (evs e l) consO = some vs from hv)
    cases e1; exact Rl.cons (h x v hx) (h.list hl)
noncomputable def RPs (θ : Nat → Value) (ρ : Ren) : List (Nat × Value) → List (Nat × Value) → Prop
  | [], [] => True
  | (i, v) :: l, (j, v') :: l' => j = i ∧ Rv θ ρ v v' ∧ RPs θ ρ l l'
  | _, _ => False
theorem REv.parts (h : REv θ ρ e f) : ∀ {l : List (Nat × Operand)} {vs : List (Nat × Value)}, evps e l = some vs → RPs θ ρ vs (l.map fun p => (p.1, f p.2))
  | [], vs, hv => by cases hv; trivial
  | (i, x) :: l, vs, hv => by
    obtain ⟨v, us, hx, hl, e1⟩ := on2_ok (show on2 (ev e x) (evps e l) (consP i) = some vs from hv)
    cases e1; exact ⟨rfl, h x v hx, h.parts hl⟩

/-! ### What comes of an operation -/
inductive SN where
  | val (v : Value) (h : Tr SO) (nx : Nat)
  | enter (f : FuncId) (args : Array Value)
  | round (l : Nat) (args : Array Value)
  | dfr (d : Deferred)
variable {P : Program} {w0 : Fm} {w : World} {h : Tr SO} {nx : Nat}
/-- A value of the world w' comes of it. -/
structure Val (θ : Nat → Value) (w0 : Fm) (ρ : Ren) (v : Value) (h' : Tr SO) (nx' : Nat) (r : Result Value) : Prop where
  out : ∃ ρ' v' w', ρ.le ρ' ∧ Rv θ ρ' v v' ∧ HT θ w0 ρ' h' nx' w' ∧ r = .ok v' w'
/-- A value comes of it, and nothing is changed. -/
structure Pv (θ : Nat → Value) (ρ : Ren) (w : World) (v : Value) (r : Result Value) : Prop where
  out : ∃ v', Rv θ ρ v v' ∧ r = .ok v' w
structure Pn (θ : Nat → Value) (ρ : Ren) (w : World) (v : Value) (r : Result Next) : Prop where
  out : ∃ v', Rv θ ρ v v' ∧ r = .ok (.value v') w
theorem Pv.next {v : Value} {s : Sem Value} {r : Result Next} (h : Pv θ ρ w v (s.run P w)) (ho : r = ((do pure (.value (← s)) : Sem Next)).run P w) : Pn θ ρ w v r := by
  obtain ⟨v', h1, h2⟩ := h
  exact ⟨v', h1, by rw [ho]; simp [h2]⟩
theorem Val.same (hh : HT θ w0 ρ h nx w) {v v' : Value} {r : Result Value} (hv : Rv θ ρ v v') (hr : r = .ok v' w) : Val θ w0 ρ v h nx r := ⟨ρ, v', w, .refl ρ, hv, hh, hr⟩
noncomputable def SNok (θ : Nat → Value) (w0 : Fm) (ρ : Ren) (w : World) (r : Result Next) : SN → Prop
  | .val v h' nx' => ∃ ρ' v' w', ρ.le ρ' ∧ Rv θ ρ' v v' ∧ HT θ w0 ρ' h' nx' w' ∧ (r = .ok (.value v') w' ∨ (v' = undef ∧ r = .ok .skip w'))
  | .enter f args => ∃ args', Ra θ ρ args args' ∧ r = .ok (.enter f args') w
  | .round l args => ∃ p lo args', ρ l = some p ∧ w.heap[p.b]? = some (.loop lo) ∧ Ra θ ρ args args' ∧ (args'.size = lo.params.size → r = .ok (.round p.b lo.fn ((lo.params.zip args').foldl (fun tmps (t, a) => tmps.setIfInBounds t a) lo.tmps) lo.assign lo.body) w)
  | .dfr d => ∃ d', RDef θ ρ d d' ∧ r = .ok (.defer d') w
/-- What is known whole is reckoned by the model itself. -/
noncomputable def isSel : Op → Bool
  | .select .. => true
  | _ => false
noncomputable def closed (e : Tr Value) (l : List Operand) : Bool := l.all fun x => match ev e x with
  | some v => okc v
  | none => false
noncomputable def evD (e : Tr Value) (x : Operand) : Value := match ev e x with
  | some v => v
  | none => undef
noncomputable def r0 (P : Program) (e : Tr Value) (o : Oper) : Option Value :=
  bif closed e o.op.operands.toList && !isSel o.op then match spure P (execOp (evD e) o) with
    | some (.value v) => bif okc v then some v else none
    | _ => none
  else none
theorem r0_ok (he : REv θ ρ e f) {o : Oper} {v : Value} (hs : r0 P e o = some v) : Pn θ ρ w v ((execOp f o).run P w) := by
  unfold r0 at hs
  cases hc : (closed e o.op.operands.toList && !isSel o.op) with
  | false => rw [hc] at hs; cases hs
  | true =>
    rw [hc] at hs
    simp only [Bool.and_eq_true] at hc
    have he' : execOp (evD e) o = execOp f o := execOp_congr o (fun cs b hb => by rw [hb] at hc; simp [isSel] at hc) fun x hx => by
      have h1 := List.all_eq_true.1 hc.1 x (by simpa using hx)
      unfold evD
      split at h1
      · rename_i v hv; exact (okc_eq h1 (he x v hv)).symm
      · cases h1
    simp only [cond_true] at hs
    split at hs
    · rename_i v hv
      cases hk : okc v with
      | false => rw [hk] at hs; cases hs
      | true =>
        rw [hk] at hs; cases hs
        exact ⟨v, okc_rv hk, by rw [← he']; exact spure_run hv w⟩
    · cases hs
end

/-! ### Loads and stores -/
noncomputable def aggD : TypeDesc → Bool
  | .struct _ | .array _ _ => true
  | _ => false
/-- A variable of the type t at o among the cells c. -/
noncomputable def part1 (P : Program) (t : TypeId) (c : List Value) (o : Nat) : Option Value := match P.info? t, P.underlying t with
  | some i, some d => bif aggD d then (bif Nat.ble (Nat.add o i.size) c.length then some (.agg ((c.drop o).take i.size).toArray) else none) else nth c o
  | _, _ => none
noncomputable def partM2 (c : CL) (o : Nat) (i : TypeInfo) (d : TypeDesc) : Option Value := bif aggD d then on1 (c.read i.size o) fun l => some (.agg l.toArray) else c.get o
noncomputable def partM (P : Program) (t : TypeId) (o : Nat) (c : CL) : Option Value := on2 (P.info? t) (P.underlying t) (partM2 c o)
noncomputable def rload2 (P : Program) (t : TypeId) (o : Nat) (so : SO) : Option Value := match so with
  | .cells c _ _ _ => partM P t o c
  | _ => none
noncomputable def rload (P : Program) (h : Tr SO) (t : TypeId) (v : Value) : Option Value := match v with
  | .pointer (some ⟨k, o, none⟩) => on1 (h.get k) (rload2 P t o)
  | _ => none
section
variable {θ : Nat → Value} {ρ : Ren} {P : Program} {w0 : Fm} {w : World} {h : Tr SO} {nx : Nat}
theorem run_isAgg {t : TypeId} {d : TypeDesc} (hd : P.underlying t = some d) : (isAgg t).run P w = .ok (aggD d) w := by
  unfold isAgg
  simp only [Sem.run_bind, run_underlying hd, Result.andThen_ok]
  cases d <;> rfl
theorem addr_plus (b o k : Nat) : (⟨b, o, none⟩ : Addr).add k = ⟨b, o + k, none⟩ := by
  unfold Addr.add; split
  · rename_i h; subst h; rfl
  · rfl
theorem rloadVar_ok (hh : HT θ w0 ρ h nx w) {t : TypeId} {k o : Nat} {p : Pl} {c : CL} {T : TypeId} {b : Bool} {sz : Nat} {v : Value} (hk : h.get k = some (.cells c T b sz)) (hp : ρ k = some p) (hs : partM P t o c = some v) :
    ∃ v', Rv θ ρ v v' ∧ (loadVar t ⟨p.b, p.s + o, none⟩).run P w = .ok v' w := by
  obtain ⟨i, d, hi, hd, hs⟩ := on2_ok hs
  unfold partM2 at hs
  cases ha : aggD d with
  | true =>
    rw [ha] at hs
    obtain ⟨l, hl, hs⟩ := on1_ok (show on1 (c.read i.size o) (fun l => some (.agg l.toArray)) = some v from hs)
    cases hs
    obtain ⟨ys, h1, h2, h3⟩ := hh.cells hk hp o i.size hl
    refine ⟨.agg ys.toArray, Rv.ofAgg h2.arr, ?_⟩
    have := run_loadCells_list (P := P) w ⟨p.b, p.s + o, none⟩ ys (fun j v hv => by rw [addr_plus]; exact h3 j v hv)
    rw [h1] at this
    simp [loadVar, run_isAgg hd, ha, sizeOf, typeInfo, hi, this]
  | false =>
    rw [ha] at hs
    obtain ⟨y, h1, h2⟩ := hh.cell hk hp hs
    refine ⟨y, h2, ?_⟩
    simp [loadVar, run_isAgg hd, ha, h1]
theorem rload_ok (hh : HT θ w0 ρ h nx w) {t : TypeId} {x x' v : Value} (hx : Rv θ ρ x x') (hs : rload P h t x = some v) : Pv θ ρ w v ((Instr.loadAt t x').run P w) := by
  unfold rload at hs
  split at hs
  · rename_i k o
    obtain ⟨so, hk, hs⟩ := on1_ok hs
    unfold rload2 at hs
    split at hs
    · rename_i c T b sz
      obtain ⟨p, hp, rfl⟩ := hx.toPtr
      obtain ⟨v', h1, h2⟩ := rloadVar_ok hh hk hp hs
      exact ⟨_, h1, by simp [Instr.loadAt, Instr.sureAddr, h2]⟩
    · cases hs
  · cases hs
theorem Rl.splice {cur : List Value} {c : CL} {vs vs' : List Value} {s o : Nat} (hc : ∀ (i : Nat) x, c.get i = some x → ∃ y, cur[s + i]? = some y ∧ Rv θ ρ x y) (hv : Rl θ ρ vs vs') (hl : s + o + vs.length ≤ cur.length) :
    ∀ (i : Nat) x, (CL.write vs c o).get i = some x → ∃ y, (cur.take (s + o) ++ vs' ++ cur.drop (s + o + vs'.length))[s + i]? = some y ∧ Rv θ ρ x y := by
  intro i x hx
  have h1 := hv.1
  rw [List.append_assoc, List.getElem?_append, List.length_take, List.getElem?_append]
  rcases (CL.write_ok vs c o).2 i x hx with ⟨k, e1, e2⟩ | ⟨e1, e2⟩
  · obtain ⟨y, g1, g2⟩ := hv.at_ e2
    have hk := (List.getElem?_eq_some_iff.1 g1).1
    rw [if_neg (by omega), if_pos (by omega)]
    refine ⟨y, ?_, g2⟩
    rw [← g1]; congr 1; omega
  · obtain ⟨y, g1, g2⟩ := hc i x e2
    rcases e1 with e1 | e1
    · rw [if_pos (by omega), List.getElem?_take, if_pos (by omega)]
      exact ⟨y, g1, g2⟩
    · rw [if_neg (by omega), if_neg (by omega), List.getElem?_drop]
      refine ⟨y, ?_, g2⟩
      rw [← g1]; congr 1; omega
theorem setRow_heap' (w : World) (g : Nat) (cur cs : Array Value) (T : TypeId) (fz : Nat × Nat) (hg : w.heap[g]? = some (.cells cur T fz)) : (w.setRow g cs).heap = w.heap.setIfInBounds g (.cells cs T fz) := by
  apply Array.ext_getElem?
  intro j
  by_cases hj : j = g
  · subst hj
    have hlt := (Array.getElem?_eq_some_iff.1 hg).1
    rw [setRow_heap w j cur cs T fz hg]; simp [hlt]
  · rw [setRow_other w g j cs hj, Array.getElem?_setIfInBounds_ne (fun e => hj e.symm)]
/-- Cells are written. -/
theorem HR.write (hh : HT θ w0 ρ h nx w) {k o : Nat} {p : Pl} {c : CL} {T : TypeId} {sz : Nat} (hk : h.get k = some (.cells c T true sz)) (hp : ρ k = some p) {vs vs' : List Value} (hv : Rl θ ρ vs vs') (h1 : ∀ v ∈ vs', v.oneCell' = true) (hl : o + vs.length ≤ c.len) :
    ∃ w', (storeCells ⟨p.b, p.s + o, none⟩ vs').run P w = .ok () w' ∧ HT θ w0 ρ (h.put k (.cells (CL.write vs c o) T true sz)) nx w' := by
  obtain ⟨p', o', g1, g2, g3, g4⟩ := hh.obj k _ hk
  rw [hp] at g1; cases g1
  cases o' with
  | cells cur T' fz =>
    obtain ⟨rfl, rfl, ⟨h3, h3'⟩, h4⟩ := g3
    have hle := hv.1
    have hst := run_storeCells_at P p.b (p.s + o) T' vs' 0 cur w g2 (by omega) h1
    rw [Nat.add_zero] at hst
    refine ⟨_, hst, hh.turn hk rfl rfl hp (o1 := .cells (CL.write vs c o) T' true sz) (o1' := .cells (cur.toList.take (p.s + o) ++ vs' ++ cur.toList.drop (p.s + o + vs'.length)).toArray T' (0, 0)) ⟨rfl, rfl, ⟨?_, fun sz' z hq => ?_⟩, ?_⟩ (setRow_heap' _ _ _ _ _ _ g2) rfl rfl rfl⟩
    · have := (CL.write_ok vs c o).1; simp; omega
    · obtain ⟨g5, g6, g7⟩ := h3' sz' z hq; refine ⟨g5, g6, ?_⟩; simp; omega
    · intro i x hx
      obtain ⟨y, e1, e2⟩ := Rl.splice (cur := cur.toList) (s := p.s) (by intro i x hx; rw [Array.getElem?_toList]; exact h4 i x hx) hv (by simp; omega) i x hx
      exact ⟨y, by simpa using e1, e2⟩
  | _ => exact g3.elim
noncomputable def rstore3 (h : Tr SO) (k o : Nat) (c : CL) (T : TypeId) (sz : Nat) (vs : List Value) (i : TypeInfo) : Option (Tr SO) := bif Nat.beq vs.length i.size && Nat.ble (Nat.add o i.size) c.len && vs.all Value.oneCell' then some (h.put k (.cells (CL.write vs c o) T true sz)) else none
noncomputable def rstore2 (P : Program) (h : Tr SO) (t : TypeId) (k o : Nat) (vs : List Value) (so : SO) : Option (Tr SO) := match so with
  | .cells c T true sz => on1 (P.info? t) (rstore3 h k o c T sz vs)
  | _ => none
noncomputable def rstore (P : Program) (h : Tr SO) (t : TypeId) (p v : Value) : Option (Tr SO) := match p with
  | .pointer (some ⟨k, o, none⟩) => on1 (h.get k) (rstore2 P h t k o v.cells.toList)
  | _ => none
theorem Rl.ones : ∀ {vs vs' : List Value}, Rl θ ρ vs vs' → vs.all Value.oneCell' = true → ∀ v ∈ vs', v.oneCell' = true
  | [], [], _, _ => by simp
  | [], _ :: _, h, _ => by have := h.1; simp at this
  | _ :: _, [], h, _ => by simp
  | v :: l, v' :: l', h, ha => by
    simp only [List.all_cons, Bool.and_eq_true] at ha
    intro u hu
    rcases List.mem_cons.1 hu with rfl | hu
    · exact h.head.one ha.1
    · exact Rl.ones h.tail ha.2 u hu
theorem rstore_ok (hh : HT θ w0 ρ h nx w) {t : TypeId} {x x' v v' : Value} (hx : Rv θ ρ x x') (hv : Rv θ ρ v v') {h' : Tr SO} (hs : rstore P h t x v = some h') : ∃ w', (Instr.storeAt t x' v').run P w = .ok () w' ∧ HT θ w0 ρ h' nx w' := by
  unfold rstore at hs
  split at hs
  · rename_i k o
    obtain ⟨so, hk, hs⟩ := on1_ok hs
    unfold rstore2 at hs
    split at hs
    · rename_i c T sz
      obtain ⟨i, hi, hs⟩ := on1_ok hs
      unfold rstore3 at hs
      cases hc : (Nat.beq v.cells.toList.length i.size && Nat.ble (Nat.add o i.size) c.len && v.cells.toList.all Value.oneCell') with
      | false => rw [hc] at hs; cases hs
      | true =>
        rw [hc] at hs; cases hs
        simp only [Bool.and_eq_true] at hc
        obtain ⟨⟨h1, h2⟩, h3⟩ := hc
        have h1 := Nat.eq_of_beq_eq_true h1
        have h2 := Nat.le_of_ble_eq_true h2
        obtain ⟨p, hp, rfl⟩ := hx.toPtr
        have hcs := Ra.list.1 hv.cells
        have hlen := hcs.1
        obtain ⟨w', g1, g2⟩ := hh.write (P := P) hk hp hcs (Rl.ones hcs h3) (o := o) (by rw [h1]; exact h2)
        refine ⟨w', ?_, g2⟩
        have hsz : v'.cells.size = i.size := by rw [← hv.cells.1, ← h1, Array.length_toList]
        simp [Instr.storeAt, Instr.sureAddr, storeVar, sizeOf, typeInfo, hi, hsz, g1]
    · cases hs
  · cases hs
end
end Ex
end Go.Proofs.YtlcdaalalihaiaaGreat

/- Running code by calculation: new blocks, places in blocks, parts of values. -/
namespace Go.Proofs.YtlcdaalalihaiaaGreat
open Go Go.RowKit
set_option linter.unusedVariables false
set_option linter.unusedSectionVars false
set_option linter.unusedSimpArgs false
set_option maxRecDepth 100000
namespace Ex
variable [GN]
section
variable {θ : Nat → Value} {ρ : Ren} {P : Program} {w0 : Fm} {w : World} {h : Tr SO} {nx : Nat}
/-! ### New blocks -/
theorem HR.newRow (hh : HT θ w0 ρ h nx w) (q : Option (Nat × Nat)) {c : CL} {cur : Array Value} (T : TypeId) (hl : c.len ≤ cur.size) (sz : Nat) (hq : ∀ sz' z, q = some (sz', z) → sz' = sz ∧ 0 < sz ∧ z ≤ cur.size) (hc : ∀ (i : Nat) x, c.get i = some x → ∃ y, cur[i]? = some y ∧ Rv θ ρ x y) :
    ∃ ρ', ρ.le ρ' ∧ ρ' nx = some ⟨w.heap.size, 0, q⟩ ∧ HT θ w0 ρ' (h.put nx (.cells c T true sz)) (nx + 1) (w.alloc (.cells cur T (0, 0))) :=
  hh.alloc q (fun ρ' hρ => ⟨rfl, rfl, ⟨by simpa using hl, fun sz' z hz => by simpa using hq sz' z hz⟩, fun i x hx => let ⟨y, h1, h2⟩ := hc i x hx; ⟨y, by simpa using h1, h2.mono hρ⟩⟩) rfl
noncomputable def ptrTo (k : Nat) : Value := .pointer (some ⟨k, 0, none⟩)
/-- What kind of value a new block gives. -/
inductive Sh where
  | ptr | sl (l c : Nat) | mp
noncomputable def Sh.mk : Sh → Nat → Value
  | .ptr, k => .pointer (some ⟨k, 0, none⟩)
  | .sl l c, k => .slice (some ⟨k, 0, none⟩) l c
  | .mp, k => .map (some k)
/-- A new block comes of it. -/
structure Av (θ : Nat → Value) (ρ : Ren) (w : World) (so : SO) (sh : Sh) (r : Result Value) : Prop where
  out : so.rw = true ∧ ∃ o' v', (∀ ρ', ρ.le ρ' → Ro θ ρ' ⟨w.heap.size, 0, none⟩ so o') ∧ (∀ ρ' k, ρ' k = some ⟨w.heap.size, 0, none⟩ → Rv θ ρ' (sh.mk k) v') ∧ r = .ok v' (w.alloc o')
theorem Av.cells {sh : Sh} {r : Result Value} {c : CL} {c' : List Value} (T : TypeId) (hl : c.len ≤ c'.length) (hc : ∀ (i : Nat) x, c.get i = some x → ∃ y, c'[i]? = some y ∧ Rv θ ρ x y) {v' : Value} (hv : ∀ ρ' k, ρ' k = some ⟨w.heap.size, 0, none⟩ → Rv θ ρ' (sh.mk k) v') (hr : r = .ok v' (w.alloc (.cells c'.toArray T (0, 0)))) : Av θ ρ w (.cells c T true 0) sh r :=
  ⟨rfl, .cells c'.toArray T (0, 0), v', fun ρ' hρ => ⟨rfl, rfl, ⟨by simpa using hl, fun _ _ e => by cases e⟩, fun i x hx => let ⟨y, h1, h2⟩ := hc i x hx; ⟨y, by simpa using h1, h2.mono hρ⟩⟩, hv, hr⟩
theorem Av.list {sh : Sh} {r : Result Value} {c c' : List Value} (T : TypeId) (hc : Rl θ ρ c c') {v' : Value} (hv : ∀ ρ' k, ρ' k = some ⟨w.heap.size, 0, none⟩ → Rv θ ρ' (sh.mk k) v') (hr : r = .ok v' (w.alloc (.cells c'.toArray T (0, 0)))) : Av θ ρ w (.cells (.of c) T true 0) sh r :=
  .cells T (by rw [← hc.1]; exact Nat.le_refl _) (fun i x hx => hc.at_ (CL.get_of hx)) hv hr
theorem rbox_ok (T : TypeId) {v v' : Value} (hv : Rv θ ρ v v') : Av θ ρ w (.cells (.of v.cells.toList) T true 0) .ptr ((Instr.box T v').run P w) :=
  .list T (Ra.list.1 hv.cells) (v' := .pointer (some ⟨w.heap.size, 0, none⟩)) (fun ρ' k hk => .ptr hk) (by simp [Instr.box, newVar, newRow])
noncomputable def zeroOf (P : Program) (T : TypeId) : Option Value := match P.info? T with
  | some i => match i.zero with
    | some z => bif okc z then some z else none
    | none => none
  | none => none
theorem zeroOf_ok {T : TypeId} {z : Value} (hs : zeroOf P T = some z) : (∃ i, P.info? T = some i ∧ i.zero = some z) ∧ okc z = true := by
  unfold zeroOf at hs
  split at hs
  · rename_i i hi
    split at hs
    · rename_i u hz
      cases hk : okc u with
      | false => rw [hk] at hs; cases hs
      | true => rw [hk] at hs; cases hs; exact ⟨⟨i, hi, hz⟩, hk⟩
    · cases hs
  · cases hs
theorem ralloc_ok {T : TypeId} {z : Value} (hs : zeroOf P T = some z) : Av θ ρ w (.cells (.of z.cells.toList) T true 0) .ptr ((Instr.alloc T true (.tuple #[])).run P w) := by
  obtain ⟨⟨i, hi, hz⟩, hk⟩ := zeroOf_ok hs
  exact .list T (Ra.list.1 (okc_rv (θ := θ) (ρ := ρ) hk).cells) (v' := .pointer (some ⟨w.heap.size, 0, none⟩)) (fun ρ' k hk => .ptr hk) (by simp [Instr.alloc, zeroValue, typeInfo, hi, hz, newVar, newRow])
/-! ### Literals -/
theorem fold_rel (off : Nat) : ∀ (l l' : List Value) (k : Nat) (cs cs' : Array Value), Rl θ ρ l l' → Ra θ ρ cs cs' →
    Ra θ ρ ((l.zipIdx k).foldl (fun (cs : Array Value) (p : Value × Nat) => cs.setIfInBounds (off + p.2) p.1) cs) ((l'.zipIdx k).foldl (fun (cs : Array Value) (p : Value × Nat) => cs.setIfInBounds (off + p.2) p.1) cs')
  | [], [], _, _, _, _, h => h
  | [], _ :: _, _, _, _, h, _ => by have := h.1; simp at this
  | _ :: _, [], _, _, _, h, _ => by have := h.1; simp at this
  | v :: l, v' :: l', k, cs, cs', hl, hc => by
    rw [List.zipIdx_cons, List.zipIdx_cons, List.foldl_cons, List.foldl_cons]
    refine fold_rel off l l' (k + 1) _ _ hl.tail ⟨by simp [hc.1], fun i x x' h1 h2 => ?_⟩
    simp only [Array.getElem?_setIfInBounds, hc.1] at h1 h2
    split at h1
    · rename_i e
      rw [if_pos e] at h2
      split at h1
      · rename_i e2; rw [if_pos e2] at h2; cases h1; cases h2; exact hl.head
      · cases h1
    · rename_i e; rw [if_neg e] at h2; exact hc.2 i x x' h1 h2
theorem fill_rel (place : Nat → Option (Nat × Nat)) : ∀ (ps ps' : List (Nat × Value)) (cs cs' r : Array Value), RPs θ ρ ps ps' → Ra θ ρ cs cs' → Instr.fill place cs ps = some r → ∃ r', Instr.fill place cs' ps' = some r' ∧ Ra θ ρ r r'
  | [], [], cs, cs', r, _, hc, h => by cases h; exact ⟨cs', rfl, hc⟩
  | [], _ :: _, _, _, _, h, _, _ => h.elim
  | _ :: _, [], _, _, _, h, _, _ => by cases h
  | (i, v) :: ps, (j, v') :: ps', cs, cs', r, ⟨e, hv, hp⟩, hc, h => by
    subst e
    unfold Instr.fill at h ⊢
    cases hpl : place j with
    | none => rw [hpl] at h; cases h
    | some q =>
      obtain ⟨off, size⟩ := q
      rw [hpl] at h
      have e1 := hv.cells.1
      have e2 := hc.1
      simp only [← e1, ← e2] at h ⊢
      split at h
      · cases h
      · rename_i hne
        rw [if_neg hne]
        refine fill_rel place ps ps' _ _ r hp ?_ h
        have := fold_rel (θ := θ) (ρ := ρ) off v.cells.toList v'.cells.toList 0 cs cs' (Ra.list.1 hv.cells) hc
        rw [← Array.foldl_toList, ← Array.foldl_toList, Array.toList_zipIdx, Array.toList_zipIdx]
        exact this
noncomputable def rbuild (P : Program) (t : TypeId) (ps : List (Nat × Value)) : Option Value := match zeroOf P t with
  | some _ => match P.built t ps with
    | some cs => some (.agg cs)
    | none => none
  | none => none
theorem rbuild_ok {t : TypeId} {ps ps' : List (Nat × Value)} (hp : RPs θ ρ ps ps') {v : Value} (hs : rbuild P t ps = some v) : Pv θ ρ w v ((Instr.build t ps'.toArray).run P w) := by
  unfold rbuild at hs
  split at hs
  · rename_i z hz
    obtain ⟨⟨i, hi, hz⟩, hk⟩ := zeroOf_ok hz
    have hzz : Ra θ ρ z.cells z.cells := (okc_rv hk).cells
    split at hs
    · rename_i cs hb
      cases hs
      have : ∃ cs', P.built t ps' = some cs' ∧ Ra θ ρ cs cs' := by
        unfold Program.built at hb ⊢
        rw [hi] at hb ⊢
        split at hb
        · rename_i it' _ e he hu
          cases he
          simp only [hz] at hb ⊢
          split at hb
          · rename_i z' ie e1 e2
            cases e1
            exact fill_rel _ _ _ _ _ _ hp hzz hb
          · cases hb
        · rename_i it' _ fs he hu
          cases he
          simp only [hz] at hb ⊢
          split at hb
          · rename_i z' pl e1 e2
            cases e1
            exact fill_rel _ _ _ _ _ _ hp hzz hb
          · cases hb
        · cases hb
      obtain ⟨cs', g1, g2⟩ := this
      exact ⟨_, Rv.ofAgg g2, run_build w t ps'.toArray cs' g1⟩
    · cases hs
  · cases hs
noncomputable def rep : Nat → List Value → List Value
  | 0, _ => []
  | n + 1, z => z ++ rep n z
theorem rep_length (z : List Value) : ∀ n, (rep n z).length = n * z.length
  | 0 => by simp [rep]
  | n + 1 => by rw [rep, List.length_append, rep_length z n, Nat.succ_mul, Nat.add_comm]
theorem rep_at (z : List Value) : ∀ (n i : Nat) (x : Value), (rep n z)[i]? = some x → z[i % z.length]? = some x
  | 0, i, x, h => by simp [rep] at h
  | n + 1, i, x, h => by
    rw [rep, List.getElem?_append] at h
    split at h
    · rename_i hi; rw [Nat.mod_eq_of_lt hi]; exact h
    · rename_i hi
      have := rep_at z n _ x h
      rwa [← Nat.mod_eq_sub_mod (by omega)] at this
/-- A row of zeros. -/
theorem rep_rel {z : Value} (hk : okc z = true) (n : Nat) : Rl θ ρ (rep n z.cells.toList) ((Array.range (n * z.cells.size)).map (z.cells[· % z.cells.size]!)).toList := by
  refine ⟨by rw [rep_length]; simp, fun i x x' h1 h2 => ?_⟩
  have h3 := rep_at _ _ _ _ h1
  simp only [Array.toList_map, Array.toList_range, List.getElem?_map, Option.map_eq_some_iff] at h2
  obtain ⟨j, h4, rfl⟩ := h2
  obtain ⟨_, h5⟩ := List.getElem?_eq_some_iff.1 h4
  simp at h5; subst h5
  rw [Array.length_toList, Array.getElem?_toList] at h3
  have : z.cells[i % z.cells.size]! = x := by rw [getElem!_def, h3]
  rw [this]
  have hrl : Rl θ ρ z.cells.toList z.cells.toList := Ra.list.1 (okc_rv hk).cells
  exact hrl.2 (i % z.cells.size) x x (by rw [Array.getElem?_toList]; exact h3) (by rw [Array.getElem?_toList]; exact h3)
noncomputable def rbuildSlice (P : Program) (t : TypeId) (m : Nat) (ps : List (Nat × Value)) : Option (SO × Sh) := match P.underlying t with
  | some (.slice e) => match P.info? e, zeroOf P e with
    | some i, some z => bif Nat.ble (Nat.mul m i.size) 16777216 && Nat.beq z.cells.size i.size && Nat.blt 0 i.size then
        (match Instr.fill (fun j => some (j * i.size, i.size)) (rep m z.cells.toList).toArray ps with
        | some r => some (.cells (.of r.toList) e true 0, .sl m m)
        | none => none) else none
    | _, _ => none
  | _ => none
theorem rbuildSlice_ok {t : TypeId} {m : Nat} {ps ps' : List (Nat × Value)} (hp : RPs θ ρ ps ps') {so : SO} {sh : Sh} (hs : rbuildSlice P t m ps = some (so, sh)) : Av θ ρ w so sh ((Instr.buildSlice t m ps'.toArray).run P w) := by
  unfold rbuildSlice at hs
  split at hs
  · rename_i e hu
    split at hs
    · rename_i i z hi hz
      obtain ⟨⟨i', hi', hz⟩, hk⟩ := zeroOf_ok hz
      rw [hi] at hi'; cases hi'
      cases hc : (Nat.ble (Nat.mul m i.size) 16777216 && Nat.beq z.cells.size i.size && Nat.blt 0 i.size) with
      | false => rw [hc] at hs; cases hs
      | true =>
        rw [hc] at hs
        simp only [Bool.and_eq_true, cond_true] at hc hs
        obtain ⟨⟨h1, h2⟩, h3⟩ := hc
        have h1 : m * i.size ≤ 16777216 := Nat.le_of_ble_eq_true h1
        have h2 := Nat.eq_of_beq_eq_true h2
        have h3 : 0 < i.size := by simpa [Nat.blt_eq] using h3
        split at hs
        · rename_i cs hf
          cases hs
          obtain ⟨cs', g1, g2⟩ := fill_rel (θ := θ) (ρ := ρ) _ ps ps' _ _ cs hp (rep_rel (θ := θ) (ρ := ρ) hk m).arr hf
          rw [Array.toArray_toList] at g1
          refine .list e (Ra.list.1 g2) (v' := .slice (some ⟨w.heap.size, 0, none⟩) m m) (fun ρ' k hk => .sl hk (Nat.le_refl _) ⟨.inl rfl, .inr (by simp)⟩) ?_
          rw [Array.toArray_toList]
          have hle : ¬ (m * i.size > 2 ^ 24) := by omega
          by_cases h0 : m * i.size = 0
          · have hm : m = 0 := by rcases Nat.mul_eq_zero.1 h0 with e | e <;> omega
            subst hm
            have e1 : (Array.range (0 * z.cells.size)).map (z.cells[· % z.cells.size]!) = #[] := by simp
            rw [e1] at g1
            have e2 : (Array.range (0 * i.size)).map ((#[] : Array Value)[· % (#[] : Array Value).size]!) = #[] := by simp
            simp only [Instr.buildSlice, Sem.run_bind, run_underlying hu, Result.andThen_ok, sizeOf, typeInfo, run_program, hi, Sem.run_pure]
            have e3 : Array.map (fun (x : Nat) => (default : Value)) (Array.range 0) = #[] := by simp
            simp [e3, g1, newRow]
          · rw [h2] at g1
            simp only [Instr.buildSlice, Sem.run_bind, run_underlying hu, Result.andThen_ok, sizeOf, typeInfo, run_program, hi, Sem.run_pure]
            have h1' : ¬ (16777216 < m * i.size) := by omega
            simp [h1', h0, zeroValue, typeInfo, hi, hz, h2, g1, newRow]
        · cases hs
    · cases hs
  · cases hs
end
end Ex
end Go.Proofs.YtlcdaalalihaiaaGreat

/- Running code by calculation: make, places, cuts, comparisons with nil. -/
namespace Go.Proofs.YtlcdaalalihaiaaGreat
open Go Go.RowKit
set_option linter.unusedVariables false
set_option linter.unusedSectionVars false
set_option linter.unusedSimpArgs false
set_option maxRecDepth 100000
namespace Ex
variable [GN]
section
variable {θ : Nat → Value} {ρ : Ren} {P : Program} {w0 : Fm} {w : World} {h : Tr SO} {nx : Nat}
/-- 'make([]T, l, c)'. -/
noncomputable def rmake (P : Program) (t : TypeId) : Value → Value → Option (SO × Sh)
  | .int kl (.ofNat l), .int kc (.ofNat c) => match P.underlying t with
    | some (.slice e) => match P.info? e, zeroOf P e with
      | some i, some z => bif Nat.ble l c && Nat.ble c 1048576 && Nat.ble i.bytes 1048576 && Nat.beq z.cells.size i.size && Nat.blt 0 i.size then
          some (.cells ⟨.leaf, Nat.mul c z.cells.size, z.cells.toList⟩ e true 0, .sl l c) else none
      | _, _ => none
    | _ => none
  | _, _ => none
theorem make_at {z : Value} (hk : okc z = true) (n : Nat) {i : Nat} {x : Value} (hx : (⟨.leaf, Nat.mul n z.cells.size, z.cells.toList⟩ : CL).get i = some x) : ∃ y, ((Array.range (n * z.cells.size)).map (z.cells[· % z.cells.size]!)).toList[i]? = some y ∧ Rv θ ρ x y := by
  have hlt := CL.get_lt hx
  rw [CL.get_eq, if_pos hlt] at hx
  have hlt : i < n * z.cells.size := hlt
  have e1 : (Tr.leaf : Tr Value).get i = none := rfl
  simp only [e1] at hx
  rw [Array.length_toList, Array.getElem?_toList] at hx
  have hrl : Rl θ ρ z.cells.toList z.cells.toList := Ra.list.1 (okc_rv hk).cells
  refine ⟨x, ?_, hrl.2 (i % z.cells.size) x x (by rw [Array.getElem?_toList]; exact hx) (by rw [Array.getElem?_toList]; exact hx)⟩
  simp only [Array.toList_map, Array.toList_range, List.getElem?_map, Option.map_eq_some_iff]
  refine ⟨i, by rw [List.getElem?_range hlt], ?_⟩
  rw [getElem!_def, hx]
theorem wrap_small {n : Nat} (h : n ≤ 1048576) : IntKind.i64.wrap (n : Int) = n := IntWalk.i64_in _ (by omega)
theorem rmake_ok {t : TypeId} {x y : Value} {so : SO} {sh : Sh} (hs : rmake P t x y = some (so, sh)) : Av θ ρ w so sh ((Instr.makeSlice t x y).run P w) := by
  unfold rmake at hs
  split at hs
  · rename_i kl l kc c
    split at hs
    · rename_i e hu
      split at hs
      · rename_i i z hi hz
        obtain ⟨⟨i', hi', hz⟩, hk⟩ := zeroOf_ok hz
        rw [hi] at hi'; cases hi'
        cases hc : (Nat.ble l c && Nat.ble c 1048576 && Nat.ble i.bytes 1048576 && Nat.beq z.cells.size i.size && Nat.blt 0 i.size) with
        | false => rw [hc] at hs; cases hs
        | true =>
          rw [hc] at hs
          simp only [Bool.and_eq_true, cond_true, Option.some.injEq, Prod.mk.injEq] at hc hs
          obtain ⟨rfl, rfl⟩ := hs
          obtain ⟨⟨⟨⟨h1, h2⟩, h3⟩, h4⟩, h5⟩ := hc
          have h5 : 0 < i.size := by simpa [Nat.blt_eq] using h5
          have h1 := Nat.le_of_ble_eq_true h1
          have h2 := Nat.le_of_ble_eq_true h2
          have h3 := Nat.le_of_ble_eq_true h3
          have h4 := Nat.eq_of_beq_eq_true h4
          refine .cells e (c' := ((Array.range (c * z.cells.size)).map (z.cells[· % z.cells.size]!)).toList) (by simp) (fun i x hx => make_at hk c hx) (v' := .slice (some ⟨w.heap.size, 0, none⟩) l c) (fun ρ' k hk => .sl hk h1 ⟨.inl rfl, .inr (by simp)⟩) ?_
          rw [Array.toArray_toList]
          have hmul : i.bytes * c ≤ 1048576 * 1048576 := Nat.mul_le_mul h3 h2
          have hb : ¬ (281474976710656 < (i.bytes : Int) * c) := by rw [← Int.natCast_mul]; omega
          have wl : IntKind.i64.wrap (l : Int) = l := wrap_small (by omega)
          have wc : IntKind.i64.wrap (c : Int) = c := wrap_small h2
          have hneg : ¬ ((c : Int) < 0 ∨ 281474976710656 < (i.bytes : Int) * c) := by omega
          have hlt : ¬ ((c : Int) < (l : Int)) := by omega
          by_cases hc0 : c = 0
          · subst hc0
            obtain rfl : l = 0 := by omega
            have e2 : ((Array.range (0 * z.cells.size)).map (z.cells[· % z.cells.size]!)) = #[] := by simp
            have e3 : Array.map (fun (x : Nat) => (default : Value)) (Array.range 0) = #[] := by simp
            have w0 : IntKind.i64.wrap 0 = 0 := by decide
            rw [e2]
            simp [Instr.makeSlice, run_underlying hu, asInt, asIntOf, w0, sizeOf, typeInfo, hi, newRow, e3]
          · have hs0 : ¬ i.size = 0 := by omega
            have hl0 : ¬ ((l : Int) < 0) := by omega
            simp [Instr.makeSlice, run_underlying hu, asInt, asIntOf, wl, wc, hneg, hlt, hl0, sizeOf, typeInfo, hi, hc0, hs0, zeroValue, hz, newRow, h4]
            intro e1; rcases Nat.mul_eq_zero.1 e1 with e1 | e1 <;> omega
      · cases hs
    · cases hs
  · cases hs
/-! ### Places -/
noncomputable def rfieldAddr (P : Program) (t : TypeId) (f : Nat) : Value → Option Value
  | .pointer (some ⟨k, o, none⟩) => match P.underlying t with
    | some (.struct fs) => match fs[f]? with
      | some fd => (match P.info? fd.type with
        | some i => bif Nat.beq i.size 0 then none else some (.pointer (some ⟨k, Nat.add o fd.offset, none⟩))
        | none => none)
      | none => none
    | _ => none
  | _ => none
theorem rfieldAddr_ok {t : TypeId} {f : Nat} {x x' v : Value} (hx : Rv θ ρ x x') (hs : rfieldAddr P t f x = some v) : Pv θ ρ w v ((Instr.fieldAt t x' f).run P w) := by
  unfold rfieldAddr at hs
  split at hs
  · rename_i k o
    obtain ⟨p, hp, rfl⟩ := hx.toPtr
    split at hs
    · rename_i fs hu
      split at hs
      · rename_i fd hf
        split at hs
        · rename_i i hi
          cases h0 : Nat.beq i.size 0 with
          | true => rw [h0] at hs; cases hs
          | false =>
            rw [h0] at hs; cases hs
            have hne : i.size ≠ 0 := fun e => by rw [e] at h0; cases h0
            refine ⟨_, .ptr hp, ?_⟩
            simp [Instr.fieldAt, run_underlying hu, hf, Instr.sureAddr, fieldPlace, sizeOf, typeInfo, hi, hne, addr_plus, Nat.add_assoc]
        · cases hs
      · cases hs
    · cases hs
  · cases hs
noncomputable def rindexAddr (P : Program) (t : TypeId) : Value → Value → Option Value
  | .pointer (some ⟨k, o, none⟩), .int _ (.ofNat i) => match P.underlying t with
    | some (.array len e) => (match P.info? e with
      | some ie => bif Nat.blt i len then some (.pointer (some ⟨k, Nat.add o (Nat.mul i ie.size), none⟩)) else none
      | none => none)
    | _ => none
  | .slice (some ⟨k, o, none⟩) n _, .int _ (.ofNat i) => match P.underlying t with
    | some (.slice e) => (match P.info? e with
      | some ie => bif Nat.blt i n then some (.pointer (some ⟨k, Nat.add o (Nat.mul i ie.size), none⟩)) else none
      | none => none)
    | _ => none
  | _, _ => none
theorem rindexAddr_ok {t : TypeId} {x x' y y' v : Value} (hx : Rv θ ρ x x') (hy : Rv θ ρ y y') (hs : rindexAddr P t x y = some v) : Pv θ ρ w v ((Instr.indexAt t x' y').run P w) := by
  unfold rindexAddr at hs
  split at hs
  · rename_i k o kk i
    obtain ⟨p, hp, rfl⟩ := hx.toPtr
    obtain rfl := hy.toInt
    split at hs
    · rename_i len e hu
      split at hs
      · rename_i ie hi
        cases hc : Nat.blt i len with
        | false => rw [hc] at hs; cases hs
        | true =>
          rw [hc] at hs; cases hs
          have hlt : i < len := by simpa [Nat.blt_eq] using hc
          refine ⟨_, .ptr hp, ?_⟩
          simp [Instr.indexAt, asIntOf, run_underlying hu, Instr.sureAddr, sizeOf, typeInfo, hi, hlt, addr_plus, Nat.add_assoc]
      · cases hs
    · cases hs
  · rename_i k o n c kk i
    obtain ⟨p, c', a, hp, hn, hcap, rfl⟩ := hx.toSl
    obtain rfl := hy.toInt
    split at hs
    · rename_i e hu
      split at hs
      · rename_i ie hi
        cases hc : Nat.blt i n with
        | false => rw [hc] at hs; cases hs
        | true =>
          rw [hc] at hs; cases hs
          have hlt : i < n := by simpa [Nat.blt_eq] using hc
          have ha : a = ⟨p.b, p.s + o, none⟩ := by
            rcases hcap.2 with h0 | h0
            · omega
            · exact h0
          subst ha
          refine ⟨_, .ptr hp, ?_⟩
          simp [Instr.indexAt, asIntOf, run_underlying hu, sizeOf, typeInfo, hi, hlt, addr_plus, Nat.add_assoc]
      · cases hs
    · cases hs
  · cases hs
/-! ### Parts of values -/
noncomputable def rextract (i : Nat) : Value → Option Value
  | .tuple vs => vs[i]?
  | _ => none
theorem rextract_ok {i : Nat} {x x' v : Value} (hx : Rv θ ρ x x') (hs : rextract i x = some v) : Pv θ ρ w v ((Instr.extract x' i).run P w) := by
  unfold rextract at hs
  split at hs
  · obtain ⟨xs', rfl, h1, h2⟩ := hx.toTup
    have hlt := (Array.getElem?_eq_some_iff.1 hs).1
    have hlt' : i < xs'.size := by omega
    refine ⟨_, h2 i _ _ hs (Array.getElem?_eq_getElem hlt'), ?_⟩
    simp [Instr.extract, hlt']
  · cases hs
theorem rpart_ok {t : TypeId} {cs cs' : Array Value} (hc : Ra θ ρ cs cs') {o : Nat} {v : Value} (hs : part1 P t cs.toList o = some v) : ∃ v', Rv θ ρ v v' ∧ (part t cs' o).run P w = .ok v' w := by
  unfold part1 at hs
  split at hs
  · rename_i i d hi hd
    cases ha : aggD d with
    | true =>
      rw [ha] at hs
      cases hl : Nat.ble (Nat.add o i.size) cs.toList.length with
      | false => rw [hl] at hs; cases hs
      | true =>
        rw [hl] at hs; cases hs
        refine ⟨.agg (cs'.extract o (o + i.size)), Rv.ofAgg (Ra.list.2 ?_), by simp [part, run_isAgg hd, ha, sizeOf, typeInfo, hi]⟩
        have := ((Ra.list.1 hc).drop o).take i.size
        simpa [Array.toList_extract, List.extract] using this
    | false =>
      rw [ha] at hs
      simp only [cond_false, nth_eq] at hs
      obtain ⟨y, h1, h2⟩ := (Ra.list.1 hc).at_ hs
      refine ⟨y, h2, ?_⟩
      rw [Array.getElem?_toList] at h1
      simp [part, run_isAgg hd, ha, h1]
  · cases hs
noncomputable def rfield (P : Program) (t : TypeId) (f : Nat) : Value → Option Value
  | .agg cs => match P.underlying t with
    | some (.struct fs) => match fs[f]? with
      | some fd => part1 P fd.type cs.toList fd.offset
      | none => none
    | _ => none
  | _ => none
theorem rfield_ok {t : TypeId} {f : Nat} {x x' v : Value} (hx : Rv θ ρ x x') (hs : rfield P t f x = some v) : Pv θ ρ w v ((Instr.field t x' f).run P w) := by
  unfold rfield at hs
  split at hs
  · rename_i cs
    obtain ⟨cs', rfl, hc⟩ := hx.toAgg
    split at hs
    · rename_i fs hu
      split at hs
      · rename_i fd hf
        obtain ⟨v', h1, h2⟩ := rpart_ok (w := w) hc hs
        exact ⟨_, h1, by simp [Instr.field, run_underlying hu, hf, asAgg, h2]⟩
      · cases hs
    · cases hs
  · cases hs
noncomputable def rindex (P : Program) (t : TypeId) : Value → Value → Option Value
  | .agg cs, .int _ (.ofNat i) => match P.underlying t with
    | some (.array len e) => (match P.info? e with
      | some ie => bif Nat.blt i len then part1 P e cs.toList (Nat.mul i ie.size) else none
      | none => none)
    | _ => none
  | _, _ => none
theorem rindex_ok {t : TypeId} {x x' y y' v : Value} (hx : Rv θ ρ x x') (hy : Rv θ ρ y y') (hs : rindex P t x y = some v) : Pv θ ρ w v ((Instr.index t x' y').run P w) := by
  unfold rindex at hs
  split at hs
  · rename_i cs kk i
    obtain ⟨cs', rfl, hc⟩ := hx.toAgg
    obtain rfl := hy.toInt
    split at hs
    · rename_i len e hu
      split at hs
      · rename_i ie hi
        cases hb : Nat.blt i len with
        | false => rw [hb] at hs; cases hs
        | true =>
          rw [hb] at hs
          have hlt : i < len := by simpa [Nat.blt_eq] using hb
          obtain ⟨v', h1, h2⟩ := rpart_ok (w := w) hc hs
          have h2 : (part e cs' (i * ie.size)).run P w = .ok v' w := h2
          exact ⟨_, h1, by simp [Instr.index, asIntOf, run_underlying hu, sizeOf, typeInfo, hi, hlt, h2]⟩
      · cases hs
    · cases hs
  · cases hs
/-! ### Cuts -/
noncomputable def bndE (e : Tr Value) (d : Nat) : Option Operand → Option Nat
  | none => some d
  | some x => match ev e x with
    | some (.int _ (.ofNat n)) => some n
    | _ => none
theorem run_bound {f : Operand → Value} {e : Tr Value} (he : REv θ ρ e f) {x : Operand} {d n y : Nat} (hn : bndE e d (some x) = some n) (hy : n ≤ y) (code : BoundsCode) : (Instr.sliceBound (f x) y code).run P w = .ok n w := by
  simp only [bndE] at hn
  split at hn
  · rename_i kk m hv
    cases hn
    rw [(he _ _ hv).toInt]
    simp [Instr.sliceBound, asIntOf, hy]
  · cases hn
/-- The bounds of a cut of what has n elements and room for c. -/
theorem run_bounds {f : Operand → Value} {e : Tr Value} (he : REv θ ρ e f) {lo hi mx : Option Operand} {b : Bool} {n c l' h' m' : Nat} (h1 : bndE e 0 lo = some l') (h2 : bndE e n hi = some h') (h3 : bndE e c mx = some m') (hl : l' ≤ h') (hm : h' ≤ m') (hc : m' ≤ c) (hx : mx.isSome = true → hi.isSome = true) :
    (Instr.sliceBounds b n c (lo.map f) (hi.map f) (mx.map f)).run P w = .ok (l', h', m') w := by
  unfold Instr.sliceBounds
  cases mx with
  | none =>
    cases h3
    cases hi with
    | none =>
      cases h2
      cases lo with
      | none => cases h1; simp
      | some x => simp [run_bound he h1 hl]
    | some y =>
      have hy := fun code => run_bound (P := P) (w := w) he h2 hm code
      cases lo with
      | none => cases h1; simp [hy]
      | some x => simp [hy, run_bound he h1 hl]
  | some z =>
    have hz := fun code => run_bound (P := P) (w := w) he h3 hc code
    cases hi with
    | none => cases hx rfl
    | some y =>
      have hy := fun code => run_bound (P := P) (w := w) he h2 hm code
      cases lo with
      | none => cases h1; simp [hy, hz]
      | some x => simp [hy, hz, run_bound he h1 hl]
noncomputable def rslice (P : Program) (h : Tr SO) (e : Tr Value) (t : TypeId) (lo hi mx : Option Operand) : Value → Option Value
  | .slice (some ⟨k, o, none⟩) n c => match P.underlying t, h.get k with
    | some (.slice el), some (.cells _ _ _ sz) => match P.info? el, bndE e 0 lo, bndE e n hi, bndE e c mx with
      | some i, some l', some h', some m' => bif Nat.ble l' h' && Nat.ble h' m' && Nat.ble m' c && (mx.isNone || hi.isSome) && (Nat.beq sz 0 || Nat.beq sz i.size) then some (.slice (some ⟨k, Nat.add o (Nat.mul l' i.size), none⟩) (Nat.sub h' l') (Nat.sub m' l')) else none
      | _, _, _, _ => none
    | _, _ => none
  | .pointer (some ⟨k, o, none⟩) => match P.underlying t with
    | some (.array n el) => match P.info? el, bndE e 0 lo, bndE e n hi, bndE e n mx with
      | some i, some l', some h', some m' => bif Nat.ble l' h' && Nat.ble h' m' && Nat.ble m' n && (mx.isNone || hi.isSome) then some (.slice (some ⟨k, Nat.add o (Nat.mul l' i.size), none⟩) (Nat.sub h' l') (Nat.sub m' l')) else none
      | _, _, _, _ => none
    | _ => none
  | _ => none
theorem rslice_ok (hh : HT θ w0 ρ h nx w) {e : Tr Value} {f : Operand → Value} (he : REv θ ρ e f) {t : TypeId} {lo hi mx : Option Operand} {x x' v : Value} (hx : Rv θ ρ x x') (hs : rslice P h e t lo hi mx x = some v) : Pv θ ρ w v ((Instr.sliceAt t x' (lo.map f) (hi.map f) (mx.map f)).run P w) := by
  unfold rslice at hs
  split at hs
  · rename_i k o n c
    obtain ⟨p, c', a, hp, hn, hcap, rfl⟩ := hx.toSl
    split at hs
    · rename_i el cc TT rr sz hu hk
      split at hs
      · rename_i i l' h' m' hi' g1 g2 g3
        cases hc : (Nat.ble l' h' && Nat.ble h' m' && Nat.ble m' c && (mx.isNone || hi.isSome) && (Nat.beq sz 0 || Nat.beq sz i.size)) with
        | false => rw [hc] at hs; cases hs
        | true =>
          rw [hc] at hs
          simp only [Bool.and_eq_true, cond_true, Option.some.injEq] at hc hs
          subst hs
          obtain ⟨⟨⟨⟨h1, h2⟩, h3⟩, h4⟩, h5⟩ := hc
          have h1 := Nat.le_of_ble_eq_true h1
          have h2 := Nat.le_of_ble_eq_true h2
          have h3 := Nat.le_of_ble_eq_true h3
          have hsome : mx.isSome = true → hi.isSome = true := fun e => by
            cases mx with
            | none => cases e
            | some z => simpa using h4
          have hcc : c ≤ c' := by rcases hcap.1 with e | ⟨_, _, _, e, _⟩ <;> omega
          obtain ⟨M, g3', hM1, hM2, hM3⟩ : ∃ M, bndE e c' mx = some M ∧ m' ≤ M ∧ M ≤ c' ∧ (c' = c → M = m') := by
            cases mx with
            | none => cases g3; exact ⟨c', rfl, hcc, Nat.le_refl _, fun e => e⟩
            | some z => exact ⟨m', g3, Nat.le_refl _, by omega, fun _ => rfl⟩
          have hr := run_bounds (P := P) (w := w) he (b := true) g1 g2 g3' h1 (by omega) hM2 hsome
          have hrun : (Instr.sliceAt t (.slice (some a) n c') (lo.map f) (hi.map f) (mx.map f)).run P w = .ok (.slice (some (if M = l' then a else a.add (l' * i.size))) (h' - l') (M - l')) w := by
            by_cases hml : M = l' <;> simp [Instr.sliceAt, Instr.slice, run_underlying hu, hr, sizeOf, typeInfo, hi', hml]
          refine ⟨_, .sl hp (by show h' - l' ≤ M - l'; omega) ⟨?_, ?_⟩, hrun⟩
          · rcases hcap.1 with e1 | ⟨sz', z, e1, e2, e3⟩
            · left; rw [hM3 e1]; rfl
            · right
              obtain ⟨p', o', j1, j2, j3, _⟩ := hh.obj k _ hk
              rw [hp] at j1; cases j1
              have hsz : sz' = sz ∧ 0 < sz := by
                cases o' with
                | cells cur T' fz => have := j3.2.2.1.2 sz' z e1; exact ⟨this.1, this.2.1⟩
                | _ => exact j3.elim
              have h6 : sz = i.size := by
                rcases (Bool.or_eq_true _ _).mp h5 with e | e
                · have := Nat.eq_of_beq_eq_true e; omega
                · exact Nat.eq_of_beq_eq_true e
              refine ⟨sz', z, e1, by show m' - l' ≤ M - l'; omega, ?_⟩
              show o + l' * i.size + (M - l') * sz' ≤ z
              rw [← h6, hsz.1, Nat.add_assoc, ← Nat.add_mul]
              rw [hsz.1] at e3
              have : (l' + (M - l')) * sz ≤ c' * sz := Nat.mul_le_mul_right _ (by omega)
              omega
          · by_cases hml : M = l'
            · left; omega
            · right
              rw [if_neg hml]
              rcases hcap.2 with e1 | e1
              · omega
              · rw [e1, addr_plus]; simp [Nat.add_assoc]
      · cases hs
    · cases hs
  · rename_i k o
    obtain ⟨p, hp, rfl⟩ := hx.toPtr
    split at hs
    · rename_i n el hu
      split at hs
      · rename_i i l' h' m' hi' g1 g2 g3
        cases hc : (Nat.ble l' h' && Nat.ble h' m' && Nat.ble m' n && (mx.isNone || hi.isSome)) with
        | false => rw [hc] at hs; cases hs
        | true =>
          rw [hc] at hs
          simp only [Bool.and_eq_true, cond_true, Option.some.injEq] at hc hs
          subst hs
          obtain ⟨⟨⟨h1, h2⟩, h3⟩, h4⟩ := hc
          have h1 := Nat.le_of_ble_eq_true h1
          have h2 := Nat.le_of_ble_eq_true h2
          have h3 := Nat.le_of_ble_eq_true h3
          have hsome : mx.isSome = true → hi.isSome = true := fun e => by
            cases mx with
            | none => cases e
            | some z => simpa using h4
          have hr := run_bounds (P := P) (w := w) he (b := false) g1 g2 g3 h1 h2 h3 hsome
          have hrun : (Instr.sliceAt t (.pointer (some ⟨p.b, p.s + o, none⟩)) (lo.map f) (hi.map f) (mx.map f)).run P w = .ok (.slice (some (if m' = l' then ⟨p.b, p.s + o, none⟩ else (⟨p.b, p.s + o, none⟩ : Addr).add (l' * i.size))) (h' - l') (m' - l')) w := by
            by_cases hml : m' = l' <;> simp [Instr.sliceAt, run_underlying hu, hr, sizeOf, typeInfo, hi', hml, Instr.sureAddr]
          refine ⟨_, .sl hp (by show h' - l' ≤ m' - l'; omega) ⟨.inl rfl, ?_⟩, hrun⟩
          by_cases hml : m' = l'
          · left; show m' - l' = 0; omega
          · right; rw [if_neg hml, addr_plus]; simp [Nat.add_assoc]
      · cases hs
    · cases hs
  · cases hs
end
end Ex
end Go.Proofs.YtlcdaalalihaiaaGreat
