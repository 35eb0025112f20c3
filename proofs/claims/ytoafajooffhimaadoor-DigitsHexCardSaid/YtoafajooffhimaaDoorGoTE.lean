/- Laws of walking for drawn regions whose operations make rows and take them (append of append of ..): one walk in the order of the text. Laws of walking: 'm[x] = y' among several assignments (the entry is laid first, its value stored then). -/
import Derived.Test.YtoafajooffhimaaDoorGoDraw
import Derived.Test.YtoafajooffhimaaDoorLooseT
section
namespace Go.Proofs.YtoafajooffhimaaDoor
open Go Go.RowKit Go.MapKept
set_option linter.unusedVariables false
set_option linter.unusedSectionVars false
set_option linter.unusedSimpArgs false

/-- An operation that makes a piece (k none: a piece that is there from the start): its number, the pieces (by their numbers in the list) that it takes, who takes what it makes, its slot, which values it yields, the piece. -/
structure Eff where
  k : Option Nat
  takes : List Nat
  cons : Option Nat
  d : Tmp
  R : Value → Prop
  piece : Value → HProp
def NU (u : Value) : Prop := isUndef u = false
def effToks (E : List Eff) : List Tok := E.map fun e => ⟨e.k, e.cons, if e.k.isSome then [e.d] else [], fun vs => e.piece (vs.headD undef)⟩
def effIdx : List Eff → Nat → Nat → Option (Nat × Eff)
  | [], _, _ => none
  | e :: E, i, k => bif (match e.k with | some j => Nat.beq j k | none => false) then some (i, e) else effIdx E (i + 1) k
def effS (E : List Eff) (k : Nat) : TSpec :=
  match effIdx E 0 k with
  | none => ⟨none, [], [], []⟩
  | some (i, e) => ⟨some e.R, e.takes, [], [i]⟩
/-- What the pieces of these numbers are now. -/
def effNow (E : List Eff) (env : Env) : List Nat → Option (List HProp)
  | [] => some []
  | i :: is => match E[i]?, effNow E env is with
    | some e, some l => match e.k with
      | none => some (e.piece undef :: l)
      | some _ => match look env e.d with
        | some v => some (e.piece v :: l)
        | none => none
    | _, _ => none
def effDefined (E : List Eff) (env : Env) : List Nat → Prop
  | [] => True
  | i :: is => (∃ e, E[i]? = some e ∧ (e.k = none ∨ ∃ v, look env e.d = some v ∧ isUndef v = false)) ∧ effDefined E env is

section
variable {P : Program} {n : Nat} {ops : Array Oper} {Q : Exit → Act → World → Prop} {env : Env} {F : List HProp} {Z : Act → Prop} {k : Nat} {rest : List Oper} {d : Tmp} {ty : TypeId} {pos : String} {aft : Array Edge} {E : List Eff}
theorem effNow_at {a : Act} (hf : Fits n a env) : ∀ (is : List Nat) (T : List HProp), effNow E env is = some T → effDefined E env is → toksAt ops (effToks E) a is = T
  | [], T, h, _ => by simp only [effNow, Option.some.injEq] at h; subst h; rfl
  | i :: is, T, h, ⟨⟨e, he, hv⟩, hd⟩ => by
    unfold effNow at h
    rw [he] at h
    cases hl : effNow E env is with
    | none => simp [hl] at h
    | some l =>
      have ih := effNow_at hf is l hl hd
      unfold toksAt at ih ⊢
      rw [List.flatMap_cons, ih]
      have ht : tokNo (effToks E) i = ⟨e.k, e.cons, if e.k.isSome then [e.d] else [], fun vs => e.piece (vs.headD undef)⟩ := by
        simp [tokNo, effToks, List.getD, he]
      rw [ht]
      cases hk : e.k with
      | none =>
        simp only [hl, hk, Option.some.injEq] at h
        subst h
        simp [tokAt, skipped]
      | some k0 =>
        rcases hv with hv | ⟨v, hv, hu⟩
        · rw [hk] at hv; cases hv
        simp only [hl, hk, hv, Option.some.injEq] at h
        subst h
        have hs : slotOf a e.d = v := by have := hf.at_ _ _ hv; simp [slotOf, this]
        have hsk : skipped ops a ⟨some k0, e.cons, if (some k0).isSome then [e.d] else [], fun vs => e.piece (vs.headD undef)⟩ = false := by
          unfold skipped
          simp only
          cases hd' : (ops[k0]?).bind (·.dst) with
          | none => rfl
          | some d' =>
            simp only
            by_cases hdd : d' = e.d
            · subst hdd; rw [hs, hu]; simp
            · simp [hdd]
        unfold tokAt
        rw [hsk]
        simp [hs]

section
variable (P n ops E)
structure GT (F : List HProp) (Z : Act → Prop) (k : Nat) (rest : List Oper) (env : Env) : Prop where
  out : ∀ a, Fits n a env → wpTok P ops (effToks E) (effS E) F Z k rest a
end
theorem GT.nilE {last : List Nat} {T : List HProp} (hT : effNow E env last = some T) (hd : effDefined E env last) (h : GE n .normal Q env (T ++ F)) : GT P n ops E F (fun a' => ∀ w', holds w' (toksAt ops (effToks E) a' last ++ F) → Q .normal a' w') k [] env :=
  ⟨fun a hf => tok_nil fun w' hw' => h a w' hf (by rw [effNow_at hf last T hT hd] at hw'; exact hw')⟩
theorem GT.run {op : Op} {v : Value} (hi : effIdx E 0 k = none) (hr : Runs P n env F op v) (hd : Nat.blt d n = true) (h : GT P n ops E F Z (k + 1) rest ((d, v) :: env)) : GT P n ops E F Z k (⟨some d, op, ty, pos, aft, none⟩ :: rest) env := ⟨fun a hf => by
  refine tok_exact (by simp [effS, hi]) fun K hK => ?_
  rw [if_pos (by simp [Region.wanted])]
  intro w hw
  rw [hr a w _ _ _ _ _ hf hw]
  exact ⟨rfl, hK _ (h.out _ (hf.put hd v))⟩⟩
/-- What an operation does to the pieces T, beside whatever else. -/
structure Does (P : Program) (n : Nat) (env : Env) (F T : List HProp) (op : Op) (piece : Value → HProp) : Prop where
  out : ∀ a w F' ty pos aft g d, Fits n a env → holds w (T ++ (F ++ F')) → looseUpon P (fun u w' => isUndef u = false ∧ holds w' (piece u :: (F ++ F'))) ((execOp a.eval ⟨d, op, ty, pos, aft, g⟩).run P w)
theorem GT.eff {op : Op} {i : Nat} {e : Eff} {T : List HProp} (hi : effIdx E 0 k = some (i, e)) (hE : E[i]? = some e) (hek : e.k = some k) (hed : Nat.beq e.d d = true) (hT : effNow E env e.takes = some T) (hdef : effDefined E env e.takes) (hR : e.R = NU) (hD : Does P n env F T op e.piece) (hd : Nat.blt d n = true)
    (h : ∀ u, isUndef u = false → GT P n ops E F Z (k + 1) rest ((d, u) :: env)) : GT P n ops E F Z k (⟨some d, op, ty, pos, aft, none⟩ :: rest) env := ⟨fun a hf => by
  have hed : e.d = d := Nat.eq_of_beq_eq_true hed
  subst hed
  refine tok_op (R := fun u => isUndef u = false) T [] (fun u => [e.piece u]) ?_ ?_ ?_ rfl (fun u hu => ?_) (fun w F' hw => ?_) (fun u hu => (h u hu).out _ (hf.put hd u))
  · simp only [effS, hi]; exact effNow_at hf _ _ hT hdef
  · simp [effS, hi, toksAt]
  · simp only [effS, hi, hR]; rfl
  · simp only [effS, hi]
    refine effNow_at (hf.put hd u) [i] [e.piece u] ?_ ⟨⟨e, hE, .inr ⟨u, by rw [look_cons, if_pos rfl], hu⟩⟩, trivial⟩
    simp [effNow, hE, hek, look_cons]
  · have := hD.out a w F' ty pos aft none (some e.d) hf (by simpa using hw)
    simpa using this⟩
/-- A call of one value that keeps what is there. -/
theorem GT.call {f : FuncId} {xs : List Operand} {ts : Array TypeId} {vs : List Value} {v : Value} {i : Nat} {e : Eff} [ho : Own P f] (hi : effIdx E 0 k = some (i, e)) (hE : E[i]? = some e) (hek : e.k = some k) (hed : Nat.beq e.d d = true) (hT : e.takes = []) (hR : e.R = fun u => u = v) (hv : isUndef v = false) (hp : e.piece = fun _ _ => True) (hx : opnds env xs = some vs) (hd : Nat.blt d n = true)
    (hc : ∀ w F', holds w (F ++ F') → Ct P f vs.toArray w fun e w' => e = .returned v ∧ holds w' (F ++ F')) (h : GT P n ops E F Z (k + 1) rest ((d, v) :: env)) :
    GT P n ops E F Z k (⟨some d, .call { callee := .value (.func f), args := xs.toArray, argTypes := ts }, ty, pos, aft, none⟩ :: rest) env := ⟨fun a hf => by
  have hed : e.d = d := Nat.eq_of_beq_eq_true hed
  subst hed
  refine tok_op (R := fun u => u = v) [] [] (fun u => [fun _ => True]) ?_ ?_ ?_ rfl (fun u hu => ?_) (fun w F' hw => ?_) (fun u hu => by subst hu; exact h.out _ (hf.put hd _))
  · simp [effS, hi, hT, toksAt]
  · simp [effS, hi, toksAt]
  · simp only [effS, hi, hR]
  · subst hu
    simp only [effS, hi]
    refine effNow_at (hf.put hd u) [i] [fun _ => True] ?_ ⟨⟨e, hE, .inr ⟨u, by rw [look_cons, if_pos rfl], hv⟩⟩, trivial⟩
    simp [effNow, hE, hek, look_cons, hp]
  · have hr : (execOp a.eval ⟨some e.d, .call { callee := .value (.func f), args := xs.toArray, argTypes := ts }, ty, pos, aft, none⟩).run P w = .ok (.enter f vs.toArray) w := by
      simp [execOp, resolve, Act.eval, Deferred.ofValue, invoke, hf.evals hx, Result.andThen]
      exact ho.run _ _
    rw [hr]
    refine (hc w F' (by simpa using hw)).out.mono fun en w' ⟨he, hh⟩ => ⟨v, he, rfl, ?_⟩
    have h1 := (holds_sep (l := []) (m := F ++ F')).2 hh
    have h2 := h1.mono (B := fun _ => True) fun _ _ => trivial
    simpa using h2⟩
theorem G.drawTok {id : Nat} {l : List Oper} {S B : List HProp} (E : List Eff) (start last : List Nat) (hm : P.follows .mixedOrders = true)
    (hB : (tokB l.toArray (effToks E) (effS E) .any && (((List.range (effToks E).length).filter (fun i => (tokNo (effToks E) i).prod.isNone) == start) && ((List.range (effToks E).length).filter (fun i => (tokNo (effToks E) i).cons.isNone) == last))) = true)
    (hS : effNow E env start = some S) (hd : effDefined E env start) [ht : Takes F S B]
    (h : GT P n l.toArray E B (fun a' => ∀ w', holds w' (toksAt l.toArray (effToks E) a' last ++ B) → Q .normal a' w') 0 l env) : G P n (.region id l.toArray true) Q env F := .mk fun a w hf hw =>
  wp_region_tok (effToks E) (effS E) B start last hm hB (by rw [effNow_at hf start S hS hd]; exact hw.perm ht.perm) (h.out a hf)
theorem G.isRegion (id : Nat) {l : Array Oper} {b : Bool} (h : G P n (.region id l b) Q env F) : G P n (.region id l b) Q env F := h
theorem GT.isAny {o : Oper} (h : GT P n ops E F Z k (o :: rest) env) : GT P n ops E F Z k (o :: rest) env := h
/-! ### What operations do -/
theorem isUndef_slice {a : Option Addr} {m c : Nat} : isUndef (.slice a m c) = false := rfl
theorem owns_form {α : Type} {T : TypeId} {enc : α → List Value} {m : Nat} {v : Value} {l : List α} {w : World} {G : List HProp} (h : holds w (owns T enc m v l :: G)) : isUndef v = false := by
  rcases (holds.open_own h).2 with ⟨rfl, _⟩ | ⟨g, cap, cur, rfl, _⟩ <;> rfl
theorem Does.build0 {α : Type} {t e : TypeId} {size : Nat} (enc : α → List Value) (m : Nat) [ht : SliceT P t e size] : Does P n env F [] (.buildSlice t 0 #[]) (fun u => owns e enc m u []) := ⟨fun a w F' ty pos aft g d hf hw => by
  obtain ⟨i, h1, h2, h3⟩ := ht.ok
  have hr : (Instr.buildSlice t 0 #[]).run P w = .ok (.slice (some ⟨w.heap.size, 0, none⟩) 0 0) (w.alloc (.cells #[] e (0, 0))) := by
    simp [Instr.buildSlice, run_underlying h1, sizeOf, typeInfo, h2, newRow, run_newObj, Instr.fill, Array.range_zero', Result.andThen]
  simp only [execOp]
  have e1 : ((#[] : Array (Nat × Operand)).map fun x => match x with | (i, x) => (i, a.eval x)) = #[] := by simp
  rw [e1]
  simp only [Sem.run_bind, hr, Result.andThen_ok, Sem.run_pure, looseUpon]
  refine ⟨rfl, ?_⟩
  have h5 := (show holds w (F ++ F') from by simpa using hw).alloc (.cells #[] e (0, 0))
  have h6 := h5.mkRow (size := m) (n := 0) (cap := 0) (Nat.le_refl _) (by unfold maxLen; omega) (by simp)
  simpa [owns] using h6⟩
theorem Does.build1 {α : Type} {t e : TypeId} {size bytes m : Nat} {z v : Value} {x : Operand} {enc : α → List Value} (y : α) [ht : SliceT P t e size] [hz : ZeroT P e z size bytes] [he : Enc enc m] (hm : m = size) (hsz : size ≤ 16777216) (hx : opnd env x = some v) (hv : v.cells.toList = enc y) :
    Does P n env F [] (.buildSlice t 1 #[(0, x)]) (fun u => owns e enc m u [y]) := ⟨fun a w F' ty pos aft g d hf hw => by
  subst hm
  have hpos := he.pos
  have hs : v.cells.size = m := by rw [← Array.length_toList, hv, he.len]
  have hall : ∀ l : List Value, l.length = 1 * m → fillL ((List.range 1).map fun i => (i * m, m)) l [(0, v)] = some v.cells.toList := by
    intro l hl
    have hl' : l.length = m := by simpa using hl
    have hp : putAt l 0 v.cells.toList = v.cells.toList := by
      unfold putAt
      rw [List.take_zero, List.nil_append, List.drop_eq_nil_of_le (by simp [hs, hl']), List.append_nil]
    simp [fillL, List.range_succ, hs, hl', hp]
  have hr := run_buildSlice ht hz (m := 1) (by omega) (by omega) [(0, v)] v.cells.toList (hall _ (by simp)) hall w
  have e1 : (#[(0, x)].map fun x => match x with | (i, x) => (i, a.eval x)) = #[(0, v)] := by simp [hf.eval hx]
  simp only [execOp]
  rw [e1]
  have e2 : ([(0, v)] : List (Nat × Value)).toArray = #[(0, v)] := rfl
  rw [e2] at hr
  simp only [Sem.run_bind, hr, Result.andThen_ok, Sem.run_pure, looseUpon]
  refine ⟨rfl, ?_⟩
  have h5 := (show holds w (F ++ F') from by simpa using hw).alloc (.cells v.cells.toList.toArray e (0, 0))
  have h6 := h5.mkRow (size := m) (n := 1) (cap := 1) (Nat.le_refl _) (by unfold maxLen; omega) (by simp [hs])
  have h7 : List.take (1 * m) v.cells.toList.toArray.toList = [y].flatMap enc := by simp [hv]; exact List.take_of_length_le (by rw [he.len]; omega)
  rw [h7] at h6
  exact h6⟩
theorem run_append_any {α : Type} {t e : TypeId} {size bytes m : Nat} {z v u : Value} {enc : α → List Value} {l ys : List α} (ht : SliceT P t e size) (hz : ZeroT P e z size bytes) (he : Enc enc m) (hm : m = size) {w : World} {G : List HProp} (hw : holds w (owns e enc m v l :: G)) (hr : reads w m u ys.length (ys.flatMap enc))
    (hlen : (l.length + ys.length) * bytes ≤ 140737488355328) (hl63 : l.length + ys.length ≤ 140737488355328) (tT : TypeId) :
    ∃ v' w', (Builtin.append_ #[t, t] tT #[v, u]).run P w = .ok v' w' ∧ isUndef v' = false ∧ holds w' (owns e enc m v' (l ++ ys) :: G) := by
  subst hm
  obtain ⟨i, h1, h2, h3⟩ := ht.ok
  obtain ⟨i', g1, g2, g3, g4, g5⟩ := hz.ok
  have hii : i = i' := by rw [h2] at g1; exact Option.some.inj g1
  subst hii
  by_cases h0 : 0 < ys.length
  · obtain ⟨b, off, cap, rfl, hcap, hcell⟩ := hr.cells (Nat.mul_pos h0 he.pos)
    obtain ⟨v', w', hrun, hh⟩ := run_append_sl (P := P) (ty := tT) (c := cap) h1 h2 g2 h3 g4 g5 he.pos hw (a := ⟨b, off, none⟩) (m := ys.length) (news := ys.flatMap enc) (Enc.flat_len ys) (fun j x hx => by
      have hj := (List.getElem?_eq_some_iff.1 hx).1
      rw [Enc.flat_len ys] at hj
      rw [addr_add, hcell j hj]; exact hx) (fun x hx => by
      obtain ⟨y, _, hy'⟩ := List.mem_flatMap.1 hx
      exact he.one y x hy') (by unfold maxLen; omega) hlen h0
    refine ⟨v', w', hrun, ?_, ?_⟩
    · rcases (holds.open_own hh).2 with ⟨rfl, _⟩ | ⟨g, cap, cur, rfl, _⟩ <;> rfl
    · unfold owns; rw [List.length_append, List.flatMap_append]; exact hh
  · have hys : ys = [] := List.eq_nil_of_length_eq_zero (by omega)
    subst hys
    obtain ⟨c, cap, rfl, _⟩ := hr.form
    refine ⟨v, w, ?_, owns_form hw, by simpa using hw⟩
    rcases (holds.open_own hw).2 with ⟨rfl, hn, _⟩ | ⟨g, cap', cur, rfl, hc, _⟩
    · simp at hn; subst hn
      cases c <;> simp [Builtin.append_, run_underlying h1, sizeOf, typeInfo, h2, Builtin.lenOf, Builtin.firstCells, loadCells, loadCellsFrom, h3, Result.andThen]
    · cases c <;> simp [Builtin.append_, run_underlying h1, sizeOf, typeInfo, h2, Builtin.lenOf, Builtin.firstCells, loadCells, loadCellsFrom, storeCells, h3, hc, Result.andThen]
theorem GL.build0 {α : Type} {t e : TypeId} {size : Nat} (enc : α → List Value) (m : Nat) [ht : SliceT P t e size] (hd : Nat.blt d n = true) (h : ∀ u, isUndef u = false → GL P n ops Q rest ((d, u) :: env) (owns e enc m u [] :: F)) :
    GL P n ops Q (⟨some d, .buildSlice t 0 #[], ty, pos, aft, none⟩ :: rest) env F := .mk fun a w hf hw => by
  refine wpList_plain rfl fun K hK => ?_
  have h1 := (Does.build0 (P := P) (n := n) (env := env) (F := F) (t := t) enc m).out a w [] ty pos aft none (some d) hf (by simpa using hw)
  unfold Oper.wp
  generalize (execOp a.eval ⟨some d, .buildSlice t 0 #[], ty, pos, aft, none⟩).run P w = r at h1
  cases r with
  | halt x w' => exact h1.elim
  | ok nx w' =>
    cases nx <;> simp only [looseUpon] at h1
    · exact hK _ _ (h _ h1.1 _ _ (hf.put hd _) (by simpa using h1.2))
    · have := h1.1; simp [isUndef, undef] at this
    · exact h1.mono fun e w'' ⟨u, he, hu, hh⟩ => by subst he; exact hK _ _ (h _ hu _ _ (hf.put hd _) (by simpa using hh))
/-- append of whatever reads as a row. -/
theorem GL.appendAny {α : Type} {t T e : TypeId} {x y : Operand} {v u z : Value} {enc enc' : α → List Value} {m m' size bytes : Nat} {l ys : List α} {F' : List HProp} [ht : SliceT P t e size] [hz : ZeroT P e z size bytes] (hx : opnd env x = some v) (hy : opnd env y = some u) [hr : HasOwn F v T enc m l F'] [he : Enc enc m] [hb : Reads F u enc' m' ys]
    (hm : m = size) (hT : T = e) (hee : enc' = enc) (hmm : m' = m) (hlen : (l.length + ys.length) * bytes ≤ 140737488355328) (hl63 : l.length + ys.length ≤ 140737488355328) (hd : Nat.blt d n = true)
    (h : ∀ r, isUndef r = false → GL P n ops Q rest ((d, r) :: env) (owns T enc m r (l ++ ys) :: F')) : GL P n ops Q (⟨some d, .call { callee := .builtin .append, args := #[x, y], argTypes := #[t, t] }, ty, pos, aft, none⟩ :: rest) env F := .mk fun a w hf hw => by
  subst hT hee hmm
  refine wpList_plain rfl fun K hK => ?_
  obtain ⟨v', w', hrun, hu, hh⟩ := run_append_any ht hz he hm (hw.perm hr.perm) (hb.at_ w hw) hlen hl63 ty
  unfold Oper.wp
  simp only [execOp, resolve, invoke, builtin, Sem.run_bind, Sem.run_pure, Result.andThen_ok, List.map_toArray, List.map_cons, List.map_nil, hf.eval hx, hf.eval hy, hrun]
  exact hK _ _ (h v' hu _ _ (hf.put hd _) hh)
/-- append of a row that the region made. -/
theorem Does.append {α : Type} {t e : TypeId} {size bytes m : Nat} {z v u : Value} {x y : Operand} {enc : α → List Value} {l ys : List α} [ht : SliceT P t e size] [hz : ZeroT P e z size bytes] [he : Enc enc m] (hm : m = size) (hx : opnd env x = some v) (hy : opnd env y = some u)
    (hlen : (l.length + ys.length) * bytes ≤ 140737488355328) (hl63 : l.length + ys.length ≤ 140737488355328) :
    Does P n env F [owns e enc m v l, owns e enc m u ys] (.call { callee := .builtin .append, args := #[x, y], argTypes := #[t, t] }) (fun r => owns e enc m r (l ++ ys)) := ⟨fun a w F' ty pos aft g d hf hw => by
  have hw' : holds w (owns e enc m v l :: owns e enc m u ys :: (F ++ F')) := hw
  have hread : reads w m u ys.length (ys.flatMap enc) := holds.ownReads hw'.tail
  obtain ⟨v', w', hrun, hu, hh⟩ := run_append_any ht hz he hm hw' hread hlen hl63 ty
  simp only [execOp, resolve, invoke, builtin, Sem.run_bind, Sem.run_pure, Result.andThen_ok, List.map_toArray, List.map_cons, List.map_nil, hf.eval hx, hf.eval hy, hrun, looseUpon]
  exact ⟨hu, (hh.perm (.swap _ _ _)).tail⟩⟩
/-- .. of a row that was there. -/
theorem Does.appendR {α : Type} {t e : TypeId} {size bytes m m' : Nat} {z v u : Value} {x y : Operand} {enc enc' : α → List Value} {l ys : List α} [ht : SliceT P t e size] [hz : ZeroT P e z size bytes] [he : Enc enc m] (hm : m = size) (hx : opnd env x = some v) (hy : opnd env y = some u) [hr : Reads F u enc' m' ys] (hee : enc' = enc) (hmm : m' = m)
    (hlen : (l.length + ys.length) * bytes ≤ 140737488355328) (hl63 : l.length + ys.length ≤ 140737488355328) :
    Does P n env F [owns e enc m v l] (.call { callee := .builtin .append, args := #[x, y], argTypes := #[t, t] }) (fun r => owns e enc m r (l ++ ys)) := ⟨fun a w F' ty pos aft g d hf hw => by
  subst hee hmm
  have hw' : holds w (owns e enc' m' v l :: (F ++ F')) := hw
  have hread : reads w m' u ys.length (ys.flatMap enc') := hr.at_ w (hw'.tail.perm_drop (Z := F') (.refl _))
  obtain ⟨v', w', hrun, hu, hh⟩ := run_append_any ht hz he hm hw' hread hlen hl63 ty
  simp only [execOp, resolve, invoke, builtin, Sem.run_bind, Sem.run_pure, Result.andThen_ok, List.map_toArray, List.map_cons, List.map_nil, hf.eval hx, hf.eval hy, hrun, looseUpon]
  exact ⟨hu, hh⟩⟩
/-- A call that makes a row. -/
theorem Does.call {f : FuncId} {xs : List Operand} {ts : Array TypeId} {vs : List Value} {T : List HProp} {piece : Value → HProp} [ho : Own P f] (hx : opnds env xs = some vs)
    (hc : ∀ w F', holds w (T ++ (F ++ F')) → Ct P f vs.toArray w fun e w' => ∃ u, e = .returned u ∧ isUndef u = false ∧ holds w' (piece u :: (F ++ F'))) :
    Does P n env F T (.call { callee := .value (.func f), args := xs.toArray, argTypes := ts }) piece := ⟨fun a w F' ty pos aft g d hf hw => by
  have hr : (execOp a.eval ⟨d, .call { callee := .value (.func f), args := xs.toArray, argTypes := ts }, ty, pos, aft, g⟩).run P w = .ok (.enter f vs.toArray) w := by
    simp [execOp, resolve, Act.eval, Deferred.ofValue, invoke, hf.evals hx, Result.andThen]
    exact ho.run _ _
  rw [hr]
  exact (hc w F' hw).out.mono fun e w' ⟨u, he, hu, hh⟩ => ⟨u, he, hu, hh⟩⟩

end
end Go.Proofs.YtoafajooffhimaaDoor
end
section
namespace Go.Proofs.YtoafajooffhimaaDoor
open Go Go.RowKit Go.MapKept
set_option linter.unusedVariables false
set_option linter.unusedSectionVars false
set_option linter.unusedSimpArgs false

section
variable {β : Type} {P : Program} {n : Nat} {Q : Exit → Act → World → Prop} {env : Env} {F : List HProp} {ops : Array Oper} {rest : List Oper} {d : Tmp} {ty : TypeId} {pos : String} {aft : Array Edge}
/-- Block b is a map whose entries are m, but that the value at x, which bears the stamp s, is not yet there. -/
def imapHole (enc : β → Value) (b : Nat) (m : List (Int × β)) (x : Int) (s : Nat) : HProp := fun f =>
  ∃ es clock i, ((Stamped es clock ∧ (∃ e, es[i]? = some e ∧ e.born = s)) ∧ ∀ v, (es.modify i fun e => { e with val := enc v }).toList.map (fun e => (e.key, e.val)) = (alSet m x v).map (kv enc)) ∧ blk b (.map es clock) f
class HasHole {β : outParam Type} (F : List HProp) (b : Nat) (enc : outParam (β → Value)) (m : outParam (List (Int × β))) (x : outParam Int) (s : outParam Nat) (F' : outParam (List HProp)) : Prop where
  perm : F.Perm (imapHole enc b m x s :: F')
instance HasHole.here {b : Nat} {enc : β → Value} {m : List (Int × β)} {x : Int} {s : Nat} {F : List HProp} : HasHole (imapHole enc b m x s :: F) b enc m x s F := ⟨.refl _⟩
instance (priority := 500) HasHole.there {b : Nat} {enc : β → Value} {m : List (Int × β)} {x : Int} {s : Nat} {F F' : List HProp} {X : HProp} [h : HasHole F b enc m x s F'] : HasHole (X :: F) b enc m x s (X :: F') := ⟨(h.perm.cons X).trans (.swap _ _ _)⟩

theorem run_mapEntry_sl {t k e : TypeId} {z : Value} {w : World} {l : List HProp} {enc : β → Value} {b : Nat} {m : List (Int × β)} (ht : P.underlying t = some (.map k e)) (hk : P.underlying k = some (.int .i64)) (hz : ∀ w, (zeroValue e).run P w = .ok z w)
    (h : holds w (imap enc b m :: l)) (x : Int) :
    ∃ u s w', (Instr.mapEntry t (.map (some b)) (.int .i64 x)).run P w = .ok (.tuple #[u, .int .i64 (s : Nat)]) w' ∧ holds w' (imapHole enc b m x s :: l) := by
  obtain ⟨es, clock, h1, h2, h3⟩ := h.open_map
  have hf := findNow_int enc x es.toList m 0 h1
  have hck := run_checkKey (P := P) (w := w) (kt := k) (k := .int .i64 x) hk (by simp [IsKey]) false 9999
  have hlt : b < w.heap.size := (Array.getElem?_eq_some_iff.1 h3.get_blk).1
  cases hg : alFind x m 0 with
  | none =>
    obtain ⟨g1, g2, g3⟩ := alFind_none x m hg
    refine ⟨z, clock, { w with heap := w.heap.setIfInBounds b (.map (es.push { key := .int .i64 x, val := z, born := clock }) (clock + 1)) }, ?_, ?_⟩
    · simp [Instr.mapEntry, run_underlying ht, MapKept.run_getObj_map h3.get_blk, hck, Instr.findKey, run_underlying hk, hf, hg, hz, MapKept.run_setObj_map _ h3.get_blk, Result.andThen, goInt]
    · have h4 := h3.turn (w' := { w with heap := w.heap.setIfInBounds b (.map (es.push { key := .int .i64 x, val := z, born := clock }) (clock + 1)) })
        ⟨rfl, rfl, rfl, by simp, fun i _ hi => by simp at hi; simp [Ne.symm hi]⟩ (o' := .map (es.push { key := .int .i64 x, val := z, born := clock }) (clock + 1)) (by simp [hlt])
      refine h4.mono fun f hb => ⟨_, _, es.size, ⟨⟨stamped_push h2 fun y hy he => ?_, ⟨{ key := .int .i64 x, val := z, born := clock }, by simp, rfl⟩⟩, fun v => ?_⟩, hb⟩
      · have : (y.key, y.val) ∈ m.map (kv enc) := by rw [← h1]; exact List.mem_map.2 ⟨y, hy, rfl⟩
        obtain ⟨p, hp, hpe⟩ := List.mem_map.1 this
        simp only [kv, Prod.mk.injEq] at hpe
        rw [he] at hpe
        exact g1 p hp (by simpa using hpe.1)
      · rw [g2]
        have hm : es.size = m.length := size_of_kv h1
        apply List.ext_getElem?
        intro j
        simp only [List.getElem?_map, Array.getElem?_toList, Array.getElem?_modify, Array.getElem?_push, List.map_append, List.map_cons, List.map_nil, List.getElem?_append, List.length_map]
        have hj := congrArg (fun l => l[j]?) h1
        simp only [List.getElem?_map, Array.getElem?_toList] at hj
        by_cases hjs : j = es.size
        · subst hjs; simp [hm, kv]
        · by_cases hjl : j < es.size
          · rw [if_neg (fun h => hjs h.symm), if_neg hjs, if_pos (by omega)]; exact hj
          · have : es[j]? = none := by simp; omega
            rw [if_neg (fun h => hjs h.symm), if_neg hjs, this, if_neg (by omega)]
            have : j - m.length ≠ 0 := by omega
            cases hjm : j - m.length with
            | zero => omega
            | succ q => simp
  | some p =>
    obtain ⟨j, u⟩ := p
    obtain ⟨g1, g2, g3⟩ := alFind_spec x m j u hg
    have hes : ∃ e, es[j]? = some e ∧ e.key = .int .i64 x := by
      have hi := congrArg (fun l => l[j]?) h1
      simp only [List.getElem?_map, Array.getElem?_toList, g1, Option.map_some] at hi
      cases he : es[j]? with
      | none => simp [he] at hi
      | some e => simp [he, kv] at hi; exact ⟨e, rfl, hi.1⟩
    obtain ⟨e0, he0, hk0⟩ := hes
    refine ⟨enc u, e0.born, { w with heap := w.heap.setIfInBounds b (.map (es.modify j fun e => { e with key := .int .i64 x }) clock) }, ?_, ?_⟩
    · simp [Instr.mapEntry, run_underlying ht, MapKept.run_getObj_map h3.get_blk, hck, Instr.findKey, run_underlying hk, hf, hg, MapKept.run_setObj_map _ h3.get_blk, Result.andThen, Instr.keyThatStays, he0, hk0, Instr.sameBits, goInt]
    · have h4 := h3.turn (w' := { w with heap := w.heap.setIfInBounds b (.map (es.modify j fun e => { e with key := .int .i64 x }) clock) })
        ⟨rfl, rfl, rfl, by simp, fun i _ hi => by simp at hi; simp [Ne.symm hi]⟩ (o' := .map (es.modify j fun e => { e with key := .int .i64 x }) clock) (by simp [hlt])
      refine h4.mono fun f hb => ⟨_, _, j, ⟨⟨stamped_modify h2 j _ fun e he => ?_, ⟨{ e0 with key := .int .i64 x }, by rw [Array.getElem?_modify, if_pos rfl, he0]; rfl, rfl⟩⟩, fun v => ?_⟩, hb⟩
      · rw [he0] at he; cases he
        exact ⟨rfl, hk0.symm⟩
      · rw [g2]
        have e1 : ((es.modify j fun e => { e with key := .int .i64 x }).modify j fun e => { e with val := enc v }) = es.modify j fun e => { e with key := .int .i64 x, val := enc v } := by
          apply Array.ext_getElem?
          intro i
          simp only [Array.getElem?_modify]
          split <;> simp [Function.comp_def]
        rw [e1]
        exact kv_modify h1 g1 _ fun e => ⟨rfl, rfl⟩
theorem run_entryStore_sl {t : TypeId} {w : World} {l : List HProp} {enc : β → Value} {b : Nat} {m : List (Int × β)} {x : Int} {s : Nat} (h : holds w (imapHole enc b m x s :: l)) (v : β) :
    ∃ w', (Instr.entryStore t (.map (some b)) (.int .i64 s) (enc v)).run P w = .ok () w' ∧ holds w' (imap enc b (alSet m x v) :: l) := by
  obtain ⟨es, h⟩ := h.open_ex
  obtain ⟨clock, h⟩ := h.open_ex
  obtain ⟨i, h⟩ := h.open_ex
  obtain ⟨⟨⟨hst, e, he, hb⟩, hv⟩, h3⟩ := h.open_pure
  have hlt : b < w.heap.size := (Array.getElem?_eq_some_iff.1 h3.get_blk).1
  have hlti : i < es.size := (Array.getElem?_eq_some_iff.1 he).1
  have hei : es[i] = e := by rw [Array.getElem?_eq_getElem hlti] at he; exact Option.some.inj he
  have hfi : es.findIdx? (fun e => (e.born : Int) == (s : Int)) = some i := by
    rw [Array.findIdx?_eq_some_iff_getElem]
    refine ⟨hlti, by simp [hei, hb], fun j hj => ?_⟩
    obtain ⟨_, hnd, _⟩ := hst
    have hjlt : j < es.size := by omega
    simp only [beq_iff_eq, Bool.not_eq_true, beq_eq_false_iff_ne, ne_eq]
    intro hcon
    have h5 := (List.pairwise_iff_getElem.1 hnd) j i (by simpa using hjlt) (by simpa using hlti) hj
    simp [hei, hb] at h5
    omega
  refine ⟨{ w with heap := w.heap.setIfInBounds b (.map (es.modify i fun e => { e with val := enc v }) clock) }, ?_, ?_⟩
  · simp [Instr.entryStore, MapKept.run_getObj_map h3.get_blk, asInt, asIntOf, hfi, MapKept.run_setObj_map _ h3.get_blk, Result.andThen]
  · have h4 := h3.turn (w' := { w with heap := w.heap.setIfInBounds b (.map (es.modify i fun e => { e with val := enc v }) clock) })
      ⟨rfl, rfl, rfl, by simp, fun i _ hi => by simp at hi; simp [Ne.symm hi]⟩ (o' := .map (es.modify i fun e => { e with val := enc v }) clock) (by simp [hlt])
    exact h4.mkMap (hv v) (stamped_modify hst i _ fun e _ => ⟨rfl, rfl⟩)
theorem GL.mapEntry {t k e : TypeId} {x y : Operand} {b size bytes : Nat} {i : Int} {z : Value} {enc : β → Value} {m : List (Int × β)} {F' : List HProp} [hm : MapT P t k e] [hk : IntT P k .i64] [hz : ZeroT P e z size bytes] (hx : opnd env x = some (.map (some b))) (hy : opnd env y = some (.int .i64 i)) [hr : HasMap F b enc m F'] (hd : Nat.blt d n = true)
    (h : ∀ (u : Value) (s : Nat), GL P n ops Q rest ((d, .tuple #[u, .int .i64 s]) :: env) (imapHole enc b m i s :: F')) : GL P n ops Q (⟨some d, .mapEntry t x y, ty, pos, aft, none⟩ :: rest) env F := .mk fun a w hf hw => by
  refine wpList_plain rfl fun K hK => ?_
  obtain ⟨iz, g1, g2, _⟩ := hz.ok
  have hzr : ∀ w, (zeroValue e).run P w = .ok z w := fun w => by simp [zeroValue, typeInfo, g1, g2, Result.andThen]
  obtain ⟨u, s, w', hrun, hh⟩ := run_mapEntry_sl (P := P) hm.ok hk.ok hzr (hw.perm hr.perm) i
  unfold Oper.wp
  simp only [execOp, hf.eval hx, hf.eval hy, Sem.run_bind, Sem.run_pure, hrun, Result.andThen_ok]
  exact hK _ _ (h u s _ _ (hf.put hd _) hh)
theorem GL.entryStore {t : TypeId} {x y u : Operand} {b s : Nat} {i : Int} {val : Value} {enc : β → Value} {m : List (Int × β)} {F' : List HProp} (v : β) (hx : opnd env x = some (.map (some b))) (hy : opnd env y = some (.int .i64 (s : Nat))) (hu : opnd env u = some val) [hr : HasHole F b enc m i s F'] (hv : val = enc v)
    (h : GL P n ops Q rest env (imap enc b (alSet m i v) :: F')) : GL P n ops Q (⟨none, .entryStore t x y u, ty, pos, aft, none⟩ :: rest) env F := .mk fun a w hf hw => by
  refine wpList_plain rfl fun K hK => ?_
  obtain ⟨w', hrun, hh⟩ := run_entryStore_sl (P := P) (t := t) (hw.perm hr.perm) v
  unfold Oper.wp
  simp only [execOp, hf.eval hx, hf.eval hy, hf.eval hu, hv, Sem.run_bind, Sem.run_pure, hrun, Result.andThen_ok]
  exact hK _ _ (h _ _ hf hh)
/-- 'm[x]', told ahead. -/
theorem Runs.lookupS {t k e : TypeId} {x y : Operand} {b size bytes : Nat} {i : Int} {z : Value} {enc : β → Value} {m : List (Int × β)} {F' : List HProp} {u : β} [hm : MapT P t k e] [hk : IntT P k .i64] [hz : ZeroT P e z size bytes] (hx : opnd env x = some (.map (some b))) (hy : opnd env y = some (.int .i64 i)) [hr : HasMap F b enc m F'] (h : alGet m i = some u) :
    Runs P n env F (.lookup t x y false) (enc u) := by
  have := Runs.lookup (P := P) (n := n) (env := env) (F := F) (t := t) (x := x) (y := y) (b := b) (i := i) hx hy
  rw [h] at this
  exact this
theorem Runs.lookupN {t k e : TypeId} {x y : Operand} {b size bytes : Nat} {i : Int} {z : Value} {enc : β → Value} {m : List (Int × β)} {F' : List HProp} [hm : MapT P t k e] [hk : IntT P k .i64] [hz : ZeroT P e z size bytes] (hx : opnd env x = some (.map (some b))) (hy : opnd env y = some (.int .i64 i)) [hr : HasMap F b enc m F'] (h : alGet m i = none) :
    Runs P n env F (.lookup t x y false) z := by
  have := Runs.lookup (P := P) (n := n) (env := env) (F := F) (t := t) (x := x) (y := y) (b := b) (i := i) hx hy
  rw [h] at this
  exact this
def encI (x : Int) : Value := .int .i64 x
theorem Runs.lookupI {t k e : TypeId} {x y : Operand} {b size bytes : Nat} {i : Int} {m : List (Int × Int)} {F' : List HProp} [hm : MapT P t k e] [hk : IntT P k .i64] [hz : ZeroT P e (.int .i64 0) size bytes] (hx : opnd env x = some (.map (some b))) (hy : opnd env y = some (.int .i64 i)) [hr : HasMap F b encI m F'] :
    Runs P n env F (.lookup t x y false) (.int .i64 ((alGet m i).getD 0)) := by
  have := Runs.lookup (P := P) (n := n) (env := env) (F := F) (t := t) (x := x) (y := y) (b := b) (i := i) hx hy
  cases h : alGet m i with
  | none => rw [h] at this; exact this
  | some u => rw [h] at this; exact this
end
end Go.Proofs.YtoafajooffhimaaDoor
end
