import Derived.Test.YtfiggkbclldccaaMg4
import Derived.Test.YtfiggkbclldccaaMg5
import Derived.Test.YtfiggkbclldccaaMg17
import Derived.Test.YtfiggkbclldccaaMg14
import Derived.Test.YtfiggkbclldccaaMg12
import Derived.Test.YtfiggkbclldccaaMg13
/- Drawn regions whose operations write to pieces of memory that others of them read: each piece is told state by state; one walk in the order of the text. Drawn regions told state by state: guards that are known, calls. Drawn regions that make rows and variables, whose shape is told. Drawn regions that append and store: slices whose form is told. -/
section
namespace Go.Proofs.Ytfiggkbclldccaa
open Go Go.RowKit Go.MapKept
set_option linter.unusedVariables false
set_option linter.unusedSectionVars false
set_option linter.unusedSimpArgs false

/-- A state of a piece: the operation that makes it (none: it is there at the start), the states that this operation takes, the operation that takes it away (none: it is there at the end), the slot that the state hangs on, which values the operation yields, the piece. -/
structure Wff where
  k : Option Nat
  takes : List Nat
  cons : Option Nat
  d : Option Tmp
  R : Value → Prop
  piece : Value → HProp
def wTok (e : Wff) : Tok := ⟨e.k, e.cons, (match e.k, e.d with | some _, some d => [d] | _, _ => []), fun vs => e.piece (vs.headD undef)⟩
def wffToks (E : List Wff) : List Tok := E.map wTok
def wffIdx : List Wff → Nat → Nat → Option (Nat × Wff)
  | [], _, _ => none
  | e :: E, i, k => bif (match e.k with | some j => Nat.beq j k | none => false) then some (i, e) else wffIdx E (i + 1) k
def seenBy : List (Nat × List Nat) → Nat → List Nat
  | [], _ => []
  | (j, l) :: V, k => bif Nat.beq j k then l else seenBy V k
def wffS (E : List Wff) (V : List (Nat × List Nat)) (k : Nat) : TSpec :=
  match wffIdx E 0 k with
  | none => ⟨none, [], seenBy V k, []⟩
  | some (i, e) => ⟨some e.R, e.takes, seenBy V k, [i]⟩
/-- The states of these numbers, as they are now. -/
def wffNow (E : List Wff) (env : Env) : List Nat → Option (List HProp)
  | [] => some []
  | i :: is => match E[i]?, wffNow E env is with
    | some e, some l => match e.k, e.d with
      | some _, some d => match look env d with
        | some v => some (e.piece v :: l)
        | none => none
      | _, _ => some (e.piece undef :: l)
    | _, _ => none
def wffDef (E : List Wff) (env : Env) : List Nat → Prop
  | [] => True
  | i :: is => (∃ e, E[i]? = some e ∧ (e.k = none ∨ e.d = none ∨ ∃ d v, e.d = some d ∧ look env d = some v ∧ isUndef v = false)) ∧ wffDef E env is

section
variable {P : Program} {n : Nat} {ops : Array Oper} {Q : Exit → Act → World → Prop} {env : Env} {F : List HProp} {Z : Act → Prop} {k : Nat} {rest : List Oper} {d : Tmp} {ty : TypeId} {pos : String} {aft : Array Edge} {E : List Wff} {V : List (Nat × List Nat)}
theorem wffNow_at {a : Act} (hf : Fits n a env) : ∀ (is : List Nat) (T : List HProp), wffNow E env is = some T → wffDef E env is → toksAt ops (wffToks E) a is = T
  | [], T, h, _ => by simp only [wffNow, Option.some.injEq] at h; subst h; rfl
  | i :: is, T, h, ⟨⟨e, he, hv⟩, hd⟩ => by
    unfold wffNow at h
    rw [he] at h
    cases hl : wffNow E env is with
    | none => simp [hl] at h
    | some l =>
      have ih := wffNow_at hf is l hl hd
      unfold toksAt at ih ⊢
      rw [List.flatMap_cons, ih]
      have ht : tokNo (wffToks E) i = wTok e := by
        simp [tokNo, wffToks, List.getD, he]
      rw [ht]
      rw [hl] at h
      simp only at h
      cases hk : e.k with
      | none =>
        simp only [hk] at h
        cases h
        simp [tokAt, skipped, wTok, hk]
      | some k0 =>
        cases hed : e.d with
        | none =>
          simp only [hk, hed] at h
          cases h
          have hsk : skipped ops a (wTok e) = false := by
            unfold skipped wTok
            simp only [hk, hed]
            split <;> simp
          unfold tokAt
          rw [hsk]
          simp [wTok, hk, hed]
        | some d0 =>
          rcases hv with hv | hv | ⟨d1, v, h1, h2, hu⟩
          · rw [hk] at hv; cases hv
          · rw [hed] at hv; cases hv
          rw [hed] at h1; cases h1
          simp only [hk, hed, h2] at h
          cases h
          have hs : slotOf a d0 = v := by have := hf.at_ _ _ h2; simp [slotOf, this]
          have hsk : skipped ops a (wTok e) = false := by
            unfold skipped wTok
            simp only [hk, hed]
            cases hd' : (ops[k0]?).bind (·.dst) with
            | none => rfl
            | some d' =>
              simp only
              by_cases hdd : d' = d0
              · subst hdd; rw [hs, hu]; simp
              · simp [hdd]
          unfold tokAt
          rw [hsk]
          simp [wTok, hk, hed, hs]
section
variable (P n ops E V)
structure GW (F : List HProp) (Z : Act → Prop) (k : Nat) (rest : List Oper) (env : Env) : Prop where
  out : ∀ a, Fits n a env → wpTok P ops (wffToks E) (wffS E V) F Z k rest a
end
theorem GW.nilE {last : List Nat} {T : List HProp} (hT : wffNow E env last = some T) (hd : wffDef E env last) (h : GE n .normal Q env (T ++ F)) : GW P n ops E V F (fun a' => ∀ w', holds w' (toksAt ops (wffToks E) a' last ++ F) → Q .normal a' w') k [] env :=
  ⟨fun a hf => tok_nil fun w' hw' => h a w' hf (by rw [wffNow_at hf last T hT hd] at hw'; exact hw')⟩
theorem GW.run {op : Op} {v : Value} (hi : wffIdx E 0 k = none) (hr : Runs P n env F op v) (hd : Nat.blt d n = true) (h : GW P n ops E V F Z (k + 1) rest ((d, v) :: env)) : GW P n ops E V F Z k (⟨some d, op, ty, pos, aft, none⟩ :: rest) env := ⟨fun a hf => by
  refine tok_exact (by simp [wffS, hi]) fun K hK => ?_
  rw [if_pos (by simp [Region.wanted])]
  intro w hw
  rw [hr a w _ _ _ _ _ hf hw]
  exact ⟨rfl, hK _ (h.out _ (hf.put hd v))⟩⟩
/-- An operation that reads pieces that others of the region write. -/
theorem GW.see {op : Op} {v : Value} {L : List HProp} (hi : wffIdx E 0 k = none) (hL : wffNow E env (seenBy V k) = some L) (hdef : wffDef E env (seenBy V k)) (hr : Runs P n env (L ++ F) op v) (hd : Nat.blt d n = true) (h : GW P n ops E V F Z (k + 1) rest ((d, v) :: env)) : GW P n ops E V F Z k (⟨some d, op, ty, pos, aft, none⟩ :: rest) env := ⟨fun a hf => by
  unfold wpTok TokOp
  rw [if_pos (by simp [Region.wanted])]
  have hR : (wffS E V k).R = none := by simp [wffS, hi]
  rw [hR]
  intro w F' hh
  unfold tpre at hh
  have h1 : toksAt ops (wffToks E) a (wffS E V k).takes = [] := by simp [wffS, hi, toksAt]
  have h2 : toksAt ops (wffToks E) a (wffS E V k).sees = L := by simp only [wffS, hi]; exact wffNow_at hf _ _ hL hdef
  rw [h1, h2, List.nil_append] at hh
  have h3 : holds w (L ++ F) := (show holds w ((L ++ F) ++ F') from by simpa using hh).perm_drop (.refl _)
  rw [hr a w _ _ _ _ _ hf h3]
  exact ⟨rfl, h.out _ (hf.put hd v)⟩⟩
theorem GW.runA {op : Op} {v : Value} (hi : wffIdx E 0 k = none) (hd : Nat.blt d n = true) (h : GW P n ops E V F Z (k + 1) rest ((d, v) :: env)) (hr : Runs P n env F op v := by first | (apply Runs.isMove; exact Runs.move rfl) | (apply Runs.isLoad; first | exact Runs.loadBlk rfl rfl | exact Runs.loadRow rfl (by first | omega | decide) rfl | exact Runs.loadRow0 rfl (by first | omega | decide) rfl | exact Runs.loadElem rfl (by first | omega | decide) | exact Runs.loadWhole rfl rfl | exact Runs.loadBlkA rfl rfl rfl) | (apply Runs.isFieldA; exact Runs.fieldAddr rfl) | (apply Runs.isBin; first | (apply Runs.eql <;> rfl) | (apply Runs.lss <;> rfl) | (apply Runs.neq <;> rfl) | (apply Runs.leq <;> rfl) | (apply Runs.gtr <;> rfl) | (apply Runs.geq <;> rfl) | exact Runs.add rfl rfl (by omega) | exact Runs.sub rfl rfl (by omega) | exact Runs.mul rfl rfl (by omega) | exact Runs.quo rfl rfl (by omega) | exact Runs.rem rfl rfl (by omega) | exact Runs.shr rfl rfl | exact Runs.shl rfl rfl (by omega) | exact Runs.and20 rfl rfl | exact Runs.shrU rfl rfl | exact Runs.eqlPtrNil rfl | exact Runs.neqPtrNil rfl | exact Runs.eqlMapNil rfl | exact Runs.neqMapNil rfl | exact Runs.eqlSlNil rfl | exact Runs.eqlInts rfl rfl rfl rfl | exact Runs.neqInts rfl rfl rfl rfl) | (apply Runs.isAssign; exact Runs.assign rfl) | (apply Runs.isIndexA; first | exact Runs.indexAddr rfl rfl rfl rfl (by first | omega | decide) | exact Runs.indexAddrI rfl rfl rfl (by first | omega | decide) (by first | omega | decide) | exact Runs.indexArr rfl rfl rfl (by first | omega | decide)) | (apply Runs.isPick; first | exact Runs.pickT rfl rfl | exact Runs.pickF rfl rfl) | (apply Runs.isExtract; exact Runs.extract rfl rfl) | (apply Runs.isBuiltin; first | exact Runs.lenRow rfl | exact Runs.min2 rfl rfl | exact Runs.max2 rfl rfl | exact Runs.lenMap rfl | exact Runs.lenArr rfl) | (apply Runs.isLookup; first | exact Runs.lookupI rfl rfl | exact Runs.lookupS rfl rfl (by assumption) | exact Runs.lookupN rfl rfl (by assumption) | exact Runs.lookup rfl rfl | exact Runs.lookupOk rfl rfl) | (apply Runs.isSlice; first | exact Runs.slice _ _ rfl rfl rfl rfl rfl rfl ⟨⟨(by first | omega | decide), (by first | omega | decide)⟩, .inl rfl⟩ | exact Runs.slice3 _ _ rfl rfl rfl rfl rfl rfl rfl ⟨⟨(by first | omega | decide), (by first | omega | decide)⟩, .inr rfl⟩) | (apply Runs.isConvert; exact Runs.convII rfl (by omega)) | (apply Runs.isField; first | exact Runs.fieldVal rfl rfl | exact Runs.fieldAgg rfl) | (apply Runs.isBuild; exact Runs.build rfl rfl) | (apply Runs.isIndex; first | exact Runs.indexVal rfl rfl rfl (by first | omega | decide) rfl | exact Runs.indexAgg rfl rfl rfl rfl rfl) | (apply Runs.isUn; first | exact Runs.not rfl | exact Runs.neg rfl (by omega)) | (apply Runs.isMakeFunc; exact Runs.makeFunc rfl rfl) | (apply Runs.isNilCheck; exact Runs.nilCheck rfl)) : GW P n ops E V F Z k (⟨some d, op, ty, pos, aft, none⟩ :: rest) env := GW.run hi hr hd h
theorem GW.seeA {op : Op} {v : Value} {L : List HProp} (hi : wffIdx E 0 k = none) (hL : wffNow E env (seenBy V k) = some L) (hdef : wffDef E env (seenBy V k)) (hd : Nat.blt d n = true) (h : GW P n ops E V F Z (k + 1) rest ((d, v) :: env)) (hr : Runs P n env (L ++ F) op v := by first | (apply Runs.isMove; exact Runs.move rfl) | (apply Runs.isLoad; first | exact Runs.loadBlk rfl rfl | exact Runs.loadRow rfl (by first | omega | decide) rfl | exact Runs.loadRow0 rfl (by first | omega | decide) rfl | exact Runs.loadElem rfl (by first | omega | decide) | exact Runs.loadWhole rfl rfl | exact Runs.loadBlkA rfl rfl rfl) | (apply Runs.isFieldA; exact Runs.fieldAddr rfl) | (apply Runs.isBin; first | (apply Runs.eql <;> rfl) | (apply Runs.lss <;> rfl) | (apply Runs.neq <;> rfl) | (apply Runs.leq <;> rfl) | (apply Runs.gtr <;> rfl) | (apply Runs.geq <;> rfl) | exact Runs.add rfl rfl (by omega) | exact Runs.sub rfl rfl (by omega) | exact Runs.mul rfl rfl (by omega) | exact Runs.quo rfl rfl (by omega) | exact Runs.rem rfl rfl (by omega) | exact Runs.shr rfl rfl | exact Runs.shl rfl rfl (by omega) | exact Runs.and20 rfl rfl | exact Runs.shrU rfl rfl | exact Runs.eqlPtrNil rfl | exact Runs.neqPtrNil rfl | exact Runs.eqlMapNil rfl | exact Runs.neqMapNil rfl | exact Runs.eqlSlNil rfl | exact Runs.eqlInts rfl rfl rfl rfl | exact Runs.neqInts rfl rfl rfl rfl) | (apply Runs.isAssign; exact Runs.assign rfl) | (apply Runs.isIndexA; first | exact Runs.indexAddr rfl rfl rfl rfl (by first | omega | decide) | exact Runs.indexAddrI rfl rfl rfl (by first | omega | decide) (by first | omega | decide) | exact Runs.indexArr rfl rfl rfl (by first | omega | decide)) | (apply Runs.isPick; first | exact Runs.pickT rfl rfl | exact Runs.pickF rfl rfl) | (apply Runs.isExtract; exact Runs.extract rfl rfl) | (apply Runs.isBuiltin; first | exact Runs.lenRow rfl | exact Runs.min2 rfl rfl | exact Runs.max2 rfl rfl | exact Runs.lenMap rfl | exact Runs.lenArr rfl) | (apply Runs.isLookup; first | exact Runs.lookupI rfl rfl | exact Runs.lookupS rfl rfl (by assumption) | exact Runs.lookupN rfl rfl (by assumption) | exact Runs.lookup rfl rfl | exact Runs.lookupOk rfl rfl) | (apply Runs.isSlice; first | exact Runs.slice _ _ rfl rfl rfl rfl rfl rfl ⟨⟨(by first | omega | decide), (by first | omega | decide)⟩, .inl rfl⟩ | exact Runs.slice3 _ _ rfl rfl rfl rfl rfl rfl rfl ⟨⟨(by first | omega | decide), (by first | omega | decide)⟩, .inr rfl⟩) | (apply Runs.isConvert; exact Runs.convII rfl (by omega)) | (apply Runs.isField; first | exact Runs.fieldVal rfl rfl | exact Runs.fieldAgg rfl) | (apply Runs.isBuild; exact Runs.build rfl rfl) | (apply Runs.isIndex; first | exact Runs.indexVal rfl rfl rfl (by first | omega | decide) rfl | exact Runs.indexAgg rfl rfl rfl rfl rfl) | (apply Runs.isUn; first | exact Runs.not rfl | exact Runs.neg rfl (by omega)) | (apply Runs.isMakeFunc; exact Runs.makeFunc rfl rfl) | (apply Runs.isNilCheck; exact Runs.nilCheck rfl)) : GW P n ops E V F Z k (⟨some d, op, ty, pos, aft, none⟩ :: rest) env := GW.see hi hL hdef hr hd h
/-- What an operation does to the pieces T, seeing the pieces L, beside whatever else. -/
structure DoesW (P : Program) (n : Nat) (env : Env) (F T L : List HProp) (op : Op) (R : Value → Prop) (piece : Value → HProp) : Prop where
  out : ∀ a w F' ty pos aft g d, Fits n a env → holds w (T ++ (L ++ (F ++ F'))) → looseUpon P (fun u w' => R u ∧ holds w' (piece u :: (L ++ (F ++ F')))) ((execOp a.eval ⟨d, op, ty, pos, aft, g⟩).run P w)
/-- A store: nothing is yielded. -/
theorem GW.store {op : Op} {i : Nat} {e : Wff} {T L : List HProp} (hi : wffIdx E 0 k = some (i, e)) (hE : E[i]? = some e) (hek : e.k = some k) (hed : e.d = none) (hT : wffNow E env e.takes = some T) (hdef : wffDef E env e.takes) (hL : wffNow E env (seenBy V k) = some L) (hdefL : wffDef E env (seenBy V k)) (hR : e.R = fun _ => True) (hD : DoesW P n env F T L op (fun _ => True) (fun _ => e.piece undef))
    (h : GW P n ops E V F Z (k + 1) rest env) : GW P n ops E V F Z k (⟨none, op, ty, pos, aft, none⟩ :: rest) env := ⟨fun a hf => by
  refine tok_op (R := fun _ => True) T L (fun u => [e.piece undef]) ?_ ?_ ?_ rfl (fun u hu => ?_) (fun w F' hw => ?_) (fun u hu => h.out _ (hf.put0 u))
  · simp only [wffS, hi]; exact wffNow_at hf _ _ hT hdef
  · simp only [wffS, hi]; exact wffNow_at hf _ _ hL hdefL
  · simp only [wffS, hi, hR]
  · simp only [wffS, hi]
    refine wffNow_at (hf.put0 u) [i] [e.piece undef] ?_ ⟨⟨e, hE, .inr (.inl hed)⟩, trivial⟩
    simp [wffNow, hE, hek, hed]
  · have := hD.out a w F' ty pos aft none none hf (by simpa using hw)
    simpa using this⟩
theorem GW.eff {op : Op} {i : Nat} {e : Wff} {T L : List HProp} (hi : wffIdx E 0 k = some (i, e)) (hE : E[i]? = some e) (hek : e.k = some k) (hed : e.d = some d) (hT : wffNow E env e.takes = some T) (hdef : wffDef E env e.takes) (hL : wffNow E env (seenBy V k) = some L) (hdefL : wffDef E env (seenBy V k)) (hU : ∀ u, e.R u → isUndef u = false) (hD : DoesW P n env F T L op e.R e.piece) (hd : Nat.blt d n = true)
    (h : ∀ u, e.R u → GW P n ops E V F Z (k + 1) rest ((d, u) :: env)) : GW P n ops E V F Z k (⟨some d, op, ty, pos, aft, none⟩ :: rest) env := ⟨fun a hf => by
  refine tok_op (R := e.R) T L (fun u => [e.piece u]) ?_ ?_ ?_ rfl (fun u hu => ?_) (fun w F' hw => ?_) (fun u hu => (h u hu).out _ (hf.put hd u))
  · simp only [wffS, hi]; exact wffNow_at hf _ _ hT hdef
  · simp only [wffS, hi]; exact wffNow_at hf _ _ hL hdefL
  · simp only [wffS, hi]
  · simp only [wffS, hi]
    refine wffNow_at (hf.put hd u) [i] [e.piece u] ?_ ⟨⟨e, hE, .inr (.inr ⟨d, u, hed, by rw [look_cons, if_pos rfl], hU u hu⟩)⟩, trivial⟩
    simp [wffNow, hE, hek, hed, look_cons]
  · have := hD.out a w F' ty pos aft none (some d) hf (by simpa using hw)
    simpa using this⟩
theorem G.drawW {id : Nat} {l : List Oper} {S B : List HProp} (E : List Wff) (V : List (Nat × List Nat)) (start last : List Nat) (hm : P.follows .mixedOrders = true)
    (hB : (tokB l.toArray (wffToks E) (wffS E V) .any && (((List.range (wffToks E).length).filter (fun i => (tokNo (wffToks E) i).prod.isNone) == start) && ((List.range (wffToks E).length).filter (fun i => (tokNo (wffToks E) i).cons.isNone) == last))) = true)
    (hS : wffNow E env start = some S) (hd : wffDef E env start) [ht : Takes F S B]
    (h : GW P n l.toArray E V B (fun a' => ∀ w', holds w' (toksAt l.toArray (wffToks E) a' last ++ B) → Q .normal a' w') 0 l env) : G P n (.region id l.toArray true) Q env F := .mk fun a w hf hw =>
  wp_region_tok (wffToks E) (wffS E V) B start last hm hB (by rw [wffNow_at hf start S hS hd]; exact hw.perm ht.perm) (h.out a hf)
theorem GE.only (h : GE n .normal Q env F) : GE n .normal (onlyN Q) env F := .mk h.out
theorem GW.isAny {o : Oper} (h : GW P n ops E V F Z k (o :: rest) env) : GW P n ops E V F Z k (o :: rest) env := h
/-! ### What operations do -/
theorem run_storeVar_sl {w : World} {l : List HProp} {b off : Nat} {c : Array Value} {T t : TypeId} {val : Value} (hsz : (P.info? t).map (·.size) = some val.cells.size) (h1 : ∀ u ∈ val.cells.toList, u.oneCell' = true)
    (h : holds w (blk b (.cells c T (0, 0)) :: l)) (hoff : off + val.cells.size ≤ c.size) :
    ∃ w', (storeVar t ⟨b, off, none⟩ val).run P w = .ok () w' ∧ holds w' (blk b (.cells (c.toList.take off ++ val.cells.toList ++ c.toList.drop (off + val.cells.size)).toArray T (0, 0)) :: l) := by
  have hr := run_storeCells_at (P := P) b off T val.cells.toList 0 c w h.get_blk (by simpa using hoff) h1
  refine ⟨w.setRow b (c.toList.take off ++ val.cells.toList ++ c.toList.drop (off + val.cells.size)).toArray, ?_, ?_⟩
  · cases hq : P.info? t with
    | none => simp [hq] at hsz
    | some i =>
      have hs : i.size = val.cells.size := by simpa [hq] using hsz
      simp [storeVar, sizeOf, typeInfo, hq, hs]
      simpa using hr
  · exact h.turn (w' := w.setRow b (c.toList.take off ++ val.cells.toList ++ c.toList.drop (off + val.cells.size)).toArray) ⟨rfl, rfl, rfl, by simp, fun k _ hk => setRow_other w b k _ (fun e => hk (by simp [e]))⟩ (setRow_heap w b c _ T _ h.get_blk)
/-- A store of one cell into a block. -/
theorem DoesW.storeBlk {t T : TypeId} {x y : Operand} {b o : Nat} {c c' : Array Value} {u : Value} {L : List HProp} {R : Value → Prop} (hx : opnd env x = some (.pointer (some ⟨b, o, none⟩))) (hy : opnd env y = some u) [ht : CellT P t] (hc : u.cells = #[u]) (h1 : u.oneCell' = true) (ho : Nat.blt o c.size = true) (hs : (c.toList.set o u).toArray = c') :
    DoesW P n env F [blk b (.cells c T (0, 0))] L (.store t x y) (fun _ => True) (fun _ => blk b (.cells c' T (0, 0))) := ⟨fun a w F' ty pos aft g d hf hw => by
  subst hs
  obtain ⟨i, ds, g1, g2, g3, g4⟩ := ht.ok
  have ho : o < c.size := by simpa [Nat.blt_eq] using ho
  obtain ⟨w', hr, hh⟩ := run_storeVar_sl (P := P) (t := t) (val := u) (off := o) (by simp [g1, g2, hc]) (by simpa [hc] using h1) (show holds w (blk b (.cells c T (0, 0)) :: (L ++ (F ++ F'))) from by simpa using hw) (by simp [hc]; omega)
  simp [execOp, hf.eval hx, hf.eval hy, Instr.storeAt, Instr.sureAddr, hr, Result.andThen, looseUpon]
  have : (c.toList.take o ++ u.cells.toList ++ c.toList.drop (o + u.cells.size)) = c.toList.set o u := by
    simp only [hc, List.size_toArray, List.length_singleton]
    rw [List.set_eq_take_append_cons_drop, if_pos (by simpa using ho)]
    simp
  rw [this] at hh
  exact hh⟩
def stampV : Value → Nat
  | .tuple t => match t.toList with
    | [_, Value.int _ s] => s.toNat
    | _ => 0
  | _ => 0
def IsEntry (v : Value) : Prop := ∃ (u : Value) (s : Nat), v = Value.tuple #[u, Value.int .i64 (s : Int)]
end
end Go.Proofs.Ytfiggkbclldccaa
end
section
namespace Go.Proofs.Ytfiggkbclldccaa
open Go Go.RowKit Go.MapKept
set_option linter.unusedVariables false
set_option linter.unusedSectionVars false
set_option linter.unusedSimpArgs false

section
variable {P : Program} {n : Nat} {ops : Array Oper} {Q : Exit → Act → World → Prop} {env : Env} {F : List HProp} {Z : Act → Prop} {k : Nat} {rest : List Oper} {d : Tmp} {ty : TypeId} {pos : String} {aft : Array Edge} {E : List Wff} {V : List (Nat × List Nat)}
theorem GW.guardY {op : Op} {dst : Option Tmp} {j : Nat} {want : Bool} {dj : Tmp} (hj : (ops[j]?).bind (·.dst) = some dj) (hb : look env dj = some (.bool want)) (h : GW P n ops E V F Z k (⟨dst, op, ty, pos, aft, none⟩ :: rest) env) :
    GW P n ops E V F Z k (⟨dst, op, ty, pos, aft, some (j, want)⟩ :: rest) env := ⟨fun a hf => by
  have h1 := h.out a hf
  have hyl : yielded ops a.tmps j = some want := by
    have := hf.at_ _ _ hb
    unfold yielded; rw [hj, Option.bind_some, this]
  unfold wpTok at h1 ⊢
  simp only [Region.wanted, hyl, beq_self_eq_true, if_true] at h1 ⊢
  exact h1⟩
theorem Runs.eqlRefl {xT yT : TypeId} {x y : Operand} {i : Int} {kk : IntKind} (hx : opnd env x = some (.int kk i)) (hy : opnd env y = some (.int kk i)) : Runs P n env F (.binOp .eql xT x y yT) (.bool true) := by
  have := Runs.eql (P := P) (n := n) (F := F) (xT := xT) (yT := yT) hx hy
  rw [decide_eq_true rfl] at this
  exact this
/-- A call that makes a row. -/
theorem DoesW.callRow {α : Type} {T' : TypeId} {enc : α → List Value} {m : Nat} {l : List α} {f : FuncId} {xs : List Operand} {ts : Array TypeId} {vs : List Value} [ho : Own P f] (hx : opnds env xs = some vs)
    (hc : ∀ w F', holds w (F ++ F') → Ct P f vs.toArray w fun e w' => ∃ u, e = .returned u ∧ holds w' (owns T' enc m u l :: (F ++ F'))) :
    DoesW P n env F [] [] (.call { callee := .value (.func f), args := xs.toArray, argTypes := ts }) NU (fun u => owns T' enc m u l) := ⟨fun a w F' ty pos aft g d hf hw => by
  have hr : (execOp a.eval ⟨d, .call { callee := .value (.func f), args := xs.toArray, argTypes := ts }, ty, pos, aft, g⟩).run P w = .ok (.enter f vs.toArray) w := by
    simp [execOp, resolve, Act.eval, Deferred.ofValue, invoke, hf.evals hx, Result.andThen]
    exact ho.run _ _
  rw [hr]
  refine (hc w F' (by simpa using hw)).out.mono fun e w' ⟨u, he, hh⟩ => ⟨u, he, owns_form hh, ?_⟩
  simpa using hh⟩
/-- A call of one value that keeps what it sees. -/
theorem DoesW.callK {L : List HProp} {f : FuncId} {xs : List Operand} {ts : Array TypeId} {vs : List Value} {v : Value} [ho : Own P f] (hx : opnds env xs = some vs)
    (hc : ∀ w F', holds w (L ++ (F ++ F')) → Ct P f vs.toArray w fun e w' => e = .returned v ∧ holds w' (L ++ (F ++ F'))) :
    DoesW P n env F [] L (.call { callee := .value (.func f), args := xs.toArray, argTypes := ts }) (fun u => u = v) (fun _ _ => True) := ⟨fun a w F' ty pos aft g d hf hw => by
  have hr : (execOp a.eval ⟨d, .call { callee := .value (.func f), args := xs.toArray, argTypes := ts }, ty, pos, aft, g⟩).run P w = .ok (.enter f vs.toArray) w := by
    simp [execOp, resolve, Act.eval, Deferred.ofValue, invoke, hf.evals hx, Result.andThen]
    exact ho.run _ _
  rw [hr]
  refine (hc w F' (by simpa using hw)).out.mono fun e w' ⟨he, hh⟩ => ⟨v, he, rfl, ?_⟩
  have h1 := (holds_sep (l := []) (m := L ++ (F ++ F'))).2 hh
  exact h1.mono (B := fun _ => True) fun _ _ => trivial⟩
/-- A slice of one, built there. -/
theorem DoesW.build1 {α : Type} {t e : TypeId} {size bytes m : Nat} {z v : Value} {x : Operand} {enc : α → List Value} (y : α) [ht : SliceT P t e size] [hz : ZeroT P e z size bytes] [he : Enc enc m] (hm : m = size) (hsz : size ≤ 16777216) (hx : opnd env x = some v) (hv : v.cells.toList = enc y) :
    DoesW P n env F [] [] (.buildSlice t 1 #[(0, x)]) NU (fun u => owns e enc m u [y]) := ⟨fun a w F' ty pos aft g d hf hw => by
  have h1 := (Does.build1 (P := P) (n := n) (env := env) (F := F) (enc := enc) (m := m) (t := t) (x := x) y hm hsz hx hv).out a w F' ty pos aft g d hf hw
  exact h1⟩
end
end Go.Proofs.Ytfiggkbclldccaa
end
section
namespace Go.Proofs.Ytfiggkbclldccaa
open Go Go.RowKit Go.MapKept
set_option linter.unusedVariables false
set_option linter.unusedSectionVars false
set_option linter.unusedSimpArgs false

def IsSl (a b : Nat) (u : Value) : Prop := ∃ g, u = .slice (some ⟨g, 0, none⟩) a b
def IsPt (u : Value) : Prop := ∃ g, u = .pointer (some ⟨g, 0, none⟩)
/-- The block of a pointer. -/
def ptB : Value → Nat
  | .pointer (some a) => a.block
  | _ => 0
section
variable {P : Program} {n : Nat} {env : Env} {F : List HProp} {ops : Array Oper} {Q : Exit → Act → World → Prop} {Z : Act → Prop} {k : Nat} {rest : List Oper} {d : Tmp} {ty : TypeId} {pos : String} {aft : Array Edge} {E : List Wff} {V : List (Nat × List Nat)}
theorem DoesW.makeSl {α : Type} {m : Nat} {t e : TypeId} {x y : Operand} {size bytes : Nat} {z : Value} {i c : Int} {L : List HProp} (enc : α → List Value) [he : Enc enc m] (z0 : α) (a b : Nat) [ht : SliceT P t e size] [hz : ZeroT P e z m bytes] (hz0 : z.cells.toList = enc z0) (hx : opnd env x = some (.int .i64 i)) (hy : opnd env y = some (.int .i64 c)) (hi : i = (a : Int)) (hc : c = (b : Int)) (hab : a ≤ b) (hb : bytes * b ≤ 281474976710656) (h63 : b ≤ maxLen) :
    DoesW P n env F [] L (.makeSlice t x y) (IsSl a b) (fun u => owns e enc m u (List.replicate a z0)) := ⟨fun ac w F' ty pos aft g d hf hw => by
  subst hi hc
  obtain ⟨it, g1, g2, g3⟩ := ht.ok
  obtain ⟨iz, k1, k2, k3, k4, k5⟩ := hz.ok
  have hb' : (iz.bytes : Int) * (b : Int) ≤ 281474976710656 := by
    rw [k4]
    have h1 : ((bytes * b : Nat) : Int) ≤ 281474976710656 := by omega
    rwa [Int.natCast_mul] at h1
  have h63' : (b : Int) ≤ 9223372036854775807 := by
    have h1 := h63
    simp [maxLen] at h1
    omega
  obtain ⟨hr, hh⟩ := run_make_sl (P := P) (t := t) (e := e) (size := m) g1 k1 k2 k3 hw .i64 .i64 (x := a) (c := b) (by omega) (by omega) hb' h63'
  simp only [Int.toNat_natCast] at hr hh
  simp only [execOp, hf.eval hx, hf.eval hy, Sem.run_bind, Sem.run_pure, hr, Result.andThen_ok, looseUpon]
  refine ⟨⟨_, rfl⟩, ?_⟩
  rw [made_flat z0 hz0 a b hab] at hh
  have e1 : owns e enc m (.slice (some ⟨w.heap.size, 0, none⟩) a b) (List.replicate a z0) = ownRow e m (.slice (some ⟨w.heap.size, 0, none⟩) a b) a ((List.replicate a z0).flatMap enc) := by
    unfold owns; rw [List.length_replicate]
  rw [e1]; simpa using hh⟩
theorem DoesW.alloc {e : TypeId} {z : Value} {size bytes : Nat} {L : List HProp} [hz : ZeroT P e z size bytes] : DoesW P n env F [] L (.alloc e) IsPt (fun u => blk (ptB u) (.cells z.cells e (0, 0))) := ⟨fun ac w F' ty pos aft g d hf hw => by
  obtain ⟨i, h1, h2, _⟩ := hz.ok
  have hr : (execOp ac.eval ⟨d, .alloc e, ty, pos, aft, g⟩).run P w = .ok (.value (.pointer (some ⟨w.heap.size, 0, none⟩))) (w.alloc (.cells z.cells e (0, 0))) := by
    simp [execOp, Instr.alloc, zeroValue, typeInfo, h1, h2, newVar, newRow, run_newObj, Result.andThen]
  rw [hr]
  exact ⟨⟨_, rfl⟩, by simpa [ptB] using hw.alloc (.cells z.cells e (0, 0))⟩⟩
end
end Go.Proofs.Ytfiggkbclldccaa
end
section
namespace Go.Proofs.Ytfiggkbclldccaa
open Go Go.RowKit Go.MapKept
set_option linter.unusedVariables false
set_option linter.unusedSectionVars false
set_option linter.unusedSimpArgs false

def IsSlc (u : Value) : Prop := ∃ a k c, u = .slice a k c
theorem owns_isSlc {α : Type} {T : TypeId} {enc : α → List Value} {m : Nat} {v : Value} {l : List α} {w : World} {G : List HProp} (h : holds w (owns T enc m v l :: G)) : IsSlc v := by
  rcases (holds.open_own h).2 with ⟨rfl, _⟩ | ⟨g, cap, cur, rfl, _⟩ <;> exact ⟨_, _, _, rfl⟩
structure SlV where
  a : Option Addr
  n : Nat
  c : Nat
@[reducible] def SlV.v (s : SlV) : Value := .slice s.a s.n s.c
theorem owns_SlV {α : Type} {T : TypeId} {enc : α → List Value} {m : Nat} {v : Value} {l : List α} {w : World} {G : List HProp} (h : holds w (owns T enc m v l :: G)) : ∃ s : SlV, v = s.v := by
  obtain ⟨a, k, c, rfl⟩ := owns_isSlc h
  exact ⟨⟨a, k, c⟩, rfl⟩
section
variable {P : Program} {n : Nat} {env : Env} {F T L : List HProp} {op : Op}
theorem DoesW.ofDoes {piece : Value → HProp} (h : Does P n env (L ++ F) T op piece) (hp : ∀ u w G, holds w (piece u :: G) → IsSlc u) : DoesW P n env F T L op IsSlc piece := ⟨fun a w F' ty pos aft g d hf hw => by
  have h1 := h.out a w F' ty pos aft g d hf (by simpa using hw)
  revert h1
  generalize (execOp a.eval ⟨d, op, ty, pos, aft, g⟩).run P w = r
  intro h1
  cases r with
  | halt x w1 => exact h1
  | ok x w1 =>
    cases x with
    | value u => exact ⟨hp _ _ _ h1.2, by simpa using h1.2⟩
    | skip => exact ⟨hp _ _ _ h1.2, by simpa using h1.2⟩
    | enter f args => exact h1.mono fun e w2 ⟨u, he, h2⟩ => ⟨u, he, hp _ _ _ h2.2, by simpa using h2.2⟩
    | _ => exact h1⟩
theorem DoesW.append {α : Type} {t e : TypeId} {size bytes m : Nat} {z v u : Value} {x y : Operand} {enc : α → List Value} {l ys : List α} [ht : SliceT P t e size] [hz : ZeroT P e z size bytes] [he : Enc enc m] (hm : m = size) (hx : opnd env x = some v) (hy : opnd env y = some u)
    (hlen : (l.length + ys.length) * bytes ≤ 140737488355328) (hl63 : l.length + ys.length ≤ 140737488355328) :
    DoesW P n env F [owns e enc m v l, owns e enc m u ys] L (.call { callee := .builtin .append, args := #[x, y], argTypes := #[t, t] }) IsSlc (fun r => owns e enc m r (l ++ ys)) :=
  .ofDoes (Does.append hm hx hy hlen hl63) fun u w G h => owns_isSlc h
end
end Go.Proofs.Ytfiggkbclldccaa
end

/- SoundMarks: the law's walk. -/
namespace Go.Proofs.Ytfiggkbclldccaa
open Go Go.RowKit Go.MapKept
set_option linter.unusedVariables false
set_option linter.unusedSimpArgs false
set_option maxRecDepth 100000
set_option maxHeartbeats 4000000
section
variable (tk tk2 : Int) (ac aw am ap al ac2 aw2 am2 ap2 al2 : Option Addr) (kc kw km kp kl cc cw cm cp cl kc2 kw2 km2 kp2 kl2 cc2 cw2 cm2 cp2 cl2 : Nat) (C : List ChunkM) (Q : List Int) (M : List MbM) (T : List TickM) (L : List LaidM) (C2 : List ChunkM) (Q2 : List Int) (M2 : List MbM) (T2 : List TickM) (L2 : List LaidM)
theorem law49_SoundMarks0 (hworks : ∀ (w : World) (F : List HProp), holds w F → Ct Try.prog 7 #[] w fun e w' => e = .returned (.bool true) ∧ holds w' F) (wL : ∀ x ∈ L, x.Wf) (wL2 : ∀ x ∈ L2, x.Wf) (w : World) (F : List HProp) [Reads F (.slice ac C.length cc) chunkCells 3 C] [Reads F (.slice aw Q.length cw) encI1 1 Q] [Reads F (.slice am M.length cm) encMb 4 M] [Reads F (.slice ap T.length cp) encTk 5 T] [Reads F (.slice al L.length cl) encLaid 5 L] [Reads F (.slice ac2 C2.length cc2) chunkCells 3 C2] [Reads F (.slice aw2 Q2.length cw2) encI1 1 Q2] [Reads F (.slice am2 M2.length cm2) encMb 4 M2] [Reads F (.slice ap2 T2.length cp2) encTk 5 T2] [Reads F (.slice al2 L2.length cl2) encLaid 5 L2] (hw : holds w F) :
    Ct Try.prog 4 #[.agg (st5 tk ac aw am ap al C.length Q.length M.length T.length L.length cc cw cm cp cl), .agg (st5 tk2 ac2 aw2 am2 ap2 al2 C2.length Q2.length M2.length T2.length L2.length cc2 cw2 cm2 cp2 cl2)] w fun e w' => e = .returned (.bool true) ∧ holds w' F := by
  refine Ct.go (args := [.agg (st5 tk ac aw am ap al C.length Q.length M.length T.length L.length cc cw cm cp cl), .agg (st5 tk2 ac2 aw2 am2 ap2 al2 C2.length Q2.length M2.length T2.length L2.length cc2 cw2 cm2 cp2 cl2)]) Try.func4 rfl rfl rfl hw ?_
  have CM1 := fun w F [Reads F (.slice ac C.length cc) chunkCells 3 C] [Reads F (.slice aw Q.length cw) encI1 1 Q] [Reads F (.slice am M.length cm) encMb 4 M] [Reads F (.slice ap T.length cp) encTk 5 T] [Reads F (.slice al L.length cl) encLaid 5 L] hw => law49_many tk ac aw am ap al C.length Q.length M.length T.length L.length cc cw cm cp cl C Q M T L w F hw
  have CM2 := fun w F [Reads F (.slice ac2 C2.length cc2) chunkCells 3 C2] [Reads F (.slice aw2 Q2.length cw2) encI1 1 Q2] [Reads F (.slice am2 M2.length cm2) encMb 4 M2] [Reads F (.slice ap2 T2.length cp2) encTk 5 T2] [Reads F (.slice al2 L2.length cl2) encLaid 5 L2] hw => law49_many tk2 ac2 aw2 am2 ap2 al2 C2.length Q2.length M2.length T2.length L2.length cc2 cw2 cm2 cp2 cl2 C2 Q2 M2 T2 L2 w F hw
  by_cases h1 : (C.length : Int) > 40 ∨ (Q.length : Int) > 60 ∨ (M.length : Int) > 70 ∨ (T.length : Int) > 60 ∨ (L.length : Int) > 60
  · rw [decide_eq_true h1] at CM1
    repeat' (first | (first | (apply GL.isBox; first | refine GL.boxA (cs := st5 tk ac aw am ap al C.length Q.length M.length T.length L.length cc cw cm cp cl) rfl rfl (fun b1 => ?_) | refine GL.boxA (cs := st5 tk2 ac2 aw2 am2 ap2 al2 C2.length Q2.length M2.length T2.length L2.length cc2 cw2 cm2 cp2 cl2) rfl rfl (fun b2 => ?_)) | (apply GL.isCall; refine GL.call1 (vs := [.agg (st5 tk ac aw am ap al C.length Q.length M.length T.length L.length cc cw cm cp cl)]) rfl rfl (fun w h => CM1 w _ h) ?_) | (apply GL.isCall; refine GL.call1 rfl rfl (fun w h => hworks w _ h) ?_)) | first | (apply GL.isAny; first | refine GL.runA rfl ?_ | (apply GL.isStore; first | refine GL.storeBlk rfl rfl rfl rfl rfl ?_ | refine GL.storeWhole rfl rfl rfl rfl rfl ?_ | refine GL.storeBlkA rfl rfl rfl rfl rfl ?_) | refine GL.guardY rfl rfl ?_ | refine GL.guardN rfl rfl rfl ?_ | refine GL.guardU rfl rfl rfl ?_ | (apply GL.isBox; first | refine GL.boxA rfl rfl (fun _ => ?_) | refine GL.box1 rfl rfl rfl (fun _ => ?_) | refine GL.box rfl rfl (fun _ => ?_)) | (apply GL.isBuildS; first | refine GL.buildSlice1A rfl rfl rfl rfl rfl (fun _ => ?_) | refine GL.buildSlice1 rfl rfl rfl rfl rfl (fun _ => ?_)) | (apply GL.isCall; refine GL.append1 _ rfl rfl rfl rfl (by rfl) (by omega) (by omega) rfl (fun _ => ?_)) | (apply GL.isAlloc; refine GL.alloc rfl (fun _ => ?_))) | apply GL.nil | first | apply G.seq | apply G.region | apply G.block | apply G.skip | apply G.exit | apply G.ret | (apply G.isCond; first | refine G.condT rfl ?_ | refine G.condF rfl ?_) | refine G.draw (by kernel_rfl) (by kernel_rfl) ?_ | (apply GE.isAny; first | apply GE.again | apply GE.thenG | apply GE.blockN | apply GE.blockE | apply GE.thenE | apply GE.thenR | apply GE.blockR | refine GE.blockO rfl ?_ | apply GE.only) | (apply GD.isAny; first | refine GD.runA rfl ?_ | refine GD.guardY rfl rfl ?_ | refine GD.guardN rfl rfl rfl ?_ | refine GD.guardU rfl rfl rfl ?_) | apply GD.nilE | apply GD.nilL | (apply GT.isAny; refine GT.runA rfl rfl ?_) | ((first | (apply GL.isAny; refine GL.guard rfl rfl (fun hc => ?_) (fun hc => ?_)) | (apply G.isCond; refine G.cond rfl (fun hc => ?_) (fun hc => ?_)) | (apply GD.isAny; refine GD.guard rfl rfl (fun hc => ?_) (fun hc => ?_))) <;> ((try simp only [decide_eq_true_eq, decide_eq_false_iff_not, Bool.not_true, Bool.not_false, ne_eq, Classical.not_not, Int.not_lt, Int.not_le] at hc); (try (exfalso; first | omega | exact hc trivial | exact hc rfl)))))
    refine GE.resOne rfl (by (repeat (first | apply Res.nil | (apply Res.tmp; rfl) | (refine Res.cellA rfl rfl rfl ?_) | (refine Res.cell1 rfl rfl ?_)))) (fun w h => ?_); exact ⟨rfl, h.sub⟩
  rw [decide_eq_false h1] at CM1
  by_cases h2 : (C2.length : Int) > 40 ∨ (Q2.length : Int) > 60 ∨ (M2.length : Int) > 70 ∨ (T2.length : Int) > 60 ∨ (L2.length : Int) > 60
  · rw [decide_eq_true h2] at CM2
    repeat' (first | (first | (apply GL.isBox; first | refine GL.boxA (cs := st5 tk ac aw am ap al C.length Q.length M.length T.length L.length cc cw cm cp cl) rfl rfl (fun b1 => ?_) | refine GL.boxA (cs := st5 tk2 ac2 aw2 am2 ap2 al2 C2.length Q2.length M2.length T2.length L2.length cc2 cw2 cm2 cp2 cl2) rfl rfl (fun b2 => ?_)) | (apply GL.isCall; refine GL.call1 (vs := [.agg (st5 tk ac aw am ap al C.length Q.length M.length T.length L.length cc cw cm cp cl)]) rfl rfl (fun w h => CM1 w _ h) ?_) | (apply GL.isCall; refine GL.call1 (vs := [.agg (st5 tk2 ac2 aw2 am2 ap2 al2 C2.length Q2.length M2.length T2.length L2.length cc2 cw2 cm2 cp2 cl2)]) rfl rfl (fun w h => CM2 w _ h) ?_) | (apply GL.isCall; refine GL.call1 rfl rfl (fun w h => hworks w _ h) ?_)) | first | (apply GL.isAny; first | refine GL.runA rfl ?_ | (apply GL.isStore; first | refine GL.storeBlk rfl rfl rfl rfl rfl ?_ | refine GL.storeWhole rfl rfl rfl rfl rfl ?_ | refine GL.storeBlkA rfl rfl rfl rfl rfl ?_) | refine GL.guardY rfl rfl ?_ | refine GL.guardN rfl rfl rfl ?_ | refine GL.guardU rfl rfl rfl ?_ | (apply GL.isBox; first | refine GL.boxA rfl rfl (fun _ => ?_) | refine GL.box1 rfl rfl rfl (fun _ => ?_) | refine GL.box rfl rfl (fun _ => ?_)) | (apply GL.isBuildS; first | refine GL.buildSlice1A rfl rfl rfl rfl rfl (fun _ => ?_) | refine GL.buildSlice1 rfl rfl rfl rfl rfl (fun _ => ?_)) | (apply GL.isCall; refine GL.append1 _ rfl rfl rfl rfl (by rfl) (by omega) (by omega) rfl (fun _ => ?_)) | (apply GL.isAlloc; refine GL.alloc rfl (fun _ => ?_))) | apply GL.nil | first | apply G.seq | apply G.region | apply G.block | apply G.skip | apply G.exit | apply G.ret | (apply G.isCond; first | refine G.condT rfl ?_ | refine G.condF rfl ?_) | refine G.draw (by kernel_rfl) (by kernel_rfl) ?_ | (apply GE.isAny; first | apply GE.again | apply GE.thenG | apply GE.blockN | apply GE.blockE | apply GE.thenE | apply GE.thenR | apply GE.blockR | refine GE.blockO rfl ?_ | apply GE.only) | (apply GD.isAny; first | refine GD.runA rfl ?_ | refine GD.guardY rfl rfl ?_ | refine GD.guardN rfl rfl rfl ?_ | refine GD.guardU rfl rfl rfl ?_) | apply GD.nilE | apply GD.nilL | (apply GT.isAny; refine GT.runA rfl rfl ?_) | ((first | (apply GL.isAny; refine GL.guard rfl rfl (fun hc => ?_) (fun hc => ?_)) | (apply G.isCond; refine G.cond rfl (fun hc => ?_) (fun hc => ?_)) | (apply GD.isAny; refine GD.guard rfl rfl (fun hc => ?_) (fun hc => ?_))) <;> ((try simp only [decide_eq_true_eq, decide_eq_false_iff_not, Bool.not_true, Bool.not_false, ne_eq, Classical.not_not, Int.not_lt, Int.not_le] at hc); (try (exfalso; first | omega | exact hc trivial | exact hc rfl)))))
    refine GE.resOne rfl (by (repeat (first | apply Res.nil | (apply Res.tmp; rfl) | (refine Res.cellA rfl rfl rfl ?_) | (refine Res.cell1 rfl rfl ?_)))) (fun w h => ?_); exact ⟨rfl, h.sub⟩
  rw [decide_eq_false h2] at CM2
  have l1 := Snd.chg_len C C2 (max C.length C2.length)
  have l2 := Snd.gone_len L L2
  have D1 := fun w F [Reads F (.slice ac C.length cc) chunkCells 3 C] [Reads F (.slice ac2 C2.length cc2) chunkCells 3 C2] hw => sound_Changed tk tk2 ac aw am ap al ac2 aw2 am2 ap2 al2 Q.length M.length T.length L.length cc cw cm cp cl Q2.length M2.length T2.length L2.length cc2 cw2 cm2 cp2 cl2 C C2 (by omega) (by omega) w F hw
  have D2 := fun w F [Reads F (.slice ac C.length cc) chunkCells 3 C] [Reads F (.slice ac2 C2.length cc2) chunkCells 3 C2] hw => ref49_Changed tk tk2 ac aw am ap al ac2 aw2 am2 ap2 al2 Q.length M.length T.length L.length cc cw cm cp cl Q2.length M2.length T2.length L2.length cc2 cw2 cm2 cp2 cl2 C C2 (by omega) (by omega) w F hw
  have D3 := fun w F [Reads F (.slice ac C.length cc) chunkCells 3 C] hw => sound_Changed tk tk ac aw am ap al ac aw am ap al Q.length M.length T.length L.length cc cw cm cp cl Q.length M.length T.length L.length cc cw cm cp cl C C (by omega) (by omega) w F hw
  have E1 := fun w F [Reads F (.slice al L.length cl) encLaid 5 L] [Reads F (.slice al2 L2.length cl2) encLaid 5 L2] hw => sound_Gone tk tk2 ac aw am ap al ac2 aw2 am2 ap2 al2 C.length Q.length M.length T.length cc cw cm cp cl C2.length Q2.length M2.length T2.length cc2 cw2 cm2 cp2 cl2 L L2 (by omega) (by omega) wL wL2 w F hw
  have E2 := fun w F [Reads F (.slice al L.length cl) encLaid 5 L] [Reads F (.slice al2 L2.length cl2) encLaid 5 L2] hw => ref49_Gone tk tk2 ac aw am ap al ac2 aw2 am2 ap2 al2 C.length Q.length M.length T.length cc cw cm cp cl C2.length Q2.length M2.length T2.length cc2 cw2 cm2 cp2 cl2 L L2 (by omega) (by omega) w F hw
  have E3 := fun w F [Reads F (.slice al2 L2.length cl2) encLaid 5 L2] hw => sound_Gone tk2 tk2 ac2 aw2 am2 ap2 al2 ac2 aw2 am2 ap2 al2 C2.length Q2.length M2.length T2.length cc2 cw2 cm2 cp2 cl2 C2.length Q2.length M2.length T2.length cc2 cw2 cm2 cp2 cl2 L2 L2 (by omega) (by omega) wL2 wL2 w F hw
  have MA := fun w F [Reads F (.slice ac C.length cc) chunkCells 3 C] [Reads F (.slice aw Q.length cw) encI1 1 Q] [Reads F (.slice am M.length cm) encMb 4 M] [Reads F (.slice ap T.length cp) encTk 5 T] [Reads F (.slice al L.length cl) encLaid 5 L] hw => sound_Mark tk ac aw am ap al cc cw cm cp cl C Q M T L (by omega) (by omega) (by omega) (by omega) (by omega) w F hw
  have NA := fun w F [Reads F (.slice ac C.length cc) chunkCells 3 C] [Reads F (.slice aw Q.length cw) encI1 1 Q] [Reads F (.slice am M.length cm) encMb 4 M] [Reads F (.slice ap T.length cp) encTk 5 T] [Reads F (.slice al L.length cl) encLaid 5 L] hw => ref49_Mark tk ac aw am ap al cc cw cm cp cl C Q M T L (by omega) (by omega) (by omega) (by omega) (by omega) w F hw
  have MB := fun w F [Reads F (.slice ac2 C2.length cc2) chunkCells 3 C2] [Reads F (.slice aw2 Q2.length cw2) encI1 1 Q2] [Reads F (.slice am2 M2.length cm2) encMb 4 M2] [Reads F (.slice ap2 T2.length cp2) encTk 5 T2] [Reads F (.slice al2 L2.length cl2) encLaid 5 L2] hw => sound_Mark tk2 ac2 aw2 am2 ap2 al2 cc2 cw2 cm2 cp2 cl2 C2 Q2 M2 T2 L2 (by omega) (by omega) (by omega) (by omega) (by omega) w F hw
  have NB := fun w F [Reads F (.slice ac2 C2.length cc2) chunkCells 3 C2] [Reads F (.slice aw2 Q2.length cw2) encI1 1 Q2] [Reads F (.slice am2 M2.length cm2) encMb 4 M2] [Reads F (.slice ap2 T2.length cp2) encTk 5 T2] [Reads F (.slice al2 L2.length cl2) encLaid 5 L2] hw => ref49_Mark tk2 ac2 aw2 am2 ap2 al2 cc2 cw2 cm2 cp2 cl2 C2 Q2 M2 T2 L2 (by omega) (by omega) (by omega) (by omega) (by omega) w F hw
  rw [Snd.changed_self] at D3
  rw [Snd.gone_self] at E3
  unfold Snd.changed at D1 D2
  generalize Snd.chg C C2 (max C.length C2.length) = dd at *
  generalize Snd.gone L L2 = gg at *
  generalize Mk.ofL (Snd.lst tk C Q M T L) = m1 at *
  generalize Mk.ofL (Snd.lst tk2 C2 Q2 M2 T2 L2) = m2 at *
  have SI := fun (a b : Value) (w : World) (F : List HProp) [Reads F a encI1 1 dd] [Reads F b encI1 1 dd] (h : holds w F) => base_SameIntsT a b dd dd (by omega) (by omega) w F h
  have SL := fun (a b : Value) (w : World) (F : List HProp) [Reads F a encLaid 5 gg] [Reads F b encLaid 5 gg] (h : holds w F) => base_SameLaidT a b gg gg (by omega) (by omega) w F h
  rw [decide_eq_true rfl] at SI SL
  repeat' (first | (first | (apply GL.isBox; first | refine GL.boxA (cs := st5 tk ac aw am ap al C.length Q.length M.length T.length L.length cc cw cm cp cl) rfl rfl (fun b1 => ?_) | refine GL.boxA (cs := st5 tk2 ac2 aw2 am2 ap2 al2 C2.length Q2.length M2.length T2.length L2.length cc2 cw2 cm2 cp2 cl2) rfl rfl (fun b2 => ?_)) | (apply GL.isCall; refine GL.call1 (vs := [.agg (st5 tk ac aw am ap al C.length Q.length M.length T.length L.length cc cw cm cp cl)]) rfl rfl (fun w h => CM1 w _ h) ?_) | (apply GL.isCall; refine GL.call1 (vs := [.agg (st5 tk2 ac2 aw2 am2 ap2 al2 C2.length Q2.length M2.length T2.length L2.length cc2 cw2 cm2 cp2 cl2)]) rfl rfl (fun w h => CM2 w _ h) ?_) | (refine G.isRegion 3 ?_; refine G.drawW [⟨some 2, [], none, some 14, NU, fun u => owns 3 encI1 1 u dd⟩, ⟨some 5, [], none, some 17, NU, fun u => owns 3 encI1 1 u dd⟩, ⟨some 6, [], none, some 18, fun u => u = .bool true, fun _ _ => True⟩, ⟨some 10, [], none, some 22, NU, fun u => owns 71 encLaid 5 u gg⟩, ⟨some 13, [], none, some 25, NU, fun u => owns 71 encLaid 5 u gg⟩, ⟨some 14, [], none, some 26, fun u => u = .bool true, fun _ _ => True⟩, ⟨some 18, [], none, some 30, fun u => u = .int .i64 m1, fun _ _ => True⟩, ⟨some 20, [], none, some 32, fun u => u = .int .i64 m1, fun _ _ => True⟩, ⟨some 25, [], none, some 37, fun u => u = .int .i64 m2, fun _ _ => True⟩, ⟨some 27, [], none, some 39, fun u => u = .int .i64 m2, fun _ _ => True⟩, ⟨some 33, [], none, some 45, NU, fun u => owns 3 encI1 1 u []⟩, ⟨some 40, [], none, some 52, NU, fun u => owns 71 encLaid 5 u []⟩, ⟨some 45, [], none, some 57, fun u => u = .bool true, fun _ _ => True⟩] [(6, [0, 1]), (14, [3, 4]), (34, [10]), (41, [11])] [] [0, 1, 2, 3, 4, 5, 6, 7, 8, 9, 10, 11, 12] (by kernel_rfl) (by kernel_rfl) rfl trivial ?_) | (apply GW.isAny; refine GW.guardY rfl rfl ?_) | (apply GW.isAny; refine GW.run rfl (v := .bool true) (by apply Runs.isBin; exact Runs.eqlRefl rfl rfl) rfl ?_) | (apply GW.isAny; refine GW.eff rfl rfl rfl rfl rfl trivial rfl trivial (fun u hu => hu) (DoesW.callRow (vs := [.agg (st5 tk ac aw am ap al C.length Q.length M.length T.length L.length cc cw cm cp cl), .agg (st5 tk2 ac2 aw2 am2 ap2 al2 C2.length Q2.length M2.length T2.length L2.length cc2 cw2 cm2 cp2 cl2)]) rfl (fun w F' h => D1 w _ h)) rfl (fun ru hru => ?_)) | (apply GW.isAny; refine GW.eff rfl rfl rfl rfl rfl trivial rfl trivial (fun u hu => hu) (DoesW.callRow (vs := [.agg (st5 tk ac aw am ap al C.length Q.length M.length T.length L.length cc cw cm cp cl), .agg (st5 tk2 ac2 aw2 am2 ap2 al2 C2.length Q2.length M2.length T2.length L2.length cc2 cw2 cm2 cp2 cl2)]) rfl (fun w F' h => D2 w _ h)) rfl (fun ru hru => ?_)) | (apply GW.isAny; refine GW.eff rfl rfl rfl rfl rfl trivial rfl trivial (fun u hu => hu) (DoesW.callRow (vs := [.agg (st5 tk ac aw am ap al C.length Q.length M.length T.length L.length cc cw cm cp cl), .agg (st5 tk ac aw am ap al C.length Q.length M.length T.length L.length cc cw cm cp cl)]) rfl (fun w F' h => D3 w _ h)) rfl (fun ru hru => ?_)) | (apply GW.isAny; refine GW.eff rfl rfl rfl rfl rfl trivial rfl trivial (fun u hu => hu) (DoesW.callRow (vs := [.agg (st5 tk ac aw am ap al C.length Q.length M.length T.length L.length cc cw cm cp cl), .agg (st5 tk2 ac2 aw2 am2 ap2 al2 C2.length Q2.length M2.length T2.length L2.length cc2 cw2 cm2 cp2 cl2)]) rfl (fun w F' h => E1 w _ h)) rfl (fun ru hru => ?_)) | (apply GW.isAny; refine GW.eff rfl rfl rfl rfl rfl trivial rfl trivial (fun u hu => hu) (DoesW.callRow (vs := [.agg (st5 tk ac aw am ap al C.length Q.length M.length T.length L.length cc cw cm cp cl), .agg (st5 tk2 ac2 aw2 am2 ap2 al2 C2.length Q2.length M2.length T2.length L2.length cc2 cw2 cm2 cp2 cl2)]) rfl (fun w F' h => E2 w _ h)) rfl (fun ru hru => ?_)) | (apply GW.isAny; refine GW.eff rfl rfl rfl rfl rfl trivial rfl trivial (fun u hu => hu) (DoesW.callRow (vs := [.agg (st5 tk2 ac2 aw2 am2 ap2 al2 C2.length Q2.length M2.length T2.length L2.length cc2 cw2 cm2 cp2 cl2), .agg (st5 tk2 ac2 aw2 am2 ap2 al2 C2.length Q2.length M2.length T2.length L2.length cc2 cw2 cm2 cp2 cl2)]) rfl (fun w F' h => E3 w _ h)) rfl (fun ru hru => ?_)) | (apply GW.isAny; refine GW.eff rfl rfl rfl rfl rfl trivial rfl ⟨⟨_, rfl, .inr (.inr ⟨_, _, rfl, rfl, by assumption⟩)⟩, ⟨_, rfl, .inr (.inr ⟨_, _, rfl, rfl, by assumption⟩)⟩, trivial⟩ (fun u hu => by rw [hu]; rfl) (DoesW.callK rfl (fun w F' h => SI _ _ w _ h)) rfl (fun ru hru => ?_); subst hru) | (apply GW.isAny; refine GW.eff rfl rfl rfl rfl rfl trivial rfl ⟨⟨_, rfl, .inr (.inr ⟨_, _, rfl, rfl, by assumption⟩)⟩, ⟨_, rfl, .inr (.inr ⟨_, _, rfl, rfl, by assumption⟩)⟩, trivial⟩ (fun u hu => by rw [hu]; rfl) (DoesW.callK rfl (fun w F' h => SL _ _ w _ h)) rfl (fun ru hru => ?_); subst hru) | (apply GW.isAny; refine GW.eff rfl rfl rfl rfl rfl trivial rfl trivial (fun u hu => by rw [hu]; rfl) (DoesW.callK (vs := [.agg (st5 tk ac aw am ap al C.length Q.length M.length T.length L.length cc cw cm cp cl)]) rfl (fun w F' h => MA w _ h)) rfl (fun ru hru => ?_); subst hru) | (apply GW.isAny; refine GW.eff rfl rfl rfl rfl rfl trivial rfl trivial (fun u hu => by rw [hu]; rfl) (DoesW.callK (vs := [.agg (st5 tk ac aw am ap al C.length Q.length M.length T.length L.length cc cw cm cp cl)]) rfl (fun w F' h => NA w _ h)) rfl (fun ru hru => ?_); subst hru) | (apply GW.isAny; refine GW.eff rfl rfl rfl rfl rfl trivial rfl trivial (fun u hu => by rw [hu]; rfl) (DoesW.callK (vs := [.agg (st5 tk2 ac2 aw2 am2 ap2 al2 C2.length Q2.length M2.length T2.length L2.length cc2 cw2 cm2 cp2 cl2)]) rfl (fun w F' h => MB w _ h)) rfl (fun ru hru => ?_); subst hru) | (apply GW.isAny; refine GW.eff rfl rfl rfl rfl rfl trivial rfl trivial (fun u hu => by rw [hu]; rfl) (DoesW.callK (vs := [.agg (st5 tk2 ac2 aw2 am2 ap2 al2 C2.length Q2.length M2.length T2.length L2.length cc2 cw2 cm2 cp2 cl2)]) rfl (fun w F' h => NB w _ h)) rfl (fun ru hru => ?_); subst hru) | (apply GW.isAny; refine GW.eff rfl rfl rfl rfl rfl trivial rfl trivial (fun u hu => by rw [hu]; rfl) (DoesW.callK (vs := []) rfl (fun w F' h => hworks w _ h)) rfl (fun ru hru => ?_); subst hru) | (apply GW.isAny; refine GW.see rfl rfl ⟨⟨_, rfl, .inr (.inr ⟨_, _, rfl, rfl, by assumption⟩)⟩, trivial⟩ (by apply Runs.isBuiltin; exact Runs.lenRow rfl) rfl ?_) | (apply GW.isAny; first | refine GW.runA rfl rfl ?_ | refine GW.seeA rfl rfl ⟨⟨_, rfl, .inl rfl⟩, trivial⟩ rfl ?_) | (refine GW.nilE rfl ⟨⟨_, rfl, .inr (.inr ⟨_, _, rfl, rfl, by assumption⟩)⟩, ⟨_, rfl, .inr (.inr ⟨_, _, rfl, rfl, by assumption⟩)⟩, ⟨_, rfl, .inr (.inr ⟨_, _, rfl, rfl, rfl⟩)⟩, ⟨_, rfl, .inr (.inr ⟨_, _, rfl, rfl, by assumption⟩)⟩, ⟨_, rfl, .inr (.inr ⟨_, _, rfl, rfl, by assumption⟩)⟩, ⟨_, rfl, .inr (.inr ⟨_, _, rfl, rfl, rfl⟩)⟩, ⟨_, rfl, .inr (.inr ⟨_, _, rfl, rfl, rfl⟩)⟩, ⟨_, rfl, .inr (.inr ⟨_, _, rfl, rfl, rfl⟩)⟩, ⟨_, rfl, .inr (.inr ⟨_, _, rfl, rfl, rfl⟩)⟩, ⟨_, rfl, .inr (.inr ⟨_, _, rfl, rfl, rfl⟩)⟩, ⟨_, rfl, .inr (.inr ⟨_, _, rfl, rfl, by assumption⟩)⟩, ⟨_, rfl, .inr (.inr ⟨_, _, rfl, rfl, by assumption⟩)⟩, ⟨_, rfl, .inr (.inr ⟨_, _, rfl, rfl, rfl⟩)⟩, trivial⟩ ?_)) | first | (apply GL.isAny; first | refine GL.runA rfl ?_ | (apply GL.isStore; first | refine GL.storeBlk rfl rfl rfl rfl rfl ?_ | refine GL.storeWhole rfl rfl rfl rfl rfl ?_ | refine GL.storeBlkA rfl rfl rfl rfl rfl ?_) | refine GL.guardY rfl rfl ?_ | refine GL.guardN rfl rfl rfl ?_ | refine GL.guardU rfl rfl rfl ?_ | (apply GL.isBox; first | refine GL.boxA rfl rfl (fun _ => ?_) | refine GL.box1 rfl rfl rfl (fun _ => ?_) | refine GL.box rfl rfl (fun _ => ?_)) | (apply GL.isBuildS; first | refine GL.buildSlice1A rfl rfl rfl rfl rfl (fun _ => ?_) | refine GL.buildSlice1 rfl rfl rfl rfl rfl (fun _ => ?_)) | (apply GL.isCall; refine GL.append1 _ rfl rfl rfl rfl (by rfl) (by omega) (by omega) rfl (fun _ => ?_)) | (apply GL.isAlloc; refine GL.alloc rfl (fun _ => ?_))) | apply GL.nil | first | apply G.seq | apply G.region | apply G.block | apply G.skip | apply G.exit | apply G.ret | (apply G.isCond; first | refine G.condT rfl ?_ | refine G.condF rfl ?_) | refine G.draw (by kernel_rfl) (by kernel_rfl) ?_ | (apply GE.isAny; first | apply GE.again | apply GE.thenG | apply GE.blockN | apply GE.blockE | apply GE.thenE | apply GE.thenR | apply GE.blockR | refine GE.blockO rfl ?_ | apply GE.only) | (apply GD.isAny; first | refine GD.runA rfl ?_ | refine GD.guardY rfl rfl ?_ | refine GD.guardN rfl rfl rfl ?_ | refine GD.guardU rfl rfl rfl ?_) | apply GD.nilE | apply GD.nilL | (apply GT.isAny; refine GT.runA rfl rfl ?_) | ((first | (apply GL.isAny; refine GL.guard rfl rfl (fun hc => ?_) (fun hc => ?_)) | (apply G.isCond; refine G.cond rfl (fun hc => ?_) (fun hc => ?_)) | (apply GD.isAny; refine GD.guard rfl rfl (fun hc => ?_) (fun hc => ?_))) <;> ((try simp only [decide_eq_true_eq, decide_eq_false_iff_not, Bool.not_true, Bool.not_false, ne_eq, Classical.not_not, Int.not_lt, Int.not_le] at hc); (try (exfalso; first | omega | exact hc trivial | exact hc rfl)))))
  refine GE.resOne rfl (by (repeat (first | apply Res.nil | (apply Res.tmp; rfl) | (refine Res.cellA rfl rfl rfl ?_) | (refine Res.cell1 rfl rfl ?_)))) (fun w h => ?_)
  exact ⟨rfl, (holds_drop h).sub⟩
end
theorem reads_length {α : Type} {enc : α → List Value} {m : Nat} {a : Option Addr} {k c : Nat} {l : List α} {w : World} {F : List HProp} [h : Reads F (.slice a k c) enc m l] (hw : holds w F) : k = l.length := by
  obtain ⟨a', c', e, _⟩ := (h.at_ w hw).form
  injection e with _ e _
theorem law49_SoundMarks (tk tk2 : Int) (ac aw am ap al ac2 aw2 am2 ap2 al2 : Option Addr) (kc kw km kp kl cc cw cm cp cl kc2 kw2 km2 kp2 kl2 cc2 cw2 cm2 cp2 cl2 : Nat) (C : List ChunkM) (Q : List Int) (M : List MbM) (T : List TickM) (L : List LaidM) (C2 : List ChunkM) (Q2 : List Int) (M2 : List MbM) (T2 : List TickM) (L2 : List LaidM) (hworks : ∀ (w : World) (F : List HProp), holds w F → Ct Try.prog 7 #[] w fun e w' => e = .returned (.bool true) ∧ holds w' F) (wL : ∀ x ∈ L, x.Wf) (wL2 : ∀ x ∈ L2, x.Wf) (w : World) (F : List HProp)
    [r1 : Reads F (.slice ac kc cc) chunkCells 3 C] [r2 : Reads F (.slice aw kw cw) encI1 1 Q] [r3 : Reads F (.slice am km cm) encMb 4 M] [r4 : Reads F (.slice ap kp cp) encTk 5 T] [r5 : Reads F (.slice al kl cl) encLaid 5 L]
    [q1 : Reads F (.slice ac2 kc2 cc2) chunkCells 3 C2] [q2 : Reads F (.slice aw2 kw2 cw2) encI1 1 Q2] [q3 : Reads F (.slice am2 km2 cm2) encMb 4 M2] [q4 : Reads F (.slice ap2 kp2 cp2) encTk 5 T2] [q5 : Reads F (.slice al2 kl2 cl2) encLaid 5 L2] (hw : holds w F) :
    Ct Try.prog 4 #[.agg (st5 tk ac aw am ap al kc kw km kp kl cc cw cm cp cl), .agg (st5 tk2 ac2 aw2 am2 ap2 al2 kc2 kw2 km2 kp2 kl2 cc2 cw2 cm2 cp2 cl2)] w fun e w' => e = .returned (.bool true) ∧ holds w' F := by
  obtain rfl := reads_length (h := r1) hw
  obtain rfl := reads_length (h := r2) hw
  obtain rfl := reads_length (h := r3) hw
  obtain rfl := reads_length (h := r4) hw
  obtain rfl := reads_length (h := r5) hw
  obtain rfl := reads_length (h := q1) hw
  obtain rfl := reads_length (h := q2) hw
  obtain rfl := reads_length (h := q3) hw
  obtain rfl := reads_length (h := q4) hw
  obtain rfl := reads_length (h := q5) hw
  exact law49_SoundMarks0 tk tk2 ac aw am ap al ac2 aw2 am2 ap2 al2 cc cw cm cp cl cc2 cw2 cm2 cp2 cl2 C Q M T L C2 Q2 M2 T2 L2 hworks wL wL2 w F hw
end Go.Proofs.Ytfiggkbclldccaa
