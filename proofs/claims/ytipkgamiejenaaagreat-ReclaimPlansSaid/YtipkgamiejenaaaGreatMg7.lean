import Derived.Test.YtipkgamiejenaaaGreatMg4
import Derived.Test.YtipkgamiejenaaaGreatMg5
import Derived.Test.YtipkgamiejenaaaGreatGoMem

/- Drawn regions whose operations write to pieces of memory that others of them read: each piece is told state by state; one walk in the order of the text. Drawn regions told state by state: guards that are known, calls. Drawn regions that make rows and variables, whose shape is told. Drawn regions that append and store: slices whose form is told. -/
section
namespace Go.Proofs.YtipkgamiejenaaaGreat
open Go Go.RowKit Go.MapKept
set_option linter.unusedVariables false
set_option linter.unusedSectionVars false
set_option linter.unusedSimpArgs false

/-- A state of a piece: the operation that makes it (none: it is there at the start), the states that this operation takes, the operation that takes it away (none: it is there at the end), the slot that the state hangs on, which values the operation yields, the piece. -/
structure Wff where
  k : Option Nat
  takes : List Nat
  cons : Option Nat
  d : Option Tmp
  R : Value → Prop
  piece : Value → HProp
def wTok (e : Wff) : Tok := ⟨e.k, e.cons, (match e.k, e.d with | some _, some d => [d] | _, _ => []), fun vs => e.piece (vs.headD undef)⟩
def wffToks (E : List Wff) : List Tok := E.map wTok
def wffIdx : List Wff → Nat → Nat → Option (Nat × Wff)
  | [], _, _ => none
  | e :: E, i, k => bif (match e.k with | some j => Nat.beq j k | none => false) then some (i, e) else wffIdx E (i + 1) k
def seenBy : List (Nat × List Nat) → Nat → List Nat
  | [], _ => []
  | (j, l) :: V, k => bif Nat.beq j k then l else seenBy V k
def wffS (E : List Wff) (V : List (Nat × List Nat)) (k : Nat) : TSpec :=
  match wffIdx E 0 k with
  | none => ⟨none, [], seenBy V k, []⟩
  | some (i, e) => ⟨some e.R, e.takes, seenBy V k, [i]⟩
/-- The states of these numbers, as they are now. -/
def wffNow (E : List Wff) (env : Env) : List Nat → Option (List HProp)
  | [] => some []
  | i :: is => match E[i]?, wffNow E env is with
    | some e, some l => match e.k, e.d with
      | some _, some d => match look env d with
        | some v => some (e.piece v :: l)
        | none => none
      | _, _ => some (e.piece undef :: l)
    | _, _ => none
def wffDef (E : List Wff) (env : Env) : List Nat → Prop
  | [] => True
  | i :: is => (∃ e, E[i]? = some e ∧ (e.k = none ∨ e.d = none ∨ ∃ d v, e.d = some d ∧ look env d = some v ∧ isUndef v = false)) ∧ wffDef E env is

section
variable {P : Program} {n : Nat} {ops : Array Oper} {Q : Exit → Act → World → Prop} {env : Env} {F : List HProp} {Z : Act → Prop} {k : Nat} {rest : List Oper} {d : Tmp} {ty : TypeId} {pos : String} {aft : Array Edge} {E : List Wff} {V : List (Nat × List Nat)}
theorem wffNow_at {a : Act} (hf : Fits n a env) : ∀ (is : List Nat) (T : List HProp), wffNow E env is = some T → wffDef E env is → toksAt ops (wffToks E) a is = T
  | [], T, h, _ => by simp only [wffNow, Option.some.injEq] at h; subst h; rfl
  | i :: is, T, h, ⟨⟨e, he, hv⟩, hd⟩ => by
    unfold wffNow at h
    rw [he] at h
    cases hl : wffNow E env is with
    | none => simp [hl] at h
    | some l =>
      have ih := wffNow_at hf is l hl hd
      unfold toksAt at ih ⊢
      rw [List.flatMap_cons, ih]
      have ht : tokNo (wffToks E) i = wTok e := by
        simp [tokNo, wffToks, List.getD, he]
      rw [ht]
      rw [hl] at h
      simp only at h
      cases hk : e.k with
      | none =>
        simp only [hk] at h
        cases h
        simp [tokAt, skipped, wTok, hk]
      | some k0 =>
        cases hed : e.d with
        | none =>
          simp only [hk, hed] at h
          cases h
          have hsk : skipped ops a (wTok e) = false := by
            unfold skipped wTok
            simp only [hk, hed]
            split <;> simp
          unfold tokAt
          rw [hsk]
          simp [wTok, hk, hed]
        | some d0 =>
          rcases hv with hv | hv | ⟨d1, v, h1, h2, hu⟩
          · rw [hk] at hv; cases hv
          · rw [hed] at hv; cases hv
          rw [hed] at h1; cases h1
          simp only [hk, hed, h2] at h
          cases h
          have hs : slotOf a d0 = v := by have := hf.at_ _ _ h2; simp [slotOf, this]
          have hsk : skipped ops a (wTok e) = false := by
            unfold skipped wTok
            simp only [hk, hed]
            cases hd' : (ops[k0]?).bind (·.dst) with
            | none => rfl
            | some d' =>
              simp only
              by_cases hdd : d' = d0
              · subst hdd; rw [hs, hu]; simp
              · simp [hdd]
          unfold tokAt
          rw [hsk]
          simp [wTok, hk, hed, hs]
section
variable (P n ops E V)
structure GW (F : List HProp) (Z : Act → Prop) (k : Nat) (rest : List Oper) (env : Env) : Prop where
  out : ∀ a, Fits n a env → wpTok P ops (wffToks E) (wffS E V) F Z k rest a
end
theorem GW.nilE {last : List Nat} {T : List HProp} (hT : wffNow E env last = some T) (hd : wffDef E env last) (h : GE n .normal Q env (T ++ F)) : GW P n ops E V F (fun a' => ∀ w', holds w' (toksAt ops (wffToks E) a' last ++ F) → Q .normal a' w') k [] env :=
  ⟨fun a hf => tok_nil fun w' hw' => h a w' hf (by rw [wffNow_at hf last T hT hd] at hw'; exact hw')⟩
theorem GW.run {op : Op} {v : Value} (hi : wffIdx E 0 k = none) (hr : Runs P n env F op v) (hd : Nat.blt d n = true) (h : GW P n ops E V F Z (k + 1) rest ((d, v) :: env)) : GW P n ops E V F Z k (⟨some d, op, ty, pos, aft, none⟩ :: rest) env := ⟨fun a hf => by
  refine tok_exact (by simp [wffS, hi]) fun K hK => ?_
  rw [if_pos (by simp [Region.wanted])]
  intro w hw
  rw [hr a w _ _ _ _ _ hf hw]
  exact ⟨rfl, hK _ (h.out _ (hf.put hd v))⟩⟩
/-- An operation that reads pieces that others of the region write. -/
theorem GW.see {op : Op} {v : Value} {L : List HProp} (hi : wffIdx E 0 k = none) (hL : wffNow E env (seenBy V k) = some L) (hdef : wffDef E env (seenBy V k)) (hr : Runs P n env (L ++ F) op v) (hd : Nat.blt d n = true) (h : GW P n ops E V F Z (k + 1) rest ((d, v) :: env)) : GW P n ops E V F Z k (⟨some d, op, ty, pos, aft, none⟩ :: rest) env := ⟨fun a hf => by
  unfold wpTok TokOp
  rw [if_pos (by simp [Region.wanted])]
  have hR : (wffS E V k).R = none := by simp [wffS, hi]
  rw [hR]
  intro w F' hh
  unfold tpre at hh
  have h1 : toksAt ops (wffToks E) a (wffS E V k).takes = [] := by simp [wffS, hi, toksAt]
  have h2 : toksAt ops (wffToks E) a (wffS E V k).sees = L := by simp only [wffS, hi]; exact wffNow_at hf _ _ hL hdef
  rw [h1, h2, List.nil_append] at hh
  have h3 : holds w (L ++ F) := (show holds w ((L ++ F) ++ F') from by simpa using hh).perm_drop (.refl _)
  rw [hr a w _ _ _ _ _ hf h3]
  exact ⟨rfl, h.out _ (hf.put hd v)⟩⟩
theorem GW.runA {op : Op} {v : Value} (hi : wffIdx E 0 k = none) (hd : Nat.blt d n = true) (h : GW P n ops E V F Z (k + 1) rest ((d, v) :: env)) (hr : Runs P n env F op v := by first | (apply Runs.isMove; exact Runs.move rfl) | (apply Runs.isLoad; first | exact Runs.loadBlk rfl rfl | exact Runs.loadRow rfl (by first | omega | decide) rfl | exact Runs.loadRow0 rfl (by first | omega | decide) rfl | exact Runs.loadElem rfl (by first | omega | decide) | exact Runs.loadWhole rfl rfl | exact Runs.loadBlkA rfl rfl rfl) | (apply Runs.isFieldA; exact Runs.fieldAddr rfl) | (apply Runs.isBin; first | (apply Runs.eql <;> rfl) | (apply Runs.lss <;> rfl) | (apply Runs.neq <;> rfl) | (apply Runs.leq <;> rfl) | (apply Runs.gtr <;> rfl) | (apply Runs.geq <;> rfl) | exact Runs.add rfl rfl (by omega) | exact Runs.sub rfl rfl (by omega) | exact Runs.mul rfl rfl (by omega) | exact Runs.quo rfl rfl (by omega) | exact Runs.rem rfl rfl (by omega) | exact Runs.shr rfl rfl | exact Runs.shl rfl rfl (by omega) | exact Runs.and20 rfl rfl | exact Runs.shrU rfl rfl | exact Runs.eqlPtrNil rfl | exact Runs.neqPtrNil rfl | exact Runs.eqlMapNil rfl | exact Runs.neqMapNil rfl | exact Runs.eqlSlNil rfl | exact Runs.eqlInts rfl rfl rfl rfl | exact Runs.neqInts rfl rfl rfl rfl) | (apply Runs.isAssign; exact Runs.assign rfl) | (apply Runs.isIndexA; first | exact Runs.indexAddr rfl rfl rfl rfl (by first | omega | decide) | exact Runs.indexAddrI rfl rfl rfl (by first | omega | decide) (by first | omega | decide) | exact Runs.indexArr rfl rfl rfl (by first | omega | decide)) | (apply Runs.isPick; first | exact Runs.pickT rfl rfl | exact Runs.pickF rfl rfl) | (apply Runs.isExtract; exact Runs.extract rfl rfl) | (apply Runs.isBuiltin; first | exact Runs.lenRow rfl | exact Runs.min2 rfl rfl | exact Runs.max2 rfl rfl | exact Runs.lenMap rfl | exact Runs.lenArr rfl) | (apply Runs.isLookup; first | exact Runs.lookupI rfl rfl | exact Runs.lookupS rfl rfl (by assumption) | exact Runs.lookupN rfl rfl (by assumption) | exact Runs.lookup rfl rfl | exact Runs.lookupOk rfl rfl) | (apply Runs.isSlice; first | exact Runs.slice _ _ rfl rfl rfl rfl rfl rfl ⟨⟨(by first | omega | decide), (by first | omega | decide)⟩, .inl rfl⟩ | exact Runs.slice3 _ _ rfl rfl rfl rfl rfl rfl rfl ⟨⟨(by first | omega | decide), (by first | omega | decide)⟩, .inr rfl⟩) | (apply Runs.isConvert; exact Runs.convII rfl (by omega)) | (apply Runs.isField; first | exact Runs.fieldVal rfl rfl | exact Runs.fieldAgg rfl) | (apply Runs.isBuild; exact Runs.build rfl rfl) | (apply Runs.isIndex; first | exact Runs.indexVal rfl rfl rfl (by first | omega | decide) rfl | exact Runs.indexAgg rfl rfl rfl rfl rfl) | (apply Runs.isUn; first | exact Runs.not rfl | exact Runs.neg rfl (by omega)) | (apply Runs.isMakeFunc; exact Runs.makeFunc rfl rfl) | (apply Runs.isNilCheck; exact Runs.nilCheck rfl)) : GW P n ops E V F Z k (⟨some d, op, ty, pos, aft, none⟩ :: rest) env := GW.run hi hr hd h
theorem GW.seeA {op : Op} {v : Value} {L : List HProp} (hi : wffIdx E 0 k = none) (hL : wffNow E env (seenBy V k) = some L) (hdef : wffDef E env (seenBy V k)) (hd : Nat.blt d n = true) (h : GW P n ops E V F Z (k + 1) rest ((d, v) :: env)) (hr : Runs P n env (L ++ F) op v := by first | (apply Runs.isMove; exact Runs.move rfl) | (apply Runs.isLoad; first | exact Runs.loadBlk rfl rfl | exact Runs.loadRow rfl (by first | omega | decide) rfl | exact Runs.loadRow0 rfl (by first | omega | decide) rfl | exact Runs.loadElem rfl (by first | omega | decide) | exact Runs.loadWhole rfl rfl | exact Runs.loadBlkA rfl rfl rfl) | (apply Runs.isFieldA; exact Runs.fieldAddr rfl) | (apply Runs.isBin; first | (apply Runs.eql <;> rfl) | (apply Runs.lss <;> rfl) | (apply Runs.neq <;> rfl) | (apply Runs.leq <;> rfl) | (apply Runs.gtr <;> rfl) | (apply Runs.geq <;> rfl) | exact Runs.add rfl rfl (by omega) | exact Runs.sub rfl rfl (by omega) | exact Runs.mul rfl rfl (by omega) | exact Runs.quo rfl rfl (by omega) | exact Runs.rem rfl rfl (by omega) | exact Runs.shr rfl rfl | exact Runs.shl rfl rfl (by omega) | exact Runs.and20 rfl rfl | exact Runs.shrU rfl rfl | exact Runs.eqlPtrNil rfl | exact Runs.neqPtrNil rfl | exact Runs.eqlMapNil rfl | exact Runs.neqMapNil rfl | exact Runs.eqlSlNil rfl | exact Runs.eqlInts rfl rfl rfl rfl | exact Runs.neqInts rfl rfl rfl rfl) | (apply Runs.isAssign; exact Runs.assign rfl) | (apply Runs.isIndexA; first | exact Runs.indexAddr rfl rfl rfl rfl (by first | omega | decide) | exact Runs.indexAddrI rfl rfl rfl (by first | omega | decide) (by first | omega | decide) | exact Runs.indexArr rfl rfl rfl (by first | omega | decide)) | (apply Runs.isPick; first | exact Runs.pickT rfl rfl | exact Runs.pickF rfl rfl) | (apply Runs.isExtract; exact Runs.extract rfl rfl) | (apply Runs.isBuiltin; first | exact Runs.lenRow rfl | exact Runs.min2 rfl rfl | exact Runs.max2 rfl rfl | exact Runs.lenMap rfl | exact Runs.lenArr rfl) | (apply Runs.isLookup; first | exact Runs.lookupI rfl rfl | exact Runs.lookupS rfl rfl (by assumption) | exact Runs.lookupN rfl rfl (by assumption) | exact Runs.lookup rfl rfl | exact Runs.lookupOk rfl rfl) | (apply Runs.isSlice; first | exact Runs.slice _ _ rfl rfl rfl rfl rfl rfl ⟨⟨(by first | omega | decide), (by first | omega | decide)⟩, .inl rfl⟩ | exact Runs.slice3 _ _ rfl rfl rfl rfl rfl rfl rfl ⟨⟨(by first | omega | decide), (by first | omega | decide)⟩, .inr rfl⟩) | (apply Runs.isConvert; exact Runs.convII rfl (by omega)) | (apply Runs.isField; first | exact Runs.fieldVal rfl rfl | exact Runs.fieldAgg rfl) | (apply Runs.isBuild; exact Runs.build rfl rfl) | (apply Runs.isIndex; first | exact Runs.indexVal rfl rfl rfl (by first | omega | decide) rfl | exact Runs.indexAgg rfl rfl rfl rfl rfl) | (apply Runs.isUn; first | exact Runs.not rfl | exact Runs.neg rfl (by omega)) | (apply Runs.isMakeFunc; exact Runs.makeFunc rfl rfl) | (apply Runs.isNilCheck; exact Runs.nilCheck rfl)) : GW P n ops E V F Z k (⟨some d, op, ty, pos, aft, none⟩ :: rest) env := GW.see hi hL hdef hr hd h
/-- What an operation does to the pieces T, seeing the pieces L, beside whatever else. -/
structure DoesW (P : Program) (n : Nat) (env : Env) (F T L : List HProp) (op : Op) (R : Value → Prop) (piece : Value → HProp) : Prop where
  out : ∀ a w F' ty pos aft g d, Fits n a env → holds w (T ++ (L ++ (F ++ F'))) → looseUpon P (fun u w' => R u ∧ holds w' (piece u :: (L ++ (F ++ F')))) ((execOp a.eval ⟨d, op, ty, pos, aft, g⟩).run P w)
/-- A store: nothing is yielded. -/
theorem GW.store {op : Op} {i : Nat} {e : Wff} {T L : List HProp} (hi : wffIdx E 0 k = some (i, e)) (hE : E[i]? = some e) (hek : e.k = some k) (hed : e.d = none) (hT : wffNow E env e.takes = some T) (hdef : wffDef E env e.takes) (hL : wffNow E env (seenBy V k) = some L) (hdefL : wffDef E env (seenBy V k)) (hR : e.R = fun _ => True) (hD : DoesW P n env F T L op (fun _ => True) (fun _ => e.piece undef))
    (h : GW P n ops E V F Z (k + 1) rest env) : GW P n ops E V F Z k (⟨none, op, ty, pos, aft, none⟩ :: rest) env := ⟨fun a hf => by
  refine tok_op (R := fun _ => True) T L (fun u => [e.piece undef]) ?_ ?_ ?_ rfl (fun u hu => ?_) (fun w F' hw => ?_) (fun u hu => h.out _ (hf.put0 u))
  · simp only [wffS, hi]; exact wffNow_at hf _ _ hT hdef
  · simp only [wffS, hi]; exact wffNow_at hf _ _ hL hdefL
  · simp only [wffS, hi, hR]
  · simp only [wffS, hi]
    refine wffNow_at (hf.put0 u) [i] [e.piece undef] ?_ ⟨⟨e, hE, .inr (.inl hed)⟩, trivial⟩
    simp [wffNow, hE, hek, hed]
  · have := hD.out a w F' ty pos aft none none hf (by simpa using hw)
    simpa using this⟩
theorem GW.eff {op : Op} {i : Nat} {e : Wff} {T L : List HProp} (hi : wffIdx E 0 k = some (i, e)) (hE : E[i]? = some e) (hek : e.k = some k) (hed : e.d = some d) (hT : wffNow E env e.takes = some T) (hdef : wffDef E env e.takes) (hL : wffNow E env (seenBy V k) = some L) (hdefL : wffDef E env (seenBy V k)) (hU : ∀ u, e.R u → isUndef u = false) (hD : DoesW P n env F T L op e.R e.piece) (hd : Nat.blt d n = true)
    (h : ∀ u, e.R u → GW P n ops E V F Z (k + 1) rest ((d, u) :: env)) : GW P n ops E V F Z k (⟨some d, op, ty, pos, aft, none⟩ :: rest) env := ⟨fun a hf => by
  refine tok_op (R := e.R) T L (fun u => [e.piece u]) ?_ ?_ ?_ rfl (fun u hu => ?_) (fun w F' hw => ?_) (fun u hu => (h u hu).out _ (hf.put hd u))
  · simp only [wffS, hi]; exact wffNow_at hf _ _ hT hdef
  · simp only [wffS, hi]; exact wffNow_at hf _ _ hL hdefL
  · simp only [wffS, hi]
  · simp only [wffS, hi]
    refine wffNow_at (hf.put hd u) [i] [e.piece u] ?_ ⟨⟨e, hE, .inr (.inr ⟨d, u, hed, by rw [look_cons, if_pos rfl], hU u hu⟩)⟩, trivial⟩
    simp [wffNow, hE, hek, hed, look_cons]
  · have := hD.out a w F' ty pos aft none (some d) hf (by simpa using hw)
    simpa using this⟩
theorem G.drawW {id : Nat} {l : List Oper} {S B : List HProp} (E : List Wff) (V : List (Nat × List Nat)) (start last : List Nat) (hm : P.follows .mixedOrders = true)
    (hB : (tokB l.toArray (wffToks E) (wffS E V) .any && (((List.range (wffToks E).length).filter (fun i => (tokNo (wffToks E) i).prod.isNone) == start) && ((List.range (wffToks E).length).filter (fun i => (tokNo (wffToks E) i).cons.isNone) == last))) = true)
    (hS : wffNow E env start = some S) (hd : wffDef E env start) [ht : Takes F S B]
    (h : GW P n l.toArray E V B (fun a' => ∀ w', holds w' (toksAt l.toArray (wffToks E) a' last ++ B) → Q .normal a' w') 0 l env) : G P n (.region id l.toArray true) Q env F := .mk fun a w hf hw =>
  wp_region_tok (wffToks E) (wffS E V) B start last hm hB (by rw [wffNow_at hf start S hS hd]; exact hw.perm ht.perm) (h.out a hf)
/-- A drawn region whose operations from m on come up in the text's order, where some more that do not touch each other are thought in order (ex). -/
theorem G.drawTailX {id : Nat} {l l1 l2 : List Oper} (m : Nat) (ex : List (Nat × Nat)) (hm : P.follows .mixedOrders = true) (h1 : l.take m = l1) (h2 : l.drop m = l2)
    (hB : ((Region.lexTailB .any (moreOps ex l.toArray) m && looseB (moreOps ex l.toArray) .any) && (moresB .any ex l.toArray && (([] : List Nat).isSublist (List.range m) && ([] : List Nat).all fun k => Region.waitsFor .any (moreOps ex l.toArray) m k))) = true)
    (h : GD P n l.toArray F (fun a' => ∀ w', holds w' F → wpList P l.toArray (onlyN Q) l2 a' w') 0 l1 env) : G P n (.region id l.toArray true) Q env F := .mk fun a w hf hw => by
  subst h1 h2
  obtain ⟨S, _, h1⟩ := h.out
  exact wp_region_tail m ex [] S F hm hB hw (h1 a hf)
theorem GW.isAny {o : Oper} (h : GW P n ops E V F Z k (o :: rest) env) : GW P n ops E V F Z k (o :: rest) env := h
/-! ### What operations do -/
theorem run_storeVar_sl {w : World} {l : List HProp} {b off : Nat} {c : Array Value} {T t : TypeId} {val : Value} (hsz : (P.info? t).map (·.size) = some val.cells.size) (h1 : ∀ u ∈ val.cells.toList, u.oneCell' = true)
    (h : holds w (blk b (.cells c T (0, 0)) :: l)) (hoff : off + val.cells.size ≤ c.size) :
    ∃ w', (storeVar t ⟨b, off, none⟩ val).run P w = .ok () w' ∧ holds w' (blk b (.cells (c.toList.take off ++ val.cells.toList ++ c.toList.drop (off + val.cells.size)).toArray T (0, 0)) :: l) := by
  have hr := run_storeCells_at (P := P) b off T val.cells.toList 0 c w h.get_blk (by simpa using hoff) h1
  refine ⟨w.setRow b (c.toList.take off ++ val.cells.toList ++ c.toList.drop (off + val.cells.size)).toArray, ?_, ?_⟩
  · cases hq : P.info? t with
    | none => simp [hq] at hsz
    | some i =>
      have hs : i.size = val.cells.size := by simpa [hq] using hsz
      simp [storeVar, sizeOf, typeInfo, hq, hs]
      simpa using hr
  · exact h.turn (w' := w.setRow b (c.toList.take off ++ val.cells.toList ++ c.toList.drop (off + val.cells.size)).toArray) ⟨rfl, rfl, rfl, by simp, fun k _ hk => setRow_other w b k _ (fun e => hk (by simp [e]))⟩ (setRow_heap w b c _ T _ h.get_blk)
/-- A store of one cell into a block. -/
theorem DoesW.storeBlk {t T : TypeId} {x y : Operand} {b o : Nat} {c c' : Array Value} {u : Value} {L : List HProp} {R : Value → Prop} (hx : opnd env x = some (.pointer (some ⟨b, o, none⟩))) (hy : opnd env y = some u) [ht : CellT P t] (hc : u.cells = #[u]) (h1 : u.oneCell' = true) (ho : Nat.blt o c.size = true) (hs : (c.toList.set o u).toArray = c') :
    DoesW P n env F [blk b (.cells c T (0, 0))] L (.store t x y) (fun _ => True) (fun _ => blk b (.cells c' T (0, 0))) := ⟨fun a w F' ty pos aft g d hf hw => by
  subst hs
  obtain ⟨i, ds, g1, g2, g3, g4⟩ := ht.ok
  have ho : o < c.size := by simpa [Nat.blt_eq] using ho
  obtain ⟨w', hr, hh⟩ := run_storeVar_sl (P := P) (t := t) (val := u) (off := o) (by simp [g1, g2, hc]) (by simpa [hc] using h1) (show holds w (blk b (.cells c T (0, 0)) :: (L ++ (F ++ F'))) from by simpa using hw) (by simp [hc]; omega)
  simp [execOp, hf.eval hx, hf.eval hy, Instr.storeAt, Instr.sureAddr, hr, Result.andThen, looseUpon]
  have : (c.toList.take o ++ u.cells.toList ++ c.toList.drop (o + u.cells.size)) = c.toList.set o u := by
    simp only [hc, List.size_toArray, List.length_singleton]
    rw [List.set_eq_take_append_cons_drop, if_pos (by simpa using ho)]
    simp
  rw [this] at hh
  exact hh⟩
def stampV : Value → Nat
  | .tuple t => match t.toList with
    | [_, Value.int _ s] => s.toNat
    | _ => 0
  | _ => 0
def IsEntry (v : Value) : Prop := ∃ (u : Value) (s : Nat), v = Value.tuple #[u, Value.int .i64 (s : Int)]
theorem IsEntry.defd {v : Value} (h : IsEntry v) : isUndef v = false := by obtain ⟨u, s, rfl⟩ := h; rfl
end
end Go.Proofs.YtipkgamiejenaaaGreat
end
section
namespace Go.Proofs.YtipkgamiejenaaaGreat
open Go Go.RowKit Go.MapKept
set_option linter.unusedVariables false
set_option linter.unusedSectionVars false
set_option linter.unusedSimpArgs false

section
variable {P : Program} {n : Nat} {ops : Array Oper} {Q : Exit → Act → World → Prop} {env : Env} {F : List HProp} {Z : Act → Prop} {k : Nat} {rest : List Oper} {d : Tmp} {ty : TypeId} {pos : String} {aft : Array Edge} {E : List Wff} {V : List (Nat × List Nat)}
theorem GW.guardY {op : Op} {dst : Option Tmp} {j : Nat} {want : Bool} {dj : Tmp} (hj : (ops[j]?).bind (·.dst) = some dj) (hb : look env dj = some (.bool want)) (h : GW P n ops E V F Z k (⟨dst, op, ty, pos, aft, none⟩ :: rest) env) :
    GW P n ops E V F Z k (⟨dst, op, ty, pos, aft, some (j, want)⟩ :: rest) env := ⟨fun a hf => by
  have h1 := h.out a hf
  have hyl : yielded ops a.tmps j = some want := by
    have := hf.at_ _ _ hb
    unfold yielded; rw [hj, Option.bind_some, this]
  unfold wpTok at h1 ⊢
  simp only [Region.wanted, hyl, beq_self_eq_true, if_true] at h1 ⊢
  exact h1⟩
/-- A call of one value that keeps what it sees. -/
theorem DoesW.callK {L : List HProp} {f : FuncId} {xs : List Operand} {ts : Array TypeId} {vs : List Value} {v : Value} [ho : Own P f] (hx : opnds env xs = some vs)
    (hc : ∀ w F', holds w (L ++ (F ++ F')) → Ct P f vs.toArray w fun e w' => e = .returned v ∧ holds w' (L ++ (F ++ F'))) :
    DoesW P n env F [] L (.call { callee := .value (.func f), args := xs.toArray, argTypes := ts }) (fun u => u = v) (fun _ _ => True) := ⟨fun a w F' ty pos aft g d hf hw => by
  have hr : (execOp a.eval ⟨d, .call { callee := .value (.func f), args := xs.toArray, argTypes := ts }, ty, pos, aft, g⟩).run P w = .ok (.enter f vs.toArray) w := by
    simp [execOp, resolve, Act.eval, Deferred.ofValue, invoke, hf.evals hx, Result.andThen]
    exact ho.run _ _
  rw [hr]
  refine (hc w F' (by simpa using hw)).out.mono fun e w' ⟨he, hh⟩ => ⟨v, he, rfl, ?_⟩
  have h1 := (holds_sep (l := []) (m := L ++ (F ++ F'))).2 hh
  exact h1.mono (B := fun _ => True) fun _ _ => trivial⟩
/-- A slice of one, built there. -/
theorem DoesW.build1 {α : Type} {t e : TypeId} {size bytes m : Nat} {z v : Value} {x : Operand} {enc : α → List Value} (y : α) [ht : SliceT P t e size] [hz : ZeroT P e z size bytes] [he : Enc enc m] (hm : m = size) (hsz : size ≤ 16777216) (hx : opnd env x = some v) (hv : v.cells.toList = enc y) :
    DoesW P n env F [] [] (.buildSlice t 1 #[(0, x)]) NU (fun u => owns e enc m u [y]) := ⟨fun a w F' ty pos aft g d hf hw => by
  have h1 := (Does.build1 (P := P) (n := n) (env := env) (F := F) (enc := enc) (m := m) (t := t) (x := x) y hm hsz hx hv).out a w F' ty pos aft g d hf hw
  exact h1⟩
end
end Go.Proofs.YtipkgamiejenaaaGreat
end
section
namespace Go.Proofs.YtipkgamiejenaaaGreat
open Go Go.RowKit Go.MapKept
set_option linter.unusedVariables false
set_option linter.unusedSectionVars false
set_option linter.unusedSimpArgs false

def IsSl (a b : Nat) (u : Value) : Prop := ∃ g, u = .slice (some ⟨g, 0, none⟩) a b
theorem IsSl.defd {a b : Nat} {u : Value} (h : IsSl a b u) : isUndef u = false := by obtain ⟨g, rfl⟩ := h; rfl
def IsPt (u : Value) : Prop := ∃ g, u = .pointer (some ⟨g, 0, none⟩)
theorem IsPt.defd {u : Value} (h : IsPt u) : isUndef u = false := by obtain ⟨g, rfl⟩ := h; rfl
/-- The block of a pointer. -/
def ptB : Value → Nat
  | .pointer (some a) => a.block
  | _ => 0
section
variable {P : Program} {n : Nat} {env : Env} {F : List HProp} {ops : Array Oper} {Q : Exit → Act → World → Prop} {Z : Act → Prop} {k : Nat} {rest : List Oper} {d : Tmp} {ty : TypeId} {pos : String} {aft : Array Edge} {E : List Wff} {V : List (Nat × List Nat)}
theorem DoesW.makeSl {α : Type} {m : Nat} {t e : TypeId} {x y : Operand} {size bytes : Nat} {z : Value} {i c : Int} {L : List HProp} (enc : α → List Value) [he : Enc enc m] (z0 : α) (a b : Nat) [ht : SliceT P t e size] [hz : ZeroT P e z m bytes] (hz0 : z.cells.toList = enc z0) (hx : opnd env x = some (.int .i64 i)) (hy : opnd env y = some (.int .i64 c)) (hi : i = (a : Int)) (hc : c = (b : Int)) (hab : a ≤ b) (hb : bytes * b ≤ 281474976710656) (h63 : b ≤ maxLen) :
    DoesW P n env F [] L (.makeSlice t x y) (IsSl a b) (fun u => owns e enc m u (List.replicate a z0)) := ⟨fun ac w F' ty pos aft g d hf hw => by
  subst hi hc
  obtain ⟨it, g1, g2, g3⟩ := ht.ok
  obtain ⟨iz, k1, k2, k3, k4, k5⟩ := hz.ok
  have hb' : (iz.bytes : Int) * (b : Int) ≤ 281474976710656 := by
    rw [k4]
    have h1 : ((bytes * b : Nat) : Int) ≤ 281474976710656 := by omega
    rwa [Int.natCast_mul] at h1
  have h63' : (b : Int) ≤ 9223372036854775807 := by
    have h1 := h63
    simp [maxLen] at h1
    omega
  obtain ⟨hr, hh⟩ := run_make_sl (P := P) (t := t) (e := e) (size := m) g1 k1 k2 k3 hw .i64 .i64 (x := a) (c := b) (by omega) (by omega) hb' h63'
  simp only [Int.toNat_natCast] at hr hh
  simp only [execOp, hf.eval hx, hf.eval hy, Sem.run_bind, Sem.run_pure, hr, Result.andThen_ok, looseUpon]
  refine ⟨⟨_, rfl⟩, ?_⟩
  rw [made_flat z0 hz0 a b hab] at hh
  have e1 : owns e enc m (.slice (some ⟨w.heap.size, 0, none⟩) a b) (List.replicate a z0) = ownRow e m (.slice (some ⟨w.heap.size, 0, none⟩) a b) a ((List.replicate a z0).flatMap enc) := by
    unfold owns; rw [List.length_replicate]
  rw [e1]; simpa using hh⟩
theorem DoesW.alloc {e : TypeId} {z : Value} {size bytes : Nat} {L : List HProp} [hz : ZeroT P e z size bytes] : DoesW P n env F [] L (.alloc e) IsPt (fun u => blk (ptB u) (.cells z.cells e (0, 0))) := ⟨fun ac w F' ty pos aft g d hf hw => by
  obtain ⟨i, h1, h2, _⟩ := hz.ok
  have hr : (execOp ac.eval ⟨d, .alloc e, ty, pos, aft, g⟩).run P w = .ok (.value (.pointer (some ⟨w.heap.size, 0, none⟩))) (w.alloc (.cells z.cells e (0, 0))) := by
    simp [execOp, Instr.alloc, zeroValue, typeInfo, h1, h2, newVar, newRow, run_newObj, Result.andThen]
  rw [hr]
  exact ⟨⟨_, rfl⟩, by simpa [ptB] using hw.alloc (.cells z.cells e (0, 0))⟩⟩
/-- A store whose new state hangs on a slot that is known. -/
theorem GW.storeOn {op : Op} {i : Nat} {e : Wff} {d7 : Tmp} {v7 : Value} {T L : List HProp} (hi : wffIdx E 0 k = some (i, e)) (hE : E[i]? = some e) (hek : e.k = some k) (hed : e.d = some d7) (h7 : look env d7 = some v7) (hu7 : isUndef v7 = false) (hT : wffNow E env e.takes = some T) (hdef : wffDef E env e.takes) (hL : wffNow E env (seenBy V k) = some L) (hdefL : wffDef E env (seenBy V k)) (hR : e.R = fun _ => True) (hD : DoesW P n env F T L op (fun _ => True) (fun _ => e.piece v7))
    (h : GW P n ops E V F Z (k + 1) rest env) : GW P n ops E V F Z k (⟨none, op, ty, pos, aft, none⟩ :: rest) env := ⟨fun a hf => by
  refine tok_op (R := fun _ => True) T L (fun u => [e.piece v7]) ?_ ?_ ?_ rfl (fun u hu => ?_) (fun w F' hw => ?_) (fun u hu => h.out _ (hf.put0 u))
  · simp only [wffS, hi]; exact wffNow_at hf _ _ hT hdef
  · simp only [wffS, hi]; exact wffNow_at hf _ _ hL hdefL
  · simp only [wffS, hi, hR]
  · simp only [wffS, hi]
    refine wffNow_at (hf.put0 u) [i] [e.piece v7] ?_ ⟨⟨e, hE, .inr (.inr ⟨d7, v7, hed, h7, hu7⟩)⟩, trivial⟩
    simp [wffNow, hE, hek, hed, h7]
  · have := hD.out a w F' ty pos aft none none hf (by simpa using hw)
    simpa using this⟩
end
end Go.Proofs.YtipkgamiejenaaaGreat
end
section
namespace Go.Proofs.YtipkgamiejenaaaGreat
open Go Go.RowKit Go.MapKept
set_option linter.unusedVariables false
set_option linter.unusedSectionVars false
set_option linter.unusedSimpArgs false

def IsSlc (u : Value) : Prop := ∃ a k c, u = .slice a k c
theorem IsSlc.defd {u : Value} (h : IsSlc u) : isUndef u = false := by obtain ⟨_, _, _, rfl⟩ := h; rfl
theorem owns_isSlc {α : Type} {T : TypeId} {enc : α → List Value} {m : Nat} {v : Value} {l : List α} {w : World} {G : List HProp} (h : holds w (owns T enc m v l :: G)) : IsSlc v := by
  rcases (holds.open_own h).2 with ⟨rfl, _⟩ | ⟨g, cap, cur, rfl, _⟩ <;> exact ⟨_, _, _, rfl⟩
structure SlV where
  a : Option Addr
  n : Nat
  c : Nat
@[reducible] def SlV.v (s : SlV) : Value := .slice s.a s.n s.c
theorem owns_SlV {α : Type} {T : TypeId} {enc : α → List Value} {m : Nat} {v : Value} {l : List α} {w : World} {G : List HProp} (h : holds w (owns T enc m v l :: G)) : ∃ s : SlV, v = s.v := by
  obtain ⟨a, k, c, rfl⟩ := owns_isSlc h
  exact ⟨⟨a, k, c⟩, rfl⟩
section
variable {P : Program} {n : Nat} {env : Env} {F T L : List HProp} {op : Op}
theorem DoesW.ofDoes {piece : Value → HProp} (h : Does P n env (L ++ F) T op piece) (hp : ∀ u w G, holds w (piece u :: G) → IsSlc u) : DoesW P n env F T L op IsSlc piece := ⟨fun a w F' ty pos aft g d hf hw => by
  have h1 := h.out a w F' ty pos aft g d hf (by simpa using hw)
  revert h1
  generalize (execOp a.eval ⟨d, op, ty, pos, aft, g⟩).run P w = r
  intro h1
  cases r with
  | halt x w1 => exact h1
  | ok x w1 =>
    cases x with
    | value u => exact ⟨hp _ _ _ h1.2, by simpa using h1.2⟩
    | skip => exact ⟨hp _ _ _ h1.2, by simpa using h1.2⟩
    | enter f args => exact h1.mono fun e w2 ⟨u, he, h2⟩ => ⟨u, he, hp _ _ _ h2.2, by simpa using h2.2⟩
    | _ => exact h1⟩
theorem DoesW.append {α : Type} {t e : TypeId} {size bytes m : Nat} {z v u : Value} {x y : Operand} {enc : α → List Value} {l ys : List α} [ht : SliceT P t e size] [hz : ZeroT P e z size bytes] [he : Enc enc m] (hm : m = size) (hx : opnd env x = some v) (hy : opnd env y = some u)
    (hlen : (l.length + ys.length) * bytes ≤ 140737488355328) (hl63 : l.length + ys.length ≤ 140737488355328) :
    DoesW P n env F [owns e enc m v l, owns e enc m u ys] L (.call { callee := .builtin .append, args := #[x, y], argTypes := #[t, t] }) IsSlc (fun r => owns e enc m r (l ++ ys)) :=
  .ofDoes (Does.append hm hx hy hlen hl63) fun u w G h => owns_isSlc h
theorem DoesW.buildOne {α : Type} {t e : TypeId} {size bytes m : Nat} {z v : Value} {x : Operand} {enc : α → List Value} (y : α) [ht : SliceT P t e size] [hz : ZeroT P e z size bytes] [he : Enc enc m] (hm : m = size) (hsz : size ≤ 16777216) (hx : opnd env x = some v) (hv : v.cells.toList = enc y) :
    DoesW P n env F [] L (.buildSlice t 1 #[(0, x)]) IsSlc (fun u => owns e enc m u [y]) :=
  .ofDoes (Does.build1 y hm hsz hx hv) fun u w G h => owns_isSlc h
end
end Go.Proofs.YtipkgamiejenaaaGreat
end

/- copy into the beginning of a row (in a drawn region); clear of a whole row. -/
namespace Go.Proofs.YtipkgamiejenaaaGreat
open Go Go.RowKit Go.MapKept
set_option linter.unusedVariables false
set_option linter.unusedSectionVars false
set_option linter.unusedSimpArgs false
theorem secV_whole {n m a : Nat} {hc : (0 ≤ n ∧ n ≤ n) ∧ ((none : Option Nat) = none ∨ (none : Option Nat) = some n)} (h : n ≠ 0) : secV (.slice (some ⟨a, 0, none⟩) n n) 0 n none n m hc = .slice (some ⟨a, 0, none⟩) n n := by
  simp [secV, subV, h, Addr.add]
section
variable {P : Program} {n : Nat} {Q : Exit → Act → World → Prop} {env : Env} {F L : List HProp} {ops : Array Oper} {rest : List Oper} {ty : TypeId} {pos : String} {aft : Array Edge} {α : Type} {enc : α → List Value} {m : Nat}
theorem GL.clearAll {t e T : TypeId} {x : Operand} {z : Value} {size bytes a : Nat} {l : List α} {F' : List HProp} (z0 : α) [ht : SliceT P t e size] [hz : ZeroT P e z size bytes] [he : Enc enc m] (hm : m = size) (hz0 : z.cells.toList = enc z0) (hl : l.length ≠ 0)
    (hx : opnd env x = some (.slice (some ⟨a, 0, none⟩) l.length l.length)) [hr : HasOwn F (.slice (some ⟨a, 0, none⟩) l.length l.length) T enc m l F']
    (h : GL P n ops Q rest env (owns T enc m (.slice (some ⟨a, 0, none⟩) l.length l.length) (List.replicate l.length z0) :: F')) : GL P n ops Q (⟨none, .call { callee := .builtin .clear, args := #[x], argTypes := #[t] }, ty, pos, aft, none⟩ :: rest) env F := by
  refine GL.clearEnd (lo := 0) (v := .slice (some ⟨a, 0, none⟩) l.length l.length) (l := l) z0 (hc := ⟨⟨Nat.zero_le _, Nat.le_refl _⟩, .inl rfl⟩) hm hz0 (by rw [secV_whole hl]; exact hx) ?_
  simpa using h
theorem DoesW.copyPre {t t2 e T T' : TypeId} {x y : Operand} {size : Nat} {v u : Value} {l l2 : List α} [he : Enc enc m] [ht : SliceT P t e size] (hm : m = size) (hx : opnd env x = some v) (hy : opnd env y = some u) (hl : l2.length ≤ l.length) :
    DoesW P n env F [owns T enc m v l, owns T' enc m u l2] L (.call { callee := .builtin .copy, args := #[x, y], argTypes := #[t, t2] }) (fun r => r = .int .i64 l2.length) (fun _ => owns T enc m v (l2 ++ l.drop l2.length)) := ⟨fun a w F' ty pos aft gd d hf hw0 => by
  subst hm
  obtain ⟨it, g1, g2, g3⟩ := ht.ok
  have hw1 : holds w (owns T enc m v l :: owns T' enc m u l2 :: (L ++ (F ++ F'))) := hw0
  have hmp := he.pos
  obtain ⟨hrl, au, cu, rfl, hcu, hau⟩ := hw1.tail.ownReads
  obtain ⟨hxs, hop⟩ := holds.open_own hw1
  have e1 : (execOp a.eval ⟨d, .call { callee := .builtin .copy, args := #[x, y], argTypes := #[t, t2] }, ty, pos, aft, gd⟩).run P w = ((Builtin.copy_ #[t, t2] ty #[v, .slice au l2.length cu]).run P w).andThen fun r w' => .ok (.value r) w' := by
    simp [execOp, resolve, invoke, builtin, hf.eval hx, hf.eval hy, Result.andThen]
  by_cases h0 : l2.length = 0
  · have hl2 : l2 = [] := List.eq_nil_of_length_eq_zero h0
    subst hl2
    have hv : ∃ ad cp, v = .slice ad l.length cp := by
      rcases hop with ⟨rfl, h1, _⟩ | ⟨g, cap, cur, rfl, _⟩
      · exact ⟨_, _, by rw [h1]⟩
      · exact ⟨_, _, rfl⟩
    obtain ⟨ad, cp, rfl⟩ := hv
    have hrun : (Builtin.copy_ #[t, t2] ty #[.slice ad l.length cp, .slice au ([] : List α).length cu]).run P w = .ok (.int .i64 0) w := by
      have hl0 : ∀ x : Addr, (loadCells x 0).run P w = .ok #[] w := fun x => by simpa using run_loadCells_list (P := P) w x [] (by simp)
      cases ad <;> cases au <;> simp [Builtin.copy_, run_underlying g1, Builtin.lenOf, Builtin.firstCells, sizeOf, typeInfo, g2, g3, hl0, storeCells, goInt]
    rw [e1, hrun]
    exact ⟨rfl, by simpa using (hw1.perm (List.Perm.swap _ _ _)).tail⟩
  · rcases hop with ⟨_, hl0, _⟩ | ⟨g, cap, cur, rfl, h4, h5, h6, h7, h8⟩
    · omega
    · rcases hau with h00 | ⟨b, off, rfl, hcells⟩
      · exfalso
        rcases Nat.mul_eq_zero.1 h00 with h | h <;> omega
      · have hle2 : l.length * m ≤ cap * m := Nat.mul_le_mul_right _ h4
        have hle3 : l2.length * m ≤ l.length * m := Nat.mul_le_mul_right _ hl
        have hl1 := run_loadCells_list (P := P) w ⟨b, off, none⟩ (l2.flatMap enc) (fun j u hj => by
          have hjl : j < l2.length * m := by rw [← hrl]; exact (List.getElem?_eq_some_iff.1 hj).1
          have := hcells j hjl
          rw [hj] at this
          have e2 : (⟨b, off, none⟩ : Addr).add j = ⟨b, off + j, none⟩ := by unfold Addr.add; split <;> simp_all
          rw [e2]; exact this)
        have hst := run_storeCells_at P g 0 T (l2.flatMap enc) 0 cur w h8.get_blk (by rw [hrl]; omega) (fun u hu => by
          obtain ⟨a, _, ha⟩ := List.mem_flatMap.1 hu
          exact he.one a u ha)
        rw [hrl] at hl1
        have hmin : l2.length.min l.length = l2.length := Nat.min_eq_left hl
        have hrun : (Builtin.copy_ #[t, t2] ty #[.slice (some ⟨g, 0, none⟩) l.length cap, .slice (some ⟨b, off, none⟩) l2.length cu]).run P w = .ok (.int .i64 l2.length) (w.setRow g (cur.toList.take (0 + 0) ++ l2.flatMap enc ++ cur.toList.drop (0 + 0 + (l2.flatMap enc).length)).toArray) := by
          simp [Builtin.copy_, run_underlying g1, Builtin.lenOf, Builtin.firstCells, sizeOf, typeInfo, g2, g3, hmin, hl1, hst, goInt]
        rw [e1, hrun]
        refine ⟨rfl, ?_⟩
        have hsize : (cur.toList.take (0 + 0) ++ l2.flatMap enc ++ cur.toList.drop (0 + 0 + (l2.flatMap enc).length)).toArray.size = cap * m := by
          simp only [List.size_toArray, List.length_append, List.length_take, List.length_drop, Array.length_toList, h6, hrl]
          omega
        have h9 := h8.turn (w' := w.setRow g (cur.toList.take (0 + 0) ++ l2.flatMap enc ++ cur.toList.drop (0 + 0 + (l2.flatMap enc).length)).toArray) ⟨rfl, rfl, rfl, by simp, fun k _ hk => setRow_other w g k _ (fun e => hk (by simp [e]))⟩ (setRow_heap w g cur _ T _ h8.get_blk)
        have h10 := h9.mkRow (size := m) (n := l.length) h4 h5 hsize
        have h11 : (cur.toList.take (0 + 0) ++ l2.flatMap enc ++ cur.toList.drop (0 + 0 + (l2.flatMap enc).length)).toArray.toList.take (l.length * m) = (l2 ++ l.drop l2.length).flatMap enc := by
          simp only [Nat.add_zero, List.take_zero, List.nil_append, Nat.zero_add]
          rw [List.flatMap_append, List.take_append, List.take_of_length_le (by rw [hrl]; omega)]
          congr 1
          rw [hrl, List.take_drop, show l2.length * m + (l.length * m - l2.length * m) = l.length * m by omega, h7, ← Enc.flat_drop]
        rw [h11] at h10
        have hlen : (l2 ++ l.drop l2.length).length = l.length := by simp; omega
        have e1 : owns T enc m (.slice (some ⟨g, 0, none⟩) l.length cap) (l2 ++ l.drop l2.length) = ownRow T m (.slice (some ⟨g, 0, none⟩) l.length cap) l.length ((l2 ++ l.drop l2.length).flatMap enc) := by unfold owns; rw [hlen]
        rw [e1]
        exact (h10.perm (List.Perm.swap _ _ _)).tail⟩
end
end Go.Proofs.YtipkgamiejenaaaGreat

/- Drawn regions: a call that takes a piece and makes another; a store of a whole struct. -/
namespace Go.Proofs.YtipkgamiejenaaaGreat
open Go Go.RowKit Go.MapKept
set_option linter.unusedVariables false
set_option linter.unusedSectionVars false
set_option linter.unusedSimpArgs false
section
variable {P : Program} {n : Nat} {env : Env} {F : List HProp}
theorem DoesW.callPc {L : List HProp} {f : FuncId} {xs : List Operand} {ts : Array TypeId} {vs : List Value} {v : Value} {X Y : HProp} [ho : Own P f] (hx : opnds env xs = some vs)
    (hc : ∀ w G, holds w (X :: G) → Ct P f vs.toArray w fun e w' => e = .returned v ∧ holds w' (Y :: G)) :
    DoesW P n env F [X] L (.call { callee := .value (.func f), args := xs.toArray, argTypes := ts }) (fun u => u = v) (fun _ => Y) := ⟨fun a w F' ty pos aft g d hf hw => by
  have hr : (execOp a.eval ⟨d, .call { callee := .value (.func f), args := xs.toArray, argTypes := ts }, ty, pos, aft, g⟩).run P w = .ok (.enter f vs.toArray) w := by
    simp [execOp, resolve, Act.eval, Deferred.ofValue, invoke, hf.evals hx, Result.andThen]
    exact ho.run _ _
  rw [hr]
  exact (hc w (L ++ (F ++ F')) (by simpa using hw)).out.mono fun e w' ⟨he, hh⟩ => ⟨v, he, rfl, hh⟩⟩
theorem DoesW.storeWhole {L : List HProp} {t T : TypeId} {x y : Operand} {b size : Nat} {c : Array Value} {vs : Array Value} (hx : opnd env x = some (.pointer (some ⟨b, 0, none⟩))) (hy : opnd env y = some (.agg vs)) [ht : AggT P t size] (hs : Nat.beq vs.size size = true) (h1 : vs.toList.all (·.oneCell') = true) (ho : Nat.beq c.size size = true) :
    DoesW P n env F [blk b (.cells c T (0, 0))] L (.store t x y) (fun _ => True) (fun _ => blk b (.cells vs T (0, 0))) := ⟨fun a w F' ty pos aft g d hf hw => by
  obtain ⟨i, ds, g1, g2, g3, g4⟩ := ht.ok
  have hs : vs.size = size := Nat.eq_of_beq_eq_true hs
  have ho : c.size = size := Nat.eq_of_beq_eq_true ho
  obtain ⟨w', hr, hh⟩ := run_storeVar_sl (P := P) (t := t) (val := .agg vs) (off := 0) (by simp [g1, g2, hs, Value.cells]) (by have h1' := List.all_eq_true.1 h1; simpa [Value.cells] using h1') (show holds w (blk b (.cells c T (0, 0)) :: (L ++ (F ++ F'))) from by simpa using hw) (by simp [Value.cells, hs, ho])
  have e : (c.toList.take 0 ++ (Value.agg vs).cells.toList ++ c.toList.drop (0 + (Value.agg vs).cells.size)).toArray = vs := by
    simp only [Value.cells]
    rw [List.take_zero, List.nil_append, List.drop_eq_nil_of_le (by rw [Array.length_toList]; omega), List.append_nil, Array.toArray_toList]
  rw [e] at hh
  simp [execOp, hf.eval hx, hf.eval hy, Instr.storeAt, Instr.sureAddr, hr, Result.andThen, looseUpon]
  exact hh⟩
theorem DoesW.callEx {T L : List HProp} {f : FuncId} {xs : List Operand} {ts : Array TypeId} {vs : List Value} (R : Value → Prop) (pc : Value → HProp) [ho : Own P f] (hx : opnds env xs = some vs)
    (hc : ∀ w G, holds w (T ++ G) → Ct P f vs.toArray w fun e w' => ∃ u, e = .returned u ∧ R u ∧ holds w' (pc u :: G)) :
    DoesW P n env F T L (.call { callee := .value (.func f), args := xs.toArray, argTypes := ts }) R pc := ⟨fun a w F' ty pos aft g d hf hw => by
  have hr : (execOp a.eval ⟨d, .call { callee := .value (.func f), args := xs.toArray, argTypes := ts }, ty, pos, aft, g⟩).run P w = .ok (.enter f vs.toArray) w := by
    simp [execOp, resolve, Act.eval, Deferred.ofValue, invoke, hf.evals hx, Result.andThen]
    exact ho.run _ _
  rw [hr]
  exact (hc w (L ++ (F ++ F')) hw).out.mono fun e w' ⟨u, he, hR, hh⟩ => ⟨u, he, hR, hh⟩⟩
theorem DoesW.storeTake {T' L : List HProp} (pc : HProp) {t T : TypeId} {x y : Operand} {b size : Nat} {c : Array Value} {vs : Array Value} (hx : opnd env x = some (.pointer (some ⟨b, 0, none⟩))) (hy : opnd env y = some (.agg vs)) [ht : AggT P t size] (hs : Nat.beq vs.size size = true) (h1 : vs.toList.all (·.oneCell') = true) (ho : Nat.beq c.size size = true)
    (hp : ∀ w G, holds w (blk b (.cells vs T (0, 0)) :: (T' ++ G)) → holds w (pc :: G)) :
    DoesW P n env F (blk b (.cells c T (0, 0)) :: T') L (.store t x y) (fun _ => True) (fun _ => pc) := ⟨fun a w F' ty pos aft g d hf hw => by
  have h2 := (DoesW.storeWhole (P := P) (n := n) (env := env) (F := F) (L := T' ++ L) (t := t) (T := T) (c := c) (vs := vs) hx hy hs h1 ho).out a w F' ty pos aft g d hf (by simpa using hw)
  revert h2
  generalize (execOp a.eval ⟨d, .store t x y, ty, pos, aft, g⟩).run P w = r
  intro h2
  cases r with
  | halt x w1 => exact h2
  | ok x w1 =>
    cases x with
    | value u => exact ⟨trivial, hp _ _ (by simpa using h2.2)⟩
    | skip => exact ⟨trivial, hp _ _ (by simpa using h2.2)⟩
    | enter f args => exact h2.mono fun e w2 ⟨u, he, h3⟩ => ⟨u, he, trivial, hp _ _ (by simpa using h3.2)⟩
    | _ => exact h2⟩
end
section
variable {P : Program} {n : Nat} {env : Env} {F F0 : List HProp}
/-- A call that makes a piece and keeps another. -/
theorem DoesW.callP {f : FuncId} {xs : List Operand} {ts : Array TypeId} {vs : List Value} {piece : Value → HProp} (X : HProp) [hX : Has F X F0] [ho : Own P f] (hx : opnds env xs = some vs) (hP : ∀ u w G, holds w (piece u :: G) → isUndef u = false)
    (hc : ∀ w G, holds w (X :: (F0 ++ G)) → Ct P f vs.toArray w fun e w' => ∃ u, e = .returned u ∧ holds w' (piece u :: X :: (F0 ++ G))) :
    DoesW P n env F [] [] (.call { callee := .value (.func f), args := xs.toArray, argTypes := ts }) NU piece := ⟨fun a w F' ty pos aft g d hf hw => by
  have hr : (execOp a.eval ⟨d, .call { callee := .value (.func f), args := xs.toArray, argTypes := ts }, ty, pos, aft, g⟩).run P w = .ok (.enter f vs.toArray) w := by
    simp [execOp, resolve, Act.eval, Deferred.ofValue, invoke, hf.evals hx, Result.andThen]
    exact ho.run _ _
  rw [hr]
  have hp : (F ++ F').Perm (X :: (F0 ++ F')) := hX.perm.append_right F'
  refine (hc w F' ((show holds w (F ++ F') by simpa using hw).perm hp)).out.mono fun e w' ⟨u, he, hh⟩ => ⟨u, he, hP _ _ _ hh, ?_⟩
  have h2 := hh.perm (hp.symm.cons (piece u))
  simpa using h2⟩
/-- A call whose value has a form, that makes a piece and keeps another. -/
theorem DoesW.ofEx {α : Type} {f : FuncId} {xs : List Operand} {ts : Array TypeId} {vs : List Value} {piece : Value → HProp} (X : HProp) (v : α → Value) [hX : Has F X F0] [ho : Own P f] (hx : opnds env xs = some vs)
    (hc : ∀ w G, holds w (X :: (F0 ++ G)) → Ct P f vs.toArray w fun e w' => ∃ x, e = .returned (v x) ∧ holds w' (piece (v x) :: X :: (F0 ++ G))) :
    DoesW P n env F [] [] (.call { callee := .value (.func f), args := xs.toArray, argTypes := ts }) (fun u => ∃ x, u = v x) piece := ⟨fun a w F' ty pos aft g d hf hw => by
  have hr : (execOp a.eval ⟨d, .call { callee := .value (.func f), args := xs.toArray, argTypes := ts }, ty, pos, aft, g⟩).run P w = .ok (.enter f vs.toArray) w := by
    simp [execOp, resolve, Act.eval, Deferred.ofValue, invoke, hf.evals hx, Result.andThen]
    exact ho.run _ _
  rw [hr]
  have hp : (F ++ F').Perm (X :: (F0 ++ F')) := hX.perm.append_right F'
  refine (hc w F' ((show holds w (F ++ F') by simpa using hw).perm hp)).out.mono fun e w' ⟨x, he, hh⟩ => ⟨v x, he, ⟨x, rfl⟩, ?_⟩
  have h2 := hh.perm (hp.symm.cons (piece (v x)))
  simpa using h2⟩
/-- A call of one value that keeps a piece. -/
theorem DoesW.callKX {f : FuncId} {xs : List Operand} {ts : Array TypeId} {vs : List Value} {v : Value} (X : HProp) [hX : Has F X F0] [ho : Own P f] (hx : opnds env xs = some vs)
    (hc : ∀ w G, holds w (X :: (F0 ++ G)) → Ct P f vs.toArray w fun e w' => e = .returned v ∧ holds w' (X :: (F0 ++ G))) :
    DoesW P n env F [] [] (.call { callee := .value (.func f), args := xs.toArray, argTypes := ts }) (fun u => u = v) (fun _ _ => True) :=
  DoesW.callK (L := []) hx fun w F' hw => by
    have hp : (F ++ F').Perm (X :: (F0 ++ F')) := hX.perm.append_right F'
    exact (hc w F' ((show holds w (F ++ F') from hw).perm hp)).mono fun e w' ⟨he, hh⟩ => ⟨he, hh.perm hp.symm⟩
end
section
variable {P : Program} {n k d : Nat} {env : Env} {F F0 : List HProp} {ops : Array Oper} {rest : List Oper} {ty : TypeId} {pos : String} {aft : Array Edge} {Z : Act → Prop}
end
instance (priority := 400) SeesBlk.appendLg {F F2 : List HProp} {b : Nat} {c : Array Value} [h : SeesBlk F b c] : SeesBlk (F ++ F2) b c := ⟨fun w hw => h.at_ w (by obtain ⟨f, hf, hs⟩ := hw; obtain ⟨f1, f2, h1, h2, j⟩ := (sep_append F F2 f).1 hs; exact ⟨f, hf, sep_sub F f1 f j h1⟩)⟩
instance (priority := 300) SeesBlk.appendRg {F F2 : List HProp} {b : Nat} {c : Array Value} [h : SeesBlk F2 b c] : SeesBlk (F ++ F2) b c := ⟨fun w hw => h.at_ w (by obtain ⟨f, hf, hs⟩ := hw; obtain ⟨f1, f2, h1, h2, j⟩ := (sep_append F F2 f).1 hs; exact ⟨f, hf, sep_sub F2 f2 f j.symm h2⟩)⟩
theorem owns_def {α : Type} {T : TypeId} {enc : α → List Value} {m : Nat} {u : Value} {l : List α} {w : World} {G : List HProp} (h : holds w (owns T enc m u l :: G)) : isUndef u = false := owns_form h
section
variable {P : Program} {n : Nat} {env : Env} {F : List HProp}
theorem Runs.neqIF {xT yT : TypeId} {x y : Operand} {i j : Int} {kk : IntKind} (h : i = j) (hx : opnd env x = some (.int kk i)) (hy : opnd env y = some (.int kk j)) : Runs P n env F (.binOp .neq xT x y yT) (.bool false) := by
  have := Runs.neq (P := P) (n := n) (F := F) (xT := xT) (yT := yT) hx hy
  subst h
  rwa [decide_eq_false (by simp)] at this
end
end Go.Proofs.YtipkgamiejenaaaGreat

/- A call through a function value that takes a piece wherever it stands. -/
namespace Go.Proofs.YtipkgamiejenaaaGreat
open Go Go.RowKit Go.MapKept
section
variable {P : Program} {n d : Nat} {Q : Exit → Act → World → Prop} {env : Env} {F : List HProp} {ops : Array Oper} {rest : List Oper} {ty : TypeId} {pos : String} {aft : Array Edge}
theorem GL.callVH1 {x : Operand} {f : FuncId} {first captured : List Value} {xs : List Operand} {ts : Array TypeId} {vs : List Value} {v : Value} {F0 F' : List HProp} (X : HProp) [hX : Has F X F0] [ho : Own P f] (hf : opnd env x = some (.func (.func f) first.toArray captured.toArray)) (hx : opnds env xs = some vs) (hd : Nat.blt d n = true)
    (hc : ∀ w, holds w (X :: F0) → Ct P f (first ++ vs ++ captured).toArray w fun e w' => e = .returned v ∧ holds w' F') (h : GL P n ops Q rest ((d, v) :: env) F') :
    GL P n ops Q (⟨some d, .call { callee := .value x, args := xs.toArray, argTypes := ts }, ty, pos, aft, none⟩ :: rest) env F :=
  GL.callV1 hf hx hd (fun w hw => hc w (hw.perm hX.perm)) h
end
end Go.Proofs.YtipkgamiejenaaaGreat

/- Calls that take two pieces. -/
namespace Go.Proofs.YtipkgamiejenaaaGreat
open Go Go.RowKit Go.MapKept
set_option linter.unusedVariables false
set_option linter.unusedSectionVars false
set_option linter.unusedSimpArgs false
section
variable {P : Program} {n d : Nat} {Q : Exit → Act → World → Prop} {env : Env} {F : List HProp} {ops : Array Oper} {rest : List Oper} {ty : TypeId} {pos : String} {aft : Array Edge}
theorem GL.callHH1 {f : FuncId} {xs : List Operand} {ts : Array TypeId} {vs : List Value} {v : Value} {F0 F1 F' : List HProp} (X Y : HProp) [hX : Has F X F0] [hY : Has F0 Y F1] [ho : Own P f] (hx : opnds env xs = some vs) (hd : Nat.blt d n = true)
    (hc : ∀ w, holds w (X :: Y :: F1) → Ct P f vs.toArray w fun e w' => e = .returned v ∧ holds w' F') (h : GL P n ops Q rest ((d, v) :: env) F') :
    GL P n ops Q (⟨some d, .call { callee := .value (.func f), args := xs.toArray, argTypes := ts }, ty, pos, aft, none⟩ :: rest) env F :=
  GL.call1 hx hd (fun w hw => hc w (hw.perm (hX.perm.trans (hY.perm.cons X)))) h
theorem GL.callHH {f : FuncId} {xs : List Operand} {ts : Array TypeId} {vs : List Value} {α : Sort _} {v : α → Value} {F0 F1 : List HProp} {F' : α → List HProp} (X Y : HProp) [hX : Has F X F0] [hY : Has F0 Y F1] [ho : Own P f] (hx : opnds env xs = some vs) (hd : Nat.blt d n = true)
    (hc : ∀ w, holds w (X :: Y :: F1) → Ct P f vs.toArray w fun e w' => ∃ x, e = .returned (v x) ∧ holds w' (F' x)) (h : ∀ x, GL P n ops Q rest ((d, v x) :: env) (F' x)) :
    GL P n ops Q (⟨some d, .call { callee := .value (.func f), args := xs.toArray, argTypes := ts }, ty, pos, aft, none⟩ :: rest) env F :=
  GL.call hx hd (fun w hw => hc w (hw.perm (hX.perm.trans (hY.perm.cons X)))) h
end
end Go.Proofs.YtipkgamiejenaaaGreat

/- Numbers without a sign in the new road: shifts, bits, wrapping, conversions. -/
namespace Go.Proofs.YtipkgamiejenaaaGreat
open Go Go.RowKit Go.MapKept
set_option linter.unusedVariables false
set_option linter.unusedSimpArgs false
theorem wrapU (n : Int) : IntKind.u64.wrap n = n % 18446744073709551616 := by simp [IntKind.wrap, IntKind.bits, IntKind.signed]
def xorI (i j : Int) : Int := ((BitVec.ofInt 64 i ^^^ BitVec.ofInt 64 j).toNat : Nat)
def orI (i j : Int) : Int := ((BitVec.ofInt 64 i ||| BitVec.ofInt 64 j).toNat : Nat)
def andI (i j : Int) : Int := ((BitVec.ofInt 64 i &&& BitVec.ofInt 64 j).toNat : Nat)
theorem natBV_lt (v : BitVec 64) : 0 ≤ ((v.toNat : Nat) : Int) ∧ ((v.toNat : Nat) : Int) ≤ 18446744073709551615 := by have := v.isLt; omega
theorem orI_in (i j : Int) : 0 ≤ orI i j ∧ orI i j ≤ 18446744073709551615 := natBV_lt _
theorem andI_in (i j : Int) : 0 ≤ andI i j ∧ andI i j ≤ 18446744073709551615 := natBV_lt _
section
variable {P : Program} {n : Nat} {env : Env} {F : List HProp} {xT yT : TypeId} {x y : Operand} {i j s c : Int} {k : IntKind}
theorem Runs.orU (hx : opnd env x = some (.int .u64 i)) (hy : opnd env y = some (.int .u64 j)) : Runs P n env F (.binOp .or xT x y yT) (.int .u64 (orI i j)) := .mk fun a w ty pos aft g d hf hw => by
  have e : Op.intBits .or .u64 i j = pure (.int .u64 (IntKind.u64.wrap (orI i j))) := rfl
  simp only [execOp, hf.eval hx, hf.eval hy]
  have e2 : eqGuard .or xT x y (.int .u64 i) (.int .u64 j) = pure () := rfl
  have e3 : binOp .or xT (.int .u64 i) (.int .u64 j) = Op.intBits .or .u64 i j := rfl
  have h := orI_in i j
  rw [e2, e3, e, wrapU, Int.emod_eq_of_lt h.1 (by omega)]
  simp [Result.andThen]
theorem Runs.andU (hx : opnd env x = some (.int .u64 i)) (hy : opnd env y = some (.int .u64 j)) : Runs P n env F (.binOp .and xT x y yT) (.int .u64 (andI i j)) := .mk fun a w ty pos aft g d hf hw => by
  have e : Op.intBits .and .u64 i j = pure (.int .u64 (IntKind.u64.wrap (andI i j))) := rfl
  simp only [execOp, hf.eval hx, hf.eval hy]
  have e2 : eqGuard .and xT x y (.int .u64 i) (.int .u64 j) = pure () := rfl
  have e3 : binOp .and xT (.int .u64 i) (.int .u64 j) = Op.intBits .and .u64 i j := rfl
  have h := andI_in i j
  rw [e2, e3, e, wrapU, Int.emod_eq_of_lt h.1 (by omega)]
  simp [Result.andThen]
theorem Runs.addK (hx : opnd env x = some (.int k i)) (hy : opnd env y = some (.int k j)) : Runs P n env F (.binOp .add xT x y yT) (.int k (k.wrap (i + j))) := .mk fun a w ty pos aft g d hf hw => by
  simp only [execOp, hf.eval hx, hf.eval hy]
  have e2 : eqGuard .add xT x y (.int k i) (.int k j) = pure () := rfl
  have e3 : binOp .add xT (.int k i) (.int k j) = Op.intArith .add k i j := by simp [binOp]
  rw [e2, e3]
  simp [Op.intArith, Result.andThen]
theorem Runs.convW {t u : TypeId} {j k : IntKind} [ht : IntT P t j] [hu : IntT P u k] (hx : opnd env x = some (.int j i)) : Runs P n env F (.convert t u x) (.int k (k.wrap i)) := .mk fun a w ty pos aft g d hf hw => by
  simp [execOp, hf.eval hx, convert, run_underlying ht.ok, run_underlying hu.ok, Conv.intToInt, Result.andThen]
end
end Go.Proofs.YtipkgamiejenaaaGreat
