import Derived.Test.YtlcdaalalihaiaaGreatMg13
import Derived.Test.YtlcdaalalihaiaaGreatGoLH
import Derived.Test.YtlcdaalalihaiaaGreatGoMem

import Derived.Test.YtlcdaalalihaiaaGreatTypes
import Derived.Test.YtlcdaalalihaiaaGreatSepD
import Derived.Test.YtlcdaalalihaiaaGreatLooseT
import Derived.Laws.BytesArg
import Derived.Laws.IdiomStrings
import Derived.Laws.DeepStrings4
import Derived.Lib.OthersKept
import Derived.Laws.RangeString
import Derived.RangeFuncRecord
import Derived.RangeFuncBox
import Derived.Test.YtlcdaalalihaiaaGreatMg10
/- Drawn regions whose operations write to pieces of memory that others of them read: each piece is told state by state; one walk in the order of the text. Drawn regions told state by state: guards that are known, calls. Drawn regions that make rows and variables, whose shape is told. Drawn regions that append and store: slices whose form is told. -/
section
namespace Go.Proofs.YtlcdaalalihaiaaGreat
open Go Go.RowKit Go.MapKept
set_option linter.unusedVariables false
set_option linter.unusedSectionVars false
set_option linter.unusedSimpArgs false

/-- A state of a piece: the operation that makes it (none: it is there at the start), the states that this operation takes, the operation that takes it away (none: it is there at the end), the slot that the state hangs on, which values the operation yields, the piece. -/
structure Wff where
  k : Option Nat
  takes : List Nat
  cons : Option Nat
  d : Option Tmp
  R : Value → Prop
  piece : Value → HProp
def wTok (e : Wff) : Tok := ⟨e.k, e.cons, (match e.k, e.d with | some _, some d => [d] | _, _ => []), fun vs => e.piece (vs.headD undef)⟩
def wffToks (E : List Wff) : List Tok := E.map wTok
def wffIdx : List Wff → Nat → Nat → Option (Nat × Wff)
  | [], _, _ => none
  | e :: E, i, k => bif (match e.k with | some j => Nat.beq j k | none => false) then some (i, e) else wffIdx E (i + 1) k
def seenBy : List (Nat × List Nat) → Nat → List Nat
  | [], _ => []
  | (j, l) :: V, k => bif Nat.beq j k then l else seenBy V k
def wffS (E : List Wff) (V : List (Nat × List Nat)) (k : Nat) : TSpec :=
  match wffIdx E 0 k with
  | none => ⟨none, [], seenBy V k, []⟩
  | some (i, e) => ⟨some e.R, e.takes, seenBy V k, [i]⟩
/-- The states of these numbers, as they are now. -/
def wffNow (E : List Wff) (env : Env) : List Nat → Option (List HProp)
  | [] => some []
  | i :: is => match E[i]?, wffNow E env is with
    | some e, some l => match e.k, e.d with
      | some _, some d => match look env d with
        | some v => some (e.piece v :: l)
        | none => none
      | _, _ => some (e.piece undef :: l)
    | _, _ => none
def wffDef (E : List Wff) (env : Env) : List Nat → Prop
  | [] => True
  | i :: is => (∃ e, E[i]? = some e ∧ (e.k = none ∨ e.d = none ∨ ∃ d v, e.d = some d ∧ look env d = some v ∧ isUndef v = false)) ∧ wffDef E env is

section
variable {P : Program} {n : Nat} {ops : Array Oper} {Q : Exit → Act → World → Prop} {env : Env} {F : List HProp} {Z : Act → Prop} {k : Nat} {rest : List Oper} {d : Tmp} {ty : TypeId} {pos : String} {aft : Array Edge} {E : List Wff} {V : List (Nat × List Nat)}
theorem wffNow_at {a : Act} (hf : Fits n a env) : ∀ (is : List Nat) (T : List HProp), wffNow E env is = some T → wffDef E env is → toksAt ops (wffToks E) a is = T
  | [], T, h, _ => by simp only [wffNow, Option.some.injEq] at h; subst h; rfl
  | i :: is, T, h, ⟨⟨e, he, hv⟩, hd⟩ => by
    unfold wffNow at h
    rw [he] at h
    cases hl : wffNow E env is with
    | none => simp [hl] at h
    | some l =>
      have ih := wffNow_at hf is l hl hd
      unfold toksAt at ih ⊢
      rw [List.flatMap_cons, ih]
      have ht : tokNo (wffToks E) i = wTok e := by
        simp [tokNo, wffToks, List.getD, he]
      rw [ht]
      rw [hl] at h
      simp only at h
      cases hk : e.k with
      | none =>
        simp only [hk] at h
        cases h
        simp [tokAt, skipped, wTok, hk]
      | some k0 =>
        cases hed : e.d with
        | none =>
          simp only [hk, hed] at h
          cases h
          have hsk : skipped ops a (wTok e) = false := by
            unfold skipped wTok
            simp only [hk, hed]
            split <;> simp
          unfold tokAt
          rw [hsk]
          simp [wTok, hk, hed]
        | some d0 =>
          rcases hv with hv | hv | ⟨d1, v, h1, h2, hu⟩
          · rw [hk] at hv; cases hv
          · rw [hed] at hv; cases hv
          rw [hed] at h1; cases h1
          simp only [hk, hed, h2] at h
          cases h
          have hs : slotOf a d0 = v := by have := hf.at_ _ _ h2; simp [slotOf, this]
          have hsk : skipped ops a (wTok e) = false := by
            unfold skipped wTok
            simp only [hk, hed]
            cases hd' : (ops[k0]?).bind (·.dst) with
            | none => rfl
            | some d' =>
              simp only
              by_cases hdd : d' = d0
              · subst hdd; rw [hs, hu]; simp
              · simp [hdd]
          unfold tokAt
          rw [hsk]
          simp [wTok, hk, hed, hs]
section
variable (P n ops E V)
structure GW (F : List HProp) (Z : Act → Prop) (k : Nat) (rest : List Oper) (env : Env) : Prop where
  out : ∀ a, Fits n a env → wpTok P ops (wffToks E) (wffS E V) F Z k rest a
end
theorem GW.nilE {last : List Nat} {T : List HProp} (hT : wffNow E env last = some T) (hd : wffDef E env last) (h : GE n .normal Q env (T ++ F)) : GW P n ops E V F (fun a' => ∀ w', holds w' (toksAt ops (wffToks E) a' last ++ F) → Q .normal a' w') k [] env :=
  ⟨fun a hf => tok_nil fun w' hw' => h a w' hf (by rw [wffNow_at hf last T hT hd] at hw'; exact hw')⟩
theorem GW.run {op : Op} {v : Value} (hi : wffIdx E 0 k = none) (hr : Runs P n env F op v) (hd : Nat.blt d n = true) (h : GW P n ops E V F Z (k + 1) rest ((d, v) :: env)) : GW P n ops E V F Z k (⟨some d, op, ty, pos, aft, none⟩ :: rest) env := ⟨fun a hf => by
  refine tok_exact (by simp [wffS, hi]) fun K hK => ?_
  rw [if_pos (by simp [Region.wanted])]
  intro w hw
  rw [hr a w _ _ _ _ _ hf hw]
  exact ⟨rfl, hK _ (h.out _ (hf.put hd v))⟩⟩
/-- An operation that reads pieces that others of the region write. -/
theorem GW.see {op : Op} {v : Value} {L : List HProp} (hi : wffIdx E 0 k = none) (hL : wffNow E env (seenBy V k) = some L) (hdef : wffDef E env (seenBy V k)) (hr : Runs P n env (L ++ F) op v) (hd : Nat.blt d n = true) (h : GW P n ops E V F Z (k + 1) rest ((d, v) :: env)) : GW P n ops E V F Z k (⟨some d, op, ty, pos, aft, none⟩ :: rest) env := ⟨fun a hf => by
  unfold wpTok TokOp
  rw [if_pos (by simp [Region.wanted])]
  have hR : (wffS E V k).R = none := by simp [wffS, hi]
  rw [hR]
  intro w F' hh
  unfold tpre at hh
  have h1 : toksAt ops (wffToks E) a (wffS E V k).takes = [] := by simp [wffS, hi, toksAt]
  have h2 : toksAt ops (wffToks E) a (wffS E V k).sees = L := by simp only [wffS, hi]; exact wffNow_at hf _ _ hL hdef
  rw [h1, h2, List.nil_append] at hh
  have h3 : holds w (L ++ F) := (show holds w ((L ++ F) ++ F') from by simpa using hh).perm_drop (.refl _)
  rw [hr a w _ _ _ _ _ hf h3]
  exact ⟨rfl, h.out _ (hf.put hd v)⟩⟩
theorem GW.runA {op : Op} {v : Value} (hi : wffIdx E 0 k = none) (hd : Nat.blt d n = true) (h : GW P n ops E V F Z (k + 1) rest ((d, v) :: env)) (hr : Runs P n env F op v := by first | (apply Runs.isMove; exact Runs.move rfl) | (apply Runs.isLoad; first | exact Runs.loadBlk rfl rfl | exact Runs.loadRow rfl (by first | omega | decide) rfl | exact Runs.loadRow0 rfl (by first | omega | decide) rfl | exact Runs.loadElem rfl (by first | omega | decide) | exact Runs.loadWhole rfl rfl | exact Runs.loadBlkA rfl rfl rfl) | (apply Runs.isFieldA; exact Runs.fieldAddr rfl) | (apply Runs.isBin; first | (apply Runs.eql <;> rfl) | (apply Runs.lss <;> rfl) | (apply Runs.neq <;> rfl) | (apply Runs.leq <;> rfl) | (apply Runs.gtr <;> rfl) | (apply Runs.geq <;> rfl) | exact Runs.add rfl rfl (by omega) | exact Runs.sub rfl rfl (by omega) | exact Runs.mul rfl rfl (by omega) | exact Runs.quo rfl rfl (by omega) | exact Runs.rem rfl rfl (by omega) | exact Runs.shr rfl rfl | exact Runs.shl rfl rfl (by omega) | exact Runs.and20 rfl rfl | exact Runs.shrU rfl rfl | exact Runs.eqlPtrNil rfl | exact Runs.neqPtrNil rfl | exact Runs.eqlMapNil rfl | exact Runs.neqMapNil rfl | exact Runs.eqlSlNil rfl | exact Runs.eqlInts rfl rfl rfl rfl | exact Runs.neqInts rfl rfl rfl rfl) | (apply Runs.isAssign; exact Runs.assign rfl) | (apply Runs.isIndexA; first | exact Runs.indexAddr rfl rfl rfl rfl (by first | omega | decide) | exact Runs.indexAddrI rfl rfl rfl (by first | omega | decide) (by first | omega | decide) | exact Runs.indexArr rfl rfl rfl (by first | omega | decide)) | (apply Runs.isPick; first | exact Runs.pickT rfl rfl | exact Runs.pickF rfl rfl) | (apply Runs.isExtract; exact Runs.extract rfl rfl) | (apply Runs.isBuiltin; first | exact Runs.lenRow rfl | exact Runs.min2 rfl rfl | exact Runs.max2 rfl rfl | exact Runs.lenMap rfl | exact Runs.lenArr rfl) | (apply Runs.isLookup; first | exact Runs.lookupI rfl rfl | exact Runs.lookupS rfl rfl (by assumption) | exact Runs.lookupN rfl rfl (by assumption) | exact Runs.lookup rfl rfl | exact Runs.lookupOk rfl rfl) | (apply Runs.isSlice; first | exact Runs.slice _ _ rfl rfl rfl rfl rfl rfl ⟨⟨(by first | omega | decide), (by first | omega | decide)⟩, .inl rfl⟩ | exact Runs.slice3 _ _ rfl rfl rfl rfl rfl rfl rfl ⟨⟨(by first | omega | decide), (by first | omega | decide)⟩, .inr rfl⟩) | (apply Runs.isConvert; exact Runs.convII rfl (by omega)) | (apply Runs.isField; first | exact Runs.fieldVal rfl rfl | exact Runs.fieldAgg rfl) | (apply Runs.isBuild; exact Runs.build rfl rfl) | (apply Runs.isIndex; first | exact Runs.indexVal rfl rfl rfl (by first | omega | decide) rfl | exact Runs.indexAgg rfl rfl rfl rfl rfl) | (apply Runs.isUn; first | exact Runs.not rfl | exact Runs.neg rfl (by omega)) | (apply Runs.isMakeFunc; exact Runs.makeFunc rfl rfl) | (apply Runs.isNilCheck; exact Runs.nilCheck rfl)) : GW P n ops E V F Z k (⟨some d, op, ty, pos, aft, none⟩ :: rest) env := GW.run hi hr hd h
theorem GW.seeA {op : Op} {v : Value} {L : List HProp} (hi : wffIdx E 0 k = none) (hL : wffNow E env (seenBy V k) = some L) (hdef : wffDef E env (seenBy V k)) (hd : Nat.blt d n = true) (h : GW P n ops E V F Z (k + 1) rest ((d, v) :: env)) (hr : Runs P n env (L ++ F) op v := by first | (apply Runs.isMove; exact Runs.move rfl) | (apply Runs.isLoad; first | exact Runs.loadBlk rfl rfl | exact Runs.loadRow rfl (by first | omega | decide) rfl | exact Runs.loadRow0 rfl (by first | omega | decide) rfl | exact Runs.loadElem rfl (by first | omega | decide) | exact Runs.loadWhole rfl rfl | exact Runs.loadBlkA rfl rfl rfl) | (apply Runs.isFieldA; exact Runs.fieldAddr rfl) | (apply Runs.isBin; first | (apply Runs.eql <;> rfl) | (apply Runs.lss <;> rfl) | (apply Runs.neq <;> rfl) | (apply Runs.leq <;> rfl) | (apply Runs.gtr <;> rfl) | (apply Runs.geq <;> rfl) | exact Runs.add rfl rfl (by omega) | exact Runs.sub rfl rfl (by omega) | exact Runs.mul rfl rfl (by omega) | exact Runs.quo rfl rfl (by omega) | exact Runs.rem rfl rfl (by omega) | exact Runs.shr rfl rfl | exact Runs.shl rfl rfl (by omega) | exact Runs.and20 rfl rfl | exact Runs.shrU rfl rfl | exact Runs.eqlPtrNil rfl | exact Runs.neqPtrNil rfl | exact Runs.eqlMapNil rfl | exact Runs.neqMapNil rfl | exact Runs.eqlSlNil rfl | exact Runs.eqlInts rfl rfl rfl rfl | exact Runs.neqInts rfl rfl rfl rfl) | (apply Runs.isAssign; exact Runs.assign rfl) | (apply Runs.isIndexA; first | exact Runs.indexAddr rfl rfl rfl rfl (by first | omega | decide) | exact Runs.indexAddrI rfl rfl rfl (by first | omega | decide) (by first | omega | decide) | exact Runs.indexArr rfl rfl rfl (by first | omega | decide)) | (apply Runs.isPick; first | exact Runs.pickT rfl rfl | exact Runs.pickF rfl rfl) | (apply Runs.isExtract; exact Runs.extract rfl rfl) | (apply Runs.isBuiltin; first | exact Runs.lenRow rfl | exact Runs.min2 rfl rfl | exact Runs.max2 rfl rfl | exact Runs.lenMap rfl | exact Runs.lenArr rfl) | (apply Runs.isLookup; first | exact Runs.lookupI rfl rfl | exact Runs.lookupS rfl rfl (by assumption) | exact Runs.lookupN rfl rfl (by assumption) | exact Runs.lookup rfl rfl | exact Runs.lookupOk rfl rfl) | (apply Runs.isSlice; first | exact Runs.slice _ _ rfl rfl rfl rfl rfl rfl ⟨⟨(by first | omega | decide), (by first | omega | decide)⟩, .inl rfl⟩ | exact Runs.slice3 _ _ rfl rfl rfl rfl rfl rfl rfl ⟨⟨(by first | omega | decide), (by first | omega | decide)⟩, .inr rfl⟩) | (apply Runs.isConvert; exact Runs.convII rfl (by omega)) | (apply Runs.isField; first | exact Runs.fieldVal rfl rfl | exact Runs.fieldAgg rfl) | (apply Runs.isBuild; exact Runs.build rfl rfl) | (apply Runs.isIndex; first | exact Runs.indexVal rfl rfl rfl (by first | omega | decide) rfl | exact Runs.indexAgg rfl rfl rfl rfl rfl) | (apply Runs.isUn; first | exact Runs.not rfl | exact Runs.neg rfl (by omega)) | (apply Runs.isMakeFunc; exact Runs.makeFunc rfl rfl) | (apply Runs.isNilCheck; exact Runs.nilCheck rfl)) : GW P n ops E V F Z k (⟨some d, op, ty, pos, aft, none⟩ :: rest) env := GW.see hi hL hdef hr hd h
/-- What an operation does to the pieces T, seeing the pieces L, beside whatever else. -/
structure DoesW (P : Program) (n : Nat) (env : Env) (F T L : List HProp) (op : Op) (R : Value → Prop) (piece : Value → HProp) : Prop where
  out : ∀ a w F' ty pos aft g d, Fits n a env → holds w (T ++ (L ++ (F ++ F'))) → looseUpon P (fun u w' => R u ∧ holds w' (piece u :: (L ++ (F ++ F')))) ((execOp a.eval ⟨d, op, ty, pos, aft, g⟩).run P w)
/-- A store: nothing is yielded. -/
theorem GW.store {op : Op} {i : Nat} {e : Wff} {T L : List HProp} (hi : wffIdx E 0 k = some (i, e)) (hE : E[i]? = some e) (hek : e.k = some k) (hed : e.d = none) (hT : wffNow E env e.takes = some T) (hdef : wffDef E env e.takes) (hL : wffNow E env (seenBy V k) = some L) (hdefL : wffDef E env (seenBy V k)) (hR : e.R = fun _ => True) (hD : DoesW P n env F T L op (fun _ => True) (fun _ => e.piece undef))
    (h : GW P n ops E V F Z (k + 1) rest env) : GW P n ops E V F Z k (⟨none, op, ty, pos, aft, none⟩ :: rest) env := ⟨fun a hf => by
  refine tok_op (R := fun _ => True) T L (fun u => [e.piece undef]) ?_ ?_ ?_ rfl (fun u hu => ?_) (fun w F' hw => ?_) (fun u hu => h.out _ (hf.put0 u))
  · simp only [wffS, hi]; exact wffNow_at hf _ _ hT hdef
  · simp only [wffS, hi]; exact wffNow_at hf _ _ hL hdefL
  · simp only [wffS, hi, hR]
  · simp only [wffS, hi]
    refine wffNow_at (hf.put0 u) [i] [e.piece undef] ?_ ⟨⟨e, hE, .inr (.inl hed)⟩, trivial⟩
    simp [wffNow, hE, hek, hed]
  · have := hD.out a w F' ty pos aft none none hf (by simpa using hw)
    simpa using this⟩
theorem GW.eff {op : Op} {i : Nat} {e : Wff} {T L : List HProp} (hi : wffIdx E 0 k = some (i, e)) (hE : E[i]? = some e) (hek : e.k = some k) (hed : e.d = some d) (hT : wffNow E env e.takes = some T) (hdef : wffDef E env e.takes) (hL : wffNow E env (seenBy V k) = some L) (hdefL : wffDef E env (seenBy V k)) (hU : ∀ u, e.R u → isUndef u = false) (hD : DoesW P n env F T L op e.R e.piece) (hd : Nat.blt d n = true)
    (h : ∀ u, e.R u → GW P n ops E V F Z (k + 1) rest ((d, u) :: env)) : GW P n ops E V F Z k (⟨some d, op, ty, pos, aft, none⟩ :: rest) env := ⟨fun a hf => by
  refine tok_op (R := e.R) T L (fun u => [e.piece u]) ?_ ?_ ?_ rfl (fun u hu => ?_) (fun w F' hw => ?_) (fun u hu => (h u hu).out _ (hf.put hd u))
  · simp only [wffS, hi]; exact wffNow_at hf _ _ hT hdef
  · simp only [wffS, hi]; exact wffNow_at hf _ _ hL hdefL
  · simp only [wffS, hi]
  · simp only [wffS, hi]
    refine wffNow_at (hf.put hd u) [i] [e.piece u] ?_ ⟨⟨e, hE, .inr (.inr ⟨d, u, hed, by rw [look_cons, if_pos rfl], hU u hu⟩)⟩, trivial⟩
    simp [wffNow, hE, hek, hed, look_cons]
  · have := hD.out a w F' ty pos aft none (some d) hf (by simpa using hw)
    simpa using this⟩
theorem G.drawW {id : Nat} {l : List Oper} {S B : List HProp} (E : List Wff) (V : List (Nat × List Nat)) (start last : List Nat) (hm : P.follows .mixedOrders = true)
    (hB : (tokB l.toArray (wffToks E) (wffS E V) .any && (((List.range (wffToks E).length).filter (fun i => (tokNo (wffToks E) i).prod.isNone) == start) && ((List.range (wffToks E).length).filter (fun i => (tokNo (wffToks E) i).cons.isNone) == last))) = true)
    (hS : wffNow E env start = some S) (hd : wffDef E env start) [ht : Takes F S B]
    (h : GW P n l.toArray E V B (fun a' => ∀ w', holds w' (toksAt l.toArray (wffToks E) a' last ++ B) → Q .normal a' w') 0 l env) : G P n (.region id l.toArray true) Q env F := .mk fun a w hf hw =>
  wp_region_tok (wffToks E) (wffS E V) B start last hm hB (by rw [wffNow_at hf start S hS hd]; exact hw.perm ht.perm) (h.out a hf)
theorem GW.isAny {o : Oper} (h : GW P n ops E V F Z k (o :: rest) env) : GW P n ops E V F Z k (o :: rest) env := h
/-! ### What operations do -/
theorem run_storeVar_sl {w : World} {l : List HProp} {b off : Nat} {c : Array Value} {T t : TypeId} {val : Value} (hsz : (P.info? t).map (·.size) = some val.cells.size) (h1 : ∀ u ∈ val.cells.toList, u.oneCell' = true)
    (h : holds w (blk b (.cells c T (0, 0)) :: l)) (hoff : off + val.cells.size ≤ c.size) :
    ∃ w', (storeVar t ⟨b, off, none⟩ val).run P w = .ok () w' ∧ holds w' (blk b (.cells (c.toList.take off ++ val.cells.toList ++ c.toList.drop (off + val.cells.size)).toArray T (0, 0)) :: l) := by
  have hr := run_storeCells_at (P := P) b off T val.cells.toList 0 c w h.get_blk (by simpa using hoff) h1
  refine ⟨w.setRow b (c.toList.take off ++ val.cells.toList ++ c.toList.drop (off + val.cells.size)).toArray, ?_, ?_⟩
  · cases hq : P.info? t with
    | none => simp [hq] at hsz
    | some i =>
      have hs : i.size = val.cells.size := by simpa [hq] using hsz
      simp [storeVar, sizeOf, typeInfo, hq, hs]
      simpa using hr
  · exact h.turn (w' := w.setRow b (c.toList.take off ++ val.cells.toList ++ c.toList.drop (off + val.cells.size)).toArray) ⟨rfl, rfl, rfl, by simp, fun k _ hk => setRow_other w b k _ (fun e => hk (by simp [e]))⟩ (setRow_heap w b c _ T _ h.get_blk)
/-- A store of one cell into a block. -/
theorem DoesW.storeBlk {t T : TypeId} {x y : Operand} {b o : Nat} {c c' : Array Value} {u : Value} {L : List HProp} {R : Value → Prop} (hx : opnd env x = some (.pointer (some ⟨b, o, none⟩))) (hy : opnd env y = some u) [ht : CellT P t] (hc : u.cells = #[u]) (h1 : u.oneCell' = true) (ho : Nat.blt o c.size = true) (hs : (c.toList.set o u).toArray = c') :
    DoesW P n env F [blk b (.cells c T (0, 0))] L (.store t x y) (fun _ => True) (fun _ => blk b (.cells c' T (0, 0))) := ⟨fun a w F' ty pos aft g d hf hw => by
  subst hs
  obtain ⟨i, ds, g1, g2, g3, g4⟩ := ht.ok
  have ho : o < c.size := by simpa [Nat.blt_eq] using ho
  obtain ⟨w', hr, hh⟩ := run_storeVar_sl (P := P) (t := t) (val := u) (off := o) (by simp [g1, g2, hc]) (by simpa [hc] using h1) (show holds w (blk b (.cells c T (0, 0)) :: (L ++ (F ++ F'))) from by simpa using hw) (by simp [hc]; omega)
  simp [execOp, hf.eval hx, hf.eval hy, Instr.storeAt, Instr.sureAddr, hr, Result.andThen, looseUpon]
  have : (c.toList.take o ++ u.cells.toList ++ c.toList.drop (o + u.cells.size)) = c.toList.set o u := by
    simp only [hc, List.size_toArray, List.length_singleton]
    rw [List.set_eq_take_append_cons_drop, if_pos (by simpa using ho)]
    simp
  rw [this] at hh
  exact hh⟩
def stampV : Value → Nat
  | .tuple t => match t.toList with
    | [_, Value.int _ s] => s.toNat
    | _ => 0
  | _ => 0
def IsEntry (v : Value) : Prop := ∃ (u : Value) (s : Nat), v = Value.tuple #[u, Value.int .i64 (s : Int)]
theorem IsEntry.defd {v : Value} (h : IsEntry v) : isUndef v = false := by obtain ⟨u, s, rfl⟩ := h; rfl
/-- The first half of 'm[x] = y'. -/
theorem DoesW.mapEntry {β : Type} {t k e : TypeId} {x y : Operand} {b size bytes : Nat} {i : Int} {z : Value} {enc : β → Value} {m : List (Int × β)} {L : List HProp} [hm : MapT P t k e] [hk : IntT P k .i64] [hz : ZeroT P e z size bytes] (hx : opnd env x = some (.map (some b))) (hy : opnd env y = some (.int .i64 i)) :
    DoesW P n env F [imap enc b m] L (.mapEntry t x y) IsEntry (fun v => imapHole enc b m i (stampV v)) := ⟨fun a w F' ty pos aft g d hf hw => by
  obtain ⟨iz, g1, g2, _⟩ := hz.ok
  have hzr : ∀ w, (zeroValue e).run P w = .ok z w := fun w => by simp [zeroValue, typeInfo, g1, g2, Result.andThen]
  obtain ⟨u, s, w', hrun, hh⟩ := run_mapEntry_sl (P := P) hm.ok hk.ok hzr (show holds w (imap enc b m :: (L ++ (F ++ F'))) from by simpa using hw) i
  simp only [execOp, hf.eval hx, hf.eval hy, Sem.run_bind, Sem.run_pure, hrun, Result.andThen_ok, looseUpon]
  exact ⟨⟨u, s, rfl⟩, hh⟩⟩
/-- .. the second. -/
theorem DoesW.entryStore {β : Type} {t : TypeId} {x y u : Operand} {b s : Nat} {i : Int} {val : Value} {enc : β → Value} {m : List (Int × β)} {L : List HProp} (v : β) (hx : opnd env x = some (.map (some b))) (hy : opnd env y = some (.int .i64 (s : Nat))) (hu : opnd env u = some val) (hv : val = enc v) :
    DoesW P n env F [imapHole enc b m i s] L (.entryStore t x y u) (fun _ => True) (fun _ => imap enc b (alSet m i v)) := ⟨fun a w F' ty pos aft g d hf hw => by
  obtain ⟨w', hrun, hh⟩ := run_entryStore_sl (P := P) (t := t) (show holds w (imapHole enc b m i s :: (L ++ (F ++ F'))) from by simpa using hw) v
  simp only [execOp, hf.eval hx, hf.eval hy, hf.eval hu, hv, Sem.run_bind, Sem.run_pure, hrun, Result.andThen_ok, looseUpon]
  exact ⟨trivial, hh⟩⟩
end
end Go.Proofs.YtlcdaalalihaiaaGreat
end
section
namespace Go.Proofs.YtlcdaalalihaiaaGreat
open Go Go.RowKit Go.MapKept
set_option linter.unusedVariables false
set_option linter.unusedSectionVars false
set_option linter.unusedSimpArgs false

section
variable {P : Program} {n : Nat} {ops : Array Oper} {Q : Exit → Act → World → Prop} {env : Env} {F : List HProp} {Z : Act → Prop} {k : Nat} {rest : List Oper} {d : Tmp} {ty : TypeId} {pos : String} {aft : Array Edge} {E : List Wff} {V : List (Nat × List Nat)}
theorem GW.guardY {op : Op} {dst : Option Tmp} {j : Nat} {want : Bool} {dj : Tmp} (hj : (ops[j]?).bind (·.dst) = some dj) (hb : look env dj = some (.bool want)) (h : GW P n ops E V F Z k (⟨dst, op, ty, pos, aft, none⟩ :: rest) env) :
    GW P n ops E V F Z k (⟨dst, op, ty, pos, aft, some (j, want)⟩ :: rest) env := ⟨fun a hf => by
  have h1 := h.out a hf
  have hyl : yielded ops a.tmps j = some want := by
    have := hf.at_ _ _ hb
    unfold yielded; rw [hj, Option.bind_some, this]
  unfold wpTok at h1 ⊢
  simp only [Region.wanted, hyl, beq_self_eq_true, if_true] at h1 ⊢
  exact h1⟩
end
end Go.Proofs.YtlcdaalalihaiaaGreat
end
section
namespace Go.Proofs.YtlcdaalalihaiaaGreat
open Go Go.RowKit Go.MapKept
set_option linter.unusedVariables false
set_option linter.unusedSectionVars false
set_option linter.unusedSimpArgs false

def IsSl (a b : Nat) (u : Value) : Prop := ∃ g, u = .slice (some ⟨g, 0, none⟩) a b
theorem IsSl.defd {a b : Nat} {u : Value} (h : IsSl a b u) : isUndef u = false := by obtain ⟨g, rfl⟩ := h; rfl
def IsPt (u : Value) : Prop := ∃ g, u = .pointer (some ⟨g, 0, none⟩)
theorem IsPt.defd {u : Value} (h : IsPt u) : isUndef u = false := by obtain ⟨g, rfl⟩ := h; rfl
/-- The block of a pointer. -/
def ptB : Value → Nat
  | .pointer (some a) => a.block
  | _ => 0
section
variable {P : Program} {n : Nat} {env : Env} {F : List HProp} {ops : Array Oper} {Q : Exit → Act → World → Prop} {Z : Act → Prop} {k : Nat} {rest : List Oper} {d : Tmp} {ty : TypeId} {pos : String} {aft : Array Edge} {E : List Wff} {V : List (Nat × List Nat)}
theorem DoesW.makeSl {α : Type} {m : Nat} {t e : TypeId} {x y : Operand} {size bytes : Nat} {z : Value} {i c : Int} {L : List HProp} (enc : α → List Value) [he : Enc enc m] (z0 : α) (a b : Nat) [ht : SliceT P t e size] [hz : ZeroT P e z m bytes] (hz0 : z.cells.toList = enc z0) (hx : opnd env x = some (.int .i64 i)) (hy : opnd env y = some (.int .i64 c)) (hi : i = (a : Int)) (hc : c = (b : Int)) (hab : a ≤ b) (hb : bytes * b ≤ 281474976710656) (h63 : b ≤ maxLen) :
    DoesW P n env F [] L (.makeSlice t x y) (IsSl a b) (fun u => owns e enc m u (List.replicate a z0)) := ⟨fun ac w F' ty pos aft g d hf hw => by
  subst hi hc
  obtain ⟨it, g1, g2, g3⟩ := ht.ok
  obtain ⟨iz, k1, k2, k3, k4, k5⟩ := hz.ok
  have hb' : (iz.bytes : Int) * (b : Int) ≤ 281474976710656 := by
    rw [k4]
    have h1 : ((bytes * b : Nat) : Int) ≤ 281474976710656 := by omega
    rwa [Int.natCast_mul] at h1
  have h63' : (b : Int) ≤ 9223372036854775807 := by
    have h1 := h63
    simp [maxLen] at h1
    omega
  obtain ⟨hr, hh⟩ := run_make_sl (P := P) (t := t) (e := e) (size := m) g1 k1 k2 k3 hw .i64 .i64 (x := a) (c := b) (by omega) (by omega) hb' h63'
  simp only [Int.toNat_natCast] at hr hh
  simp only [execOp, hf.eval hx, hf.eval hy, Sem.run_bind, Sem.run_pure, hr, Result.andThen_ok, looseUpon]
  refine ⟨⟨_, rfl⟩, ?_⟩
  rw [made_flat z0 hz0 a b hab] at hh
  have e1 : owns e enc m (.slice (some ⟨w.heap.size, 0, none⟩) a b) (List.replicate a z0) = ownRow e m (.slice (some ⟨w.heap.size, 0, none⟩) a b) a ((List.replicate a z0).flatMap enc) := by
    unfold owns; rw [List.length_replicate]
  rw [e1]; simpa using hh⟩
theorem DoesW.alloc {e : TypeId} {z : Value} {size bytes : Nat} {L : List HProp} [hz : ZeroT P e z size bytes] : DoesW P n env F [] L (.alloc e) IsPt (fun u => blk (ptB u) (.cells z.cells e (0, 0))) := ⟨fun ac w F' ty pos aft g d hf hw => by
  obtain ⟨i, h1, h2, _⟩ := hz.ok
  have hr : (execOp ac.eval ⟨d, .alloc e, ty, pos, aft, g⟩).run P w = .ok (.value (.pointer (some ⟨w.heap.size, 0, none⟩))) (w.alloc (.cells z.cells e (0, 0))) := by
    simp [execOp, Instr.alloc, zeroValue, typeInfo, h1, h2, newVar, newRow, run_newObj, Result.andThen]
  rw [hr]
  exact ⟨⟨_, rfl⟩, by simpa [ptB] using hw.alloc (.cells z.cells e (0, 0))⟩⟩
end
end Go.Proofs.YtlcdaalalihaiaaGreat
end
section
namespace Go.Proofs.YtlcdaalalihaiaaGreat
open Go Go.RowKit Go.MapKept
set_option linter.unusedVariables false
set_option linter.unusedSectionVars false
set_option linter.unusedSimpArgs false

def IsSlc (u : Value) : Prop := ∃ a k c, u = .slice a k c
theorem IsSlc.defd {u : Value} (h : IsSlc u) : isUndef u = false := by obtain ⟨_, _, _, rfl⟩ := h; rfl
theorem owns_isSlc {α : Type} {T : TypeId} {enc : α → List Value} {m : Nat} {v : Value} {l : List α} {w : World} {G : List HProp} (h : holds w (owns T enc m v l :: G)) : IsSlc v := by
  rcases (holds.open_own h).2 with ⟨rfl, _⟩ | ⟨g, cap, cur, rfl, _⟩ <;> exact ⟨_, _, _, rfl⟩
structure SlV where
  a : Option Addr
  n : Nat
  c : Nat
@[reducible] def SlV.v (s : SlV) : Value := .slice s.a s.n s.c
theorem owns_SlV {α : Type} {T : TypeId} {enc : α → List Value} {m : Nat} {v : Value} {l : List α} {w : World} {G : List HProp} (h : holds w (owns T enc m v l :: G)) : ∃ s : SlV, v = s.v := by
  obtain ⟨a, k, c, rfl⟩ := owns_isSlc h
  exact ⟨⟨a, k, c⟩, rfl⟩
section
variable {P : Program} {n : Nat} {env : Env} {F T L : List HProp} {op : Op}
theorem DoesW.ofDoes {piece : Value → HProp} (h : Does P n env (L ++ F) T op piece) (hp : ∀ u w G, holds w (piece u :: G) → IsSlc u) : DoesW P n env F T L op IsSlc piece := ⟨fun a w F' ty pos aft g d hf hw => by
  have h1 := h.out a w F' ty pos aft g d hf (by simpa using hw)
  revert h1
  generalize (execOp a.eval ⟨d, op, ty, pos, aft, g⟩).run P w = r
  intro h1
  cases r with
  | halt x w1 => exact h1
  | ok x w1 =>
    cases x with
    | value u => exact ⟨hp _ _ _ h1.2, by simpa using h1.2⟩
    | skip => exact ⟨hp _ _ _ h1.2, by simpa using h1.2⟩
    | enter f args => exact h1.mono fun e w2 ⟨u, he, h2⟩ => ⟨u, he, hp _ _ _ h2.2, by simpa using h2.2⟩
    | _ => exact h1⟩
theorem DoesW.append {α : Type} {t e : TypeId} {size bytes m : Nat} {z v u : Value} {x y : Operand} {enc : α → List Value} {l ys : List α} [ht : SliceT P t e size] [hz : ZeroT P e z size bytes] [he : Enc enc m] (hm : m = size) (hx : opnd env x = some v) (hy : opnd env y = some u)
    (hlen : (l.length + ys.length) * bytes ≤ 140737488355328) (hl63 : l.length + ys.length ≤ 140737488355328) :
    DoesW P n env F [owns e enc m v l, owns e enc m u ys] L (.call { callee := .builtin .append, args := #[x, y], argTypes := #[t, t] }) IsSlc (fun r => owns e enc m r (l ++ ys)) :=
  .ofDoes (Does.append hm hx hy hlen hl63) fun u w G h => owns_isSlc h
end
end Go.Proofs.YtlcdaalalihaiaaGreat
end

/- copy into the beginning of a row (in a drawn region); clear of a whole row. -/
namespace Go.Proofs.YtlcdaalalihaiaaGreat
open Go Go.RowKit Go.MapKept
set_option linter.unusedVariables false
set_option linter.unusedSectionVars false
set_option linter.unusedSimpArgs false
section
variable {P : Program} {n : Nat} {Q : Exit → Act → World → Prop} {env : Env} {F L : List HProp} {ops : Array Oper} {rest : List Oper} {ty : TypeId} {pos : String} {aft : Array Edge} {α : Type} {enc : α → List Value} {m : Nat}
end
end Go.Proofs.YtlcdaalalihaiaaGreat

/- Drawn regions: a call that takes a piece and makes another; a store of a whole struct. -/
namespace Go.Proofs.YtlcdaalalihaiaaGreat
open Go Go.RowKit Go.MapKept
set_option linter.unusedVariables false
set_option linter.unusedSectionVars false
set_option linter.unusedSimpArgs false
section
variable {P : Program} {n : Nat} {env : Env} {F : List HProp}
theorem DoesW.storeWhole {L : List HProp} {t T : TypeId} {x y : Operand} {b size : Nat} {c : Array Value} {vs : Array Value} (hx : opnd env x = some (.pointer (some ⟨b, 0, none⟩))) (hy : opnd env y = some (.agg vs)) [ht : AggT P t size] (hs : Nat.beq vs.size size = true) (h1 : vs.toList.all (·.oneCell') = true) (ho : Nat.beq c.size size = true) :
    DoesW P n env F [blk b (.cells c T (0, 0))] L (.store t x y) (fun _ => True) (fun _ => blk b (.cells vs T (0, 0))) := ⟨fun a w F' ty pos aft g d hf hw => by
  obtain ⟨i, ds, g1, g2, g3, g4⟩ := ht.ok
  have hs : vs.size = size := Nat.eq_of_beq_eq_true hs
  have ho : c.size = size := Nat.eq_of_beq_eq_true ho
  obtain ⟨w', hr, hh⟩ := run_storeVar_sl (P := P) (t := t) (val := .agg vs) (off := 0) (by simp [g1, g2, hs, Value.cells]) (by have h1' := List.all_eq_true.1 h1; simpa [Value.cells] using h1') (show holds w (blk b (.cells c T (0, 0)) :: (L ++ (F ++ F'))) from by simpa using hw) (by simp [Value.cells, hs, ho])
  have e : (c.toList.take 0 ++ (Value.agg vs).cells.toList ++ c.toList.drop (0 + (Value.agg vs).cells.size)).toArray = vs := by
    simp only [Value.cells]
    rw [List.take_zero, List.nil_append, List.drop_eq_nil_of_le (by rw [Array.length_toList]; omega), List.append_nil, Array.toArray_toList]
  rw [e] at hh
  simp [execOp, hf.eval hx, hf.eval hy, Instr.storeAt, Instr.sureAddr, hr, Result.andThen, looseUpon]
  exact hh⟩
end
section
variable {P : Program} {n : Nat} {env : Env} {F F0 : List HProp}
end
section
variable {P : Program} {n k d : Nat} {env : Env} {F F0 : List HProp} {ops : Array Oper} {rest : List Oper} {ty : TypeId} {pos : String} {aft : Array Edge} {Z : Act → Prop}
end
instance (priority := 400) SeesBlk.appendLg {F F2 : List HProp} {b : Nat} {c : Array Value} [h : SeesBlk F b c] : SeesBlk (F ++ F2) b c := ⟨fun w hw => h.at_ w (by obtain ⟨f, hf, hs⟩ := hw; obtain ⟨f1, f2, h1, h2, j⟩ := (sep_append F F2 f).1 hs; exact ⟨f, hf, sep_sub F f1 f j h1⟩)⟩
instance (priority := 300) SeesBlk.appendRg {F F2 : List HProp} {b : Nat} {c : Array Value} [h : SeesBlk F2 b c] : SeesBlk (F ++ F2) b c := ⟨fun w hw => h.at_ w (by obtain ⟨f, hf, hs⟩ := hw; obtain ⟨f1, f2, h1, h2, j⟩ := (sep_append F F2 f).1 hs; exact ⟨f, hf, sep_sub F2 f2 f j.symm h2⟩)⟩
section
variable {P : Program} {n : Nat} {env : Env} {F : List HProp}
end
/-- .. reads as a row. -/
theorem Reads.arr {F : List HProp} {b o : Nat} {c : Array Value} {l : List Int} [hb : SeesBlk F b c] (hc : (c.toList.drop o).take l.length = l.flatMap encI1) : Reads F (.slice (some ⟨b, o, none⟩) l.length l.length) encI1 1 l := ⟨fun w hw => by
  obtain ⟨T, fz, hbw⟩ := hb.at_ w hw
  have hfl : (l.flatMap encI1).length = l.length * 1 := Enc.flat_len l
  refine ⟨hfl, _, l.length, rfl, Nat.le_refl _, .inr ⟨b, o, rfl, fun i hi => ?_⟩⟩
  rw [cell_of_row w b (o + i) c T fz hbw, ← hc, List.getElem?_take, if_pos (by omega), List.getElem?_drop, Array.getElem?_toList]⟩
end Go.Proofs.YtlcdaalalihaiaaGreat

/- A call through a function value that takes a piece wherever it stands. -/
namespace Go.Proofs.YtlcdaalalihaiaaGreat
open Go Go.RowKit Go.MapKept
section
variable {P : Program} {n d : Nat} {Q : Exit → Act → World → Prop} {env : Env} {F : List HProp} {ops : Array Oper} {rest : List Oper} {ty : TypeId} {pos : String} {aft : Array Edge}
end
end Go.Proofs.YtlcdaalalihaiaaGreat

/- Calls that take two pieces. -/
namespace Go.Proofs.YtlcdaalalihaiaaGreat
open Go Go.RowKit Go.MapKept
set_option linter.unusedVariables false
set_option linter.unusedSectionVars false
set_option linter.unusedSimpArgs false
section
variable {P : Program} {n d : Nat} {Q : Exit → Act → World → Prop} {env : Env} {F : List HProp} {ops : Array Oper} {rest : List Oper} {ty : TypeId} {pos : String} {aft : Array Edge}
end
end Go.Proofs.YtlcdaalalihaiaaGreat

/- Numbers without a sign in the new road: shifts, bits, wrapping, conversions. -/
namespace Go.Proofs.YtlcdaalalihaiaaGreat
open Go Go.RowKit Go.MapKept
set_option linter.unusedVariables false
set_option linter.unusedSimpArgs false
def xorI (i j : Int) : Int := ((BitVec.ofInt 64 i ^^^ BitVec.ofInt 64 j).toNat : Nat)
def orI (i j : Int) : Int := ((BitVec.ofInt 64 i ||| BitVec.ofInt 64 j).toNat : Nat)
def andI (i j : Int) : Int := ((BitVec.ofInt 64 i &&& BitVec.ofInt 64 j).toNat : Nat)
section
variable {P : Program} {n : Nat} {env : Env} {F : List HProp} {xT yT : TypeId} {x y : Operand} {i j s c : Int} {k : IntKind}
end
end Go.Proofs.YtlcdaalalihaiaaGreat

/- Package trims: what clients are asked for. -/
namespace Go.Proofs.YtlcdaalalihaiaaGreat
open Go Go.RowKit Go.MapKept
set_option linter.unusedVariables false
set_option linter.unusedSectionVars false
set_option linter.unusedSimpArgs false
set_option maxRecDepth 100000
set_option maxHeartbeats 2000000
namespace Tr
def one (k p : Int) : Int := max (min p k) 0
def spread : Int → List Int → List Int
  | _, [] => []
  | k, p :: l => one k p :: spread (k - one k p) l
def I64 (k : Int) : Prop := -9223372036854775808 ≤ k ∧ k ≤ 9223372036854775807
/-- What clients are asked for then. -/
def ask (k : Int) (l : List Int) : List Int := spread k l ++ List.replicate (64 - l.length) 0
def paid (want : List Int) (c : Nat) (n : Int) : List Int := want.set c (max (want.getD c 0 - n) 0)
end Tr
def trimP (tb : Nat) (l : List Int) : HProp := fun f => ∃ a : Nat, sep [blk tb (.cells #[.slice (some ⟨a, 0, none⟩) (l).length (l).length] 332 (0, 0)), owns 3 encI1 1 (.slice (some ⟨a, 0, none⟩) (l).length (l).length) l] f
theorem trimP.open {w : World} {tb : Nat} {l : List Int} {F : List HProp} (h : holds w (trimP tb l :: F)) : ∃ a : Nat, holds w (blk tb (.cells #[.slice (some ⟨a, 0, none⟩) (l).length (l).length] 332 (0, 0)) :: owns 3 encI1 1 (.slice (some ⟨a, 0, none⟩) (l).length (l).length) l :: F) := by
  obtain ⟨a, h⟩ := holds.open_ex h
  exact ⟨a, holds_sep.1 h⟩
theorem trimP.shut {w : World} {tb a : Nat} {l l2 : List Int} {F : List HProp} (e : l2.length = l.length) (h : holds w (blk tb (.cells #[.slice (some ⟨a, 0, none⟩) (l).length (l).length] 332 (0, 0)) :: owns 3 encI1 1 (.slice (some ⟨a, 0, none⟩) (l).length (l).length) l2 :: F)) : holds w (trimP tb l2 :: F) := by
  rw [← e] at h
  exact (holds_sep (l := [_, _]).2 h).mono fun f hf => ⟨a, hf⟩
end Go.Proofs.YtlcdaalalihaiaaGreat

/- Package trims: Ask, Paid, Want. -/
namespace Go.Proofs.YtlcdaalalihaiaaGreat
open Go Go.RowKit Go.MapKept
set_option linter.unusedVariables false
set_option linter.unusedSectionVars false
set_option linter.unusedSimpArgs false
set_option maxRecDepth 100000
set_option maxHeartbeats 2000000
end Go.Proofs.YtlcdaalalihaiaaGreat

/- append(dst, src...) of an owned row, whatever the source holds; Go's copy of a slice of ints by append([]int.. , l...). What append of an owned row does, at an operation of such a region. Strings as lists of bytes; what a slice literal of bytes is as a string. -/
section
namespace Go.Proofs.YtlcdaalalihaiaaGreat
open Go Go.RowKit Go.MapKept
set_option maxRecDepth 100000

section
variable {P : Program} {w : World} {l : List HProp}

end

end Go.Proofs.YtlcdaalalihaiaaGreat
end
section
namespace Go.Proofs.YtlcdaalalihaiaaGreat
open Go Go.RowKit
set_option linter.unusedVariables false

def sliceBlk : Value → Nat
  | .slice (some a) _ _ => a.block
  | _ => 0
def ptrBlk : Value → Nat
  | .pointer (some a) => a.block
  | _ => 0
def aggOf (u : Value) (j : Nat) : Value := match u with | .agg x => x.getD j undef | _ => undef
def tupOf (u : Value) (i : Nat) : Value := match u with | .tuple t => t.getD i undef | _ => undef

end Go.Proofs.YtlcdaalalihaiaaGreat
end
section
namespace Go.Proofs.YtlcdaalalihaiaaGreat
open Go Go.RowKit Go.MapKept
set_option maxRecDepth 100000
set_option linter.unusedVariables false

def bs (l : List UInt8) : ByteArray := ⟨l.toArray⟩
/-- A byte as a value. -/
def u8v (c : UInt8) : Value := .int .u8 (c.toNat : Int)

/-- A slice of bytes, owned. -/
def ownB (v : Value) (l : List UInt8) : HProp := ownRow 5 1 v l.length (l.map u8v)
end Go.Proofs.YtlcdaalalihaiaaGreat
end

/- Strings by laws: joined, compared, cut, gone through rune by rune. -/
namespace Go.Proofs.YtlcdaalalihaiaaGreat
open Go Go.RowKit Go.MapKept
set_option linter.unusedVariables false
set_option linter.unusedSectionVars false
set_option linter.unusedSimpArgs false

class StrT (P : Program) (t : TypeId) : Prop where
  ok : P.underlying t = some .string
section
variable {P : Program} {n : Nat} {Q : Exit → Act → World → Prop} {env : Env} {F : List HProp} {ops : Array Oper} {rest : List Oper} {d : Tmp} {ty xT yT : TypeId} {pos : String} {aft : Array Edge} {x y : Operand} {l m : List UInt8}
end
end Go.Proofs.YtlcdaalalihaiaaGreat

/- `==` of structs and arrays whose cells are ints, strings and booleans. -/
namespace Go.Proofs.YtlcdaalalihaiaaGreat
open Go Go.RowKit Go.MapKept
set_option linter.unusedVariables false
set_option linter.unusedSectionVars false
set_option linter.unusedSimpArgs false

/-- A cell's content, told plainly. -/
inductive CelV where
  | i (k : IntKind) (x : Int)
  | s (l : List UInt8)
  | b (x : Bool)
deriving DecidableEq
inductive CelK where
  | i (k : IntKind)
  | s
  | b
def CelV.v : CelV → Value
  | .i k x => .int k x
  | .s l => .string (bs l)
  | .b x => .bool x
def CelV.k : CelV → CelK
  | .i k _ => .i k
  | .s _ => .s
  | .b _ => .b
def ceqOf : TypeDesc → Option CelK
  | .int k => some (.i k)
  | .string => some .s
  | .bool => some .b
  | _ => none
def ceqF (P : Program) (g : TypeId → Option (List CelK)) : List Field → Nat → Option (List CelK)
  | [], _ => some []
  | f :: fs, off => if f.name = "_" ∨ f.offset ≠ off then none else match g f.type with
    | none => none
    | some ks => if (P.info? f.type).map (·.size) = some ks.length then (ceqF P g fs (off + ks.length)).map (ks ++ ·) else none
def ceqB (P : Program) : Nat → TypeId → Option (List CelK)
  | 0, _ => none
  | k + 1, t => match P.underlying t with
    | some (.struct fs) => if P.stoodInHeld t = true then none else ceqF P (ceqB P k) fs.toList 0
    | some (.array len e) => match ceqB P k e with
      | none => none
      | some ks => if (P.info? e).map (·.size) = some ks.length then some (List.replicate len ks).flatten else none
    | some d => (ceqOf d).map fun c => [c]
    | none => none
def cellsC (l : List CelV) : Array Value := (l.map CelV.v).toArray
def valC (P : Program) (t : TypeId) (l : List CelV) : Value := match P.underlying t with
  | some (.struct _) => .agg (cellsC l)
  | some (.array _ _) => .agg (cellsC l)
  | _ => match l with
    | [c] => c.v
    | _ => undef
/-- A struct or an array of such cells. -/
class CellsT (P : Program) (t : TypeId) (ks : outParam (List CelK)) : Prop where
  ok : ceqB P 6 t = some ks ∧ P.eqGuardType P.depth t = false ∧ aggDesc <$> P.underlying t = some true
class CellsL (cs : List Value) (xs : outParam (List CelV)) : Prop where
  ok : cs = xs.map CelV.v
instance : CellsL [] [] := ⟨rfl⟩
instance {k : IntKind} {a : Int} {l : List Value} {xs : List CelV} [h : CellsL l xs] : CellsL (.int k a :: l) (.i k a :: xs) := ⟨by rw [h.ok]; rfl⟩
instance {a : List UInt8} {l : List Value} {xs : List CelV} [h : CellsL l xs] : CellsL (.string (bs a) :: l) (.s a :: xs) := ⟨by rw [h.ok]; rfl⟩
instance {a : Bool} {l : List Value} {xs : List CelV} [h : CellsL l xs] : CellsL (.bool a :: l) (.b a :: xs) := ⟨by rw [h.ok]; rfl⟩
class CellsA (cs : Array Value) (xs : outParam (List CelV)) : Prop where
  ok : cs = cellsC xs
instance {l : List Value} {xs : List CelV} [h : CellsL l xs] : CellsA l.toArray xs := ⟨by rw [h.ok]; rfl⟩
section
variable {P : Program} {n : Nat} {env : Env} {F : List HProp} {t u : TypeId} {x y : Operand} {cs ds : Array Value} {xs ys : List CelV} {ks : List CelK}
end
end Go.Proofs.YtlcdaalalihaiaaGreat

/- '==' and '!=' of bools. -/
namespace Go.Proofs.YtlcdaalalihaiaaGreat
open Go Go.RowKit Go.MapKept
set_option linter.unusedVariables false
section
variable {P : Program} {n : Nat} {env : Env} {F : List HProp} {x y : Operand} {xT yT : TypeId}
class BoT (P : Program) (t : TypeId) : Prop where
  ok : P.underlying t = some .bool
end
instance : BoT Tryz.prog 4 := ⟨by kernel_rfl⟩
end Go.Proofs.YtlcdaalalihaiaaGreat

/- Package water. -/
namespace Go.Proofs.YtlcdaalalihaiaaGreat
open Go Go.RowKit Go.MapKept
set_option linter.unusedVariables false
set_option linter.unusedSectionVars false
set_option linter.unusedSimpArgs false
set_option maxRecDepth 100000
set_option maxHeartbeats 2000000
namespace Wm
def low (mk : Int) : Option Int → Bool
  | none => false
  | some x => decide (x < mk)
def lack (mk : Int) : Option Int → Int
  | none => 0
  | some x => if x < mk then mk - x else 0
end Wm
instance : CellsT Tryz.prog 335 [.b, .b, .i .i64, .i .i64, .i .i64] := ⟨by kernel_rfl, by kernel_rfl, by kernel_rfl⟩
def markP (mb : Nat) (mk : Int) (lv : Option Int) (K : Nat) : HProp := fun f => ∃ lt : Int × Int, (0 ≤ lt.2 ∧ lt.2 ≤ K) ∧ blk mb (.cells #[.int .i64 mk, .bool (Wm.low mk lv), .bool lv.isSome, .int .i64 (lv.getD 0), .int .i64 lt.1, .int .i64 lt.2] 337 (0, 0)) f
theorem markP.open {w : World} {mb : Nat} {mk : Int} {lv : Option Int} {K : Nat} {F : List HProp} (h : holds w (markP mb mk lv K :: F)) : ∃ lt : Int × Int, (0 ≤ lt.2 ∧ lt.2 ≤ K) ∧ holds w (blk mb (.cells #[.int .i64 mk, .bool (Wm.low mk (lv)), .bool (lv).isSome, .int .i64 ((lv).getD 0), .int .i64 (lt.1), .int .i64 (lt.2)] 337 (0, 0)) :: F) := by
  obtain ⟨lt, h⟩ := holds.open_ex h
  obtain ⟨e, h⟩ := holds.open_pure h
  exact ⟨lt, e, h⟩
theorem markP.shut {w : World} {mb : Nat} {mk : Int} {lv : Option Int} {K : Nat} {a b : Int} {F : List HProp} (hb : 0 ≤ b ∧ b ≤ K) (h : holds w (blk mb (.cells #[.int .i64 mk, .bool (Wm.low mk (lv)), .bool (lv).isSome, .int .i64 ((lv).getD 0), .int .i64 (a), .int .i64 (b)] 337 (0, 0)) :: F)) : holds w (markP mb mk lv K :: F) := h.mono fun f hf => ⟨(a, b), hb, hf⟩
end Go.Proofs.YtlcdaalalihaiaaGreat

/- Chained nodes: the walks. -/
namespace Go.Proofs.YtlcdaalalihaiaaGreat
open Go Go.RowKit Go.MapKept
set_option linter.unusedVariables false
set_option linter.unusedSectionVars false
set_option linter.unusedSimpArgs false
set_option maxRecDepth 100000
set_option maxHeartbeats 4000000
namespace Chn
def encNd (x : Nd) : List Value := [.int .i64 x.bk, .int .i64 x.nx, .int .i64 x.ls]
instance : Enc encNd 3 := ⟨fun _ => rfl, fun _ => by simp [encNd, Value.oneCell'], by omega⟩
end Chn
section
variable (cb : Nat) (nv ev : Value) (N E : List Chn.Nd)
end
end Go.Proofs.YtlcdaalalihaiaaGreat

/- Chained nodes: a node is taken out. -/
namespace Go.Proofs.YtlcdaalalihaiaaGreat
open Go Go.RowKit Go.MapKept
set_option linter.unusedVariables false
set_option linter.unusedSectionVars false
set_option linter.unusedSimpArgs false
set_option maxRecDepth 100000
set_option maxHeartbeats 4000000
namespace Chn
end Chn
section
variable (cb : Nat) (nv ev : Value) (N E : List Chn.Nd)
end
end Go.Proofs.YtlcdaalalihaiaaGreat

/- Laws for drawn regions: a box that takes pieces with it, pieces put together. -/
namespace Go.Proofs.YtlcdaalalihaiaaGreat
open Go Go.RowKit Go.MapKept
set_option linter.unusedVariables false
set_option linter.unusedSectionVars false
set_option linter.unusedSimpArgs false
set_option maxRecDepth 100000
set_option maxHeartbeats 4000000
section
variable {P : Program} {n : Nat} {env : Env} {F : List HProp}
/-- A box that takes pieces with it. -/
theorem DoesW.boxTake {e : TypeId} {x : Operand} {cs : Array Value} {T L : List HProp} (pc : Nat → HProp) (hx : opnd env x = some (.agg cs)) (hpc : ∀ b w G, holds w (blk b (.cells cs e (0, 0)) :: (T ++ G)) → holds w (pc b :: G)) :
    DoesW P n env F T L (.box e x) IsPt (fun u => pc (ptB u)) := ⟨fun ac w F' ty pos aft g d hf hw => by
  have hr : (execOp ac.eval ⟨d, .box e x, ty, pos, aft, g⟩).run P w = .ok (.value (.pointer (some ⟨w.heap.size, 0, none⟩))) (w.alloc (.cells cs e (0, 0))) := by
    simp [execOp, hf.eval hx, Instr.box, newVar, newRow, run_newObj, Value.cells, Result.andThen]
  rw [hr]
  exact ⟨⟨_, rfl⟩, hpc _ _ _ (hw.alloc (.cells cs e (0, 0)))⟩⟩
/-- A value is told, and pieces are put together under it. -/
theorem DoesW.gather {op : Op} {v : Value} {T L : List HProp} (R : Value → Prop) (pc : Value → HProp) (hr : Runs P n env F op v) (hR : R v) (hp : ∀ w G, holds w (T ++ G) → holds w (pc v :: G)) : DoesW P n env F T L op R pc := ⟨fun a w F' ty pos aft g d hf hw => by
  have hF : holds w F := by
    obtain ⟨f, hf', hs⟩ := hw
    obtain ⟨f1, f2, _, h2, j⟩ := (sep_append T _ f).1 hs
    obtain ⟨f3, f4, _, h4, j2⟩ := (sep_append L _ f2).1 h2
    obtain ⟨f5, f6, h5, _, j3⟩ := (sep_append F F' f4).1 h4
    exact ⟨f, hf', sep_sub F f2 f j.symm (sep_sub F f4 f2 j2.symm (sep_sub F f5 f4 j3 h5))⟩
  rw [hr a w _ _ _ _ _ hf hF]
  exact ⟨hR, hp _ _ hw⟩⟩
end
end Go.Proofs.YtlcdaalalihaiaaGreat
