import Derived.Test.YtipkgamiejenaaaGreatGoTE
import Derived.Test.YtipkgamiejenaaaGreatMg6
import Derived.Test.YtipkgamiejenaaaGreatGoDraw
import Derived.Test.YtipkgamiejenaaaGreatMg7
import Derived.Test.YtipkgamiejenaaaGreatTypes
import Derived.Laws.LoneSync
/- Drawn regions whose operations write to pieces of memory that others of them read: each piece is told state by state; one walk in the order of the text. Drawn regions told state by state: guards that are known, calls. Drawn regions that make rows and variables, whose shape is told. Drawn regions that append and store: slices whose form is told. -/
section
namespace Go.Proofs.YtipkgamiejenaaaGreat
open Go Go.RowKit Go.MapKept
set_option linter.unusedVariables false
set_option linter.unusedSectionVars false
set_option linter.unusedSimpArgs false

/-- A state of a piece: the operation that makes it (none: it is there at the start), the states that this operation takes, the operation that takes it away (none: it is there at the end), the slot that the state hangs on, which values the operation yields, the piece. -/
structure Wff where
  k : Option Nat
  takes : List Nat
  cons : Option Nat
  d : Option Tmp
  R : Value → Prop
  piece : Value → HProp
def wTok (e : Wff) : Tok := ⟨e.k, e.cons, (match e.k, e.d with | some _, some d => [d] | _, _ => []), fun vs => e.piece (vs.headD undef)⟩
def wffToks (E : List Wff) : List Tok := E.map wTok
def wffIdx : List Wff → Nat → Nat → Option (Nat × Wff)
  | [], _, _ => none
  | e :: E, i, k => bif (match e.k with | some j => Nat.beq j k | none => false) then some (i, e) else wffIdx E (i + 1) k
def seenBy : List (Nat × List Nat) → Nat → List Nat
  | [], _ => []
  | (j, l) :: V, k => bif Nat.beq j k then l else seenBy V k
def wffS (E : List Wff) (V : List (Nat × List Nat)) (k : Nat) : TSpec :=
  match wffIdx E 0 k with
  | none => ⟨none, [], seenBy V k, []⟩
  | some (i, e) => ⟨some e.R, e.takes, seenBy V k, [i]⟩
/-- The states of these numbers, as they are now. -/
def wffNow (E : List Wff) (env : Env) : List Nat → Option (List HProp)
  | [] => some []
  | i :: is => match E[i]?, wffNow E env is with
    | some e, some l => match e.k, e.d with
      | some _, some d => match look env d with
        | some v => some (e.piece v :: l)
        | none => none
      | _, _ => some (e.piece undef :: l)
    | _, _ => none
def wffDef (E : List Wff) (env : Env) : List Nat → Prop
  | [] => True
  | i :: is => (∃ e, E[i]? = some e ∧ (e.k = none ∨ e.d = none ∨ ∃ d v, e.d = some d ∧ look env d = some v ∧ isUndef v = false)) ∧ wffDef E env is

section
variable {P : Program} {n : Nat} {ops : Array Oper} {Q : Exit → Act → World → Prop} {env : Env} {F : List HProp} {Z : Act → Prop} {k : Nat} {rest : List Oper} {d : Tmp} {ty : TypeId} {pos : String} {aft : Array Edge} {E : List Wff} {V : List (Nat × List Nat)}
theorem wffNow_at {a : Act} (hf : Fits n a env) : ∀ (is : List Nat) (T : List HProp), wffNow E env is = some T → wffDef E env is → toksAt ops (wffToks E) a is = T
  | [], T, h, _ => by simp only [wffNow, Option.some.injEq] at h; subst h; rfl
  | i :: is, T, h, ⟨⟨e, he, hv⟩, hd⟩ => by
    unfold wffNow at h
    rw [he] at h
    cases hl : wffNow E env is with
    | none => simp [hl] at h
    | some l =>
      have ih := wffNow_at hf is l hl hd
      unfold toksAt at ih ⊢
      rw [List.flatMap_cons, ih]
      have ht : tokNo (wffToks E) i = wTok e := by
        simp [tokNo, wffToks, List.getD, he]
      rw [ht]
      rw [hl] at h
      simp only at h
      cases hk : e.k with
      | none =>
        simp only [hk] at h
        cases h
        simp [tokAt, skipped, wTok, hk]
      | some k0 =>
        cases hed : e.d with
        | none =>
          simp only [hk, hed] at h
          cases h
          have hsk : skipped ops a (wTok e) = false := by
            unfold skipped wTok
            simp only [hk, hed]
            split <;> simp
          unfold tokAt
          rw [hsk]
          simp [wTok, hk, hed]
        | some d0 =>
          rcases hv with hv | hv | ⟨d1, v, h1, h2, hu⟩
          · rw [hk] at hv; cases hv
          · rw [hed] at hv; cases hv
          rw [hed] at h1; cases h1
          simp only [hk, hed, h2] at h
          cases h
          have hs : slotOf a d0 = v := by have := hf.at_ _ _ h2; simp [slotOf, this]
          have hsk : skipped ops a (wTok e) = false := by
            unfold skipped wTok
            simp only [hk, hed]
            cases hd' : (ops[k0]?).bind (·.dst) with
            | none => rfl
            | some d' =>
              simp only
              by_cases hdd : d' = d0
              · subst hdd; rw [hs, hu]; simp
              · simp [hdd]
          unfold tokAt
          rw [hsk]
          simp [wTok, hk, hed, hs]
section
variable (P n ops E V)
structure GW (F : List HProp) (Z : Act → Prop) (k : Nat) (rest : List Oper) (env : Env) : Prop where
  out : ∀ a, Fits n a env → wpTok P ops (wffToks E) (wffS E V) F Z k rest a
end
theorem GW.nilE {last : List Nat} {T : List HProp} (hT : wffNow E env last = some T) (hd : wffDef E env last) (h : GE n .normal Q env (T ++ F)) : GW P n ops E V F (fun a' => ∀ w', holds w' (toksAt ops (wffToks E) a' last ++ F) → Q .normal a' w') k [] env :=
  ⟨fun a hf => tok_nil fun w' hw' => h a w' hf (by rw [wffNow_at hf last T hT hd] at hw'; exact hw')⟩
theorem GW.run {op : Op} {v : Value} (hi : wffIdx E 0 k = none) (hr : Runs P n env F op v) (hd : Nat.blt d n = true) (h : GW P n ops E V F Z (k + 1) rest ((d, v) :: env)) : GW P n ops E V F Z k (⟨some d, op, ty, pos, aft, none⟩ :: rest) env := ⟨fun a hf => by
  refine tok_exact (by simp [wffS, hi]) fun K hK => ?_
  rw [if_pos (by simp [Region.wanted])]
  intro w hw
  rw [hr a w _ _ _ _ _ hf hw]
  exact ⟨rfl, hK _ (h.out _ (hf.put hd v))⟩⟩
/-- An operation that reads pieces that others of the region write. -/
theorem GW.see {op : Op} {v : Value} {L : List HProp} (hi : wffIdx E 0 k = none) (hL : wffNow E env (seenBy V k) = some L) (hdef : wffDef E env (seenBy V k)) (hr : Runs P n env (L ++ F) op v) (hd : Nat.blt d n = true) (h : GW P n ops E V F Z (k + 1) rest ((d, v) :: env)) : GW P n ops E V F Z k (⟨some d, op, ty, pos, aft, none⟩ :: rest) env := ⟨fun a hf => by
  unfold wpTok TokOp
  rw [if_pos (by simp [Region.wanted])]
  have hR : (wffS E V k).R = none := by simp [wffS, hi]
  rw [hR]
  intro w F' hh
  unfold tpre at hh
  have h1 : toksAt ops (wffToks E) a (wffS E V k).takes = [] := by simp [wffS, hi, toksAt]
  have h2 : toksAt ops (wffToks E) a (wffS E V k).sees = L := by simp only [wffS, hi]; exact wffNow_at hf _ _ hL hdef
  rw [h1, h2, List.nil_append] at hh
  have h3 : holds w (L ++ F) := (show holds w ((L ++ F) ++ F') from by simpa using hh).perm_drop (.refl _)
  rw [hr a w _ _ _ _ _ hf h3]
  exact ⟨rfl, h.out _ (hf.put hd v)⟩⟩
theorem GW.runA {op : Op} {v : Value} (hi : wffIdx E 0 k = none) (hd : Nat.blt d n = true) (h : GW P n ops E V F Z (k + 1) rest ((d, v) :: env)) (hr : Runs P n env F op v := by first | (apply Runs.isMove; exact Runs.move rfl) | (apply Runs.isLoad; first | exact Runs.loadBlk rfl rfl | exact Runs.loadRow rfl (by first | omega | decide) rfl | exact Runs.loadRow0 rfl (by first | omega | decide) rfl | exact Runs.loadElem rfl (by first | omega | decide) | exact Runs.loadWhole rfl rfl | exact Runs.loadBlkA rfl rfl rfl) | (apply Runs.isFieldA; exact Runs.fieldAddr rfl) | (apply Runs.isBin; first | (apply Runs.eql <;> rfl) | (apply Runs.lss <;> rfl) | (apply Runs.neq <;> rfl) | (apply Runs.leq <;> rfl) | (apply Runs.gtr <;> rfl) | (apply Runs.geq <;> rfl) | exact Runs.add rfl rfl (by omega) | exact Runs.sub rfl rfl (by omega) | exact Runs.mul rfl rfl (by omega) | exact Runs.quo rfl rfl (by omega) | exact Runs.rem rfl rfl (by omega) | exact Runs.shr rfl rfl | exact Runs.shl rfl rfl (by omega) | exact Runs.and20 rfl rfl | exact Runs.shrU rfl rfl | exact Runs.eqlPtrNil rfl | exact Runs.neqPtrNil rfl | exact Runs.eqlMapNil rfl | exact Runs.neqMapNil rfl | exact Runs.eqlSlNil rfl | exact Runs.eqlInts rfl rfl rfl rfl | exact Runs.neqInts rfl rfl rfl rfl) | (apply Runs.isAssign; exact Runs.assign rfl) | (apply Runs.isIndexA; first | exact Runs.indexAddr rfl rfl rfl rfl (by first | omega | decide) | exact Runs.indexAddrI rfl rfl rfl (by first | omega | decide) (by first | omega | decide) | exact Runs.indexArr rfl rfl rfl (by first | omega | decide)) | (apply Runs.isPick; first | exact Runs.pickT rfl rfl | exact Runs.pickF rfl rfl) | (apply Runs.isExtract; exact Runs.extract rfl rfl) | (apply Runs.isBuiltin; first | exact Runs.lenRow rfl | exact Runs.min2 rfl rfl | exact Runs.max2 rfl rfl | exact Runs.lenMap rfl | exact Runs.lenArr rfl) | (apply Runs.isLookup; first | exact Runs.lookupI rfl rfl | exact Runs.lookupS rfl rfl (by assumption) | exact Runs.lookupN rfl rfl (by assumption) | exact Runs.lookup rfl rfl | exact Runs.lookupOk rfl rfl) | (apply Runs.isSlice; first | exact Runs.slice _ _ rfl rfl rfl rfl rfl rfl ⟨⟨(by first | omega | decide), (by first | omega | decide)⟩, .inl rfl⟩ | exact Runs.slice3 _ _ rfl rfl rfl rfl rfl rfl rfl ⟨⟨(by first | omega | decide), (by first | omega | decide)⟩, .inr rfl⟩) | (apply Runs.isConvert; exact Runs.convII rfl (by omega)) | (apply Runs.isField; first | exact Runs.fieldVal rfl rfl | exact Runs.fieldAgg rfl) | (apply Runs.isBuild; exact Runs.build rfl rfl) | (apply Runs.isIndex; first | exact Runs.indexVal rfl rfl rfl (by first | omega | decide) rfl | exact Runs.indexAgg rfl rfl rfl rfl rfl) | (apply Runs.isUn; first | exact Runs.not rfl | exact Runs.neg rfl (by omega)) | (apply Runs.isMakeFunc; exact Runs.makeFunc rfl rfl) | (apply Runs.isNilCheck; exact Runs.nilCheck rfl)) : GW P n ops E V F Z k (⟨some d, op, ty, pos, aft, none⟩ :: rest) env := GW.run hi hr hd h
theorem GW.seeA {op : Op} {v : Value} {L : List HProp} (hi : wffIdx E 0 k = none) (hL : wffNow E env (seenBy V k) = some L) (hdef : wffDef E env (seenBy V k)) (hd : Nat.blt d n = true) (h : GW P n ops E V F Z (k + 1) rest ((d, v) :: env)) (hr : Runs P n env (L ++ F) op v := by first | (apply Runs.isMove; exact Runs.move rfl) | (apply Runs.isLoad; first | exact Runs.loadBlk rfl rfl | exact Runs.loadRow rfl (by first | omega | decide) rfl | exact Runs.loadRow0 rfl (by first | omega | decide) rfl | exact Runs.loadElem rfl (by first | omega | decide) | exact Runs.loadWhole rfl rfl | exact Runs.loadBlkA rfl rfl rfl) | (apply Runs.isFieldA; exact Runs.fieldAddr rfl) | (apply Runs.isBin; first | (apply Runs.eql <;> rfl) | (apply Runs.lss <;> rfl) | (apply Runs.neq <;> rfl) | (apply Runs.leq <;> rfl) | (apply Runs.gtr <;> rfl) | (apply Runs.geq <;> rfl) | exact Runs.add rfl rfl (by omega) | exact Runs.sub rfl rfl (by omega) | exact Runs.mul rfl rfl (by omega) | exact Runs.quo rfl rfl (by omega) | exact Runs.rem rfl rfl (by omega) | exact Runs.shr rfl rfl | exact Runs.shl rfl rfl (by omega) | exact Runs.and20 rfl rfl | exact Runs.shrU rfl rfl | exact Runs.eqlPtrNil rfl | exact Runs.neqPtrNil rfl | exact Runs.eqlMapNil rfl | exact Runs.neqMapNil rfl | exact Runs.eqlSlNil rfl | exact Runs.eqlInts rfl rfl rfl rfl | exact Runs.neqInts rfl rfl rfl rfl) | (apply Runs.isAssign; exact Runs.assign rfl) | (apply Runs.isIndexA; first | exact Runs.indexAddr rfl rfl rfl rfl (by first | omega | decide) | exact Runs.indexAddrI rfl rfl rfl (by first | omega | decide) (by first | omega | decide) | exact Runs.indexArr rfl rfl rfl (by first | omega | decide)) | (apply Runs.isPick; first | exact Runs.pickT rfl rfl | exact Runs.pickF rfl rfl) | (apply Runs.isExtract; exact Runs.extract rfl rfl) | (apply Runs.isBuiltin; first | exact Runs.lenRow rfl | exact Runs.min2 rfl rfl | exact Runs.max2 rfl rfl | exact Runs.lenMap rfl | exact Runs.lenArr rfl) | (apply Runs.isLookup; first | exact Runs.lookupI rfl rfl | exact Runs.lookupS rfl rfl (by assumption) | exact Runs.lookupN rfl rfl (by assumption) | exact Runs.lookup rfl rfl | exact Runs.lookupOk rfl rfl) | (apply Runs.isSlice; first | exact Runs.slice _ _ rfl rfl rfl rfl rfl rfl ⟨⟨(by first | omega | decide), (by first | omega | decide)⟩, .inl rfl⟩ | exact Runs.slice3 _ _ rfl rfl rfl rfl rfl rfl rfl ⟨⟨(by first | omega | decide), (by first | omega | decide)⟩, .inr rfl⟩) | (apply Runs.isConvert; exact Runs.convII rfl (by omega)) | (apply Runs.isField; first | exact Runs.fieldVal rfl rfl | exact Runs.fieldAgg rfl) | (apply Runs.isBuild; exact Runs.build rfl rfl) | (apply Runs.isIndex; first | exact Runs.indexVal rfl rfl rfl (by first | omega | decide) rfl | exact Runs.indexAgg rfl rfl rfl rfl rfl) | (apply Runs.isUn; first | exact Runs.not rfl | exact Runs.neg rfl (by omega)) | (apply Runs.isMakeFunc; exact Runs.makeFunc rfl rfl) | (apply Runs.isNilCheck; exact Runs.nilCheck rfl)) : GW P n ops E V F Z k (⟨some d, op, ty, pos, aft, none⟩ :: rest) env := GW.see hi hL hdef hr hd h
/-- What an operation does to the pieces T, seeing the pieces L, beside whatever else. -/
structure DoesW (P : Program) (n : Nat) (env : Env) (F T L : List HProp) (op : Op) (R : Value → Prop) (piece : Value → HProp) : Prop where
  out : ∀ a w F' ty pos aft g d, Fits n a env → holds w (T ++ (L ++ (F ++ F'))) → looseUpon P (fun u w' => R u ∧ holds w' (piece u :: (L ++ (F ++ F')))) ((execOp a.eval ⟨d, op, ty, pos, aft, g⟩).run P w)
/-- A store: nothing is yielded. -/
theorem GW.store {op : Op} {i : Nat} {e : Wff} {T L : List HProp} (hi : wffIdx E 0 k = some (i, e)) (hE : E[i]? = some e) (hek : e.k = some k) (hed : e.d = none) (hT : wffNow E env e.takes = some T) (hdef : wffDef E env e.takes) (hL : wffNow E env (seenBy V k) = some L) (hdefL : wffDef E env (seenBy V k)) (hR : e.R = fun _ => True) (hD : DoesW P n env F T L op (fun _ => True) (fun _ => e.piece undef))
    (h : GW P n ops E V F Z (k + 1) rest env) : GW P n ops E V F Z k (⟨none, op, ty, pos, aft, none⟩ :: rest) env := ⟨fun a hf => by
  refine tok_op (R := fun _ => True) T L (fun u => [e.piece undef]) ?_ ?_ ?_ rfl (fun u hu => ?_) (fun w F' hw => ?_) (fun u hu => h.out _ (hf.put0 u))
  · simp only [wffS, hi]; exact wffNow_at hf _ _ hT hdef
  · simp only [wffS, hi]; exact wffNow_at hf _ _ hL hdefL
  · simp only [wffS, hi, hR]
  · simp only [wffS, hi]
    refine wffNow_at (hf.put0 u) [i] [e.piece undef] ?_ ⟨⟨e, hE, .inr (.inl hed)⟩, trivial⟩
    simp [wffNow, hE, hek, hed]
  · have := hD.out a w F' ty pos aft none none hf (by simpa using hw)
    simpa using this⟩
theorem GW.eff {op : Op} {i : Nat} {e : Wff} {T L : List HProp} (hi : wffIdx E 0 k = some (i, e)) (hE : E[i]? = some e) (hek : e.k = some k) (hed : e.d = some d) (hT : wffNow E env e.takes = some T) (hdef : wffDef E env e.takes) (hL : wffNow E env (seenBy V k) = some L) (hdefL : wffDef E env (seenBy V k)) (hU : ∀ u, e.R u → isUndef u = false) (hD : DoesW P n env F T L op e.R e.piece) (hd : Nat.blt d n = true)
    (h : ∀ u, e.R u → GW P n ops E V F Z (k + 1) rest ((d, u) :: env)) : GW P n ops E V F Z k (⟨some d, op, ty, pos, aft, none⟩ :: rest) env := ⟨fun a hf => by
  refine tok_op (R := e.R) T L (fun u => [e.piece u]) ?_ ?_ ?_ rfl (fun u hu => ?_) (fun w F' hw => ?_) (fun u hu => (h u hu).out _ (hf.put hd u))
  · simp only [wffS, hi]; exact wffNow_at hf _ _ hT hdef
  · simp only [wffS, hi]; exact wffNow_at hf _ _ hL hdefL
  · simp only [wffS, hi]
  · simp only [wffS, hi]
    refine wffNow_at (hf.put hd u) [i] [e.piece u] ?_ ⟨⟨e, hE, .inr (.inr ⟨d, u, hed, by rw [look_cons, if_pos rfl], hU u hu⟩)⟩, trivial⟩
    simp [wffNow, hE, hek, hed, look_cons]
  · have := hD.out a w F' ty pos aft none (some d) hf (by simpa using hw)
    simpa using this⟩
theorem G.drawW {id : Nat} {l : List Oper} {S B : List HProp} (E : List Wff) (V : List (Nat × List Nat)) (start last : List Nat) (hm : P.follows .mixedOrders = true)
    (hB : (tokB l.toArray (wffToks E) (wffS E V) .any && (((List.range (wffToks E).length).filter (fun i => (tokNo (wffToks E) i).prod.isNone) == start) && ((List.range (wffToks E).length).filter (fun i => (tokNo (wffToks E) i).cons.isNone) == last))) = true)
    (hS : wffNow E env start = some S) (hd : wffDef E env start) [ht : Takes F S B]
    (h : GW P n l.toArray E V B (fun a' => ∀ w', holds w' (toksAt l.toArray (wffToks E) a' last ++ B) → Q .normal a' w') 0 l env) : G P n (.region id l.toArray true) Q env F := .mk fun a w hf hw =>
  wp_region_tok (wffToks E) (wffS E V) B start last hm hB (by rw [wffNow_at hf start S hS hd]; exact hw.perm ht.perm) (h.out a hf)
/-- A drawn region whose operations from m on come up in the text's order, where some more that do not touch each other are thought in order (ex). -/
theorem G.drawTailX {id : Nat} {l l1 l2 : List Oper} (m : Nat) (ex : List (Nat × Nat)) (hm : P.follows .mixedOrders = true) (h1 : l.take m = l1) (h2 : l.drop m = l2)
    (hB : ((Region.lexTailB .any (moreOps ex l.toArray) m && looseB (moreOps ex l.toArray) .any) && (moresB .any ex l.toArray && (([] : List Nat).isSublist (List.range m) && ([] : List Nat).all fun k => Region.waitsFor .any (moreOps ex l.toArray) m k))) = true)
    (h : GD P n l.toArray F (fun a' => ∀ w', holds w' F → wpList P l.toArray (onlyN Q) l2 a' w') 0 l1 env) : G P n (.region id l.toArray true) Q env F := .mk fun a w hf hw => by
  subst h1 h2
  obtain ⟨S, _, h1⟩ := h.out
  exact wp_region_tail m ex [] S F hm hB hw (h1 a hf)
theorem GE.only (h : GE n .normal Q env F) : GE n .normal (onlyN Q) env F := .mk h.out
theorem GW.isAny {o : Oper} (h : GW P n ops E V F Z k (o :: rest) env) : GW P n ops E V F Z k (o :: rest) env := h
/-! ### What operations do -/
theorem run_storeVar_sl {w : World} {l : List HProp} {b off : Nat} {c : Array Value} {T t : TypeId} {val : Value} (hsz : (P.info? t).map (·.size) = some val.cells.size) (h1 : ∀ u ∈ val.cells.toList, u.oneCell' = true)
    (h : holds w (blk b (.cells c T (0, 0)) :: l)) (hoff : off + val.cells.size ≤ c.size) :
    ∃ w', (storeVar t ⟨b, off, none⟩ val).run P w = .ok () w' ∧ holds w' (blk b (.cells (c.toList.take off ++ val.cells.toList ++ c.toList.drop (off + val.cells.size)).toArray T (0, 0)) :: l) := by
  have hr := run_storeCells_at (P := P) b off T val.cells.toList 0 c w h.get_blk (by simpa using hoff) h1
  refine ⟨w.setRow b (c.toList.take off ++ val.cells.toList ++ c.toList.drop (off + val.cells.size)).toArray, ?_, ?_⟩
  · cases hq : P.info? t with
    | none => simp [hq] at hsz
    | some i =>
      have hs : i.size = val.cells.size := by simpa [hq] using hsz
      simp [storeVar, sizeOf, typeInfo, hq, hs]
      simpa using hr
  · exact h.turn (w' := w.setRow b (c.toList.take off ++ val.cells.toList ++ c.toList.drop (off + val.cells.size)).toArray) ⟨rfl, rfl, rfl, by simp, fun k _ hk => setRow_other w b k _ (fun e => hk (by simp [e]))⟩ (setRow_heap w b c _ T _ h.get_blk)
theorem owns_cells {α : Type} {T : TypeId} {enc : α → List Value} {m : Nat} {v : Value} {l : List α} {w : World} {G : List HProp} (h : holds w (owns T enc m v l :: G)) : v.cells = #[v] ∧ v.oneCell' = true := by
  rcases (holds.open_own h).2 with ⟨rfl, _⟩ | ⟨g, cap, cur, rfl, _⟩ <;> exact ⟨rfl, rfl⟩
/-- A store of one cell into a block. -/
theorem DoesW.storeBlk {t T : TypeId} {x y : Operand} {b o : Nat} {c c' : Array Value} {u : Value} {L : List HProp} {R : Value → Prop} (hx : opnd env x = some (.pointer (some ⟨b, o, none⟩))) (hy : opnd env y = some u) [ht : CellT P t] (hc : u.cells = #[u]) (h1 : u.oneCell' = true) (ho : Nat.blt o c.size = true) (hs : (c.toList.set o u).toArray = c') :
    DoesW P n env F [blk b (.cells c T (0, 0))] L (.store t x y) (fun _ => True) (fun _ => blk b (.cells c' T (0, 0))) := ⟨fun a w F' ty pos aft g d hf hw => by
  subst hs
  obtain ⟨i, ds, g1, g2, g3, g4⟩ := ht.ok
  have ho : o < c.size := by simpa [Nat.blt_eq] using ho
  obtain ⟨w', hr, hh⟩ := run_storeVar_sl (P := P) (t := t) (val := u) (off := o) (by simp [g1, g2, hc]) (by simpa [hc] using h1) (show holds w (blk b (.cells c T (0, 0)) :: (L ++ (F ++ F'))) from by simpa using hw) (by simp [hc]; omega)
  simp [execOp, hf.eval hx, hf.eval hy, Instr.storeAt, Instr.sureAddr, hr, Result.andThen, looseUpon]
  have : (c.toList.take o ++ u.cells.toList ++ c.toList.drop (o + u.cells.size)) = c.toList.set o u := by
    simp only [hc, List.size_toArray, List.length_singleton]
    rw [List.set_eq_take_append_cons_drop, if_pos (by simpa using ho)]
    simp
  rw [this] at hh
  exact hh⟩
def stampV : Value → Nat
  | .tuple t => match t.toList with
    | [_, Value.int _ s] => s.toNat
    | _ => 0
  | _ => 0
def IsEntry (v : Value) : Prop := ∃ (u : Value) (s : Nat), v = Value.tuple #[u, Value.int .i64 (s : Int)]
theorem IsEntry.defd {v : Value} (h : IsEntry v) : isUndef v = false := by obtain ⟨u, s, rfl⟩ := h; rfl
/-- The first half of 'm[x] = y'. -/
theorem DoesW.mapEntry {β : Type} {t k e : TypeId} {x y : Operand} {b size bytes : Nat} {i : Int} {z : Value} {enc : β → Value} {m : List (Int × β)} {L : List HProp} [hm : MapT P t k e] [hk : IntT P k .i64] [hz : ZeroT P e z size bytes] (hx : opnd env x = some (.map (some b))) (hy : opnd env y = some (.int .i64 i)) :
    DoesW P n env F [imap enc b m] L (.mapEntry t x y) IsEntry (fun v => imapHole enc b m i (stampV v)) := ⟨fun a w F' ty pos aft g d hf hw => by
  obtain ⟨iz, g1, g2, _⟩ := hz.ok
  have hzr : ∀ w, (zeroValue e).run P w = .ok z w := fun w => by simp [zeroValue, typeInfo, g1, g2, Result.andThen]
  obtain ⟨u, s, w', hrun, hh⟩ := run_mapEntry_sl (P := P) hm.ok hk.ok hzr (show holds w (imap enc b m :: (L ++ (F ++ F'))) from by simpa using hw) i
  simp only [execOp, hf.eval hx, hf.eval hy, Sem.run_bind, Sem.run_pure, hrun, Result.andThen_ok, looseUpon]
  exact ⟨⟨u, s, rfl⟩, hh⟩⟩
/-- .. the second. -/
theorem DoesW.entryStore {β : Type} {t : TypeId} {x y u : Operand} {b s : Nat} {i : Int} {val : Value} {enc : β → Value} {m : List (Int × β)} {L : List HProp} (v : β) (hx : opnd env x = some (.map (some b))) (hy : opnd env y = some (.int .i64 (s : Nat))) (hu : opnd env u = some val) (hv : val = enc v) :
    DoesW P n env F [imapHole enc b m i s] L (.entryStore t x y u) (fun _ => True) (fun _ => imap enc b (alSet m i v)) := ⟨fun a w F' ty pos aft g d hf hw => by
  obtain ⟨w', hrun, hh⟩ := run_entryStore_sl (P := P) (t := t) (show holds w (imapHole enc b m i s :: (L ++ (F ++ F'))) from by simpa using hw) v
  simp only [execOp, hf.eval hx, hf.eval hy, hf.eval hu, hv, Sem.run_bind, Sem.run_pure, hrun, Result.andThen_ok, looseUpon]
  exact ⟨trivial, hh⟩⟩
end
end Go.Proofs.YtipkgamiejenaaaGreat
end
section
namespace Go.Proofs.YtipkgamiejenaaaGreat
open Go Go.RowKit Go.MapKept
set_option linter.unusedVariables false
set_option linter.unusedSectionVars false
set_option linter.unusedSimpArgs false

section
variable {P : Program} {n : Nat} {ops : Array Oper} {Q : Exit → Act → World → Prop} {env : Env} {F : List HProp} {Z : Act → Prop} {k : Nat} {rest : List Oper} {d : Tmp} {ty : TypeId} {pos : String} {aft : Array Edge} {E : List Wff} {V : List (Nat × List Nat)}
theorem GW.guardY {op : Op} {dst : Option Tmp} {j : Nat} {want : Bool} {dj : Tmp} (hj : (ops[j]?).bind (·.dst) = some dj) (hb : look env dj = some (.bool want)) (h : GW P n ops E V F Z k (⟨dst, op, ty, pos, aft, none⟩ :: rest) env) :
    GW P n ops E V F Z k (⟨dst, op, ty, pos, aft, some (j, want)⟩ :: rest) env := ⟨fun a hf => by
  have h1 := h.out a hf
  have hyl : yielded ops a.tmps j = some want := by
    have := hf.at_ _ _ hb
    unfold yielded; rw [hj, Option.bind_some, this]
  unfold wpTok at h1 ⊢
  simp only [Region.wanted, hyl, beq_self_eq_true, if_true] at h1 ⊢
  exact h1⟩
theorem Runs.eqlRefl {xT yT : TypeId} {x y : Operand} {i : Int} {kk : IntKind} (hx : opnd env x = some (.int kk i)) (hy : opnd env y = some (.int kk i)) : Runs P n env F (.binOp .eql xT x y yT) (.bool true) := by
  have := Runs.eql (P := P) (n := n) (F := F) (xT := xT) (yT := yT) hx hy
  rw [decide_eq_true rfl] at this
  exact this
/-- A call of one value that keeps what it sees. -/
theorem DoesW.callK {L : List HProp} {f : FuncId} {xs : List Operand} {ts : Array TypeId} {vs : List Value} {v : Value} [ho : Own P f] (hx : opnds env xs = some vs)
    (hc : ∀ w F', holds w (L ++ (F ++ F')) → Ct P f vs.toArray w fun e w' => e = .returned v ∧ holds w' (L ++ (F ++ F'))) :
    DoesW P n env F [] L (.call { callee := .value (.func f), args := xs.toArray, argTypes := ts }) (fun u => u = v) (fun _ _ => True) := ⟨fun a w F' ty pos aft g d hf hw => by
  have hr : (execOp a.eval ⟨d, .call { callee := .value (.func f), args := xs.toArray, argTypes := ts }, ty, pos, aft, g⟩).run P w = .ok (.enter f vs.toArray) w := by
    simp [execOp, resolve, Act.eval, Deferred.ofValue, invoke, hf.evals hx, Result.andThen]
    exact ho.run _ _
  rw [hr]
  refine (hc w F' (by simpa using hw)).out.mono fun e w' ⟨he, hh⟩ => ⟨v, he, rfl, ?_⟩
  have h1 := (holds_sep (l := []) (m := L ++ (F ++ F'))).2 hh
  exact h1.mono (B := fun _ => True) fun _ _ => trivial⟩
/-- A slice of one, built there. -/
theorem DoesW.build1 {α : Type} {t e : TypeId} {size bytes m : Nat} {z v : Value} {x : Operand} {enc : α → List Value} (y : α) [ht : SliceT P t e size] [hz : ZeroT P e z size bytes] [he : Enc enc m] (hm : m = size) (hsz : size ≤ 16777216) (hx : opnd env x = some v) (hv : v.cells.toList = enc y) :
    DoesW P n env F [] [] (.buildSlice t 1 #[(0, x)]) NU (fun u => owns e enc m u [y]) := ⟨fun a w F' ty pos aft g d hf hw => by
  have h1 := (Does.build1 (P := P) (n := n) (env := env) (F := F) (enc := enc) (m := m) (t := t) (x := x) y hm hsz hx hv).out a w F' ty pos aft g d hf hw
  exact h1⟩
end
end Go.Proofs.YtipkgamiejenaaaGreat
end
section
namespace Go.Proofs.YtipkgamiejenaaaGreat
open Go Go.RowKit Go.MapKept
set_option linter.unusedVariables false
set_option linter.unusedSectionVars false
set_option linter.unusedSimpArgs false

def IsSl (a b : Nat) (u : Value) : Prop := ∃ g, u = .slice (some ⟨g, 0, none⟩) a b
theorem IsSl.defd {a b : Nat} {u : Value} (h : IsSl a b u) : isUndef u = false := by obtain ⟨g, rfl⟩ := h; rfl
def IsPt (u : Value) : Prop := ∃ g, u = .pointer (some ⟨g, 0, none⟩)
theorem IsPt.defd {u : Value} (h : IsPt u) : isUndef u = false := by obtain ⟨g, rfl⟩ := h; rfl
/-- The block of a pointer. -/
def ptB : Value → Nat
  | .pointer (some a) => a.block
  | _ => 0
section
variable {P : Program} {n : Nat} {env : Env} {F : List HProp} {ops : Array Oper} {Q : Exit → Act → World → Prop} {Z : Act → Prop} {k : Nat} {rest : List Oper} {d : Tmp} {ty : TypeId} {pos : String} {aft : Array Edge} {E : List Wff} {V : List (Nat × List Nat)}
theorem DoesW.makeSl {α : Type} {m : Nat} {t e : TypeId} {x y : Operand} {size bytes : Nat} {z : Value} {i c : Int} {L : List HProp} (enc : α → List Value) [he : Enc enc m] (z0 : α) (a b : Nat) [ht : SliceT P t e size] [hz : ZeroT P e z m bytes] (hz0 : z.cells.toList = enc z0) (hx : opnd env x = some (.int .i64 i)) (hy : opnd env y = some (.int .i64 c)) (hi : i = (a : Int)) (hc : c = (b : Int)) (hab : a ≤ b) (hb : bytes * b ≤ 281474976710656) (h63 : b ≤ maxLen) :
    DoesW P n env F [] L (.makeSlice t x y) (IsSl a b) (fun u => owns e enc m u (List.replicate a z0)) := ⟨fun ac w F' ty pos aft g d hf hw => by
  subst hi hc
  obtain ⟨it, g1, g2, g3⟩ := ht.ok
  obtain ⟨iz, k1, k2, k3, k4, k5⟩ := hz.ok
  have hb' : (iz.bytes : Int) * (b : Int) ≤ 281474976710656 := by
    rw [k4]
    have h1 : ((bytes * b : Nat) : Int) ≤ 281474976710656 := by omega
    rwa [Int.natCast_mul] at h1
  have h63' : (b : Int) ≤ 9223372036854775807 := by
    have h1 := h63
    simp [maxLen] at h1
    omega
  obtain ⟨hr, hh⟩ := run_make_sl (P := P) (t := t) (e := e) (size := m) g1 k1 k2 k3 hw .i64 .i64 (x := a) (c := b) (by omega) (by omega) hb' h63'
  simp only [Int.toNat_natCast] at hr hh
  simp only [execOp, hf.eval hx, hf.eval hy, Sem.run_bind, Sem.run_pure, hr, Result.andThen_ok, looseUpon]
  refine ⟨⟨_, rfl⟩, ?_⟩
  rw [made_flat z0 hz0 a b hab] at hh
  have e1 : owns e enc m (.slice (some ⟨w.heap.size, 0, none⟩) a b) (List.replicate a z0) = ownRow e m (.slice (some ⟨w.heap.size, 0, none⟩) a b) a ((List.replicate a z0).flatMap enc) := by
    unfold owns; rw [List.length_replicate]
  rw [e1]; simpa using hh⟩
theorem DoesW.alloc {e : TypeId} {z : Value} {size bytes : Nat} {L : List HProp} [hz : ZeroT P e z size bytes] : DoesW P n env F [] L (.alloc e) IsPt (fun u => blk (ptB u) (.cells z.cells e (0, 0))) := ⟨fun ac w F' ty pos aft g d hf hw => by
  obtain ⟨i, h1, h2, _⟩ := hz.ok
  have hr : (execOp ac.eval ⟨d, .alloc e, ty, pos, aft, g⟩).run P w = .ok (.value (.pointer (some ⟨w.heap.size, 0, none⟩))) (w.alloc (.cells z.cells e (0, 0))) := by
    simp [execOp, Instr.alloc, zeroValue, typeInfo, h1, h2, newVar, newRow, run_newObj, Result.andThen]
  rw [hr]
  exact ⟨⟨_, rfl⟩, by simpa [ptB] using hw.alloc (.cells z.cells e (0, 0))⟩⟩
/-- A store whose new state hangs on a slot that is known. -/
theorem GW.storeOn {op : Op} {i : Nat} {e : Wff} {d7 : Tmp} {v7 : Value} {T L : List HProp} (hi : wffIdx E 0 k = some (i, e)) (hE : E[i]? = some e) (hek : e.k = some k) (hed : e.d = some d7) (h7 : look env d7 = some v7) (hu7 : isUndef v7 = false) (hT : wffNow E env e.takes = some T) (hdef : wffDef E env e.takes) (hL : wffNow E env (seenBy V k) = some L) (hdefL : wffDef E env (seenBy V k)) (hR : e.R = fun _ => True) (hD : DoesW P n env F T L op (fun _ => True) (fun _ => e.piece v7))
    (h : GW P n ops E V F Z (k + 1) rest env) : GW P n ops E V F Z k (⟨none, op, ty, pos, aft, none⟩ :: rest) env := ⟨fun a hf => by
  refine tok_op (R := fun _ => True) T L (fun u => [e.piece v7]) ?_ ?_ ?_ rfl (fun u hu => ?_) (fun w F' hw => ?_) (fun u hu => h.out _ (hf.put0 u))
  · simp only [wffS, hi]; exact wffNow_at hf _ _ hT hdef
  · simp only [wffS, hi]; exact wffNow_at hf _ _ hL hdefL
  · simp only [wffS, hi, hR]
  · simp only [wffS, hi]
    refine wffNow_at (hf.put0 u) [i] [e.piece v7] ?_ ⟨⟨e, hE, .inr (.inr ⟨d7, v7, hed, h7, hu7⟩)⟩, trivial⟩
    simp [wffNow, hE, hek, hed, h7]
  · have := hD.out a w F' ty pos aft none none hf (by simpa using hw)
    simpa using this⟩
end
end Go.Proofs.YtipkgamiejenaaaGreat
end
section
namespace Go.Proofs.YtipkgamiejenaaaGreat
open Go Go.RowKit Go.MapKept
set_option linter.unusedVariables false
set_option linter.unusedSectionVars false
set_option linter.unusedSimpArgs false

def IsSlc (u : Value) : Prop := ∃ a k c, u = .slice a k c
theorem IsSlc.defd {u : Value} (h : IsSlc u) : isUndef u = false := by obtain ⟨_, _, _, rfl⟩ := h; rfl
theorem owns_isSlc {α : Type} {T : TypeId} {enc : α → List Value} {m : Nat} {v : Value} {l : List α} {w : World} {G : List HProp} (h : holds w (owns T enc m v l :: G)) : IsSlc v := by
  rcases (holds.open_own h).2 with ⟨rfl, _⟩ | ⟨g, cap, cur, rfl, _⟩ <;> exact ⟨_, _, _, rfl⟩
structure SlV where
  a : Option Addr
  n : Nat
  c : Nat
@[reducible] def SlV.v (s : SlV) : Value := .slice s.a s.n s.c
theorem owns_SlV {α : Type} {T : TypeId} {enc : α → List Value} {m : Nat} {v : Value} {l : List α} {w : World} {G : List HProp} (h : holds w (owns T enc m v l :: G)) : ∃ s : SlV, v = s.v := by
  obtain ⟨a, k, c, rfl⟩ := owns_isSlc h
  exact ⟨⟨a, k, c⟩, rfl⟩
section
variable {P : Program} {n : Nat} {env : Env} {F T L : List HProp} {op : Op}
theorem DoesW.ofDoes {piece : Value → HProp} (h : Does P n env (L ++ F) T op piece) (hp : ∀ u w G, holds w (piece u :: G) → IsSlc u) : DoesW P n env F T L op IsSlc piece := ⟨fun a w F' ty pos aft g d hf hw => by
  have h1 := h.out a w F' ty pos aft g d hf (by simpa using hw)
  revert h1
  generalize (execOp a.eval ⟨d, op, ty, pos, aft, g⟩).run P w = r
  intro h1
  cases r with
  | halt x w1 => exact h1
  | ok x w1 =>
    cases x with
    | value u => exact ⟨hp _ _ _ h1.2, by simpa using h1.2⟩
    | skip => exact ⟨hp _ _ _ h1.2, by simpa using h1.2⟩
    | enter f args => exact h1.mono fun e w2 ⟨u, he, h2⟩ => ⟨u, he, hp _ _ _ h2.2, by simpa using h2.2⟩
    | _ => exact h1⟩
theorem DoesW.append {α : Type} {t e : TypeId} {size bytes m : Nat} {z v u : Value} {x y : Operand} {enc : α → List Value} {l ys : List α} [ht : SliceT P t e size] [hz : ZeroT P e z size bytes] [he : Enc enc m] (hm : m = size) (hx : opnd env x = some v) (hy : opnd env y = some u)
    (hlen : (l.length + ys.length) * bytes ≤ 140737488355328) (hl63 : l.length + ys.length ≤ 140737488355328) :
    DoesW P n env F [owns e enc m v l, owns e enc m u ys] L (.call { callee := .builtin .append, args := #[x, y], argTypes := #[t, t] }) IsSlc (fun r => owns e enc m r (l ++ ys)) :=
  .ofDoes (Does.append hm hx hy hlen hl63) fun u w G h => owns_isSlc h
end
end Go.Proofs.YtipkgamiejenaaaGreat
end

/- A call through a function value that takes a piece wherever it stands. -/
namespace Go.Proofs.YtipkgamiejenaaaGreat
open Go Go.RowKit Go.MapKept
section
variable {P : Program} {n d : Nat} {Q : Exit → Act → World → Prop} {env : Env} {F : List HProp} {ops : Array Oper} {rest : List Oper} {ty : TypeId} {pos : String} {aft : Array Edge}
theorem GL.callVH1 {x : Operand} {f : FuncId} {first captured : List Value} {xs : List Operand} {ts : Array TypeId} {vs : List Value} {v : Value} {F0 F' : List HProp} (X : HProp) [hX : Has F X F0] [ho : Own P f] (hf : opnd env x = some (.func (.func f) first.toArray captured.toArray)) (hx : opnds env xs = some vs) (hd : Nat.blt d n = true)
    (hc : ∀ w, holds w (X :: F0) → Ct P f (first ++ vs ++ captured).toArray w fun e w' => e = .returned v ∧ holds w' F') (h : GL P n ops Q rest ((d, v) :: env) F') :
    GL P n ops Q (⟨some d, .call { callee := .value x, args := xs.toArray, argTypes := ts }, ty, pos, aft, none⟩ :: rest) env F :=
  GL.callV1 hf hx hd (fun w hw => hc w (hw.perm hX.perm)) h
end
end Go.Proofs.YtipkgamiejenaaaGreat

/- Package bytes: the walks. -/
namespace Go.Proofs.YtipkgamiejenaaaGreat
open Go Go.RowKit Go.MapKept
set_option linter.unusedVariables false
set_option linter.unusedSimpArgs false
set_option maxRecDepth 100000
set_option maxHeartbeats 2000000
def encRow (r : List UInt8) : Value := .agg (r.map u8v).toArray
instance : BuildT Tryz.prog 274 [] (By.zrow.map u8v) := ⟨fun ps r hr => by
  cases ps with
  | nil => simp only [fillL, Option.some.injEq] at hr; subst hr; kernel_rfl
  | cons p ps => simp [fillL] at hr⟩
instance : CellsT Tryz.prog 274 (List.replicate 64 [CelK.i .u8]).flatten := ⟨by kernel_rfl, by kernel_rfl, by kernel_rfl⟩
/-- The bytes tx. -/
def bytesP (b sz : Nat) (tx : List UInt8) : HProp := fun f => ∃ (m : Nat) (am : List (Int × List UInt8)), (tx.length = sz ∧ sz % 64 = 0 ∧ (1 ≤ sz ∧ sz ≤ 1048576) ∧ By.Rows am tx) ∧ sep [blk b (.cells #[.map (some m), .int .i64 (sz : Nat)] 219 (0, 0)), imap encRow m am] f
theorem bytesP.open {w : World} {b sz : Nat} {tx : List UInt8} {F : List HProp} (h : holds w (bytesP b sz tx :: F)) : ∃ (m : Nat) (am : List (Int × List UInt8)), (tx.length = sz ∧ sz % 64 = 0 ∧ (1 ≤ sz ∧ sz ≤ 1048576) ∧ By.Rows am tx) ∧ holds w (blk b (.cells #[.map (some m), .int .i64 (sz : Nat)] 219 (0, 0)) :: imap encRow m am :: F) := by
  obtain ⟨m, h⟩ := holds.open_ex h
  obtain ⟨am, h⟩ := holds.open_ex h
  obtain ⟨e, h⟩ := holds.open_pure h
  exact ⟨m, am, e, holds_sep.1 h⟩
theorem bytesP.shut {w : World} {b sz m : Nat} {tx : List UInt8} {am : List (Int × List UInt8)} {F : List HProp} (e : tx.length = sz ∧ sz % 64 = 0 ∧ (1 ≤ sz ∧ sz ≤ 1048576) ∧ By.Rows am tx) (h : holds w (blk b (.cells #[.map (some m), .int .i64 (sz : Nat)] 219 (0, 0)) :: imap encRow m am :: F)) : holds w (bytesP b sz tx :: F) :=
  (holds_sep (l := [blk b (.cells #[.map (some m), .int .i64 (sz : Nat)] 219 (0, 0)), imap encRow m am]).2 h).mono fun f hf => ⟨m, am, e, hf⟩
theorem bytes_New (sz : Nat) (h64 : sz % 64 = 0) (h0 : 1 ≤ sz) (h1 : sz ≤ 1048576) (w : World) (F : List HProp) (hw : holds w F) :
    Ct Tryz.prog 84 #[.int .i64 (sz : Nat)] w fun e w' => ∃ b : Nat, e = .returned (.pointer (some ⟨b, 0, none⟩)) ∧ holds w' (bytesP b sz (St.zeros sz) :: F) := by
  refine Ct.go (args := [.int .i64 (sz : Nat)]) Tryz.func84 rfl rfl rfl hw ?_
  repeat' (first | (first | (apply GL.isAny; refine GL.makeMap encRow rfl (fun m => ?_)) | (apply GL.isBox; refine GL.boxA (cs := #[.map (some m), .int .i64 (sz : Nat)]) rfl rfl (fun b => ?_))) | first | (apply GL.isAny; first | refine GL.runA rfl ?_ | (apply GL.isStore; first | refine GL.storeBlk rfl rfl rfl rfl rfl ?_ | refine GL.storeWhole rfl rfl rfl rfl rfl ?_ | refine GL.storeBlkA rfl rfl rfl rfl rfl ?_) | refine GL.guardY rfl rfl ?_ | refine GL.guardN rfl rfl rfl ?_ | refine GL.guardU rfl rfl rfl ?_ | (apply GL.isBox; first | refine GL.boxA rfl rfl (fun _ => ?_) | refine GL.box1 rfl rfl rfl (fun _ => ?_) | refine GL.box rfl rfl (fun _ => ?_)) | (apply GL.isBuildS; first | refine GL.buildSlice1A rfl rfl rfl rfl rfl (fun _ => ?_) | refine GL.buildSlice1 rfl rfl rfl rfl rfl (fun _ => ?_)) | (apply GL.isCall; refine GL.append1 _ rfl rfl rfl rfl (by rfl) (by omega) (by omega) rfl (fun _ => ?_)) | (apply GL.isAlloc; refine GL.alloc rfl (fun _ => ?_))) | apply GL.nil | first | apply G.seq | apply G.region | apply G.block | apply G.skip | apply G.exit | apply G.ret | (apply G.isCond; first | refine G.condT rfl ?_ | refine G.condF rfl ?_) | refine G.draw (by kernel_rfl) (by kernel_rfl) ?_ | (apply GE.isAny; first | apply GE.again | apply GE.thenG | apply GE.blockN | apply GE.blockE | apply GE.thenE | apply GE.thenR | apply GE.blockR | refine GE.blockO rfl ?_ | apply GE.only) | (apply GD.isAny; first | refine GD.runA rfl ?_ | refine GD.guardY rfl rfl ?_ | refine GD.guardN rfl rfl rfl ?_ | refine GD.guardU rfl rfl rfl ?_) | apply GD.nilE | apply GD.nilL | (apply GT.isAny; refine GT.runA rfl rfl ?_) | ((first | (apply GL.isAny; refine GL.guard rfl rfl (fun hc => ?_) (fun hc => ?_)) | (apply G.isCond; refine G.cond rfl (fun hc => ?_) (fun hc => ?_)) | (apply GD.isAny; refine GD.guard rfl rfl (fun hc => ?_) (fun hc => ?_))) <;> ((try simp only [decide_eq_true_eq, decide_eq_false_iff_not, Bool.not_true, Bool.not_false, ne_eq, Classical.not_not, Int.not_lt, Int.not_le] at hc); (try (exfalso; first | omega | exact hc trivial | exact hc rfl)))))
  all_goals (first | (exfalso; omega) | (refine GE.resOne rfl (by (repeat (first | apply Res.nil | (apply Res.tmp; rfl) | (refine Res.cellA rfl rfl rfl ?_) | (refine Res.cell1 rfl rfl ?_)))) (fun w h => ?_); exact ⟨b, rfl, bytesP.shut (m := m) ⟨by simp [St.zeros], h64, ⟨h0, h1⟩, By.Rows.new sz h64⟩ h.sub⟩))
section
variable (b sz : Nat) (tx : List UInt8)
theorem bytes_check (hsz : sz ≤ 1048576) (m : Nat) (k n : Int) (w : World) (F : List HProp) [SeesBlk F b #[.map (some m), .int .i64 (sz : Nat)]] (hw : holds w F) :
    Ct Tryz.prog 168 #[.pointer (some ⟨b, 0, none⟩), .int .i64 k, .int .i64 n] w fun e w' => e = .returned (.int .i64 (if k < 0 ∨ n < 0 ∨ (sz : Int) < k + n then 15 else 0)) ∧ holds w' F := by
  refine Ct.go (args := [.pointer (some ⟨b, 0, none⟩), .int .i64 k, .int .i64 n]) Tryz.func168 rfl rfl rfl hw ?_
  repeat' (first | (apply GL.isAny; first | refine GL.runA rfl ?_ | (apply GL.isStore; first | refine GL.storeBlk rfl rfl rfl rfl rfl ?_ | refine GL.storeWhole rfl rfl rfl rfl rfl ?_ | refine GL.storeBlkA rfl rfl rfl rfl rfl ?_) | refine GL.guardY rfl rfl ?_ | refine GL.guardN rfl rfl rfl ?_ | refine GL.guardU rfl rfl rfl ?_ | (apply GL.isBox; first | refine GL.boxA rfl rfl (fun _ => ?_) | refine GL.box1 rfl rfl rfl (fun _ => ?_) | refine GL.box rfl rfl (fun _ => ?_)) | (apply GL.isBuildS; first | refine GL.buildSlice1A rfl rfl rfl rfl rfl (fun _ => ?_) | refine GL.buildSlice1 rfl rfl rfl rfl rfl (fun _ => ?_)) | (apply GL.isCall; refine GL.append1 _ rfl rfl rfl rfl (by rfl) (by omega) (by omega) rfl (fun _ => ?_)) | (apply GL.isAlloc; refine GL.alloc rfl (fun _ => ?_))) | apply GL.nil | first | apply G.seq | apply G.region | apply G.block | apply G.skip | apply G.exit | apply G.ret | (apply G.isCond; first | refine G.condT rfl ?_ | refine G.condF rfl ?_) | refine G.draw (by kernel_rfl) (by kernel_rfl) ?_ | (apply GE.isAny; first | apply GE.again | apply GE.thenG | apply GE.blockN | apply GE.blockE | apply GE.thenE | apply GE.thenR | apply GE.blockR | refine GE.blockO rfl ?_ | apply GE.only) | (apply GD.isAny; first | refine GD.runA rfl ?_ | refine GD.guardY rfl rfl ?_ | refine GD.guardN rfl rfl rfl ?_ | refine GD.guardU rfl rfl rfl ?_) | apply GD.nilE | apply GD.nilL | (apply GT.isAny; refine GT.runA rfl rfl ?_) | ((first | (apply GL.isAny; refine GL.guard rfl rfl (fun hc => ?_) (fun hc => ?_)) | (apply G.isCond; refine G.cond rfl (fun hc => ?_) (fun hc => ?_)) | (apply GD.isAny; refine GD.guard rfl rfl (fun hc => ?_) (fun hc => ?_))) <;> ((try simp only [decide_eq_true_eq, decide_eq_false_iff_not, Bool.not_true, Bool.not_false, ne_eq, Classical.not_not, Int.not_lt, Int.not_le] at hc); (try (exfalso; first | omega | exact hc trivial | exact hc rfl)))))
  all_goals (first | (exfalso; omega) | (refine GE.resOne rfl (by (repeat (first | apply Res.nil | (apply Res.tmp; rfl) | (refine Res.cellA rfl rfl rfl ?_) | (refine Res.cell1 rfl rfl ?_)))) (fun w h => ?_); exact ⟨by first | rw [if_pos (by omega)] | rw [if_neg (by omega)], h⟩))
end
end Go.Proofs.YtipkgamiejenaaaGreat

/- Functions of sync/atomic, which have no body: they load, store, add and swap. -/
namespace Go.Proofs.YtipkgamiejenaaaGreat
open Go Go.RowKit Go.MapKept
set_option linter.unusedVariables false
set_option linter.unusedSimpArgs false
section
variable {P : Program} {f : FuncId} {fn : Func}
class ExtLoad (P : Program) (f : FuncId) (k : outParam IntKind) : Prop where
  run : ∀ (a : Addr) (x : Int) (w : World), w.cell? a = some (.int k x) → (callFunc f #[.pointer (some a)]).run P w = .ok (.value (.int k x)) w
theorem ExtLoad.of (hf : P.funcs[f]? = some fn) (hname : (fn.name == "runtime.NumGoroutine") = false) (hb : fn.body.isNone = true) (hn : Extern.findNext fn = none) (k : IntKind) (he : Extern.find fn = some (Extern.Atomic.loadT (.int k))) : ExtLoad P f k := ⟨fun a x w hc => run_call_load hf hname hb hn k he hc⟩
class ExtStore (P : Program) (f : FuncId) : Prop where
  run : ∀ (a : Addr) (k : IntKind) (y : Int) (u : Value) (w : World), w.cell? a = some u → w.frozen? a = false → (callFunc f #[.pointer (some a), .int k y]).run P w = .ok (.value (.tuple #[])) (w.setCell a (.int k y))
theorem ExtStore.of (hf : P.funcs[f]? = some fn) (hname : (fn.name == "runtime.NumGoroutine") = false) (hb : fn.body.isNone = true) (hn : Extern.findNext fn = none) (he : Extern.find fn = some Extern.Atomic.storeT) : ExtStore P f := ⟨fun a k y u w hc hz => run_call_store hf hname hb hn he hc hz⟩
class ExtAdd (P : Program) (f : FuncId) (k : outParam IntKind) : Prop where
  run : ∀ (a : Addr) (x y : Int) (w : World), w.cell? a = some (.int k x) → w.frozen? a = false → (callFunc f #[.pointer (some a), .int k y]).run P w = .ok (.value (.int k (k.wrap (x + y)))) (w.setCell a (.int k (k.wrap (x + y))))
theorem ExtAdd.of (hf : P.funcs[f]? = some fn) (hname : (fn.name == "runtime.NumGoroutine") = false) (hb : fn.body.isNone = true) (hn : Extern.findNext fn = none) (k : IntKind) (he : Extern.find fn = some (Extern.Atomic.update (Op.intArith .add) k true)) : ExtAdd P f k := ⟨fun a x y w hc hz => run_call_add hf hname hb hn k he hc hz (by simp [Op.intArith])⟩
class ExtCas (P : Program) (f : FuncId) (k : outParam IntKind) : Prop where
  run : ∀ (a : Addr) (x y : Int) (w : World), w.cell? a = some (.int k x) → w.frozen? a = false → (callFunc f #[.pointer (some a), .int k x, .int k y]).run P w = .ok (.value (.bool true)) (w.setCell a (.int k y))
theorem ExtCas.of (hf : P.funcs[f]? = some fn) (hname : (fn.name == "runtime.NumGoroutine") = false) (hb : fn.body.isNone = true) (hn : Extern.findNext fn = none) (k : IntKind) (he : Extern.find fn = some (Extern.Atomic.casT (.int k))) : ExtCas P f k := ⟨fun a x y w hc hz => run_call_cas_hit hf hname hb hn k he hc hz⟩
end
theorem holds.notFrozen {w : World} {l : List HProp} {b o : Nat} {c : Array Value} {T : TypeId} (h : holds w (blk b (.cells c T (0, 0)) :: l)) : w.frozen? ⟨b, o, none⟩ = false := by
  simp [World.frozen?, h.get_blk]
theorem holds.cellAt {w : World} {l : List HProp} {b o : Nat} {c : Array Value} {T : TypeId} {u : Value} (h : holds w (blk b (.cells c T (0, 0)) :: l)) (hu : nthL c.toList o = some u) : w.cell? ⟨b, o, none⟩ = some u := (cell_of_row w b o c T (0, 0) h.get_blk).trans (nthL_arr hu)
theorem holds.setAt {w : World} {l : List HProp} {b o : Nat} {c : Array Value} {T : TypeId} {u : Value} (h : holds w (blk b (.cells c T (0, 0)) :: l)) : holds (w.setCell ⟨b, o, none⟩ u) (blk b (.cells (c.toList.set o u).toArray T (0, 0)) :: l) := by
  have h1 := h.setCell o u
  have : (c.toList.set o u).toArray = c.setIfInBounds o u := by apply Array.ext'; simp
  rw [this]; exact h1
section
variable {P : Program} {n d : Nat} {Q : Exit → Act → World → Prop} {env : Env} {F F' : List HProp} {ops : Array Oper} {rest : List Oper} {ty T : TypeId} {pos : String} {aft : Array Edge} {f : FuncId} {k : IntKind} {xs : List Operand} {b o : Nat} {c : Array Value} {i j : Int} {ts : Array TypeId} {u : Value}
theorem Fits.callRun {a : Act} {w w' : World} {vs : List Value} {r : Next} {d : Option Tmp} {g : Option (Nat × Bool)} (hf : Fits n a env) (hx : opnds env xs = some vs) (hr : (callFunc f vs.toArray).run P w = .ok r w') :
    (execOp a.eval ⟨d, .call { callee := .value (.func f), args := xs.toArray, argTypes := ts }, ty, pos, aft, g⟩).run P w = .ok r w' := by
  simp [execOp, resolve, Act.eval, Deferred.ofValue, invoke, hf.evals hx, Result.andThen]
  exact hr
/-- The end of a function without results. -/
theorem GE.res0 {fn : Func} {R : Ending → World → Prop} {e : Exit} (he : e = .normal ∨ e = .ret) (hr : fn.results = #[]) (hR : ∀ w, holds w F → R (.returned (.tuple #[])) w) : GE n e (bodyPost P fn R) env F := .mk fun a w hf hw => by
  have h1 : (results fn a.tmps).run P w = .ok (.tuple #[]) w := by simp [results, hr]
  rcases he with rfl | rfl <;> exact ⟨hf.defs, _, h1, hR w hw⟩
end
end Go.Proofs.YtipkgamiejenaaaGreat

/- Which types are strings. Printed by gentypes.py. -/
namespace Go.Proofs.YtipkgamiejenaaaGreat
open Go Go.RowKit
set_option maxRecDepth 100000
instance : StrT Tryz.prog 9 := ⟨by kernel_rfl⟩
end Go.Proofs.YtipkgamiejenaaaGreat
