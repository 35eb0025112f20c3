import Derived.Test.YtipkgamiejenaaaGreatMg6
import Derived.Laws.IdiomStrings
import Derived.KernelRfl
/- `==` of structs and arrays whose cells are ints, strings and booleans. -/
namespace Go.Proofs.YtipkgamiejenaaaGreat
open Go Go.RowKit Go.MapKept
set_option linter.unusedVariables false
set_option linter.unusedSectionVars false
set_option linter.unusedSimpArgs false

/-- A cell's content, told plainly. -/
inductive CelV where
  | i (k : IntKind) (x : Int)
  | s (l : List UInt8)
  | b (x : Bool)
deriving DecidableEq
inductive CelK where
  | i (k : IntKind)
  | s
  | b
def CelV.v : CelV → Value
  | .i k x => .int k x
  | .s l => .string (bs l)
  | .b x => .bool x
def CelV.k : CelV → CelK
  | .i k _ => .i k
  | .s _ => .s
  | .b _ => .b
def ceqOf : TypeDesc → Option CelK
  | .int k => some (.i k)
  | .string => some .s
  | .bool => some .b
  | _ => none
def ceqF (P : Program) (g : TypeId → Option (List CelK)) : List Field → Nat → Option (List CelK)
  | [], _ => some []
  | f :: fs, off => if f.name = "_" ∨ f.offset ≠ off then none else match g f.type with
    | none => none
    | some ks => if (P.info? f.type).map (·.size) = some ks.length then (ceqF P g fs (off + ks.length)).map (ks ++ ·) else none
def ceqB (P : Program) : Nat → TypeId → Option (List CelK)
  | 0, _ => none
  | k + 1, t => match P.underlying t with
    | some (.struct fs) => if P.stoodInHeld t = true then none else ceqF P (ceqB P k) fs.toList 0
    | some (.array len e) => match ceqB P k e with
      | none => none
      | some ks => if (P.info? e).map (·.size) = some ks.length then some (List.replicate len ks).flatten else none
    | some d => (ceqOf d).map fun c => [c]
    | none => none
def cellsC (l : List CelV) : Array Value := (l.map CelV.v).toArray
def valC (P : Program) (t : TypeId) (l : List CelV) : Value := match P.underlying t with
  | some (.struct _) => .agg (cellsC l)
  | some (.array _ _) => .agg (cellsC l)
  | _ => match l with
    | [c] => c.v
    | _ => undef
theorem cellsC_extract (px q r : List CelV) (m : Nat) (hm : q.length = m) : (cellsC (px ++ (q ++ r))).extract px.length (px.length + m) = cellsC q := by
  subst hm
  apply Array.ext'
  simp [cellsC, List.extract_toArray, List.extract_eq_take_drop]
theorem map_app {α β : Type} {f : α → β} {q : List α} {a b : List β} (h : q.map f = a ++ b) : ∃ q1 q2, q = q1 ++ q2 ∧ q1.map f = a ∧ q2.map f = b := by
  obtain ⟨q1, q2, h1, h2, h3⟩ := List.map_eq_append_iff.1 h
  exact ⟨q1, q2, h1, h2, h3⟩
theorem ceq_scalar {d : TypeDesc} {c : CelK} (h : ceqOf d = some c) : aggDesc d = false := by
  cases d <;> first | rfl | cases h
theorem run_part_cells {P : Program} {k : Nat} {t : TypeId} {ks : List CelK} (hB : ceqB P k t = some ks) (hs : (P.info? t).map (·.size) = some ks.length) (px q r : List CelV) (hq : q.map CelV.k = ks) (w : World) :
    (part t (cellsC (px ++ (q ++ r))) px.length).run P w = .ok (valC P t q) w := by
  obtain ⟨i, h1, h2⟩ := info_size hs
  have hl : q.length = ks.length := by rw [← hq, List.length_map]
  cases k with
  | zero => cases hB
  | succ k =>
    unfold ceqB at hB
    split at hB
    · rename_i fs hu
      simp [part, isAgg, run_underlying hu, valC, hu, sizeOf, typeInfo, h1, h2, cellsC_extract _ _ _ _ hl, Result.andThen]
    · rename_i len e hu
      simp [part, isAgg, run_underlying hu, valC, hu, sizeOf, typeInfo, h1, h2, cellsC_extract _ _ _ _ hl, Result.andThen]
    · rename_i d hd1 hd2 hu
      cases hc : ceqOf d with
      | none => rw [hc] at hB; cases hB
      | some c =>
        rw [hc] at hB
        cases hB
        match q, hq with
        | [x], _ =>
          have hc1 : (cellsC (px ++ x :: r))[px.length]? = some x.v := by simp [cellsC]
          have ha := ceq_scalar hc
          cases d <;> first | (cases hc; done) | (cases ha; done) | simp [part, isAgg, run_underlying hu, valC, hu, Result.andThen, hc1]
    · cases hB
theorem eqFields_cells {P : Program} {k d : Nat} (ih : ∀ (t : TypeId) (ks : List CelK), ceqB P k t = some ks → ∀ (xs ys : List CelV), xs.map CelV.k = ks → ys.map CelV.k = ks → ∀ w, (Op.equalIn d t (valC P t xs) (valC P t ys)).run P w = .ok (decide (xs = ys)) w) :
    ∀ (fs : List Field) (off : Nat) (ks : List CelK), ceqF P (ceqB P k) fs off = some ks → ∀ (px py qx qy : List CelV), px.length = off → py.length = off → qx.map CelV.k = ks → qy.map CelV.k = ks → ∀ w, (Op.eqFields d (cellsC (px ++ qx)) (cellsC (py ++ qy)) fs).run P w = .ok (decide (qx = qy)) w
  | [], off, ks, h, px, py, qx, qy, l1, l2, h1, h2, w => by
    unfold ceqF at h
    cases h
    have e1 : qx = [] := by simpa using h1
    have e2 : qy = [] := by simpa using h2
    subst e1 e2
    simp [Op.eqFields]
  | f :: fs, off, ks, h, px, py, qx, qy, l1, l2, h1, h2, w => by
    unfold ceqF at h
    split at h
    · cases h
    · rename_i hn
      split at h
      · cases h
      · rename_i k1 hk1
        split at h
        · rename_i hs
          cases hr : ceqF P (ceqB P k) fs (off + k1.length) with
          | none => rw [hr] at h; cases h
          | some k2 =>
            rw [hr] at h
            cases h
            obtain ⟨x1, x2, rfl, a1, a2⟩ := map_app h1
            obtain ⟨y1, y2, rfl, b1, b2⟩ := map_app h2
            have lx : x1.length = k1.length := by rw [← a1, List.length_map]
            have ly : y1.length = k1.length := by rw [← b1, List.length_map]
            have hname : f.name ≠ "_" := fun e => hn (.inl e)
            have hoff : f.offset = off := Classical.not_not.1 fun e => hn (.inr e)
            have p1 := run_part_cells hk1 hs px x1 x2 a1 w
            have p2 := run_part_cells hk1 hs py y1 y2 b1 w
            have e1 := ih f.type k1 hk1 x1 y1 a1 b1 w
            have e2 := eqFields_cells ih fs (off + k1.length) k2 hr (px ++ x1) (py ++ y1) x2 y2 (by rw [List.length_append, l1, lx]) (by rw [List.length_append, l2, ly]) a2 b2 w
            rw [l1] at p1
            rw [l2] at p2
            rw [List.append_assoc, List.append_assoc] at e2
            rw [app_eq_iff (by rw [lx, ly])]
            simp only [Op.eqFields, if_pos hname, Sem.run_bind, hoff, p1, p2, Result.andThen_ok, e1]
            by_cases hh : x1 = y1
            · simp only [hh, decide_true, Bool.not_true, Bool.false_eq_true, if_false, Bool.true_and]
              rw [← e2, hh]
            · simp [hh]
        · cases h
theorem equalIn_cells {P : Program} : ∀ (k : Nat) (t : TypeId) (ks : List CelK), ceqB P k t = some ks → ∀ d, k ≤ d → ∀ (xs ys : List CelV), xs.map CelV.k = ks → ys.map CelV.k = ks → ∀ w,
    (Op.equalIn d t (valC P t xs) (valC P t ys)).run P w = .ok (decide (xs = ys)) w
  | 0, t, ks, h, _, _, _, _, _, _, _ => by cases h
  | k + 1, t, ks, h, 0, hd, _, _, _, _, _ => by omega
  | k + 1, t, ks, h, d + 1, hd, xs, ys, hx, hy, w => by
    have ih := fun (t : TypeId) (ks : List CelK) (h : ceqB P k t = some ks) (xs ys : List CelV) (hx : xs.map CelV.k = ks) (hy : ys.map CelV.k = ks) (w : World) => equalIn_cells k t ks h d (by omega) xs ys hx hy w
    unfold ceqB at h
    split at h
    · rename_i fs hu
      split at h
      · cases h
      · rename_i hp
        have hf : P.fieldsOf t = fs := by unfold Program.fieldsOf; rw [hu]
        simp only [valC, hu]
        rw [run_equalIn_struct w d t _ _ (by rw [hf]; exact hu) (by simpa using hp), hf]
        have := eqFields_cells ih fs.toList 0 ks h [] [] xs ys rfl rfl hx hy w
        simpa using this
    · rename_i len e hu
      split at h
      · cases h
      · rename_i k1 hk1
        split at h
        · rename_i hs
          cases h
          obtain ⟨i, h1, h2⟩ := info_size hs
          simp only [valC, hu]
          simp only [Op.equalIn, Sem.run_bind, run_underlying hu, Result.andThen_ok]
          have hsz : (sizeOf e).run P w = .ok k1.length w := by simp [sizeOf, typeInfo, h1, h2, Result.andThen]
          simp only [hsz, Result.andThen_ok]
          rw [Std.Legacy.Range.forIn_eq_forIn_range']
          have key : ∀ (q off : Nat) (px py qx qy : List CelV), px.length = off * k1.length → py.length = off * k1.length → qx.map CelV.k = (List.replicate q k1).flatten → qy.map CelV.k = (List.replicate q k1).flatten → ∀ w, (forIn (m := Sem) (List.range' off q 1) ((none : Option Bool), ()) fun i __s => do
              let __do_lift ← part e (cellsC (px ++ qx)) (i * k1.length)
              let __do_lift_1 ← part e (cellsC (py ++ qy)) (i * k1.length)
              let __do_lift ← Op.equalIn d e __do_lift __do_lift_1
              if (!__do_lift) = true then pure (ForInStep.done (some false, ())) else pure (ForInStep.yield (none, ()))).run P w = .ok (if qx = qy then (none, ()) else (some false, ())) w := by
            intro q
            induction q with
            | zero =>
              intro off px py qx qy l1 l2 g1 g2 w
              have e1 : qx = [] := by simpa using g1
              have e2 : qy = [] := by simpa using g2
              simp [e1, e2]
            | succ q ihq =>
              intro off px py qx qy l1 l2 g1 g2 w
              rw [List.replicate_succ, List.flatten_cons] at g1 g2
              obtain ⟨x1, x2, rfl, a1, a2⟩ := map_app g1
              obtain ⟨y1, y2, rfl, b1, b2⟩ := map_app g2
              have lx : x1.length = k1.length := by rw [← a1, List.length_map]
              have ly : y1.length = k1.length := by rw [← b1, List.length_map]
              have p1 := run_part_cells hk1 hs px x1 x2 a1 w
              have p2 := run_part_cells hk1 hs py y1 y2 b1 w
              have e1 := ih e k1 hk1 x1 y1 a1 b1 w
              have hrec := ihq (off + 1) (px ++ x1) (py ++ y1) x2 y2 (by rw [List.length_append, l1, lx, Nat.succ_mul]) (by rw [List.length_append, l2, ly, Nat.succ_mul]) a2 b2 w
              rw [l1] at p1
              rw [l2] at p2
              simp only [List.append_assoc] at hrec
              rw [List.range'_succ, List.forIn_cons]
              simp only [Sem.run_bind, p1, p2, Result.andThen_ok, e1]
              by_cases hh : x1 = y1
              · simp only [hh, decide_true, Bool.not_true, Bool.false_eq_true, if_false, Sem.run_pure, Result.andThen_ok]
                rw [← hh] at hrec ⊢
                rw [hrec]
                by_cases h3 : x2 = y2
                · rw [if_pos h3, if_pos (by rw [h3])]
                · rw [if_neg h3, if_neg (fun e => h3 (List.append_cancel_left e))]
              · have hne : ¬ x1 ++ x2 = y1 ++ y2 := fun e => hh (List.append_inj_left e (by rw [lx, ly]))
                simp [hh, hne]
          have hk := key len 0 [] [] xs ys (by simp) (by simp) hx hy w
          simp only [List.nil_append] at hk
          have hr : List.range' ([:len] : Std.Legacy.Range).start ([:len] : Std.Legacy.Range).size ([:len] : Std.Legacy.Range).step = List.range' 0 len 1 := by simp [Std.Legacy.Range.size]
          rw [hr, hk]
          by_cases h4 : xs = ys
          · simp [h4]
          · simp [h4]
        · cases h
    · rename_i dd hd1 hd2 hu
      cases hc : ceqOf dd with
      | none => rw [hc] at h; cases h
      | some c =>
        rw [hc] at h
        cases h
        obtain ⟨a, rfl⟩ := List.length_eq_one_iff.1 (show xs.length = 1 by have := congrArg List.length hx; simpa using this)
        obtain ⟨b, rfl⟩ := List.length_eq_one_iff.1 (show ys.length = 1 by have := congrArg List.length hy; simpa using this)
        · simp only [List.map_cons, List.map_nil, List.cons.injEq, and_true] at hx hy
          cases dd <;> first | (cases hc; done) | skip
          all_goals cases hc
          · cases a <;> cases hx
            cases b <;> cases hy
            simp only [valC, hu, CelV.v]
            rw [run_equalIn_bool' w d t _ _ hu]
            rename_i a b
            cases a <;> cases b <;> rfl
          · cases a <;> cases hx
            cases b <;> cases hy
            simp only [valC, hu, CelV.v]
            rw [run_equalIn_int w d t _ _ _ _ hu]
            rename_i a b
            by_cases e : a = b <;> simp [e]
          · cases a <;> cases hx
            cases b <;> cases hy
            simp only [valC, hu, CelV.v]
            rw [run_equalIn_string w d t _ _ hu, bs_toList, bs_toList]
            rename_i a b
            by_cases e : a = b <;> simp [e]
    · cases h
/-- A struct or an array of such cells. -/
class CellsT (P : Program) (t : TypeId) (ks : outParam (List CelK)) : Prop where
  ok : ceqB P 6 t = some ks ∧ P.eqGuardType P.depth t = false ∧ aggDesc <$> P.underlying t = some true
theorem valC_agg {P : Program} {t : TypeId} {ks : List CelK} [h : CellsT P t ks] (l : List CelV) : valC P t l = .agg (cellsC l) := by
  have := h.ok.2.2
  unfold valC
  split
  · rfl
  · rfl
  · rename_i d h1 h2
    cases hu : P.underlying t with
    | none => rw [hu] at this; cases this
    | some d =>
      rw [hu] at this
      cases d <;> first | (simp [aggDesc] at this; done) | (exact absurd hu (h1 _)) | (exact absurd hu (h2 _ _))
class CellsL (cs : List Value) (xs : outParam (List CelV)) : Prop where
  ok : cs = xs.map CelV.v
instance : CellsL [] [] := ⟨rfl⟩
instance {k : IntKind} {a : Int} {l : List Value} {xs : List CelV} [h : CellsL l xs] : CellsL (.int k a :: l) (.i k a :: xs) := ⟨by rw [h.ok]; rfl⟩
instance {a : List UInt8} {l : List Value} {xs : List CelV} [h : CellsL l xs] : CellsL (.string (bs a) :: l) (.s a :: xs) := ⟨by rw [h.ok]; rfl⟩
instance {a : Bool} {l : List Value} {xs : List CelV} [h : CellsL l xs] : CellsL (.bool a :: l) (.b a :: xs) := ⟨by rw [h.ok]; rfl⟩
class CellsA (cs : Array Value) (xs : outParam (List CelV)) : Prop where
  ok : cs = cellsC xs
instance {l : List Value} {xs : List CelV} [h : CellsL l xs] : CellsA l.toArray xs := ⟨by rw [h.ok]; rfl⟩
section
variable {P : Program} {n : Nat} {env : Env} {F : List HProp} {t u : TypeId} {x y : Operand} {cs ds : Array Value} {xs ys : List CelV} {ks : List CelK}
theorem Runs.eqlCells [ht : CellsT P t ks] (hx : opnd env x = some (.agg cs)) (hy : opnd env y = some (.agg ds)) [h1 : CellsA cs xs] [h2 : CellsA ds ys] (l1 : xs.map CelV.k = ks) (l2 : ys.map CelV.k = ks) : Runs P n env F (.binOp .eql t x y u) (.bool (decide (xs = ys))) := .mk fun a w ty pos aft g d hf hw => by
  have e := equalIn_cells 6 t ks ht.ok.1 10000 (by omega) xs ys l1 l2 w
  rw [valC_agg, valC_agg] at e
  have hg : (eqGuard .eql t x y (.agg (cellsC xs)) (.agg (cellsC ys))).run P w = .ok () w := run_eqGuard_agg w .eql t x y _ _ ht.ok.2.1
  have hb := run_eql_struct (P := P) w t (cellsC xs) (cellsC ys)
  rw [e] at hb
  simp only [execOp, hf.eval hx, hf.eval hy, h1.ok, h2.ok]
  simp only [Sem.run_bind, hg, Result.andThen_ok]
  simp [hb, Result.andThen]
end
end Go.Proofs.YtipkgamiejenaaaGreat

/- Blocks of bytes: arrays and slices of bytes as lists; slices of them, copy, clear, comparing, the text of them. -/
namespace Go.Proofs.YtipkgamiejenaaaGreat
open Go Go.RowKit Go.MapKept
set_option linter.unusedVariables false
set_option linter.unusedSimpArgs false
set_option maxRecDepth 100000
/-- A whole block of n bytes. -/
def byB (T : TypeId) (g n : Nat) (l : List UInt8) : HProp := fun f => l.length = n ∧ blk g (.cells (l.map u8v).toArray T (0, 0)) f
theorem byB.open {w : World} {T : TypeId} {g n : Nat} {l : List UInt8} {F : List HProp} (h : holds w (byB T g n l :: F)) : l.length = n ∧ holds w (blk g (.cells (l.map u8v).toArray T (0, 0)) :: F) := holds.open_pure h
theorem byB.shut {w : World} {T : TypeId} {g n : Nat} {l : List UInt8} {F : List HProp} (e : l.length = n) (h : holds w (blk g (.cells (l.map u8v).toArray T (0, 0)) :: F)) : holds w (byB T g n l :: F) := h.mono fun f hf => ⟨e, hf⟩
class SeesBy (F : List HProp) (g : Nat) (n : outParam Nat) (l : outParam (List UInt8)) : Prop where
  at_ : ∀ w, holds w F → l.length = n ∧ ∃ T, w.heap[g]? = some (.cells (l.map u8v).toArray T (0, 0))
instance SeesBy.here {T : TypeId} {g n : Nat} {l : List UInt8} {F : List HProp} : SeesBy (byB T g n l :: F) g n l := ⟨fun w h => ⟨(byB.open h).1, T, (byB.open h).2.get_blk⟩⟩
instance (priority := 500) SeesBy.there {g n : Nat} {l : List UInt8} {F : List HProp} {X : HProp} [h : SeesBy F g n l] : SeesBy (X :: F) g n l := ⟨fun w hw => h.at_ w hw.tail⟩
class HasBy (F : List HProp) (g : Nat) (T : outParam TypeId) (n : outParam Nat) (l : outParam (List UInt8)) (F' : outParam (List HProp)) : Prop where
  perm : F.Perm (byB T g n l :: F')
instance HasBy.here {T : TypeId} {g n : Nat} {l : List UInt8} {F : List HProp} : HasBy (byB T g n l :: F) g T n l F := ⟨.refl _⟩
instance (priority := 500) HasBy.there {T : TypeId} {g n : Nat} {l : List UInt8} {F F' : List HProp} {X : HProp} [h : HasBy F g T n l F'] : HasBy (X :: F) g T n l (X :: F') := ⟨(h.perm.cons X).trans (.swap _ _ _)⟩
theorem by_cell {w : World} {g : Nat} {T : TypeId} {l : List UInt8} (h : w.heap[g]? = some (.cells (l.map u8v).toArray T (0, 0))) (j : Nat) : w.cell? ⟨g, j, none⟩ = (l[j]?).map u8v := by
  rw [cell_of_row w g j _ T (0, 0) h]; simp
section
variable {P : Program} {n d : Nat} {Q : Exit → Act → World → Prop} {env : Env} {F F' : List HProp} {ops : Array Oper} {rest : List Oper} {ty : TypeId} {pos : String} {aft : Array Edge}
theorem GL.storeBy {t T : TypeId} {x y : Operand} {b m : Nat} {c : Array Value} {l : List UInt8} (hx : opnd env x = some (.pointer (some ⟨b, 0, none⟩))) (hy : opnd env y = some (.agg (l.map u8v).toArray)) [ht : AggT P t m] [hb : HasBlk F b c T F'] (hl : l.length = m) (ho : Nat.beq c.size m = true)
    (h : GL P n ops Q rest env (byB T b m l :: F')) : GL P n ops Q (⟨none, .store t x y, ty, pos, aft, none⟩ :: rest) env F := .mk fun a w hf hw => by
  have ho := Nat.eq_of_beq_eq_true ho
  refine wpList_store_sl rfl rfl t x y rfl (off := 0) (.agg (l.map u8v).toArray) (hf.eval hx) (hf.eval hy) ?_ ?_ (hw.perm hb.perm) ?_ fun w' hw' => h a w' hf (byB.shut hl ?_)
  · obtain ⟨i, ds, g1, g2, g3, g4⟩ := ht.ok
    simp [g1, g2, Value.cells, hl]
  · intro u hu
    simp only [Value.cells, List.mem_map] at hu
    obtain ⟨c, _, rfl⟩ := hu
    rfl
  · simp [Value.cells, hl, ho]
  · have e : c.toList.take 0 ++ (Value.agg (l.map u8v).toArray).cells.toList ++ c.toList.drop (0 + (Value.agg (l.map u8v).toArray).cells.size) = l.map u8v := by
      simp [Value.cells, hl, ho]
    rw [e] at hw'; exact hw'
theorem Runs.loadBy {t : TypeId} {x : Operand} {b m : Nat} {l : List UInt8} [ht : AggT P t m] (hx : opnd env x = some (.pointer (some ⟨b, 0, none⟩))) [hb : SeesBy F b m l] : Runs P n env F (.load t x) (.agg (l.map u8v).toArray) := .mk fun a w ty pos aft g d hf hw => by
  obtain ⟨hl, T, h⟩ := hb.at_ w hw
  have := run_loadAgg (P := P) (t := t) (b := b) (off := 0) (w := w) (vs := l.map u8v) (by simpa using hl) (fun j hj => by rw [Nat.zero_add, by_cell h]; simp)
  simp [execOp, hf.eval hx, Instr.loadAt, Instr.sureAddr, this, Result.andThen]
theorem Runs.sliceArr {t e : TypeId} {x : Operand} {lo up : Option Operand} {b m : Nat} {i j : Int} (k q : Nat) [ht : ArrT P t m e 1] (hx : opnd env x = some (.pointer (some ⟨b, 0, none⟩))) (hlo : bnd env lo 0 = some i) (hhi : bnd env up m = some j) (hi : i = (k : Nat)) (hj : j = (q : Nat)) (hkq : k ≤ q) (hqm : q ≤ m) (hkm : k < m) :
    Runs P n env F (.slice t x lo up none) (.slice (some ⟨b, k, none⟩) (q - k) (m - k)) := .mk fun ac w ty pos aft g d hf hw => by
  subst hi hj
  obtain ⟨ie, g1, g2, g3⟩ := ht.ok
  have hsl : ∀ (L H : Option Value), (L = none ∧ k = 0 ∨ L = some (.int .i64 k)) → (H = none ∧ q = m ∨ H = some (.int .i64 q)) → (Instr.sliceBounds false m m L H none).run P w = .ok (k, q, m) w := by
    rintro L H (⟨rfl, rfl⟩ | rfl) (⟨rfl, rfl⟩ | rfl) <;> simp [Instr.sliceBounds, Instr.sliceBound, asIntOf, hkq, hqm, Result.andThen]
  have hL : lo.map ac.eval = none ∧ k = 0 ∨ lo.map ac.eval = some (.int .i64 k) := by
    cases lo with
    | none => left; simp only [bnd, Option.some.injEq] at hlo; exact ⟨rfl, by omega⟩
    | some x => right; simp [hf.bound hlo]
  have hH : up.map ac.eval = none ∧ q = m ∨ up.map ac.eval = some (.int .i64 q) := by
    cases up with
    | none => left; simp only [bnd, Option.some.injEq] at hhi; exact ⟨rfl, by omega⟩
    | some x => right; simp [hf.bound hhi]
  have hm : ¬ m = k := by omega
  have := hsl _ _ hL hH
  simp [execOp, hf.eval hx, Instr.sliceAt, Instr.sureAddr, run_underlying g1, sizeOf, typeInfo, g2, g3, this, Result.andThen, hm, Addr.add]
  intro h; omega
/-- A slice's end, by its literal. -/
theorem Runs.cutFrom {t e : TypeId} {x y : Operand} {r k m : Nat} {j : Int} [ht : SliceT P t e 1] (hx : opnd env x = some (.slice (some ⟨r, 0, none⟩) m m)) (hlo : opnd env y = some (.int .i64 j)) (hj : j = (k : Nat)) (hl : k < m) :
    Runs P n env F (.slice t x (some y) none none) (.slice (some ⟨r, k, none⟩) (m - k) (m - k)) := .mk fun ac w ty pos aft g d hf hw => by
  subst hj
  obtain ⟨it, g1, g2, g3⟩ := ht.ok
  have hsl : (Instr.sliceBounds true m m (some (.int .i64 k)) none none).run P w = .ok (k, m, m) w := by
    simp [Instr.sliceBounds, Instr.sliceBound, asIntOf, Nat.le_of_lt hl, Result.andThen]
  have e1 : ¬ (m = k) := by omega
  simp [execOp, hf.eval hx, hf.eval hlo, Instr.sliceAt, Instr.slice, run_underlying g1, sizeOf, typeInfo, g2, g3, hsl, Result.andThen, Addr.add, e1]
  intro h; omega
theorem by_store {w : World} {T : TypeId} {g m k : Nat} {l s : List UInt8} {F : List HProp} (h : holds w (byB T g m l :: F)) (hk : k + s.length ≤ m) :
    ∃ w', (storeCells ⟨g, k, none⟩ (s.map u8v)).run P w = .ok () w' ∧ holds w' (byB T g m (By.splice l k s) :: F) := by
  obtain ⟨hl, hb⟩ := byB.open h
  have hst := run_storeCells_at P g k T (s.map u8v) 0 _ w hb.get_blk (by simp; omega) (fun v hv => by obtain ⟨c, _, rfl⟩ := List.mem_map.1 hv; rfl)
  have h5 := hb.turn (w' := w.setRow g ((l.map u8v).toArray.toList.take (k + 0) ++ s.map u8v ++ (l.map u8v).toArray.toList.drop (k + 0 + (s.map u8v).length)).toArray) ⟨rfl, rfl, rfl, by simp, fun k _ hk => setRow_other w g k _ (fun e => hk (by simp [e]))⟩ (setRow_heap w g _ _ T _ hb.get_blk)
  have e : (l.map u8v).toArray.toList.take (k + 0) ++ s.map u8v ++ (l.map u8v).toArray.toList.drop (k + 0 + (s.map u8v).length) = (By.splice l k s).map u8v := by
    simp [By.splice, List.map_take, List.map_drop]
  rw [e] at h5 hst
  exact ⟨_, hst, byB.shut (by rw [By.splice_len _ _ _ (by omega)]; exact hl) h5⟩
theorem bs_cells (l : List UInt8) (q : Nat) : ((bs l).extract 0 q).data.map (fun b => Value.int .u8 (b.toNat : Int)) = ((l.take q).map u8v).toArray := by
  rw [bs_extract]
  apply Array.ext'
  simp [bs]
  rfl
/-- copy of a text into a block of bytes. -/
theorem GL.copyBS {t t2 e : TypeId} {x y : Operand} {g k m cp : Nat} {T : TypeId} {N : Nat} {l s : List UInt8} [ht : SliceT P t e 1] (hx : opnd env x = some (.slice (some ⟨g, k, none⟩) m cp)) (hy : opnd env y = some (.string (bs s))) [hr : HasBy F g T N l F'] (hm : m ≤ s.length) (hk : k + m ≤ N) (hd : Nat.blt d n = true)
    (h : GL P n ops Q rest ((d, .int .i64 m) :: env) (byB T g N (By.splice l k (s.take m)) :: F')) : GL P n ops Q (⟨some d, .call { callee := .builtin .copy, args := #[x, y], argTypes := #[t, t2] }, ty, pos, aft, none⟩ :: rest) env F := .mk fun a w hf hw => by
  obtain ⟨it, g1, g2, g3⟩ := ht.ok
  refine wpList_plain rfl fun K hK => ?_
  obtain ⟨w', h1, h2⟩ := by_store (P := P) (k := k) (s := s.take m) (hw.perm hr.perm) (by rw [List.length_take]; omega)
  have hrun : (execOp a.eval ⟨some d, .call { callee := .builtin .copy, args := #[x, y], argTypes := #[t, t2] }, ty, pos, aft, none⟩).run P w = .ok (.value (.int .i64 m)) w' := by
    have hmn : Nat.min s.length m = m := by show min s.length m = m; omega
    have hmn' : min s.length m = m := by omega
    have hfc : (Builtin.firstCells 1 m (.string (bs s))).run P w = .ok ((s.take m).map u8v).toArray w := by
      have e : Builtin.firstCells 1 m (.string (bs s)) = Pure.pure (((bs s).extract 0 m).data.map fun b => Value.int .u8 (b.toNat : Int)) := rfl
      rw [e, bs_cells]; rfl
    have h1' : (storeCells ⟨g, k, none⟩ (List.take m (s.map u8v))).run P w = .ok () w' := by rw [← List.map_take]; exact h1
    simp [execOp, resolve, invoke, builtin, hf.eval hx, hf.eval hy, Builtin.copy_, run_underlying g1, Builtin.lenOf, bs_size, sizeOf, typeInfo, g2, g3, hmn, hmn', hfc, h1, h1', goInt, Result.andThen]
  unfold Oper.wp
  rw [hrun]
  exact hK _ _ (h _ _ (hf.put hd _) h2)
/-- copy of bytes of another block. -/
theorem GL.copyBB {t t2 e : TypeId} {x y : Operand} {g k m cp g2 k2 m2 cp2 q : Nat} {T : TypeId} {N N2 : Nat} {l s : List UInt8} [ht : SliceT P t e 1] (hx : opnd env x = some (.slice (some ⟨g, k, none⟩) m cp)) (hy : opnd env y = some (.slice (some ⟨g2, k2, none⟩) m2 cp2)) [hr : HasBy F g T N l F'] [hs : SeesBy F' g2 N2 s] (hq : q = min m2 m) (hk2 : k2 + m2 ≤ N2) (hk : k + m ≤ N) (hd : Nat.blt d n = true)
    (h : GL P n ops Q rest ((d, .int .i64 q) :: env) (byB T g N (By.splice l k ((s.drop k2).take q)) :: F')) : GL P n ops Q (⟨some d, .call { callee := .builtin .copy, args := #[x, y], argTypes := #[t, t2] }, ty, pos, aft, none⟩ :: rest) env F := .mk fun a w hf hw => by
  obtain ⟨it, g1, g2', g3⟩ := ht.ok
  refine wpList_plain rfl fun K hK => ?_
  have hw1 := hw.perm hr.perm
  obtain ⟨hsl, T2, hb⟩ := hs.at_ w hw1.tail
  have hlen : ((s.drop k2).take q).length = q := by rw [List.length_take, List.length_drop]; omega
  obtain ⟨w', h1, h2⟩ := by_store (P := P) (k := k) (s := (s.drop k2).take q) hw1 (by rw [hlen]; omega)
  have hfc := run_firstCells_some (P := P) (w := w) 1 q ⟨g2, k2, none⟩ m2 cp2 (((s.drop k2).take q).map u8v) (by rw [List.length_map, hlen, Nat.mul_one]) (fun j v hv => by
    have hj : j < q := by
      have := (List.getElem?_eq_some_iff.1 hv).1
      rw [List.length_map, hlen] at this; exact this
    rw [addr_add, by_cell hb]
    rw [List.getElem?_map, List.getElem?_take_of_lt hj, List.getElem?_drop] at hv
    exact hv)
  have hrun : (execOp a.eval ⟨some d, .call { callee := .builtin .copy, args := #[x, y], argTypes := #[t, t2] }, ty, pos, aft, none⟩).run P w = .ok (.value (.int .i64 q)) w' := by
    have hmn : Nat.min m2 m = q := hq.symm
    have h1' : (storeCells ⟨g, k, none⟩ (List.take q (List.drop k2 (s.map u8v)))).run P w = .ok () w' := by rw [← List.map_drop, ← List.map_take]; exact h1
    rw [List.map_take, List.map_drop] at hfc
    have hmn' : min m2 m = q := hq.symm
    simp [execOp, resolve, invoke, builtin, hf.eval hx, hf.eval hy, Builtin.copy_, run_underlying g1, Builtin.lenOf, sizeOf, typeInfo, g2', g3, hmn, hmn', hfc, h1', goInt, Result.andThen]
  unfold Oper.wp
  rw [hrun]
  exact hK _ _ (h _ _ (hf.put hd _) h2)
/-- The text of a block of bytes. -/
theorem Runs.textBy {t u e : TypeId} {x : Operand} {g m : Nat} {l : List UInt8} [ht : SliceT P t e 1] [he : IntT P e .u8] [hu : StrT P u] (hx : opnd env x = some (.slice (some ⟨g, 0, none⟩) m m)) [hs : SeesBy F g m l] : Runs P n env F (.convert t u x) (.string (bs l)) := .mk fun a w ty pos aft gd d hf hw => by
  obtain ⟨it, g1, g2, g3⟩ := ht.ok
  obtain ⟨rfl, T, hb⟩ := hs.at_ w hw
  have := run_convert_bytes_back (P := P) w t u e ⟨g, 0, none⟩ l.length l g1 he.ok hu.ok (fun j hj => by
    rw [addr_add, by_cell hb, Nat.zero_add, List.getElem?_eq_getElem hj]; rfl)
  simp [execOp, hf.eval hx, this, Result.andThen]
  rfl
instance {l : List UInt8} : CellsA (l.map u8v).toArray (l.map fun c => CelV.i .u8 (c.toNat : Int)) := ⟨by unfold cellsC; rw [List.map_map]; rfl⟩
theorem by_keys : ∀ (z : List UInt8) (m : Nat), z.length = m → (z.map fun c => CelV.i .u8 (c.toNat : Int)).map CelV.k = (List.replicate m [CelK.i .u8]).flatten := fun z m hz => by
  subst hz
  induction z with
  | nil => rfl
  | cons a z ih => rw [List.length_cons, List.replicate_succ, List.flatten_cons, List.map_cons, List.map_cons, ih]; rfl
/-- `==` of arrays of bytes. -/
theorem Runs.eqlBy {t u : TypeId} {x y : Operand} {m : Nat} {l r : List UInt8} [ht : CellsT P t (List.replicate m [CelK.i .u8]).flatten] (hx : opnd env x = some (.agg (l.map u8v).toArray)) (hy : opnd env y = some (.agg (r.map u8v).toArray)) (hl : l.length = m) (hr : r.length = m) : Runs P n env F (.binOp .eql t x y u) (.bool (decide (l = r))) := by
  have h := Runs.eqlCells (P := P) (n := n) (env := env) (F := F) (t := t) (x := x) (y := y) (u := u) hx hy (by_keys l m hl) (by_keys r m hr)
  have e : decide ((l.map fun c => CelV.i .u8 (c.toNat : Int)) = (r.map fun c => CelV.i .u8 (c.toNat : Int))) = decide (l = r) := by
    rw [decide_eq_decide]
    constructor
    · intro he
      have hinj : Function.Injective (fun c : UInt8 => CelV.i .u8 (c.toNat : Int)) := fun a b h => by
        simp only [CelV.i.injEq, true_and] at h
        exact UInt8.toNat_inj.1 (by omega)
      exact (List.map_inj_right (fun a b h => hinj h)).1 he
    · rintro rfl; rfl
  rw [e] at h; exact h
end
end Go.Proofs.YtipkgamiejenaaaGreat

/- Chapter 20 in plain terms: when chunks are sound, two ways of saying it. -/
namespace Go.Proofs.YtipkgamiejenaaaGreat

structure ChunkM where
  phase : Int
  owner : Int
  gen : Int

namespace Audit
def is (p : Int) : Bool := decide (0 ≤ p) && decide (p ≤ 3)
def right (c : ChunkM) : Bool := is c.phase && decide (0 ≤ c.owner) && (decide (0 < c.owner) == (c.phase == 1)) && decide (0 ≤ c.gen) && decide (c.gen ≤ 1048575)
def many (l : List ChunkM) (p : Int) : Nat := (l.filter fun c => c.phase == p).length
def deferredAt (l : List ChunkM) (i : Int) : Bool := decide (0 ≤ i) && decide (i < l.length) && (match l[i.toNat]? with | some c => c.phase == 2 | none => false)
def sound (l : List ChunkM) (w : List Int) : Bool := l.all right && (w.length == many l 2) && w.all (deferredAt l) && decide w.Nodup

def one (c : ChunkM) : Bool :=
  if c.phase = 1 then decide (0 < c.owner) && decide (0 ≤ c.gen) && decide (c.gen < 1048576)
  else (c.phase == 0 || c.phase == 2 || c.phase == 3) && (c.owner == 0) && decide (0 ≤ c.gen) && decide (c.gen < 1048576)
def refAt (w : List Int) (i : Nat) (c : ChunkM) : Bool := one c && !(c.phase == 2 && w.count (i : Int) != 1) && !(c.phase != 2 && w.count (i : Int) != 0)
def refRow (l : List ChunkM) (w : List Int) (i : Nat) : Bool := match l[i]? with | some c => refAt w i c | none => true
def refSound (l : List ChunkM) (w : List Int) : Bool := (List.range l.length).all (refRow l w) && w.all fun x => decide (0 ≤ x) && decide (x < l.length)

/-- The places that are deferred. -/
def places : List ChunkM → Nat → List Int
  | [], _ => []
  | c :: l, k => if c.phase = 2 then (k : Int) :: places l (k + 1) else places l (k + 1)

end Audit
end Go.Proofs.YtipkgamiejenaaaGreat

/- A store as the document says, and a stack's places: what is plain. -/
namespace Go.Proofs.YtipkgamiejenaaaGreat
open Go Go.RowKit Go.MapKept
set_option linter.unusedVariables false
set_option linter.unusedSimpArgs false
namespace St
structure S where
  size : Nat
  ch : List ChunkM
  tx : List (List UInt8)
  wi : List Int
  stack : List Int
  ev : List Int
def ch0 : ChunkM := ⟨0, 0, 0⟩
def up (l : List Int) (k : Nat) : List Int := l.set k (l.getD k 0 + 1)
def S.c (t : S) (i : Int) : ChunkM := t.ch.getD i.toNat ch0
def S.x (t : S) (i : Int) : List UInt8 := t.tx.getD i.toNat []
def S.w (t : S) (i : Int) : Int := t.wi.getD i.toNat 0
def S.out (t : S) (i : Int) : Prop := i < 0 ∨ (t.ch.length : Int) ≤ i
instance (t : S) (i : Int) : Decidable (t.out i) := inferInstanceAs (Decidable (_ ∨ _))
def zeros (n : Nat) : List UInt8 := List.replicate n 0
def take (t : S) (ow : Int) : S × Int × Int :=
  if ow < 1 then (t, 0, 2) else match t.stack.getLast? with
    | none => (t, 0, 20)
    | some i => ({ t with stack := t.stack.dropLast, ch := t.ch.set i.toNat ⟨1, ow, (t.c i).gen⟩, ev := up t.ev 0 }, i, 0)
def give (t : S) (i ow : Int) : S × Int :=
  if t.out i then (t, 2) else if (t.c i).phase ≠ 1 ∨ (t.c i).owner ≠ ow then (t, 18) else
    ({ t with ch := t.ch.set i.toNat ⟨2, 0, (t.c i).gen⟩, ev := up t.ev 1 }, 0)
def start (t : S) (i : Int) : S × Int :=
  if t.out i then (t, 2) else if (t.c i).phase ≠ 2 then (t, 18) else
    ({ t with wi := t.wi.set i.toNat 0, ch := t.ch.set i.toNat ⟨3, 0, (t.c i).gen⟩, ev := up t.ev 2 }, 0)
def portion (t : S) (i n : Int) : Nat := (min n (t.size - t.w i)).toNat
def wiped (t : S) (i n : Int) : S := { t with tx := t.tx.set i.toNat (By.splice (t.x i) (t.w i).toNat (zeros (portion t i n))), wi := t.wi.set i.toNat (t.w i + portion t i n) }
def step (t : S) (i n : Int) : S × Bool × Int :=
  if t.out i ∨ n < 1 then (t, false, 2) else if (t.c i).phase ≠ 3 then (t, false, 18) else
    if t.w i + portion t i n < t.size then (wiped t i n, false, 0) else
      ({ wiped t i n with stack := t.stack ++ [i], ch := t.ch.set i.toNat ⟨0, 0, (t.c i).gen + 1⟩, ev := up t.ev 3 }, true, 0)
def stale (t : S) (i ge : Int) : Prop := (t.c i).phase ≠ 1 ∨ (t.c i).gen ≠ ge
instance (t : S) (i ge : Int) : Decidable (stale t i ge) := inferInstanceAs (Decidable (_ ∨ _))
def off (b : List UInt8) (at_ n : Int) : Prop := at_ < 0 ∨ n < 0 ∨ (b.length : Int) < at_ + n
instance (b : List UInt8) (at_ n : Int) : Decidable (off b at_ n) := inferInstanceAs (Decidable (_ ∨ _))
def load (t : S) (i ge at_ n : Int) : List UInt8 × Int :=
  if t.out i then ([], 2) else if stale t i ge then ([], 4) else if off (t.x i) at_ n then ([], 15) else (((t.x i).drop at_.toNat).take n.toNat, 0)
def put (t : S) (i ge at_ : Int) (s : List UInt8) : S × Int :=
  if t.out i then (t, 2) else if stale t i ge then (t, 4) else if off (t.x i) at_ s.length then (t, 15) else
    ({ t with tx := t.tx.set i.toNat (By.splice (t.x i) at_.toNat s) }, 0)
def cntP (l : List ChunkM) (p : Int) : Int := ((l.filter fun c => c.phase == p).length : Nat)
def gens (l : List ChunkM) : Int := (l.map (·.gen)).sum
structure CellOk (size K : Nat) (c : ChunkM) (b : List UInt8) (x : Int) : Prop where
  ph : 0 ≤ c.phase ∧ c.phase ≤ 3
  ow : (c.phase = 1 ∧ 0 < c.owner) ∨ (c.phase ≠ 1 ∧ c.owner = 0)
  ge : 0 ≤ c.gen ∧ c.gen ≤ K
  len : b.length = size
  zero : c.phase = 0 → ∀ y ∈ b, y = 0
  wip : c.phase = 3 → (0 ≤ x ∧ x < size) ∧ ∀ y ∈ b.take x.toNat, y = 0
structure Inv (t : S) (K : Nat) : Prop where
  n1 : t.tx.length = t.ch.length
  n2 : t.wi.length = t.ch.length
  n3 : t.ev.length = 4
  ncap : t.ch.length ≤ 1048576
  sz : 64 ≤ t.size ∧ t.size ≤ 1048576 ∧ t.size % 64 = 0
  cell : ∀ (i : Nat) (h : i < t.ch.length), CellOk t.size K t.ch[i] (t.x i) (t.w i)
  nodup : t.stack.Nodup
  free : ∀ x : Int, x ∈ t.stack ↔ ∃ (i : Nat) (h : i < t.ch.length), x = i ∧ t.ch[i].phase = 0
  ev : ∀ e ∈ t.ev, 0 ≤ e ∧ e ≤ K
  gen : t.ev.getD 3 0 = gens t.ch
theorem CellOk.mono {size K K' : Nat} (hk : K ≤ K') {c : ChunkM} {b : List UInt8} {x : Int} (h : CellOk size K c b x) : CellOk size K' c b x := ⟨h.ph, h.ow, ⟨h.ge.1, by have := h.ge.2; omega⟩, h.len, h.zero, h.wip⟩
theorem Inv.mono {t : S} {K K' : Nat} (hk : K ≤ K') (h : Inv t K) : Inv t K' := ⟨h.n1, h.n2, h.n3, h.ncap, h.sz, fun i hi => (h.cell i hi).mono hk, h.nodup, h.free, fun e he => ⟨(h.ev e he).1, by have := (h.ev e he).2; omega⟩, h.gen⟩
theorem up_len (l : List Int) (k : Nat) : (up l k).length = l.length := by simp [up]
theorem up_in {l : List Int} {K : Nat} (h : ∀ e ∈ l, 0 ≤ e ∧ e ≤ (K : Int)) (k : Nat) : ∀ e ∈ up l k, 0 ≤ e ∧ e ≤ ((K + 1 : Nat) : Int) := by
  intro e he
  unfold up at he
  rcases List.mem_or_eq_of_mem_set he with h1 | rfl
  · have := h e h1; omega
  · rw [List.getD_eq_getElem?_getD]
    by_cases hk : k < l.length
    · rw [List.getElem?_eq_getElem hk]; have := h _ (List.getElem_mem hk); simp only [Option.getD_some]; omega
    · rw [List.getElem?_eq_none (by omega)]; simp only [Option.getD_none]; omega
theorem getD_set {α : Type} (l : List α) (i j : Nat) (v d : α) (hi : i < l.length) : (l.set i v).getD j d = if j = i then v else l.getD j d := by
  rw [List.getD_eq_getElem?_getD, List.getD_eq_getElem?_getD, List.getElem?_set]
  by_cases h : j = i
  · subst h; simp [hi]
  · rw [if_neg (fun e => h e.symm), if_neg h]
theorem gens_set : ∀ (l : List ChunkM) (i : Nat) (hi : i < l.length) (c : ChunkM), gens (l.set i c) = gens l + c.gen - (l[i]).gen
  | a :: l, 0, _, c => by simp [gens]; omega
  | a :: l, i + 1, hi, c => by
    have := gens_set l i (by simpa using hi) c
    simp only [gens, List.set_cons_succ, List.map_cons, List.sum_cons, List.getElem_cons_succ] at this ⊢
    omega
  | [], i, hi, c => by simp at hi
theorem cntP_set : ∀ (l : List ChunkM) (i : Nat) (hi : i < l.length) (c : ChunkM) (p : Int), cntP (l.set i c) p = cntP l p + (if c.phase = p then 1 else 0) - (if (l[i]).phase = p then 1 else 0)
  | a :: l, 0, _, c, p => by
    simp only [cntP, List.set_cons_zero, List.filter_cons, List.getElem_cons_zero, beq_iff_eq]
    split <;> split <;> simp <;> omega
  | a :: l, i + 1, hi, c, p => by
    have := cntP_set l i (by simpa using hi) c p
    simp only [cntP, List.set_cons_succ, List.filter_cons, List.getElem_cons_succ, beq_iff_eq] at this ⊢
    by_cases ha : a.phase = p
    · simp only [ha, if_true, List.length_cons]; omega
    · simp only [ha, if_false]; omega
  | [], i, hi, c, p => by simp at hi
theorem Inv.upd {t : S} {K : Nat} (h : Inv t K) (i : Nat) (hi : i < t.ch.length) {c : ChunkM} {b : List UInt8} {x : Int} {st ev : List Int} (hc : CellOk t.size (K + 1) c b x) (hn : st.Nodup)
    (hf : ∀ y : Int, y ∈ st ↔ if y = i then c.phase = 0 else y ∈ t.stack) (he3 : ev.length = 4) (hev : ∀ e ∈ ev, 0 ≤ e ∧ e ≤ ((K + 1 : Nat) : Int)) (hg : ev.getD 3 0 = t.ev.getD 3 0 + c.gen - (t.ch[i]).gen) :
    Inv { t with ch := t.ch.set i c, tx := t.tx.set i b, wi := t.wi.set i x, stack := st, ev := ev } (K + 1) := by
  refine ⟨by simpa using h.n1, by simpa using h.n2, he3, by simpa using h.ncap, h.sz, fun j hj => ?_, hn, fun y => ?_, hev, ?_⟩
  · simp only [List.length_set] at hj
    have hx : i < t.tx.length := by rw [h.n1]; exact hi
    have hw : i < t.wi.length := by rw [h.n2]; exact hi
    simp only [S.x, S.w, Int.toNat_natCast, getD_set _ _ _ _ _ hx, getD_set _ _ _ _ _ hw]
    by_cases e : j = i
    · subst e; simp only [List.getElem_set_self, if_true]; exact hc
    · have := (h.cell j hj).mono (Nat.le_succ K)
      simp only [S.x, S.w, Int.toNat_natCast] at this
      rw [if_neg e, if_neg e, List.getElem_set_ne (fun q => e q.symm)]
      exact this
  · simp only [hf y, h.free y, List.length_set]
    constructor
    · intro hy
      split at hy
      · rename_i e; exact ⟨i, hi, e, by simpa using hy⟩
      · rename_i e
        obtain ⟨j, hj, rfl, hp⟩ := hy
        exact ⟨j, hj, rfl, by rw [List.getElem_set_ne (fun q => e (by omega))]; exact hp⟩
    · rintro ⟨j, hj, rfl, hp⟩
      split
      · rename_i e
        have e2 : j = i := by omega
        subst e2; simpa using hp
      · rename_i e
        refine ⟨j, hj, rfl, ?_⟩
        rw [List.getElem_set_ne (fun q => e (by omega))] at hp; exact hp
  · dsimp only
    rw [hg, gens_set _ _ hi, h.gen]
theorem set_self {α : Type} (l : List α) (i : Nat) (d : α) : l.set i (l.getD i d) = l := by
  apply List.ext_getElem?
  intro j
  rw [List.getElem?_set]
  split
  · rename_i e; subst e
    split
    · rename_i hlt; rw [List.getD_eq_getElem?_getD, List.getElem?_eq_getElem hlt]; rfl
    · rename_i hlt; rw [List.getElem?_eq_none (by omega)]
  · rfl
theorem S.c_eq (t : S) (i : Nat) (hi : i < t.ch.length) : t.c i = t.ch[i] := by
  unfold S.c; rw [Int.toNat_natCast, List.getD_eq_getElem?_getD, List.getElem?_eq_getElem hi]; rfl
theorem snoc_last {α : Type} {l : List α} {y : α} (h : l.getLast? = some y) : l.dropLast ++ [y] = l := by
  have hne : l ≠ [] := fun e => by subst e; cases h
  have : y = l.getLast hne := by rw [List.getLast?_eq_some_getLast hne] at h; exact (Option.some.inj h).symm
  rw [this]; exact List.dropLast_concat_getLast hne
theorem Inv.take {t : S} {K : Nat} (h : Inv t K) (ow : Int) : Inv (take t ow).1 (K + 1) := by
  unfold St.take
  split
  · exact h.mono (Nat.le_succ _)
  · rename_i how
    cases hl : t.stack.getLast? with
    | none => exact h.mono (Nat.le_succ _)
    | some y =>
      have hs : t.stack = t.stack.dropLast ++ [y] := by
        exact (snoc_last hl).symm
      have hm : y ∈ t.stack := by rw [hs]; simp
      obtain ⟨i, hi, rfl, hp⟩ := (h.free y).1 hm
      have hnd := h.nodup
      rw [hs, List.nodup_append] at hnd
      have hc := (h.cell i hi)
      have u := h.upd i hi (c := ⟨1, ow, (t.c i).gen⟩) (b := t.x i) (x := t.w i) (st := t.stack.dropLast) (ev := up t.ev 0)
        ⟨by simp, .inl ⟨rfl, by dsimp only; omega⟩, by rw [t.c_eq i hi]; exact (hc.mono (Nat.le_succ K)).ge, hc.len, by simp, by simp⟩ hnd.1
        (fun z => by
          split
          · rename_i e; subst e
            simp only [Int.reduceEq, iff_false]
            intro hz; simp at *
            exact hnd.2 _ hz rfl
          · rename_i e
            constructor
            · exact fun hz => by rw [hs]; exact List.mem_append_left _ hz
            · intro hz; rw [hs] at hz; simp only [List.mem_append, List.mem_singleton] at hz; rcases hz with hz | hz
              · exact hz
              · exact absurd hz e)
        (by rw [up_len]; exact h.n3) (up_in h.ev 0) (by
          have e : (up t.ev 0).getD 3 0 = t.ev.getD 3 0 := by
            unfold up; rw [getD_set _ _ _ _ _ (by rw [h.n3]; omega), if_neg (by omega)]
          rw [e, t.c_eq i hi]; dsimp only; omega)
      simp only [S.x, S.w, Int.toNat_natCast, set_self] at u
      simpa using u
theorem out_ex {t : S} {i : Int} (h : ¬ t.out i) : ∃ k : Nat, i = k ∧ k < t.ch.length := by
  unfold S.out at h
  exact ⟨i.toNat, by omega, by omega⟩
theorem Inv.keep {t : S} {K : Nat} (h : Inv t K) (i : Nat) (hi : i < t.ch.length) {c : ChunkM} {b : List UInt8} {x : Int} {k : Nat} (hk : k < 3) (h1 : (t.ch[i]).phase ≠ 0) (h2 : c.phase ≠ 0) (hg : c.gen = (t.ch[i]).gen) (hc : CellOk t.size (K + 1) c b x) :
    Inv { t with ch := t.ch.set i c, tx := t.tx.set i b, wi := t.wi.set i x, ev := up t.ev k } (K + 1) := by
  refine h.upd i hi hc h.nodup (fun y => ?_) (by rw [up_len]; exact h.n3) (up_in h.ev k) ?_
  · split
    · rename_i e; subst e
      constructor
      · intro hy
        obtain ⟨j, hj, e, hp⟩ := (h.free _).1 hy
        have e2 : i = j := by omega
        subst e2; exact absurd hp h1
      · exact fun e => absurd e h2
    · exact .rfl
  · have e : (up t.ev k).getD 3 0 = t.ev.getD 3 0 := by
      unfold up; rw [getD_set _ _ _ _ _ (by rw [h.n3]; omega), if_neg (by omega)]
    rw [e, hg]; omega
theorem Inv.give {t : S} {K : Nat} (h : Inv t K) (i ow : Int) : Inv (give t i ow).1 (K + 1) := by
  unfold St.give
  split
  · exact h.mono (Nat.le_succ _)
  · rename_i ho
    obtain ⟨k, rfl, hk⟩ := out_ex ho
    split
    · exact h.mono (Nat.le_succ _)
    · rename_i hp
      rw [t.c_eq k hk] at hp ⊢
      have hc := h.cell k hk
      have u := h.keep k hk (c := ⟨2, 0, (t.ch[k]).gen⟩) (b := t.x k) (x := t.w k) (k := 1) (by omega) (by omega) (by simp) rfl
        ⟨by simp, .inr ⟨by simp, rfl⟩, (hc.mono (Nat.le_succ K)).ge, hc.len, by simp, by simp⟩
      simp only [S.x, S.w, Int.toNat_natCast, set_self] at u
      simpa using u
theorem Inv.start {t : S} {K : Nat} (h : Inv t K) (i : Int) : Inv (start t i).1 (K + 1) := by
  unfold St.start
  split
  · exact h.mono (Nat.le_succ _)
  · rename_i ho
    obtain ⟨k, rfl, hk⟩ := out_ex ho
    split
    · exact h.mono (Nat.le_succ _)
    · rename_i hp
      rw [t.c_eq k hk] at hp ⊢
      have hc := h.cell k hk
      have hsz := h.sz
      have u := h.keep k hk (c := ⟨3, 0, (t.ch[k]).gen⟩) (b := t.x k) (x := 0) (k := 2) (by omega) (by omega) (by simp) rfl
        ⟨by simp, .inr ⟨by simp, rfl⟩, (hc.mono (Nat.le_succ K)).ge, hc.len, by simp, fun _ => ⟨by omega, by simp⟩⟩
      simp only [S.x, Int.toNat_natCast, set_self] at u
      simpa using u
theorem splice_zero {b : List UInt8} {x m : Nat} (h0 : ∀ y ∈ b.take x, y = 0) (hx : x + m ≤ b.length) : ∀ y ∈ (By.splice b x (zeros m)).take (x + m), y = 0 := by
  intro y hy
  have e : (By.splice b x (zeros m)).take (x + m) = b.take x ++ zeros m := by
    unfold By.splice
    rw [List.take_append_of_le_length (by rw [List.length_append, List.length_take]; simp [zeros]; omega)]
    exact List.take_of_length_le (by rw [List.length_append, List.length_take]; simp [zeros]; omega)
  rw [e] at hy
  rcases List.mem_append.1 hy with h | h
  · exact h0 y h
  · exact (List.mem_replicate.1 h).2
theorem Inv.step {t : S} {K : Nat} (h : Inv t K) (i n : Int) : Inv (step t i n).1 (K + 1) := by
  unfold St.step
  split
  · exact h.mono (Nat.le_succ _)
  · rename_i ho
    obtain ⟨k, rfl, hk⟩ := out_ex (fun e => ho (.inl e))
    split
    · exact h.mono (Nat.le_succ _)
    · rename_i hp
      rw [t.c_eq k hk] at hp
      have hc := h.cell k hk
      obtain ⟨⟨hw0, hw1⟩, hz⟩ := hc.wip (by omega)
      have hpo : (t.w k) + portion t k n ≤ t.size := by unfold portion; omega
      have hlen : (By.splice (t.x k) (t.w k).toNat (zeros (portion t k n))).length = t.size := by
        rw [By.splice_len _ _ _ (by rw [hc.len]; simp only [zeros, List.length_replicate]; omega), hc.len]
      have hzz : ∀ y ∈ (By.splice (t.x k) (t.w k).toNat (zeros (portion t k n))).take ((t.w k) + portion t k n).toNat, y = 0 := by
        rw [show ((t.w k) + portion t k n).toNat = (t.w k).toNat + portion t k n by omega]
        exact splice_zero hz (by rw [hc.len]; omega)
      split
      · rename_i hlt
        have u := h.upd k hk (c := t.ch[k]) (b := By.splice (t.x k) (t.w k).toNat (zeros (portion t k n))) (x := t.w k + portion t k n) (st := t.stack) (ev := t.ev)
          ⟨hc.ph, hc.ow, (hc.mono (Nat.le_succ K)).ge, hlen, fun e => by omega, fun _ => ⟨by omega, hzz⟩⟩ h.nodup (fun y => by
            split
            · rename_i e; subst e
              constructor
              · intro hy
                obtain ⟨j, hj, e, hp2⟩ := (h.free _).1 hy
                have e2 : k = j := by omega
                subst e2; exact hp2
              · intro e; omega
            · exact .rfl) h.n3 (fun e he => by have := h.ev e he; omega) (by omega)
        rw [List.set_getElem_self] at u
        simpa [wiped] using u
      · rename_i hlt
        have hfull : ((t.w k) + portion t k n).toNat = t.size := by omega
        have u := h.upd k hk (c := ⟨0, 0, (t.ch[k]).gen + 1⟩) (b := By.splice (t.x k) (t.w k).toNat (zeros (portion t k n))) (x := t.w k + portion t k n) (st := t.stack ++ [(k : Int)]) (ev := up t.ev 3)
          ⟨by simp, .inr ⟨by simp, rfl⟩, by have := hc.ge; dsimp only; omega, hlen, fun _ => by
            rw [hfull] at hzz
            rw [List.take_of_length_le (by omega)] at hzz
            exact hzz, by simp⟩
          (by
            rw [List.nodup_append]
            refine ⟨h.nodup, by simp, fun a ha b hb => ?_⟩
            simp at hb; subst hb
            intro e; subst e
            obtain ⟨j, hj, e, hp2⟩ := (h.free _).1 ha
            have e2 : k = j := by omega
            subst e2; omega)
          (fun y => by
            simp only [List.mem_append, List.mem_singleton]
            split
            · rename_i e; simp [e]
            · rename_i e; simp [e])
          (by rw [up_len]; exact h.n3) (up_in h.ev 3) (by
            unfold up; rw [getD_set _ _ _ _ _ (by rw [h.n3]; omega), if_pos rfl]; dsimp only; omega)
        rw [t.c_eq k hk]
        simpa [wiped] using u
theorem Inv.put {t : S} {K : Nat} (h : Inv t K) (i ge at_ : Int) (s : List UInt8) : Inv (put t i ge at_ s).1 (K + 1) := by
  unfold St.put
  split
  · exact h.mono (Nat.le_succ _)
  · rename_i ho
    obtain ⟨k, rfl, hk⟩ := out_ex ho
    split
    · exact h.mono (Nat.le_succ _)
    · rename_i hs
      split
      · exact h.mono (Nat.le_succ _)
      · rename_i hof
        unfold stale at hs
        rw [t.c_eq k hk] at hs
        unfold off at hof
        have hc := h.cell k hk
        have u := h.upd k hk (c := t.ch[k]) (b := By.splice (t.x k) at_.toNat s) (x := t.w k) (st := t.stack) (ev := t.ev)
          ⟨hc.ph, hc.ow, (hc.mono (Nat.le_succ K)).ge, by rw [By.splice_len _ _ _ (by omega), hc.len], fun e => by omega, fun e => by omega⟩ h.nodup (fun y => by
            split
            · rename_i e; subst e
              constructor
              · intro hy
                obtain ⟨j, hj, e, hp2⟩ := (h.free _).1 hy
                have e2 : k = j := by omega
                subst e2; exact hp2
              · intro e; omega
            · exact .rfl) h.n3 (fun e he => by have := h.ev e he; omega) (by omega)
        rw [List.set_getElem_self] at u
        simp only [S.w, Int.toNat_natCast, set_self] at u
        simpa using u
end St
namespace Stk
theorem nodup_len : ∀ (n : Nat) (l : List Int), l.Nodup → (∀ x ∈ l, 0 ≤ x ∧ x < (n : Int)) → l.length ≤ n
  | 0, l, _, h => by
    cases l with
    | nil => simp
    | cons a l => have := h a (by simp); omega
  | n + 1, l, hn, h => by
    have h1 := nodup_len n (l.erase n) (hn.erase _) (fun x hx => by
      have := h x (List.mem_of_mem_erase hx)
      have hne : x ≠ n := fun e => by subst e; exact (List.Nodup.mem_erase_iff hn).1 hx |>.1 rfl
      omega)
    rw [List.length_erase] at h1
    split at h1 <;> omega
/-- What a stack's places say. -/
structure Ok (n : Nat) (pl l : List Int) : Prop where
  len : pl.length = n
  nodup : l.Nodup
  in_ : ∀ x ∈ l, 0 ≤ x ∧ x < (n : Int)
  at_ : ∀ (k : Nat) (h : k < l.length), pl.getD (l[k]).toNat 0 = k
  non : ∀ x : Nat, x < n → (x : Int) ∉ l → pl.getD x 0 = -1
theorem Ok.new (n : Nat) : Ok n (List.replicate n (-1)) [] := ⟨by simp, by simp, by simp, fun k h => by simp at h, fun x hx _ => by rw [List.getD_eq_getElem?_getD, List.getElem?_replicate, if_pos hx]; rfl⟩
theorem Ok.room {n : Nat} {pl l : List Int} (h : Ok n pl l) (x : Int) (hx : x ∉ l) (h0 : 0 ≤ x ∧ x < (n : Int)) : l.length < n := by
  have := nodup_len n (x :: l) (List.nodup_cons.2 ⟨hx, h.nodup⟩) (fun y hy => by
    rcases List.mem_cons.1 hy with rfl | hy
    · exact h0
    · exact h.in_ y hy)
  rw [List.length_cons] at this; omega
theorem Ok.push {n : Nat} {pl l : List Int} (h : Ok n pl l) (x : Nat) (hx : (x : Int) ∉ l) (h0 : x < n) : Ok n (pl.set x (l.length : Nat)) (l ++ [(x : Int)]) := by
  have hl := h.len
  refine ⟨by simpa using h.len, ?_, fun y hy => ?_, fun k hk => ?_, fun y hy hn => ?_⟩
  · rw [List.nodup_append]; exact ⟨h.nodup, by simp, fun a ha b hb => by simp at hb; subst hb; exact fun e => hx (e ▸ ha)⟩
  · rcases List.mem_append.1 hy with hy | hy
    · exact h.in_ y hy
    · simp at hy; subst hy; omega
  · rw [St.getD_set _ _ _ _ _ (by omega)]
    by_cases c : k < l.length
    · rw [List.getElem_append_left c, if_neg, h.at_ k c]
      intro e
      have hm := List.getElem_mem c
      have := h.in_ _ hm
      exact hx (by rw [← e, Int.toNat_of_nonneg this.1]; exact hm)
    · simp only [List.length_append, List.length_cons, List.length_nil] at hk
      rw [List.getElem_append_right (by omega)]
      simp only [List.getElem_singleton, Int.toNat_natCast, if_true]; omega
  · simp only [List.mem_append, List.mem_singleton, not_or] at hn
    rw [St.getD_set _ _ _ _ _ (by omega), if_neg (by omega)]
    exact h.non y hy hn.1
theorem Ok.pop {n : Nat} {pl l : List Int} {x : Nat} (h : Ok n pl (l ++ [(x : Int)])) : Ok n (pl.set x (-1)) l := by
  have hl := h.len
  have hnd := h.nodup
  rw [List.nodup_append] at hnd
  have hxn := h.in_ (x : Int) (by simp)
  have hx : (x : Int) ∉ l := fun hm => hnd.2.2 _ hm _ (by simp) rfl
  refine ⟨by simpa using h.len, hnd.1, fun y hy => h.in_ y (by simp [hy]), fun k hk => ?_, fun y hy hn => ?_⟩
  · rw [St.getD_set _ _ _ _ _ (by omega), if_neg]
    · have := h.at_ k (by simp; omega)
      rw [List.getElem_append_left hk] at this; exact this
    · intro e
      have hm := List.getElem_mem hk
      have := h.in_ _ (List.mem_append_left [(x : Int)] hm)
      exact hx (by rw [← e, Int.toNat_of_nonneg this.1]; exact hm)
  · rw [St.getD_set _ _ _ _ _ (by omega)]
    split
    · rfl
    · rename_i e
      exact h.non y hy (by simp only [List.mem_append, List.mem_singleton, not_or]; exact ⟨hn, by omega⟩)
theorem Ok.top {n : Nat} {pl l : List Int} {x : Nat} (h : Ok n pl (l ++ [(x : Int)])) : pl.getD x 0 = (l.length : Nat) := by
  have := h.at_ l.length (by simp)
  rw [List.getElem_append_right (by omega)] at this
  simpa using this
theorem Ok.is {n : Nat} {pl l : List Int} (h : Ok n pl l) (x : Nat) (hx : x < n) : 0 ≤ pl.getD x 0 ↔ (x : Int) ∈ l := by
  constructor
  · intro h0
    apply Classical.byContradiction
    intro hn
    rw [h.non x hx hn] at h0; omega
  · intro hm
    obtain ⟨k, hk, e⟩ := List.getElem_of_mem hm
    have := h.at_ k hk
    rw [e, Int.toNat_natCast] at this
    omega
end Stk
namespace St
/-- A store of which all chunks are free. -/
def new (n size : Nat) : S := ⟨size, List.replicate n ch0, List.replicate n (zeros size), List.replicate n 0, ((List.range n).reverse).map (Nat.cast : Nat → Int), [0, 0, 0, 0]⟩
theorem gens_new (n : Nat) : gens (List.replicate n ch0) = 0 := by
  induction n with
  | zero => rfl
  | succ n ih => rw [List.replicate_succ]; simp only [gens, List.map_cons, List.sum_cons] at ih ⊢; rw [ih]; rfl
theorem Inv.new (n size : Nat) (hn : n ≤ 1048576) (h : 64 ≤ size ∧ size ≤ 1048576 ∧ size % 64 = 0) : Inv (new n size) 0 := by
  refine ⟨by simp [St.new], by simp [St.new], rfl, by simpa [St.new] using hn, h, fun i hi => ?_, ?_, fun x => ?_, ?_, ?_⟩
  · have hi' : i < n := by simpa [St.new] using hi
    simp only [St.new, S.x, S.w, Int.toNat_natCast, List.getElem_replicate, List.getD_eq_getElem?_getD, List.getElem?_replicate, hi', if_true, Option.getD_some]
    exact ⟨by simp [ch0], .inr ⟨by simp [ch0], rfl⟩, by simp [ch0], by simp [zeros], fun _ y hy => (List.mem_replicate.1 hy).2, by simp [ch0]⟩
  · simp only [St.new, List.map_reverse]
    have h1 : (List.range n).Nodup := List.nodup_range
    unfold List.Nodup at h1 ⊢
    rw [List.pairwise_reverse, List.pairwise_map]
    exact h1.imp fun hne e => hne (Int.ofNat.inj e).symm
  · simp only [St.new, List.mem_map, List.mem_reverse, List.mem_range, List.length_replicate, List.getElem_replicate]
    constructor
    · rintro ⟨k, hk, rfl⟩; exact ⟨k, hk, rfl, rfl⟩
    · rintro ⟨k, hk, rfl, _⟩; exact ⟨k, hk, rfl⟩
  · simp [St.new]
  · simp only [St.new]; rw [gens_new]; rfl
end St
end Go.Proofs.YtipkgamiejenaaaGreat
