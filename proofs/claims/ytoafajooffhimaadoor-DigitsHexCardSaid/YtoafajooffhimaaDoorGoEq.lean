/- `==` of structs and arrays whose cells are ints, strings and booleans. -/
import Derived.Test.YtoafajooffhimaaDoorGoStr
import Derived.Test.YtoafajooffhimaaDoorGoLH
namespace Go.Proofs.YtoafajooffhimaaDoor
open Go Go.RowKit Go.MapKept
set_option linter.unusedVariables false
set_option linter.unusedSectionVars false
set_option linter.unusedSimpArgs false

/-- A cell's content, told plainly. -/
inductive CelV where
  | i (k : IntKind) (x : Int)
  | s (l : List UInt8)
  | b (x : Bool)
deriving DecidableEq
inductive CelK where
  | i (k : IntKind)
  | s
  | b
def CelV.v : CelV → Value
  | .i k x => .int k x
  | .s l => .string (bs l)
  | .b x => .bool x
def CelV.k : CelV → CelK
  | .i k _ => .i k
  | .s _ => .s
  | .b _ => .b
def ceqOf : TypeDesc → Option CelK
  | .int k => some (.i k)
  | .string => some .s
  | .bool => some .b
  | _ => none
def ceqF (P : Program) (g : TypeId → Option (List CelK)) : List Field → Nat → Option (List CelK)
  | [], _ => some []
  | f :: fs, off => if f.name = "_" ∨ f.offset ≠ off then none else match g f.type with
    | none => none
    | some ks => if (P.info? f.type).map (·.size) = some ks.length then (ceqF P g fs (off + ks.length)).map (ks ++ ·) else none
def ceqB (P : Program) : Nat → TypeId → Option (List CelK)
  | 0, _ => none
  | k + 1, t => match P.underlying t with
    | some (.struct fs) => if P.stoodInHeld t = true then none else ceqF P (ceqB P k) fs.toList 0
    | some (.array len e) => match ceqB P k e with
      | none => none
      | some ks => if (P.info? e).map (·.size) = some ks.length then some (List.replicate len ks).flatten else none
    | some d => (ceqOf d).map fun c => [c]
    | none => none
def cellsC (l : List CelV) : Array Value := (l.map CelV.v).toArray
def valC (P : Program) (t : TypeId) (l : List CelV) : Value := match P.underlying t with
  | some (.struct _) => .agg (cellsC l)
  | some (.array _ _) => .agg (cellsC l)
  | _ => match l with
    | [c] => c.v
    | _ => undef
theorem cellsC_extract (px q r : List CelV) (m : Nat) (hm : q.length = m) : (cellsC (px ++ (q ++ r))).extract px.length (px.length + m) = cellsC q := by
  subst hm
  apply Array.ext'
  simp [cellsC, List.extract_toArray, List.extract_eq_take_drop]
theorem map_app {α β : Type} {f : α → β} {q : List α} {a b : List β} (h : q.map f = a ++ b) : ∃ q1 q2, q = q1 ++ q2 ∧ q1.map f = a ∧ q2.map f = b := by
  obtain ⟨q1, q2, h1, h2, h3⟩ := List.map_eq_append_iff.1 h
  exact ⟨q1, q2, h1, h2, h3⟩
theorem ceq_scalar {d : TypeDesc} {c : CelK} (h : ceqOf d = some c) : aggDesc d = false := by
  cases d <;> first | rfl | cases h
theorem run_part_cells {P : Program} {k : Nat} {t : TypeId} {ks : List CelK} (hB : ceqB P k t = some ks) (hs : (P.info? t).map (·.size) = some ks.length) (px q r : List CelV) (hq : q.map CelV.k = ks) (w : World) :
    (part t (cellsC (px ++ (q ++ r))) px.length).run P w = .ok (valC P t q) w := by
  obtain ⟨i, h1, h2⟩ := info_size hs
  have hl : q.length = ks.length := by rw [← hq, List.length_map]
  cases k with
  | zero => cases hB
  | succ k =>
    unfold ceqB at hB
    split at hB
    · rename_i fs hu
      simp [part, isAgg, run_underlying hu, valC, hu, sizeOf, typeInfo, h1, h2, cellsC_extract _ _ _ _ hl, Result.andThen]
    · rename_i len e hu
      simp [part, isAgg, run_underlying hu, valC, hu, sizeOf, typeInfo, h1, h2, cellsC_extract _ _ _ _ hl, Result.andThen]
    · rename_i d hd1 hd2 hu
      cases hc : ceqOf d with
      | none => rw [hc] at hB; cases hB
      | some c =>
        rw [hc] at hB
        cases hB
        match q, hq with
        | [x], _ =>
          have hc1 : (cellsC (px ++ x :: r))[px.length]? = some x.v := by simp [cellsC]
          have ha := ceq_scalar hc
          cases d <;> first | (cases hc; done) | (cases ha; done) | simp [part, isAgg, run_underlying hu, valC, hu, Result.andThen, hc1]
    · cases hB
theorem eqFields_cells {P : Program} {k d : Nat} (ih : ∀ (t : TypeId) (ks : List CelK), ceqB P k t = some ks → ∀ (xs ys : List CelV), xs.map CelV.k = ks → ys.map CelV.k = ks → ∀ w, (Op.equalIn d t (valC P t xs) (valC P t ys)).run P w = .ok (decide (xs = ys)) w) :
    ∀ (fs : List Field) (off : Nat) (ks : List CelK), ceqF P (ceqB P k) fs off = some ks → ∀ (px py qx qy : List CelV), px.length = off → py.length = off → qx.map CelV.k = ks → qy.map CelV.k = ks → ∀ w, (Op.eqFields d (cellsC (px ++ qx)) (cellsC (py ++ qy)) fs).run P w = .ok (decide (qx = qy)) w
  | [], off, ks, h, px, py, qx, qy, l1, l2, h1, h2, w => by
    unfold ceqF at h
    cases h
    have e1 : qx = [] := by simpa using h1
    have e2 : qy = [] := by simpa using h2
    subst e1 e2
    simp [Op.eqFields]
  | f :: fs, off, ks, h, px, py, qx, qy, l1, l2, h1, h2, w => by
    unfold ceqF at h
    split at h
    · cases h
    · rename_i hn
      split at h
      · cases h
      · rename_i k1 hk1
        split at h
        · rename_i hs
          cases hr : ceqF P (ceqB P k) fs (off + k1.length) with
          | none => rw [hr] at h; cases h
          | some k2 =>
            rw [hr] at h
            cases h
            obtain ⟨x1, x2, rfl, a1, a2⟩ := map_app h1
            obtain ⟨y1, y2, rfl, b1, b2⟩ := map_app h2
            have lx : x1.length = k1.length := by rw [← a1, List.length_map]
            have ly : y1.length = k1.length := by rw [← b1, List.length_map]
            have hname : f.name ≠ "_" := fun e => hn (.inl e)
            have hoff : f.offset = off := Classical.not_not.1 fun e => hn (.inr e)
            have p1 := run_part_cells hk1 hs px x1 x2 a1 w
            have p2 := run_part_cells hk1 hs py y1 y2 b1 w
            have e1 := ih f.type k1 hk1 x1 y1 a1 b1 w
            have e2 := eqFields_cells ih fs (off + k1.length) k2 hr (px ++ x1) (py ++ y1) x2 y2 (by rw [List.length_append, l1, lx]) (by rw [List.length_append, l2, ly]) a2 b2 w
            rw [l1] at p1
            rw [l2] at p2
            rw [List.append_assoc, List.append_assoc] at e2
            rw [app_eq_iff (by rw [lx, ly])]
            simp only [Op.eqFields, if_pos hname, Sem.run_bind, hoff, p1, p2, Result.andThen_ok, e1]
            by_cases hh : x1 = y1
            · simp only [hh, decide_true, Bool.not_true, Bool.false_eq_true, if_false, Bool.true_and]
              rw [← e2, hh]
            · simp [hh]
        · cases h
theorem equalIn_cells {P : Program} : ∀ (k : Nat) (t : TypeId) (ks : List CelK), ceqB P k t = some ks → ∀ d, k ≤ d → ∀ (xs ys : List CelV), xs.map CelV.k = ks → ys.map CelV.k = ks → ∀ w,
    (Op.equalIn d t (valC P t xs) (valC P t ys)).run P w = .ok (decide (xs = ys)) w
  | 0, t, ks, h, _, _, _, _, _, _, _ => by cases h
  | k + 1, t, ks, h, 0, hd, _, _, _, _, _ => by omega
  | k + 1, t, ks, h, d + 1, hd, xs, ys, hx, hy, w => by
    have ih := fun (t : TypeId) (ks : List CelK) (h : ceqB P k t = some ks) (xs ys : List CelV) (hx : xs.map CelV.k = ks) (hy : ys.map CelV.k = ks) (w : World) => equalIn_cells k t ks h d (by omega) xs ys hx hy w
    unfold ceqB at h
    split at h
    · rename_i fs hu
      split at h
      · cases h
      · rename_i hp
        have hf : P.fieldsOf t = fs := by unfold Program.fieldsOf; rw [hu]
        simp only [valC, hu]
        rw [run_equalIn_struct w d t _ _ (by rw [hf]; exact hu) (by simpa using hp), hf]
        have := eqFields_cells ih fs.toList 0 ks h [] [] xs ys rfl rfl hx hy w
        simpa using this
    · rename_i len e hu
      split at h
      · cases h
      · rename_i k1 hk1
        split at h
        · rename_i hs
          cases h
          obtain ⟨i, h1, h2⟩ := info_size hs
          simp only [valC, hu]
          simp only [Op.equalIn, Sem.run_bind, run_underlying hu, Result.andThen_ok]
          have hsz : (sizeOf e).run P w = .ok k1.length w := by simp [sizeOf, typeInfo, h1, h2, Result.andThen]
          simp only [hsz, Result.andThen_ok]
          rw [Std.Legacy.Range.forIn_eq_forIn_range']
          have key : ∀ (q off : Nat) (px py qx qy : List CelV), px.length = off * k1.length → py.length = off * k1.length → qx.map CelV.k = (List.replicate q k1).flatten → qy.map CelV.k = (List.replicate q k1).flatten → ∀ w, (forIn (m := Sem) (List.range' off q 1) ((none : Option Bool), ()) fun i __s => do
              let __do_lift ← part e (cellsC (px ++ qx)) (i * k1.length)
              let __do_lift_1 ← part e (cellsC (py ++ qy)) (i * k1.length)
              let __do_lift ← Op.equalIn d e __do_lift __do_lift_1
              if (!__do_lift) = true then pure (ForInStep.done (some false, ())) else pure (ForInStep.yield (none, ()))).run P w = .ok (if qx = qy then (none, ()) else (some false, ())) w := by
            intro q
            induction q with
            | zero =>
              intro off px py qx qy l1 l2 g1 g2 w
              have e1 : qx = [] := by simpa using g1
              have e2 : qy = [] := by simpa using g2
              simp [e1, e2]
            | succ q ihq =>
              intro off px py qx qy l1 l2 g1 g2 w
              rw [List.replicate_succ, List.flatten_cons] at g1 g2
              obtain ⟨x1, x2, rfl, a1, a2⟩ := map_app g1
              obtain ⟨y1, y2, rfl, b1, b2⟩ := map_app g2
              have lx : x1.length = k1.length := by rw [← a1, List.length_map]
              have ly : y1.length = k1.length := by rw [← b1, List.length_map]
              have p1 := run_part_cells hk1 hs px x1 x2 a1 w
              have p2 := run_part_cells hk1 hs py y1 y2 b1 w
              have e1 := ih e k1 hk1 x1 y1 a1 b1 w
              have hrec := ihq (off + 1) (px ++ x1) (py ++ y1) x2 y2 (by rw [List.length_append, l1, lx, Nat.succ_mul]) (by rw [List.length_append, l2, ly, Nat.succ_mul]) a2 b2 w
              rw [l1] at p1
              rw [l2] at p2
              simp only [List.append_assoc] at hrec
              rw [List.range'_succ, List.forIn_cons]
              simp only [Sem.run_bind, p1, p2, Result.andThen_ok, e1]
              by_cases hh : x1 = y1
              · simp only [hh, decide_true, Bool.not_true, Bool.false_eq_true, if_false, Sem.run_pure, Result.andThen_ok]
                rw [← hh] at hrec ⊢
                rw [hrec]
                by_cases h3 : x2 = y2
                · rw [if_pos h3, if_pos (by rw [h3])]
                · rw [if_neg h3, if_neg (fun e => h3 (List.append_cancel_left e))]
              · have hne : ¬ x1 ++ x2 = y1 ++ y2 := fun e => hh (List.append_inj_left e (by rw [lx, ly]))
                simp [hh, hne]
          have hk := key len 0 [] [] xs ys (by simp) (by simp) hx hy w
          simp only [List.nil_append] at hk
          have hr : List.range' ([:len] : Std.Legacy.Range).start ([:len] : Std.Legacy.Range).size ([:len] : Std.Legacy.Range).step = List.range' 0 len 1 := by simp [Std.Legacy.Range.size]
          rw [hr, hk]
          by_cases h4 : xs = ys
          · simp [h4]
          · simp [h4]
        · cases h
    · rename_i dd hd1 hd2 hu
      cases hc : ceqOf dd with
      | none => rw [hc] at h; cases h
      | some c =>
        rw [hc] at h
        cases h
        obtain ⟨a, rfl⟩ := List.length_eq_one_iff.1 (show xs.length = 1 by have := congrArg List.length hx; simpa using this)
        obtain ⟨b, rfl⟩ := List.length_eq_one_iff.1 (show ys.length = 1 by have := congrArg List.length hy; simpa using this)
        · simp only [List.map_cons, List.map_nil, List.cons.injEq, and_true] at hx hy
          cases dd <;> first | (cases hc; done) | skip
          all_goals cases hc
          · cases a <;> cases hx
            cases b <;> cases hy
            simp only [valC, hu, CelV.v]
            rw [run_equalIn_bool' w d t _ _ hu]
            rename_i a b
            cases a <;> cases b <;> rfl
          · cases a <;> cases hx
            cases b <;> cases hy
            simp only [valC, hu, CelV.v]
            rw [run_equalIn_int w d t _ _ _ _ hu]
            rename_i a b
            by_cases e : a = b <;> simp [e]
          · cases a <;> cases hx
            cases b <;> cases hy
            simp only [valC, hu, CelV.v]
            rw [run_equalIn_string w d t _ _ hu, bs_toList, bs_toList]
            rename_i a b
            by_cases e : a = b <;> simp [e]
    · cases h
/-- A struct or an array of such cells. -/
class CellsT (P : Program) (t : TypeId) (ks : outParam (List CelK)) : Prop where
  ok : ceqB P 6 t = some ks ∧ P.eqGuardType P.depth t = false ∧ aggDesc <$> P.underlying t = some true
theorem valC_agg {P : Program} {t : TypeId} {ks : List CelK} [h : CellsT P t ks] (l : List CelV) : valC P t l = .agg (cellsC l) := by
  have := h.ok.2.2
  unfold valC
  split
  · rfl
  · rfl
  · rename_i d h1 h2
    cases hu : P.underlying t with
    | none => rw [hu] at this; cases this
    | some d =>
      rw [hu] at this
      cases d <;> first | (simp [aggDesc] at this; done) | (exact absurd hu (h1 _)) | (exact absurd hu (h2 _ _))
class CellsL (cs : List Value) (xs : outParam (List CelV)) : Prop where
  ok : cs = xs.map CelV.v
instance : CellsL [] [] := ⟨rfl⟩
instance {k : IntKind} {a : Int} {l : List Value} {xs : List CelV} [h : CellsL l xs] : CellsL (.int k a :: l) (.i k a :: xs) := ⟨by rw [h.ok]; rfl⟩
instance {a : List UInt8} {l : List Value} {xs : List CelV} [h : CellsL l xs] : CellsL (.string (bs a) :: l) (.s a :: xs) := ⟨by rw [h.ok]; rfl⟩
instance {a : Bool} {l : List Value} {xs : List CelV} [h : CellsL l xs] : CellsL (.bool a :: l) (.b a :: xs) := ⟨by rw [h.ok]; rfl⟩
class CellsA (cs : Array Value) (xs : outParam (List CelV)) : Prop where
  ok : cs = cellsC xs
instance {l : List Value} {xs : List CelV} [h : CellsL l xs] : CellsA l.toArray xs := ⟨by rw [h.ok]; rfl⟩
section
variable {P : Program} {n : Nat} {env : Env} {F : List HProp} {t u : TypeId} {x y : Operand} {cs ds : Array Value} {xs ys : List CelV} {ks : List CelK}
theorem Runs.eqlCells [ht : CellsT P t ks] (hx : opnd env x = some (.agg cs)) (hy : opnd env y = some (.agg ds)) [h1 : CellsA cs xs] [h2 : CellsA ds ys] (l1 : xs.map CelV.k = ks) (l2 : ys.map CelV.k = ks) : Runs P n env F (.binOp .eql t x y u) (.bool (decide (xs = ys))) := .mk fun a w ty pos aft g d hf hw => by
  have e := equalIn_cells 6 t ks ht.ok.1 10000 (by omega) xs ys l1 l2 w
  rw [valC_agg, valC_agg] at e
  have hg : (eqGuard .eql t x y (.agg (cellsC xs)) (.agg (cellsC ys))).run P w = .ok () w := run_eqGuard_agg w .eql t x y _ _ ht.ok.2.1
  have hb := run_eql_struct (P := P) w t (cellsC xs) (cellsC ys)
  rw [e] at hb
  simp only [execOp, hf.eval hx, hf.eval hy, h1.ok, h2.ok]
  simp only [Sem.run_bind, hg, Result.andThen_ok]
  simp [hb, Result.andThen]
theorem Runs.neqCells [ht : CellsT P t ks] (hx : opnd env x = some (.agg cs)) (hy : opnd env y = some (.agg ds)) [h1 : CellsA cs xs] [h2 : CellsA ds ys] (l1 : xs.map CelV.k = ks) (l2 : ys.map CelV.k = ks) : Runs P n env F (.binOp .neq t x y u) (.bool (!decide (xs = ys))) := .mk fun a w ty pos aft g d hf hw => by
  have e := equalIn_cells 6 t ks ht.ok.1 10000 (by omega) xs ys l1 l2 w
  rw [valC_agg, valC_agg] at e
  have hg : (eqGuard .neq t x y (.agg (cellsC xs)) (.agg (cellsC ys))).run P w = .ok () w := run_eqGuard_agg w .neq t x y _ _ ht.ok.2.1
  have hb := run_neq_struct (P := P) w t (cellsC xs) (cellsC ys)
  rw [e] at hb
  simp only [execOp, hf.eval hx, hf.eval hy, h1.ok, h2.ok]
  simp only [Sem.run_bind, hg, Result.andThen_ok]
  simp [hb, Result.andThen]
end
end Go.Proofs.YtoafajooffhimaaDoor
