import Derived.Test.YtipkgamiejenaaaGreatSepD
import Derived.Test.YtipkgamiejenaaaGreatLooseT
import Derived.Laws.BytesArg
import Derived.Laws.IdiomStrings
import Derived.Laws.DeepStrings4
import Derived.Test.YtipkgamiejenaaaGreatMg5
import Derived.Lib.OthersKept
import Derived.Laws.RangeString
import Derived.RangeFuncRecord
import Derived.RangeFuncBox
import Derived.KernelRfl
/- append(dst, src...) of an owned row, whatever the source holds; Go's copy of a slice of ints by append([]int.. , l...). What append of an owned row does, at an operation of such a region. Strings as lists of bytes; what a slice literal of bytes is as a string. -/
section
namespace Go.Proofs.YtipkgamiejenaaaGreat
open Go Go.RowKit Go.MapKept
set_option maxRecDepth 100000

section
variable {P : Program} {w : World} {l : List HProp}

end

end Go.Proofs.YtipkgamiejenaaaGreat
end
section
namespace Go.Proofs.YtipkgamiejenaaaGreat
open Go Go.RowKit
set_option linter.unusedVariables false

def sliceBlk : Value → Nat
  | .slice (some a) _ _ => a.block
  | _ => 0
def ptrBlk : Value → Nat
  | .pointer (some a) => a.block
  | _ => 0
def aggOf (u : Value) (j : Nat) : Value := match u with | .agg x => x.getD j undef | _ => undef
def tupOf (u : Value) (i : Nat) : Value := match u with | .tuple t => t.getD i undef | _ => undef

end Go.Proofs.YtipkgamiejenaaaGreat
end
section
namespace Go.Proofs.YtipkgamiejenaaaGreat
open Go Go.RowKit Go.MapKept
set_option maxRecDepth 100000
set_option linter.unusedVariables false

def bs (l : List UInt8) : ByteArray := ⟨l.toArray⟩
theorem bs_size (l : List UInt8) : (bs l).size = l.length := by simp [bs, ByteArray.size]
theorem bs_append (a b : List UInt8) : bs a ++ bs b = bs (a ++ b) := by
  apply ByteArray.ext
  simp [bs, ByteArray.data_append]
theorem bs_toList (l : List UInt8) : (bs l).toList = l := by rw [ByteArray.toList_eq]; simp [bs]
/-- A byte as a value. -/
def u8v (c : UInt8) : Value := .int .u8 (c.toNat : Int)

theorem bs_at (l : List UInt8) (i : Nat) (h : i < (bs l).size) : (bs l)[i] = l[i]'(by simpa [bs_size] using h) := by
  simp [bs, ByteArray.getElem_eq_getElem_data]

/-- A slice of bytes, owned. -/
def ownB (v : Value) (l : List UInt8) : HProp := ownRow 5 1 v l.length (l.map u8v)
end Go.Proofs.YtipkgamiejenaaaGreat
end

/- Strings by laws: joined, compared, cut, gone through rune by rune. -/
namespace Go.Proofs.YtipkgamiejenaaaGreat
open Go Go.RowKit Go.MapKept
set_option linter.unusedVariables false
set_option linter.unusedSectionVars false
set_option linter.unusedSimpArgs false

class StrT (P : Program) (t : TypeId) : Prop where
  ok : P.underlying t = some .string
section
variable {P : Program} {n : Nat} {Q : Exit → Act → World → Prop} {env : Env} {F : List HProp} {ops : Array Oper} {rest : List Oper} {d : Tmp} {ty xT yT : TypeId} {pos : String} {aft : Array Edge} {x y : Operand} {l m : List UInt8}
theorem Runs.strAdd (hx : opnd env x = some (.string (bs l))) (hy : opnd env y = some (.string (bs m))) (h : l.length + m.length ≤ 9223372036854775807) : Runs P n env F (.binOp .add xT x y yT) (.string (bs (l ++ m))) := .mk fun a w ty pos aft g d hf hw => by
  have h1 : ¬ ((((bs l).size + (bs m).size : Nat) : Int) > IntKind.i64.max) := by rw [bs_size, bs_size, show IntKind.i64.max = 9223372036854775807 from rfl]; omega
  simp [execOp, hf.eval hx, hf.eval hy, eqGuard, binOp, Op.stringOp, Result.andThen]
  rw [if_neg (by simpa using h1)]
  simp [bs_append]
theorem Runs.strEq (hx : opnd env x = some (.string (bs l))) (hy : opnd env y = some (.string (bs m))) : Runs P n env F (.binOp .eql xT x y yT) (.bool (decide (l = m))) := .mk fun a w ty pos aft g d hf hw => by
  simp [execOp, hf.eval hx, hf.eval hy, eqGuard, binOp, Op.stringOp, Result.andThen, bs_toList]
  rw [Bool.eq_iff_iff]; simp
theorem Runs.strLen {t : TypeId} [ht : StrT P t] (hx : opnd env x = some (.string (bs l))) : Runs P n env F (.call { callee := .builtin .len, args := #[x], argTypes := #[t] }) (.int .i64 l.length) := .mk fun a w ty pos aft g d hf hw => by
  simp [execOp, resolve, invoke, builtin, hf.eval hx, Builtin.len_, run_underlying ht.ok, Result.andThen, bs_size, goInt]
theorem Runs.strAt [ht : StrT P xT] {i : Int} {k : Nat} {kk : IntKind} (hx : opnd env x = some (.string (bs l))) (hy : opnd env y = some (.int kk i)) (hi : i = (k : Int)) (hk : k < l.length) : Runs P n env F (.index xT x y) (.int .u8 (l[k].toNat : Int)) := .mk fun a w ty pos aft g d hf hw => by
  subst hi
  have h1 : (bs l)[k]? = some l[k] := by
    have h2 : k < (bs l).size := by rw [bs_size]; exact hk
    rw [getElem?_pos (bs l) k h2, bs_at]
  simp [execOp, hf.eval hx, hf.eval hy, Instr.index, asIntOf, run_underlying ht.ok, Result.andThen, h1]
theorem bs_extract (l : List UInt8) (a b : Nat) : (bs l).extract a b = bs ((l.drop a).take (b - a)) := by
  apply ByteArray.ext
  simp [bs, ByteArray.data_extract, List.extract_eq_take_drop]
theorem Runs.strCut [ht : StrT P xT] {i j : Int} {a b : Nat} {lo hi : Operand} (hx : opnd env x = some (.string (bs l))) (hlo : opnd env lo = some (.int .i64 i)) (hhi : opnd env hi = some (.int .i64 j)) (hi' : i = (a : Int)) (hj : j = (b : Int)) (hab : a ≤ b) (hb : b ≤ l.length) :
    Runs P n env F (.slice xT x (some lo) (some hi) none) (.string (bs ((l.drop a).take (b - a)))) := .mk fun ac w ty pos aft g d hf hw => by
  subst hi' hj
  simp [execOp, hf.eval hx, hf.eval hlo, hf.eval hhi, Instr.sliceAt, Instr.slice, Instr.sliceBounds, Instr.sliceBound, asIntOf, run_underlying ht.ok, Result.andThen, bs_size, hb, hab, bs_extract]
theorem Runs.strFrom [ht : StrT P xT] {i : Int} {a : Nat} {lo : Operand} (hx : opnd env x = some (.string (bs l))) (hlo : opnd env lo = some (.int .i64 i)) (hi' : i = (a : Int)) (ha : a ≤ l.length) :
    Runs P n env F (.slice xT x (some lo) none none) (.string (bs (l.drop a))) := .mk fun ac w ty pos aft g d hf hw => by
  subst hi'
  have e : (l.drop a).take (l.length - a) = l.drop a := List.take_of_length_le (by simp)
  simp [execOp, hf.eval hx, hf.eval hlo, Instr.sliceAt, Instr.slice, Instr.sliceBounds, Instr.sliceBound, asIntOf, run_underlying ht.ok, Result.andThen, bs_size, ha, bs_extract, e]
theorem Runs.strUpto [ht : StrT P xT] {j : Int} {b : Nat} {hi : Operand} (hx : opnd env x = some (.string (bs l))) (hhi : opnd env hi = some (.int .i64 j)) (hj : j = (b : Int)) (hb : b ≤ l.length) :
    Runs P n env F (.slice xT x none (some hi) none) (.string (bs (l.take b))) := .mk fun ac w ty pos aft g d hf hw => by
  subst hj
  simp [execOp, hf.eval hx, hf.eval hhi, Instr.sliceAt, Instr.slice, Instr.sliceBounds, Instr.sliceBound, asIntOf, run_underlying ht.ok, Result.andThen, bs_size, hb, bs_extract]
end
end Go.Proofs.YtipkgamiejenaaaGreat

/- `==` of structs and arrays whose cells are ints, strings and booleans. -/
namespace Go.Proofs.YtipkgamiejenaaaGreat
open Go Go.RowKit Go.MapKept
set_option linter.unusedVariables false
set_option linter.unusedSectionVars false
set_option linter.unusedSimpArgs false

/-- A cell's content, told plainly. -/
inductive CelV where
  | i (k : IntKind) (x : Int)
  | s (l : List UInt8)
  | b (x : Bool)
deriving DecidableEq
inductive CelK where
  | i (k : IntKind)
  | s
  | b
def CelV.v : CelV → Value
  | .i k x => .int k x
  | .s l => .string (bs l)
  | .b x => .bool x
def CelV.k : CelV → CelK
  | .i k _ => .i k
  | .s _ => .s
  | .b _ => .b
def ceqOf : TypeDesc → Option CelK
  | .int k => some (.i k)
  | .string => some .s
  | .bool => some .b
  | _ => none
def ceqF (P : Program) (g : TypeId → Option (List CelK)) : List Field → Nat → Option (List CelK)
  | [], _ => some []
  | f :: fs, off => if f.name = "_" ∨ f.offset ≠ off then none else match g f.type with
    | none => none
    | some ks => if (P.info? f.type).map (·.size) = some ks.length then (ceqF P g fs (off + ks.length)).map (ks ++ ·) else none
def ceqB (P : Program) : Nat → TypeId → Option (List CelK)
  | 0, _ => none
  | k + 1, t => match P.underlying t with
    | some (.struct fs) => if P.stoodInHeld t = true then none else ceqF P (ceqB P k) fs.toList 0
    | some (.array len e) => match ceqB P k e with
      | none => none
      | some ks => if (P.info? e).map (·.size) = some ks.length then some (List.replicate len ks).flatten else none
    | some d => (ceqOf d).map fun c => [c]
    | none => none
def cellsC (l : List CelV) : Array Value := (l.map CelV.v).toArray
def valC (P : Program) (t : TypeId) (l : List CelV) : Value := match P.underlying t with
  | some (.struct _) => .agg (cellsC l)
  | some (.array _ _) => .agg (cellsC l)
  | _ => match l with
    | [c] => c.v
    | _ => undef
theorem cellsC_extract (px q r : List CelV) (m : Nat) (hm : q.length = m) : (cellsC (px ++ (q ++ r))).extract px.length (px.length + m) = cellsC q := by
  subst hm
  apply Array.ext'
  simp [cellsC, List.extract_toArray, List.extract_eq_take_drop]
theorem map_app {α β : Type} {f : α → β} {q : List α} {a b : List β} (h : q.map f = a ++ b) : ∃ q1 q2, q = q1 ++ q2 ∧ q1.map f = a ∧ q2.map f = b := by
  obtain ⟨q1, q2, h1, h2, h3⟩ := List.map_eq_append_iff.1 h
  exact ⟨q1, q2, h1, h2, h3⟩
theorem ceq_scalar {d : TypeDesc} {c : CelK} (h : ceqOf d = some c) : aggDesc d = false := by
  cases d <;> first | rfl | cases h
theorem run_part_cells {P : Program} {k : Nat} {t : TypeId} {ks : List CelK} (hB : ceqB P k t = some ks) (hs : (P.info? t).map (·.size) = some ks.length) (px q r : List CelV) (hq : q.map CelV.k = ks) (w : World) :
    (part t (cellsC (px ++ (q ++ r))) px.length).run P w = .ok (valC P t q) w := by
  obtain ⟨i, h1, h2⟩ := info_size hs
  have hl : q.length = ks.length := by rw [← hq, List.length_map]
  cases k with
  | zero => cases hB
  | succ k =>
    unfold ceqB at hB
    split at hB
    · rename_i fs hu
      simp [part, isAgg, run_underlying hu, valC, hu, sizeOf, typeInfo, h1, h2, cellsC_extract _ _ _ _ hl, Result.andThen]
    · rename_i len e hu
      simp [part, isAgg, run_underlying hu, valC, hu, sizeOf, typeInfo, h1, h2, cellsC_extract _ _ _ _ hl, Result.andThen]
    · rename_i d hd1 hd2 hu
      cases hc : ceqOf d with
      | none => rw [hc] at hB; cases hB
      | some c =>
        rw [hc] at hB
        cases hB
        match q, hq with
        | [x], _ =>
          have hc1 : (cellsC (px ++ x :: r))[px.length]? = some x.v := by simp [cellsC]
          have ha := ceq_scalar hc
          cases d <;> first | (cases hc; done) | (cases ha; done) | simp [part, isAgg, run_underlying hu, valC, hu, Result.andThen, hc1]
    · cases hB
theorem eqFields_cells {P : Program} {k d : Nat} (ih : ∀ (t : TypeId) (ks : List CelK), ceqB P k t = some ks → ∀ (xs ys : List CelV), xs.map CelV.k = ks → ys.map CelV.k = ks → ∀ w, (Op.equalIn d t (valC P t xs) (valC P t ys)).run P w = .ok (decide (xs = ys)) w) :
    ∀ (fs : List Field) (off : Nat) (ks : List CelK), ceqF P (ceqB P k) fs off = some ks → ∀ (px py qx qy : List CelV), px.length = off → py.length = off → qx.map CelV.k = ks → qy.map CelV.k = ks → ∀ w, (Op.eqFields d (cellsC (px ++ qx)) (cellsC (py ++ qy)) fs).run P w = .ok (decide (qx = qy)) w
  | [], off, ks, h, px, py, qx, qy, l1, l2, h1, h2, w => by
    unfold ceqF at h
    cases h
    have e1 : qx = [] := by simpa using h1
    have e2 : qy = [] := by simpa using h2
    subst e1 e2
    simp [Op.eqFields]
  | f :: fs, off, ks, h, px, py, qx, qy, l1, l2, h1, h2, w => by
    unfold ceqF at h
    split at h
    · cases h
    · rename_i hn
      split at h
      · cases h
      · rename_i k1 hk1
        split at h
        · rename_i hs
          cases hr : ceqF P (ceqB P k) fs (off + k1.length) with
          | none => rw [hr] at h; cases h
          | some k2 =>
            rw [hr] at h
            cases h
            obtain ⟨x1, x2, rfl, a1, a2⟩ := map_app h1
            obtain ⟨y1, y2, rfl, b1, b2⟩ := map_app h2
            have lx : x1.length = k1.length := by rw [← a1, List.length_map]
            have ly : y1.length = k1.length := by rw [← b1, List.length_map]
            have hname : f.name ≠ "_" := fun e => hn (.inl e)
            have hoff : f.offset = off := Classical.not_not.1 fun e => hn (.inr e)
            have p1 := run_part_cells hk1 hs px x1 x2 a1 w
            have p2 := run_part_cells hk1 hs py y1 y2 b1 w
            have e1 := ih f.type k1 hk1 x1 y1 a1 b1 w
            have e2 := eqFields_cells ih fs (off + k1.length) k2 hr (px ++ x1) (py ++ y1) x2 y2 (by rw [List.length_append, l1, lx]) (by rw [List.length_append, l2, ly]) a2 b2 w
            rw [l1] at p1
            rw [l2] at p2
            rw [List.append_assoc, List.append_assoc] at e2
            rw [app_eq_iff (by rw [lx, ly])]
            simp only [Op.eqFields, if_pos hname, Sem.run_bind, hoff, p1, p2, Result.andThen_ok, e1]
            by_cases hh : x1 = y1
            · simp only [hh, decide_true, Bool.not_true, Bool.false_eq_true, if_false, Bool.true_and]
              rw [← e2, hh]
            · simp [hh]
        · cases h
theorem equalIn_cells {P : Program} : ∀ (k : Nat) (t : TypeId) (ks : List CelK), ceqB P k t = some ks → ∀ d, k ≤ d → ∀ (xs ys : List CelV), xs.map CelV.k = ks → ys.map CelV.k = ks → ∀ w,
    (Op.equalIn d t (valC P t xs) (valC P t ys)).run P w = .ok (decide (xs = ys)) w
  | 0, t, ks, h, _, _, _, _, _, _, _ => by cases h
  | k + 1, t, ks, h, 0, hd, _, _, _, _, _ => by omega
  | k + 1, t, ks, h, d + 1, hd, xs, ys, hx, hy, w => by
    have ih := fun (t : TypeId) (ks : List CelK) (h : ceqB P k t = some ks) (xs ys : List CelV) (hx : xs.map CelV.k = ks) (hy : ys.map CelV.k = ks) (w : World) => equalIn_cells k t ks h d (by omega) xs ys hx hy w
    unfold ceqB at h
    split at h
    · rename_i fs hu
      split at h
      · cases h
      · rename_i hp
        have hf : P.fieldsOf t = fs := by unfold Program.fieldsOf; rw [hu]
        simp only [valC, hu]
        rw [run_equalIn_struct w d t _ _ (by rw [hf]; exact hu) (by simpa using hp), hf]
        have := eqFields_cells ih fs.toList 0 ks h [] [] xs ys rfl rfl hx hy w
        simpa using this
    · rename_i len e hu
      split at h
      · cases h
      · rename_i k1 hk1
        split at h
        · rename_i hs
          cases h
          obtain ⟨i, h1, h2⟩ := info_size hs
          simp only [valC, hu]
          simp only [Op.equalIn, Sem.run_bind, run_underlying hu, Result.andThen_ok]
          have hsz : (sizeOf e).run P w = .ok k1.length w := by simp [sizeOf, typeInfo, h1, h2, Result.andThen]
          simp only [hsz, Result.andThen_ok]
          rw [Std.Legacy.Range.forIn_eq_forIn_range']
          have key : ∀ (q off : Nat) (px py qx qy : List CelV), px.length = off * k1.length → py.length = off * k1.length → qx.map CelV.k = (List.replicate q k1).flatten → qy.map CelV.k = (List.replicate q k1).flatten → ∀ w, (forIn (m := Sem) (List.range' off q 1) ((none : Option Bool), ()) fun i __s => do
              let __do_lift ← part e (cellsC (px ++ qx)) (i * k1.length)
              let __do_lift_1 ← part e (cellsC (py ++ qy)) (i * k1.length)
              let __do_lift ← Op.equalIn d e __do_lift __do_lift_1
              if (!__do_lift) = true then pure (ForInStep.done (some false, ())) else pure (ForInStep.yield (none, ()))).run P w = .ok (if qx = qy then (none, ()) else (some false, ())) w := by
            intro q
            induction q with
            | zero =>
              intro off px py qx qy l1 l2 g1 g2 w
              have e1 : qx = [] := by simpa using g1
              have e2 : qy = [] := by simpa using g2
              simp [e1, e2]
            | succ q ihq =>
              intro off px py qx qy l1 l2 g1 g2 w
              rw [List.replicate_succ, List.flatten_cons] at g1 g2
              obtain ⟨x1, x2, rfl, a1, a2⟩ := map_app g1
              obtain ⟨y1, y2, rfl, b1, b2⟩ := map_app g2
              have lx : x1.length = k1.length := by rw [← a1, List.length_map]
              have ly : y1.length = k1.length := by rw [← b1, List.length_map]
              have p1 := run_part_cells hk1 hs px x1 x2 a1 w
              have p2 := run_part_cells hk1 hs py y1 y2 b1 w
              have e1 := ih e k1 hk1 x1 y1 a1 b1 w
              have hrec := ihq (off + 1) (px ++ x1) (py ++ y1) x2 y2 (by rw [List.length_append, l1, lx, Nat.succ_mul]) (by rw [List.length_append, l2, ly, Nat.succ_mul]) a2 b2 w
              rw [l1] at p1
              rw [l2] at p2
              simp only [List.append_assoc] at hrec
              rw [List.range'_succ, List.forIn_cons]
              simp only [Sem.run_bind, p1, p2, Result.andThen_ok, e1]
              by_cases hh : x1 = y1
              · simp only [hh, decide_true, Bool.not_true, Bool.false_eq_true, if_false, Sem.run_pure, Result.andThen_ok]
                rw [← hh] at hrec ⊢
                rw [hrec]
                by_cases h3 : x2 = y2
                · rw [if_pos h3, if_pos (by rw [h3])]
                · rw [if_neg h3, if_neg (fun e => h3 (List.append_cancel_left e))]
              · have hne : ¬ x1 ++ x2 = y1 ++ y2 := fun e => hh (List.append_inj_left e (by rw [lx, ly]))
                simp [hh, hne]
          have hk := key len 0 [] [] xs ys (by simp) (by simp) hx hy w
          simp only [List.nil_append] at hk
          have hr : List.range' ([:len] : Std.Legacy.Range).start ([:len] : Std.Legacy.Range).size ([:len] : Std.Legacy.Range).step = List.range' 0 len 1 := by simp [Std.Legacy.Range.size]
          rw [hr, hk]
          by_cases h4 : xs = ys
          · simp [h4]
          · simp [h4]
        · cases h
    · rename_i dd hd1 hd2 hu
      cases hc : ceqOf dd with
      | none => rw [hc] at h; cases h
      | some c =>
        rw [hc] at h
        cases h
        obtain ⟨a, rfl⟩ := List.length_eq_one_iff.1 (show xs.length = 1 by have := congrArg List.length hx; simpa using this)
        obtain ⟨b, rfl⟩ := List.length_eq_one_iff.1 (show ys.length = 1 by have := congrArg List.length hy; simpa using this)
        · simp only [List.map_cons, List.map_nil, List.cons.injEq, and_true] at hx hy
          cases dd <;> first | (cases hc; done) | skip
          all_goals cases hc
          · cases a <;> cases hx
            cases b <;> cases hy
            simp only [valC, hu, CelV.v]
            rw [run_equalIn_bool' w d t _ _ hu]
            rename_i a b
            cases a <;> cases b <;> rfl
          · cases a <;> cases hx
            cases b <;> cases hy
            simp only [valC, hu, CelV.v]
            rw [run_equalIn_int w d t _ _ _ _ hu]
            rename_i a b
            by_cases e : a = b <;> simp [e]
          · cases a <;> cases hx
            cases b <;> cases hy
            simp only [valC, hu, CelV.v]
            rw [run_equalIn_string w d t _ _ hu, bs_toList, bs_toList]
            rename_i a b
            by_cases e : a = b <;> simp [e]
    · cases h
/-- A struct or an array of such cells. -/
class CellsT (P : Program) (t : TypeId) (ks : outParam (List CelK)) : Prop where
  ok : ceqB P 6 t = some ks ∧ P.eqGuardType P.depth t = false ∧ aggDesc <$> P.underlying t = some true
theorem valC_agg {P : Program} {t : TypeId} {ks : List CelK} [h : CellsT P t ks] (l : List CelV) : valC P t l = .agg (cellsC l) := by
  have := h.ok.2.2
  unfold valC
  split
  · rfl
  · rfl
  · rename_i d h1 h2
    cases hu : P.underlying t with
    | none => rw [hu] at this; cases this
    | some d =>
      rw [hu] at this
      cases d <;> first | (simp [aggDesc] at this; done) | (exact absurd hu (h1 _)) | (exact absurd hu (h2 _ _))
class CellsL (cs : List Value) (xs : outParam (List CelV)) : Prop where
  ok : cs = xs.map CelV.v
instance : CellsL [] [] := ⟨rfl⟩
instance {k : IntKind} {a : Int} {l : List Value} {xs : List CelV} [h : CellsL l xs] : CellsL (.int k a :: l) (.i k a :: xs) := ⟨by rw [h.ok]; rfl⟩
instance {a : List UInt8} {l : List Value} {xs : List CelV} [h : CellsL l xs] : CellsL (.string (bs a) :: l) (.s a :: xs) := ⟨by rw [h.ok]; rfl⟩
instance {a : Bool} {l : List Value} {xs : List CelV} [h : CellsL l xs] : CellsL (.bool a :: l) (.b a :: xs) := ⟨by rw [h.ok]; rfl⟩
class CellsA (cs : Array Value) (xs : outParam (List CelV)) : Prop where
  ok : cs = cellsC xs
instance {l : List Value} {xs : List CelV} [h : CellsL l xs] : CellsA l.toArray xs := ⟨by rw [h.ok]; rfl⟩
section
variable {P : Program} {n : Nat} {env : Env} {F : List HProp} {t u : TypeId} {x y : Operand} {cs ds : Array Value} {xs ys : List CelV} {ks : List CelK}
theorem Runs.eqlCells [ht : CellsT P t ks] (hx : opnd env x = some (.agg cs)) (hy : opnd env y = some (.agg ds)) [h1 : CellsA cs xs] [h2 : CellsA ds ys] (l1 : xs.map CelV.k = ks) (l2 : ys.map CelV.k = ks) : Runs P n env F (.binOp .eql t x y u) (.bool (decide (xs = ys))) := .mk fun a w ty pos aft g d hf hw => by
  have e := equalIn_cells 6 t ks ht.ok.1 10000 (by omega) xs ys l1 l2 w
  rw [valC_agg, valC_agg] at e
  have hg : (eqGuard .eql t x y (.agg (cellsC xs)) (.agg (cellsC ys))).run P w = .ok () w := run_eqGuard_agg w .eql t x y _ _ ht.ok.2.1
  have hb := run_eql_struct (P := P) w t (cellsC xs) (cellsC ys)
  rw [e] at hb
  simp only [execOp, hf.eval hx, hf.eval hy, h1.ok, h2.ok]
  simp only [Sem.run_bind, hg, Result.andThen_ok]
  simp [hb, Result.andThen]
end
end Go.Proofs.YtipkgamiejenaaaGreat

/- Blocks of bytes: arrays and slices of bytes as lists; slices of them, copy, clear, comparing, the text of them. -/
namespace Go.Proofs.YtipkgamiejenaaaGreat
open Go Go.RowKit Go.MapKept
set_option linter.unusedVariables false
set_option linter.unusedSimpArgs false
set_option maxRecDepth 100000
/-- A whole block of n bytes. -/
def byB (T : TypeId) (g n : Nat) (l : List UInt8) : HProp := fun f => l.length = n ∧ blk g (.cells (l.map u8v).toArray T (0, 0)) f
theorem byB.open {w : World} {T : TypeId} {g n : Nat} {l : List UInt8} {F : List HProp} (h : holds w (byB T g n l :: F)) : l.length = n ∧ holds w (blk g (.cells (l.map u8v).toArray T (0, 0)) :: F) := holds.open_pure h
theorem byB.shut {w : World} {T : TypeId} {g n : Nat} {l : List UInt8} {F : List HProp} (e : l.length = n) (h : holds w (blk g (.cells (l.map u8v).toArray T (0, 0)) :: F)) : holds w (byB T g n l :: F) := h.mono fun f hf => ⟨e, hf⟩
class SeesBy (F : List HProp) (g : Nat) (n : outParam Nat) (l : outParam (List UInt8)) : Prop where
  at_ : ∀ w, holds w F → l.length = n ∧ ∃ T, w.heap[g]? = some (.cells (l.map u8v).toArray T (0, 0))
instance SeesBy.here {T : TypeId} {g n : Nat} {l : List UInt8} {F : List HProp} : SeesBy (byB T g n l :: F) g n l := ⟨fun w h => ⟨(byB.open h).1, T, (byB.open h).2.get_blk⟩⟩
instance (priority := 500) SeesBy.there {g n : Nat} {l : List UInt8} {F : List HProp} {X : HProp} [h : SeesBy F g n l] : SeesBy (X :: F) g n l := ⟨fun w hw => h.at_ w hw.tail⟩
class HasBy (F : List HProp) (g : Nat) (T : outParam TypeId) (n : outParam Nat) (l : outParam (List UInt8)) (F' : outParam (List HProp)) : Prop where
  perm : F.Perm (byB T g n l :: F')
instance HasBy.here {T : TypeId} {g n : Nat} {l : List UInt8} {F : List HProp} : HasBy (byB T g n l :: F) g T n l F := ⟨.refl _⟩
instance (priority := 500) HasBy.there {T : TypeId} {g n : Nat} {l : List UInt8} {F F' : List HProp} {X : HProp} [h : HasBy F g T n l F'] : HasBy (X :: F) g T n l (X :: F') := ⟨(h.perm.cons X).trans (.swap _ _ _)⟩
theorem by_cell {w : World} {g : Nat} {T : TypeId} {l : List UInt8} (h : w.heap[g]? = some (.cells (l.map u8v).toArray T (0, 0))) (j : Nat) : w.cell? ⟨g, j, none⟩ = (l[j]?).map u8v := by
  rw [cell_of_row w g j _ T (0, 0) h]; simp
section
variable {P : Program} {n d : Nat} {Q : Exit → Act → World → Prop} {env : Env} {F F' : List HProp} {ops : Array Oper} {rest : List Oper} {ty : TypeId} {pos : String} {aft : Array Edge}
theorem GL.storeBy {t T : TypeId} {x y : Operand} {b m : Nat} {c : Array Value} {l : List UInt8} (hx : opnd env x = some (.pointer (some ⟨b, 0, none⟩))) (hy : opnd env y = some (.agg (l.map u8v).toArray)) [ht : AggT P t m] [hb : HasBlk F b c T F'] (hl : l.length = m) (ho : Nat.beq c.size m = true)
    (h : GL P n ops Q rest env (byB T b m l :: F')) : GL P n ops Q (⟨none, .store t x y, ty, pos, aft, none⟩ :: rest) env F := .mk fun a w hf hw => by
  have ho := Nat.eq_of_beq_eq_true ho
  refine wpList_store_sl rfl rfl t x y rfl (off := 0) (.agg (l.map u8v).toArray) (hf.eval hx) (hf.eval hy) ?_ ?_ (hw.perm hb.perm) ?_ fun w' hw' => h a w' hf (byB.shut hl ?_)
  · obtain ⟨i, ds, g1, g2, g3, g4⟩ := ht.ok
    simp [g1, g2, Value.cells, hl]
  · intro u hu
    simp only [Value.cells, List.mem_map] at hu
    obtain ⟨c, _, rfl⟩ := hu
    rfl
  · simp [Value.cells, hl, ho]
  · have e : c.toList.take 0 ++ (Value.agg (l.map u8v).toArray).cells.toList ++ c.toList.drop (0 + (Value.agg (l.map u8v).toArray).cells.size) = l.map u8v := by
      simp [Value.cells, hl, ho]
    rw [e] at hw'; exact hw'
theorem Runs.loadBy {t : TypeId} {x : Operand} {b m : Nat} {l : List UInt8} [ht : AggT P t m] (hx : opnd env x = some (.pointer (some ⟨b, 0, none⟩))) [hb : SeesBy F b m l] : Runs P n env F (.load t x) (.agg (l.map u8v).toArray) := .mk fun a w ty pos aft g d hf hw => by
  obtain ⟨hl, T, h⟩ := hb.at_ w hw
  have := run_loadAgg (P := P) (t := t) (b := b) (off := 0) (w := w) (vs := l.map u8v) (by simpa using hl) (fun j hj => by rw [Nat.zero_add, by_cell h]; simp)
  simp [execOp, hf.eval hx, Instr.loadAt, Instr.sureAddr, this, Result.andThen]
theorem Runs.sliceArr {t e : TypeId} {x : Operand} {lo up : Option Operand} {b m : Nat} {i j : Int} (k q : Nat) [ht : ArrT P t m e 1] (hx : opnd env x = some (.pointer (some ⟨b, 0, none⟩))) (hlo : bnd env lo 0 = some i) (hhi : bnd env up m = some j) (hi : i = (k : Nat)) (hj : j = (q : Nat)) (hkq : k ≤ q) (hqm : q ≤ m) (hkm : k < m) :
    Runs P n env F (.slice t x lo up none) (.slice (some ⟨b, k, none⟩) (q - k) (m - k)) := .mk fun ac w ty pos aft g d hf hw => by
  subst hi hj
  obtain ⟨ie, g1, g2, g3⟩ := ht.ok
  have hsl : ∀ (L H : Option Value), (L = none ∧ k = 0 ∨ L = some (.int .i64 k)) → (H = none ∧ q = m ∨ H = some (.int .i64 q)) → (Instr.sliceBounds false m m L H none).run P w = .ok (k, q, m) w := by
    rintro L H (⟨rfl, rfl⟩ | rfl) (⟨rfl, rfl⟩ | rfl) <;> simp [Instr.sliceBounds, Instr.sliceBound, asIntOf, hkq, hqm, Result.andThen]
  have hL : lo.map ac.eval = none ∧ k = 0 ∨ lo.map ac.eval = some (.int .i64 k) := by
    cases lo with
    | none => left; simp only [bnd, Option.some.injEq] at hlo; exact ⟨rfl, by omega⟩
    | some x => right; simp [hf.bound hlo]
  have hH : up.map ac.eval = none ∧ q = m ∨ up.map ac.eval = some (.int .i64 q) := by
    cases up with
    | none => left; simp only [bnd, Option.some.injEq] at hhi; exact ⟨rfl, by omega⟩
    | some x => right; simp [hf.bound hhi]
  have hm : ¬ m = k := by omega
  have := hsl _ _ hL hH
  simp [execOp, hf.eval hx, Instr.sliceAt, Instr.sureAddr, run_underlying g1, sizeOf, typeInfo, g2, g3, this, Result.andThen, hm, Addr.add]
  intro h; omega
/-- A slice's end, by its literal. -/
theorem Runs.cutFrom {t e : TypeId} {x y : Operand} {r k m : Nat} {j : Int} [ht : SliceT P t e 1] (hx : opnd env x = some (.slice (some ⟨r, 0, none⟩) m m)) (hlo : opnd env y = some (.int .i64 j)) (hj : j = (k : Nat)) (hl : k < m) :
    Runs P n env F (.slice t x (some y) none none) (.slice (some ⟨r, k, none⟩) (m - k) (m - k)) := .mk fun ac w ty pos aft g d hf hw => by
  subst hj
  obtain ⟨it, g1, g2, g3⟩ := ht.ok
  have hsl : (Instr.sliceBounds true m m (some (.int .i64 k)) none none).run P w = .ok (k, m, m) w := by
    simp [Instr.sliceBounds, Instr.sliceBound, asIntOf, Nat.le_of_lt hl, Result.andThen]
  have e1 : ¬ (m = k) := by omega
  simp [execOp, hf.eval hx, hf.eval hlo, Instr.sliceAt, Instr.slice, run_underlying g1, sizeOf, typeInfo, g2, g3, hsl, Result.andThen, Addr.add, e1]
  intro h; omega
theorem by_store {w : World} {T : TypeId} {g m k : Nat} {l s : List UInt8} {F : List HProp} (h : holds w (byB T g m l :: F)) (hk : k + s.length ≤ m) :
    ∃ w', (storeCells ⟨g, k, none⟩ (s.map u8v)).run P w = .ok () w' ∧ holds w' (byB T g m (By.splice l k s) :: F) := by
  obtain ⟨hl, hb⟩ := byB.open h
  have hst := run_storeCells_at P g k T (s.map u8v) 0 _ w hb.get_blk (by simp; omega) (fun v hv => by obtain ⟨c, _, rfl⟩ := List.mem_map.1 hv; rfl)
  have h5 := hb.turn (w' := w.setRow g ((l.map u8v).toArray.toList.take (k + 0) ++ s.map u8v ++ (l.map u8v).toArray.toList.drop (k + 0 + (s.map u8v).length)).toArray) ⟨rfl, rfl, rfl, by simp, fun k _ hk => setRow_other w g k _ (fun e => hk (by simp [e]))⟩ (setRow_heap w g _ _ T _ hb.get_blk)
  have e : (l.map u8v).toArray.toList.take (k + 0) ++ s.map u8v ++ (l.map u8v).toArray.toList.drop (k + 0 + (s.map u8v).length) = (By.splice l k s).map u8v := by
    simp [By.splice, List.map_take, List.map_drop]
  rw [e] at h5 hst
  exact ⟨_, hst, byB.shut (by rw [By.splice_len _ _ _ (by omega)]; exact hl) h5⟩
theorem bs_cells (l : List UInt8) (q : Nat) : ((bs l).extract 0 q).data.map (fun b => Value.int .u8 (b.toNat : Int)) = ((l.take q).map u8v).toArray := by
  rw [bs_extract]
  apply Array.ext'
  simp [bs]
  rfl
/-- copy of a text into a block of bytes. -/
theorem GL.copyBS {t t2 e : TypeId} {x y : Operand} {g k m cp : Nat} {T : TypeId} {N : Nat} {l s : List UInt8} [ht : SliceT P t e 1] (hx : opnd env x = some (.slice (some ⟨g, k, none⟩) m cp)) (hy : opnd env y = some (.string (bs s))) [hr : HasBy F g T N l F'] (hm : m ≤ s.length) (hk : k + m ≤ N) (hd : Nat.blt d n = true)
    (h : GL P n ops Q rest ((d, .int .i64 m) :: env) (byB T g N (By.splice l k (s.take m)) :: F')) : GL P n ops Q (⟨some d, .call { callee := .builtin .copy, args := #[x, y], argTypes := #[t, t2] }, ty, pos, aft, none⟩ :: rest) env F := .mk fun a w hf hw => by
  obtain ⟨it, g1, g2, g3⟩ := ht.ok
  refine wpList_plain rfl fun K hK => ?_
  obtain ⟨w', h1, h2⟩ := by_store (P := P) (k := k) (s := s.take m) (hw.perm hr.perm) (by rw [List.length_take]; omega)
  have hrun : (execOp a.eval ⟨some d, .call { callee := .builtin .copy, args := #[x, y], argTypes := #[t, t2] }, ty, pos, aft, none⟩).run P w = .ok (.value (.int .i64 m)) w' := by
    have hmn : Nat.min s.length m = m := by show min s.length m = m; omega
    have hmn' : min s.length m = m := by omega
    have hfc : (Builtin.firstCells 1 m (.string (bs s))).run P w = .ok ((s.take m).map u8v).toArray w := by
      have e : Builtin.firstCells 1 m (.string (bs s)) = Pure.pure (((bs s).extract 0 m).data.map fun b => Value.int .u8 (b.toNat : Int)) := rfl
      rw [e, bs_cells]; rfl
    have h1' : (storeCells ⟨g, k, none⟩ (List.take m (s.map u8v))).run P w = .ok () w' := by rw [← List.map_take]; exact h1
    simp [execOp, resolve, invoke, builtin, hf.eval hx, hf.eval hy, Builtin.copy_, run_underlying g1, Builtin.lenOf, bs_size, sizeOf, typeInfo, g2, g3, hmn, hmn', hfc, h1, h1', goInt, Result.andThen]
  unfold Oper.wp
  rw [hrun]
  exact hK _ _ (h _ _ (hf.put hd _) h2)
/-- copy of bytes of another block. -/
theorem GL.copyBB {t t2 e : TypeId} {x y : Operand} {g k m cp g2 k2 m2 cp2 q : Nat} {T : TypeId} {N N2 : Nat} {l s : List UInt8} [ht : SliceT P t e 1] (hx : opnd env x = some (.slice (some ⟨g, k, none⟩) m cp)) (hy : opnd env y = some (.slice (some ⟨g2, k2, none⟩) m2 cp2)) [hr : HasBy F g T N l F'] [hs : SeesBy F' g2 N2 s] (hq : q = min m2 m) (hk2 : k2 + m2 ≤ N2) (hk : k + m ≤ N) (hd : Nat.blt d n = true)
    (h : GL P n ops Q rest ((d, .int .i64 q) :: env) (byB T g N (By.splice l k ((s.drop k2).take q)) :: F')) : GL P n ops Q (⟨some d, .call { callee := .builtin .copy, args := #[x, y], argTypes := #[t, t2] }, ty, pos, aft, none⟩ :: rest) env F := .mk fun a w hf hw => by
  obtain ⟨it, g1, g2', g3⟩ := ht.ok
  refine wpList_plain rfl fun K hK => ?_
  have hw1 := hw.perm hr.perm
  obtain ⟨hsl, T2, hb⟩ := hs.at_ w hw1.tail
  have hlen : ((s.drop k2).take q).length = q := by rw [List.length_take, List.length_drop]; omega
  obtain ⟨w', h1, h2⟩ := by_store (P := P) (k := k) (s := (s.drop k2).take q) hw1 (by rw [hlen]; omega)
  have hfc := run_firstCells_some (P := P) (w := w) 1 q ⟨g2, k2, none⟩ m2 cp2 (((s.drop k2).take q).map u8v) (by rw [List.length_map, hlen, Nat.mul_one]) (fun j v hv => by
    have hj : j < q := by
      have := (List.getElem?_eq_some_iff.1 hv).1
      rw [List.length_map, hlen] at this; exact this
    rw [addr_add, by_cell hb]
    rw [List.getElem?_map, List.getElem?_take_of_lt hj, List.getElem?_drop] at hv
    exact hv)
  have hrun : (execOp a.eval ⟨some d, .call { callee := .builtin .copy, args := #[x, y], argTypes := #[t, t2] }, ty, pos, aft, none⟩).run P w = .ok (.value (.int .i64 q)) w' := by
    have hmn : Nat.min m2 m = q := hq.symm
    have h1' : (storeCells ⟨g, k, none⟩ (List.take q (List.drop k2 (s.map u8v)))).run P w = .ok () w' := by rw [← List.map_drop, ← List.map_take]; exact h1
    rw [List.map_take, List.map_drop] at hfc
    have hmn' : min m2 m = q := hq.symm
    simp [execOp, resolve, invoke, builtin, hf.eval hx, hf.eval hy, Builtin.copy_, run_underlying g1, Builtin.lenOf, sizeOf, typeInfo, g2', g3, hmn, hmn', hfc, h1', goInt, Result.andThen]
  unfold Oper.wp
  rw [hrun]
  exact hK _ _ (h _ _ (hf.put hd _) h2)
theorem GL.clearBy {t e : TypeId} {x : Operand} {g k m cp : Nat} {T : TypeId} {N bytes : Nat} {l : List UInt8} [ht : SliceT P t e 1] [hz : ZeroT P e (.int .u8 0) 1 bytes] (hx : opnd env x = some (.slice (some ⟨g, k, none⟩) m cp)) [hr : HasBy F g T N l F'] (hm : 0 < m) (hk : k + m ≤ N)
    (h : GL P n ops Q rest env (byB T g N (By.splice l k (List.replicate m 0)) :: F')) : GL P n ops Q (⟨none, .call { callee := .builtin .clear, args := #[x], argTypes := #[t] }, ty, pos, aft, none⟩ :: rest) env F := .mk fun a w hf hw => by
  obtain ⟨it, g1, g2, g3⟩ := ht.ok
  obtain ⟨iz, k1, k2, k3, k4, k5⟩ := hz.ok
  refine wpList_plain rfl fun K hK => ?_
  obtain ⟨w', h1, h2⟩ := by_store (P := P) (k := k) (s := List.replicate m 0) (hw.perm hr.perm) (by rw [List.length_replicate]; omega)
  have hzr : ∀ w, (zeroValue e).run P w = .ok (.int .u8 0) w := fun w => by simp [zeroValue, typeInfo, k1, k2, Result.andThen]
  obtain ⟨m', rfl⟩ : ∃ j, m = j + 1 := ⟨m - 1, by omega⟩
  have hzc : (Builtin.zeroCells (Value.int .u8 0).cells (m' + 1)).toList = (List.replicate (m' + 1) (0 : UInt8)).map u8v := by
    apply List.ext_getElem
    · simp [Builtin.zeroCells, Value.cells]
    · intro i h1 h2
      simp [Builtin.zeroCells, Value.cells]
      rw [Nat.mod_one]; rfl
  have hrun : (execOp a.eval ⟨none, .call { callee := .builtin .clear, args := #[x], argTypes := #[t] }, ty, pos, aft, none⟩).run P w = .ok (.value (.tuple #[])) w' := by
    have h1' : (storeCells ⟨g, k, none⟩ (List.replicate (m' + 1) (u8v 0))).run P w = .ok () w' := by rw [← List.map_replicate]; exact h1
    simp [execOp, resolve, invoke, builtin, hf.eval hx, Builtin.clear_, run_underlying g1, hzr, hzc, h1', Result.andThen]
  unfold Oper.wp
  rw [hrun]
  exact hK _ _ (h _ _ (hf.put0 _) h2)
/-- The text of a block of bytes. -/
theorem Runs.textBy {t u e : TypeId} {x : Operand} {g m : Nat} {l : List UInt8} [ht : SliceT P t e 1] [he : IntT P e .u8] [hu : StrT P u] (hx : opnd env x = some (.slice (some ⟨g, 0, none⟩) m m)) [hs : SeesBy F g m l] : Runs P n env F (.convert t u x) (.string (bs l)) := .mk fun a w ty pos aft gd d hf hw => by
  obtain ⟨it, g1, g2, g3⟩ := ht.ok
  obtain ⟨rfl, T, hb⟩ := hs.at_ w hw
  have := run_convert_bytes_back (P := P) w t u e ⟨g, 0, none⟩ l.length l g1 he.ok hu.ok (fun j hj => by
    rw [addr_add, by_cell hb, Nat.zero_add, List.getElem?_eq_getElem hj]; rfl)
  simp [execOp, hf.eval hx, this, Result.andThen]
  rfl
instance {l : List UInt8} : CellsA (l.map u8v).toArray (l.map fun c => CelV.i .u8 (c.toNat : Int)) := ⟨by unfold cellsC; rw [List.map_map]; rfl⟩
theorem by_keys : ∀ (z : List UInt8) (m : Nat), z.length = m → (z.map fun c => CelV.i .u8 (c.toNat : Int)).map CelV.k = (List.replicate m [CelK.i .u8]).flatten := fun z m hz => by
  subst hz
  induction z with
  | nil => rfl
  | cons a z ih => rw [List.length_cons, List.replicate_succ, List.flatten_cons, List.map_cons, List.map_cons, ih]; rfl
/-- `==` of arrays of bytes. -/
theorem Runs.eqlBy {t u : TypeId} {x y : Operand} {m : Nat} {l r : List UInt8} [ht : CellsT P t (List.replicate m [CelK.i .u8]).flatten] (hx : opnd env x = some (.agg (l.map u8v).toArray)) (hy : opnd env y = some (.agg (r.map u8v).toArray)) (hl : l.length = m) (hr : r.length = m) : Runs P n env F (.binOp .eql t x y u) (.bool (decide (l = r))) := by
  have h := Runs.eqlCells (P := P) (n := n) (env := env) (F := F) (t := t) (x := x) (y := y) (u := u) hx hy (by_keys l m hl) (by_keys r m hr)
  have e : decide ((l.map fun c => CelV.i .u8 (c.toNat : Int)) = (r.map fun c => CelV.i .u8 (c.toNat : Int))) = decide (l = r) := by
    rw [decide_eq_decide]
    constructor
    · intro he
      have hinj : Function.Injective (fun c : UInt8 => CelV.i .u8 (c.toNat : Int)) := fun a b h => by
        simp only [CelV.i.injEq, true_and] at h
        exact UInt8.toNat_inj.1 (by omega)
      exact (List.map_inj_right (fun a b h => hinj h)).1 he
    · rintro rfl; rfl
  rw [e] at h; exact h
end
end Go.Proofs.YtipkgamiejenaaaGreat

/- Chapter 20 in plain terms: when chunks are sound, two ways of saying it. -/
namespace Go.Proofs.YtipkgamiejenaaaGreat

structure ChunkM where
  phase : Int
  owner : Int
  gen : Int

namespace Audit
def is (p : Int) : Bool := decide (0 ≤ p) && decide (p ≤ 3)
def right (c : ChunkM) : Bool := is c.phase && decide (0 ≤ c.owner) && (decide (0 < c.owner) == (c.phase == 1)) && decide (0 ≤ c.gen) && decide (c.gen ≤ 1048575)
def many (l : List ChunkM) (p : Int) : Nat := (l.filter fun c => c.phase == p).length
def deferredAt (l : List ChunkM) (i : Int) : Bool := decide (0 ≤ i) && decide (i < l.length) && (match l[i.toNat]? with | some c => c.phase == 2 | none => false)
def sound (l : List ChunkM) (w : List Int) : Bool := l.all right && (w.length == many l 2) && w.all (deferredAt l) && decide w.Nodup

def one (c : ChunkM) : Bool :=
  if c.phase = 1 then decide (0 < c.owner) && decide (0 ≤ c.gen) && decide (c.gen < 1048576)
  else (c.phase == 0 || c.phase == 2 || c.phase == 3) && (c.owner == 0) && decide (0 ≤ c.gen) && decide (c.gen < 1048576)
def refAt (w : List Int) (i : Nat) (c : ChunkM) : Bool := one c && !(c.phase == 2 && w.count (i : Int) != 1) && !(c.phase != 2 && w.count (i : Int) != 0)
def refRow (l : List ChunkM) (w : List Int) (i : Nat) : Bool := match l[i]? with | some c => refAt w i c | none => true
def refSound (l : List ChunkM) (w : List Int) : Bool := (List.range l.length).all (refRow l w) && w.all fun x => decide (0 ≤ x) && decide (x < l.length)

/-- The places that are deferred. -/
def places : List ChunkM → Nat → List Int
  | [], _ => []
  | c :: l, k => if c.phase = 2 then (k : Int) :: places l (k + 1) else places l (k + 1)

end Audit
end Go.Proofs.YtipkgamiejenaaaGreat
