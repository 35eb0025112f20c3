import Derived.Test.YtlcdaalalihaiaaGreatMg13
import Derived.Test.YtlcdaalalihaiaaGreatLooseT
import Derived.Laws.CopyRow
/- More laws of the new road: rows of ints, equality of structs of ints. Rows cut short, cleared; what functions that look for one do. The laws of a run of operations, with the tactic that finds the value. Laws of walking: a struct inside an element of a row. Loops: the slots that stay are told by their numbers alone. make of a row, and copy onto one. -/
section
namespace Go.Proofs.YtlcdaalalihaiaaGreat
open Go Go.RowKit Go.MapKept
set_option linter.unusedVariables false
set_option linter.unusedSectionVars false
set_option linter.unusedSimpArgs false

/-! ### Rows of ints -/
def encI1 (x : Int) : List Value := [.int .i64 x]
instance : Enc encI1 1 := ⟨fun _ => rfl, fun _ => by simp [encI1, Value.oneCell'], by omega⟩
/-! ### Equality of what is made of ints alone -/
def intsF (P : Program) (g : TypeId → Option Nat) : List Field → Nat → Option Nat
  | [], off => some off
  | f :: fs, off => if f.name = "_" ∨ f.offset ≠ off then none else match g f.type with
    | none => none
    | some m => if (P.info? f.type).map (·.size) = some m then intsF P g fs (off + m) else none
def intsB (P : Program) : Nat → TypeId → Option Nat
  | 0, _ => none
  | k + 1, t => match P.underlying t with
    | some (.int .i64) => some 1
    | some (.struct fs) => if P.stoodInHeld t = true then none else intsF P (intsB P k) fs.toList 0
    | some (.array len e) => match intsB P k e with
      | none => none
      | some m => if (P.info? e).map (·.size) = some m then some (len * m) else none
    | _ => none
def aggV (l : List Int) : Value := .agg (l.map (.int .i64)).toArray
def cellsI (l : List Int) : Array Value := (l.map (.int .i64)).toArray
/-- The value of the type t of these ints. -/
def valI (P : Program) (t : TypeId) (l : List Int) : Value := match P.underlying t with
  | some (.int .i64) => .int .i64 (l.headD 0)
  | _ => .agg (cellsI l)
theorem cellsI_extract (l : List Int) (off m : Nat) : (cellsI l).extract off (off + m) = cellsI ((l.drop off).take m) := by
  apply Array.ext'
  simp only [cellsI, List.extract_toArray, List.extract_eq_take_drop, List.map_take, List.map_drop]
  congr 1
  omega
theorem take_one {α : Type} : ∀ {l : List α} {off : Nat} (h : off < l.length), (l.drop off).take 1 = [l[off]]
  | l, off, h => by rw [List.drop_eq_getElem_cons h]; rfl
theorem info_size {P : Program} {t : TypeId} {m : Nat} (h : (P.info? t).map (·.size) = some m) : ∃ i, P.info? t = some i ∧ i.size = m := by
  cases e : P.info? t with
  | none => rw [e] at h; cases h
  | some i => rw [e] at h; exact ⟨i, rfl, by simpa using h⟩
theorem run_part_ints {P : Program} {k : Nat} {t : TypeId} {m : Nat} (hB : intsB P k t = some m) (hs : (P.info? t).map (·.size) = some m) (l : List Int) (off : Nat) (hl : off + m ≤ l.length) (w : World) :
    (part t (cellsI l) off).run P w = .ok (valI P t ((l.drop off).take m)) w := by
  obtain ⟨i, h1, h2⟩ := info_size hs
  cases k with
  | zero => cases hB
  | succ k =>
    unfold intsB at hB
    split at hB
    · rename_i hu
      cases hB
      have hlt : off < l.length := by omega
      have hc : (cellsI l)[off]? = some (.int .i64 l[off]) := by simp [cellsI, hlt]
      simp [part, isAgg, run_underlying hu, valI, hu, take_one hlt, Result.andThen, hc]
    · rename_i fs hu
      simp [part, isAgg, run_underlying hu, valI, hu, sizeOf, typeInfo, h1, h2, cellsI_extract, Result.andThen]
    · rename_i len e hu
      simp [part, isAgg, run_underlying hu, valI, hu, sizeOf, typeInfo, h1, h2, cellsI_extract, Result.andThen]
    · cases hB
theorem app_eq_iff {α : Type} [DecidableEq α] {a b c d : List α} (h : a.length = c.length) : decide (a ++ b = c ++ d) = (decide (a = c) && decide (b = d)) := by
  by_cases h1 : a = c
  · subst h1; simp
  · have : ¬ a ++ b = c ++ d := fun e => h1 (List.append_inj_left e h)
    simp [h1, this]
theorem drop_split {α : Type} (l : List α) (off m n : Nat) : (l.drop off).take (m + n) = (l.drop off).take m ++ (l.drop (off + m)).take n := by
  rw [List.take_add, List.drop_drop]
theorem eqFields_ints {P : Program} {k d : Nat} (ih : ∀ (t : TypeId) (n : Nat), intsB P k t = some n → ∀ (xs ys : List Int), xs.length = n → ys.length = n → ∀ w, (Op.equalIn d t (valI P t xs) (valI P t ys)).run P w = .ok (decide (xs = ys)) w) :
    ∀ (fs : List Field) (off tot : Nat), intsF P (intsB P k) fs off = some tot → ∀ (xs ys : List Int), xs.length = ys.length → tot ≤ xs.length → ∀ w, off ≤ tot ∧ (Op.eqFields d (cellsI xs) (cellsI ys) fs).run P w = .ok (decide ((xs.drop off).take (tot - off) = (ys.drop off).take (tot - off))) w
  | [], off, tot, h, xs, ys, hl, ht, w => by
    unfold intsF at h
    cases h
    simp [Op.eqFields]
  | f :: fs, off, tot, h, xs, ys, hl, ht, w => by
    unfold intsF at h
    split at h
    · cases h
    · rename_i hn
      split at h
      · cases h
      · rename_i m hm
        split at h
        · rename_i hs
          have hrec := eqFields_ints ih fs (off + m) tot h xs ys hl ht
          obtain ⟨hle, -⟩ := hrec w
          refine ⟨by omega, ?_⟩
          have hname : f.name ≠ "_" := fun e => hn (.inl e)
          have hoff : f.offset = off := Classical.not_not.1 fun e => hn (.inr e)
          have p1 := run_part_ints hm hs xs off (by omega) w
          have p2 := run_part_ints hm hs ys off (by omega) w
          have e1 := ih f.type m hm ((xs.drop off).take m) ((ys.drop off).take m) (by simp; omega) (by simp; omega) w
          have hsp : tot - off = m + (tot - (off + m)) := by omega
          rw [hsp, drop_split xs, drop_split ys, app_eq_iff (by simp; omega)]
          simp only [Op.eqFields, if_pos hname, Sem.run_bind, hoff, p1, p2, Result.andThen_ok, e1]
          by_cases hh : (xs.drop off).take m = (ys.drop off).take m
          · simp only [hh, decide_true, Bool.not_true, Bool.false_eq_true, if_false, Bool.true_and]
            exact (hrec w).2
          · simp [hh]
        · cases h
theorem equalIn_ints {P : Program} : ∀ (k : Nat) (t : TypeId) (n : Nat), intsB P k t = some n → ∀ d, k ≤ d → ∀ (xs ys : List Int), xs.length = n → ys.length = n → ∀ w,
    (Op.equalIn d t (valI P t xs) (valI P t ys)).run P w = .ok (decide (xs = ys)) w
  | 0, t, n, h, _, _, _, _, _, _, _ => by cases h
  | k + 1, t, n, h, 0, hd, _, _, _, _, _ => by omega
  | k + 1, t, n, h, d + 1, hd, xs, ys, hx, hy, w => by
    have ih := fun (t : TypeId) (n : Nat) (h : intsB P k t = some n) (xs ys : List Int) (hx : xs.length = n) (hy : ys.length = n) (w : World) => equalIn_ints k t n h d (by omega) xs ys hx hy w
    unfold intsB at h
    split at h
    · rename_i hu
      cases h
      match xs, ys, hx, hy with
      | [a], [b], _, _ =>
        simp only [valI, hu, List.headD_cons]
        rw [run_equalIn_int w d t .i64 .i64 a b hu]
        by_cases e : a = b <;> simp [e]
    · rename_i fs hu
      split at h
      · cases h
      · rename_i hp
        have hf : P.fieldsOf t = fs := by unfold Program.fieldsOf; rw [hu]
        simp only [valI, hu]
        rw [run_equalIn_struct w d t _ _ (by rw [hf]; exact hu) (by simpa using hp), hf]
        have := (eqFields_ints ih fs.toList 0 n h xs ys (by omega) (by omega) w).2
        rw [this]
        simp [List.take_of_length_le, hx, hy]
    · rename_i len e hu
      split at h
      · cases h
      · rename_i m hm
        split at h
        · rename_i hs
          cases h
          obtain ⟨i, h1, h2⟩ := info_size hs
          simp only [valI, hu]
          simp only [Op.equalIn, Sem.run_bind, run_underlying hu, Result.andThen_ok]
          have hsz : (sizeOf e).run P w = .ok m w := by simp [sizeOf, typeInfo, h1, h2, Result.andThen]
          simp only [hsz, Result.andThen_ok]
          rw [Std.Legacy.Range.forIn_eq_forIn_range']
          have key : ∀ (q off : Nat), off + q = len → ∀ w, (forIn (m := Sem) (List.range' off q 1) ((none : Option Bool), ()) fun i __s => do
              let __do_lift ← part e (cellsI xs) (i * m)
              let __do_lift_1 ← part e (cellsI ys) (i * m)
              let __do_lift ← Op.equalIn d e __do_lift __do_lift_1
              if (!__do_lift) = true then pure (ForInStep.done (some false, ())) else pure (ForInStep.yield (none, ()))).run P w = .ok (if xs.drop (off * m) = ys.drop (off * m) then (none, ()) else (some false, ())) w := by
            intro q
            induction q with
            | zero =>
              intro off ho w
              have e1 : xs.drop (off * m) = [] := List.drop_eq_nil_of_le (by rw [hx, ← ho]; simp)
              have e2 : ys.drop (off * m) = [] := List.drop_eq_nil_of_le (by rw [hy, ← ho]; simp)
              simp [e1, e2]
            | succ q ihq =>
              intro off ho w
              have hle : off * m + m ≤ len * m := by rw [← Nat.succ_mul]; exact Nat.mul_le_mul_right m (by omega)
              have p1 := run_part_ints hm hs xs (off * m) (by omega) w
              have p2 := run_part_ints hm hs ys (off * m) (by omega) w
              have e1 := ih e m hm ((xs.drop (off * m)).take m) ((ys.drop (off * m)).take m) (by simp; omega) (by simp; omega) w
              have sx : xs.drop (off * m) = (xs.drop (off * m)).take m ++ xs.drop ((off + 1) * m) := by
                rw [show (off + 1) * m = off * m + m from Nat.succ_mul off m, ← List.drop_drop, List.take_append_drop]
              have sy : ys.drop (off * m) = (ys.drop (off * m)).take m ++ ys.drop ((off + 1) * m) := by
                rw [show (off + 1) * m = off * m + m from Nat.succ_mul off m, ← List.drop_drop, List.take_append_drop]
              have hrec := ihq (off + 1) (by omega) w
              rw [List.range'_succ, List.forIn_cons]
              simp only [Sem.run_bind, p1, p2, Result.andThen_ok, e1]
              by_cases hh : (xs.drop (off * m)).take m = (ys.drop (off * m)).take m
              · simp only [hh, decide_true, Bool.not_true, Bool.false_eq_true, if_false, Sem.run_pure, Result.andThen_ok]
                rw [hrec]
                by_cases h3 : xs.drop ((off + 1) * m) = ys.drop ((off + 1) * m)
                · rw [if_pos h3, if_pos (by rw [sx, sy, hh, h3])]
                · rw [if_neg h3, if_neg (fun e => h3 (by rw [sx, sy, hh] at e; exact List.append_cancel_left e))]
              · have hne : ¬ xs.drop (off * m) = ys.drop (off * m) := fun e => hh (by rw [e])
                simp [hh, hne]
          have hk := key len 0 (by omega) w
          simp only [Nat.zero_mul, List.drop_zero] at hk
          have hr : List.range' ([:len] : Std.Legacy.Range).start ([:len] : Std.Legacy.Range).size ([:len] : Std.Legacy.Range).step = List.range' 0 len 1 := by simp [Std.Legacy.Range.size]
          rw [hr, hk]
          by_cases h4 : xs = ys
          · simp [h4]
          · simp [h4]
        · cases h
    · cases h
/-- A struct or an array of so many ints, that can be compared. -/
class IntsT (P : Program) (t : TypeId) (n : outParam Nat) : Prop where
  ok : intsB P 6 t = some n ∧ P.eqGuardType P.depth t = false ∧ aggDesc <$> P.underlying t = some true
def intsTB (P : Program) (t : TypeId) (n : Nat) : Bool := intsB P 6 t == some n && !P.eqGuardType P.depth t && (aggDesc <$> P.underlying t) == some true
theorem IntsT.of {P : Program} {t : TypeId} {n : Nat} (h : intsTB P t n = true) : IntsT P t n := by
  unfold intsTB at h
  simp only [Bool.and_eq_true, beq_iff_eq, Bool.not_eq_true'] at h
  exact ⟨h.1.1, h.1.2, h.2⟩
theorem valI_agg {P : Program} {t : TypeId} {n : Nat} [h : IntsT P t n] (l : List Int) : valI P t l = .agg (cellsI l) := by
  have := h.ok.2.2
  unfold valI
  split
  · rename_i hu; rw [hu] at this; simp [aggDesc] at this
  · rfl
/-- These cells are these ints. -/
class IntsL (cs : List Value) (xs : outParam (List Int)) : Prop where
  ok : cs = xs.map (.int .i64)
instance : IntsL [] [] := ⟨rfl⟩
instance {a : Int} {l : List Value} {xs : List Int} [h : IntsL l xs] : IntsL (.int .i64 a :: l) (a :: xs) := ⟨by rw [h.ok]; rfl⟩
instance {l m : List Value} {xs ys : List Int} [h : IntsL l xs] [g : IntsL m ys] : IntsL (l ++ m) (xs ++ ys) := ⟨by rw [h.ok, g.ok, List.map_append]⟩
class IntsA (cs : Array Value) (xs : outParam (List Int)) : Prop where
  ok : cs = cellsI xs
instance {l : List Value} {xs : List Int} [h : IntsL l xs] : IntsA l.toArray xs := ⟨by rw [h.ok]; rfl⟩
section
variable {P : Program} {n : Nat} {env : Env} {F : List HProp} {t u : TypeId} {x y : Operand} {cs ds : Array Value} {xs ys : List Int} {m : Nat}
theorem Runs.eqlInts [ht : IntsT P t m] (hx : opnd env x = some (.agg cs)) (hy : opnd env y = some (.agg ds)) [h1 : IntsA cs xs] [h2 : IntsA ds ys] (l1 : Nat.beq xs.length m = true) (l2 : Nat.beq ys.length m = true) : Runs P n env F (.binOp .eql t x y u) (.bool (decide (xs = ys))) := .mk fun a w ty pos aft g d hf hw => by
  have e := equalIn_ints 6 t m ht.ok.1 10000 (by omega) xs ys (by simpa using l1) (by simpa using l2) w
  rw [valI_agg, valI_agg] at e
  have hg : (eqGuard .eql t x y (.agg (cellsI xs)) (.agg (cellsI ys))).run P w = .ok () w := run_eqGuard_agg w .eql t x y _ _ ht.ok.2.1
  have hb := run_eql_struct (P := P) w t (cellsI xs) (cellsI ys)
  rw [e] at hb
  simp only [execOp, hf.eval hx, hf.eval hy, h1.ok, h2.ok]
  simp only [Sem.run_bind, hg, Result.andThen_ok]
  simp [hb, Result.andThen]
theorem Runs.neqInts [ht : IntsT P t m] (hx : opnd env x = some (.agg cs)) (hy : opnd env y = some (.agg ds)) [h1 : IntsA cs xs] [h2 : IntsA ds ys] (l1 : Nat.beq xs.length m = true) (l2 : Nat.beq ys.length m = true) : Runs P n env F (.binOp .neq t x y u) (.bool (!decide (xs = ys))) := .mk fun a w ty pos aft g d hf hw => by
  have e := equalIn_ints 6 t m ht.ok.1 10000 (by omega) xs ys (by simpa using l1) (by simpa using l2) w
  rw [valI_agg, valI_agg] at e
  have hg : (eqGuard .neq t x y (.agg (cellsI xs)) (.agg (cellsI ys))).run P w = .ok () w := run_eqGuard_agg w .neq t x y _ _ ht.ok.2.1
  have hb := run_neq_struct (P := P) w t (cellsI xs) (cellsI ys)
  rw [e] at hb
  simp only [execOp, hf.eval hx, hf.eval hy, h1.ok, h2.ok]
  simp only [Sem.run_bind, hg, Result.andThen_ok]
  simp [hb, Result.andThen]
end
end Go.Proofs.YtlcdaalalihaiaaGreat
end
section
namespace Go.Proofs.YtlcdaalalihaiaaGreat
open Go Go.RowKit Go.MapKept
set_option linter.unusedVariables false
set_option linter.unusedSectionVars false
set_option linter.unusedSimpArgs false

section
variable {α : Type} {enc : α → List Value} {m : Nat} {T : TypeId} {F : List HProp}
section
variable {P : Program} {n : Nat} {Q : Exit → Act → World → Prop} {env : Env} {ops : Array Oper} {rest : List Oper} {ty : TypeId} {pos : String} {aft : Array Edge}
theorem GL.box1 {e : TypeId} {x : Operand} {v : Value} {d : Tmp} (hx : opnd env x = some v) (hd : Nat.blt d n = true) (hc : v.cells = #[v]) (h : ∀ b, GL P n ops Q rest ((d, .pointer (some ⟨b, 0, none⟩)) :: env) (blk b (.cells #[v] e (0, 0)) :: F)) :
    GL P n ops Q (⟨some d, .box e x, ty, pos, aft, none⟩ :: rest) env F := GL.box hx hd (by rw [hc]; exact h)
end
end
instance (priority := 300) SeesBlk.appendR {F F2 : List HProp} {b : Nat} {c : Array Value} [h : SeesBlk F b c] : SeesBlk (F2 ++ F) b c := ⟨fun w hw => h.at_ w (holds_drop hw)⟩
instance (priority := 300) Reads.appendR {α : Type} {F F2 : List HProp} {v : Value} {enc : α → List Value} {n : Nat} {l : List α} [h : Reads F v enc n l] : Reads (F2 ++ F) v enc n l := ⟨fun w hw => h.at_ w (holds_drop hw)⟩
/-- The first place. -/
def IsIdx {α : Type} (p : α → Bool) (l : List α) (r : Int) : Prop := (r = -1 ∧ ∀ x ∈ l, p x = false) ∨ ∃ (i : Nat) (h : i < l.length), r = i ∧ p l[i] = true ∧ ∀ (j : Nat) (h : j < l.length), j < i → p l[j] = false
theorem IsIdx.any {α : Type} {p : α → Bool} {l : List α} {r : Int} (h : IsIdx p l r) : l.any p = decide (0 ≤ r) := by
  rcases h with ⟨rfl, hn⟩ | ⟨i, hi, rfl, hp, _⟩
  · rw [List.any_eq_false.2 (fun x hx => by simp [hn x hx])]; rfl
  · rw [List.any_eq_true.2 ⟨l[i], List.getElem_mem hi, hp⟩]; simp
/-- Two lists are alike, place by place. -/
def eqBy {α : Type} (p : α → α → Bool) : List α → List α → Bool
  | [], [] => true
  | x :: l, y :: m => p x y && eqBy p l m
  | _, _ => false
end Go.Proofs.YtlcdaalalihaiaaGreat
end
section
namespace Go.Proofs.YtlcdaalalihaiaaGreat
open Go Go.RowKit Go.MapKept
set_option linter.unusedVariables false
set_option linter.unusedSectionVars false

section
variable {P : Program} {n : Nat} {ops : Array Oper} {Q : Exit → Act → World → Prop} {env : Env} {F : List HProp} {Z : Act → Prop} {k : Nat} {rest : List Oper} {d : Tmp} {ty : TypeId} {pos : String} {aft : Array Edge}
theorem GL.runA {op : Op} {v : Value} (hd : Nat.blt d n = true) (h : GL P n ops Q rest ((d, v) :: env) F) (hr : Runs P n env F op v := by first | (apply Runs.isMove; exact Runs.move rfl) | (apply Runs.isLoad; first | exact Runs.loadBlk rfl rfl | exact Runs.loadRow rfl (by first | omega | decide) rfl | exact Runs.loadRow0 rfl (by first | omega | decide) rfl | exact Runs.loadElem rfl (by first | omega | decide) | exact Runs.loadWhole rfl rfl | exact Runs.loadBlkA rfl rfl rfl) | (apply Runs.isFieldA; exact Runs.fieldAddr rfl) | (apply Runs.isBin; first | (apply Runs.eql <;> rfl) | (apply Runs.lss <;> rfl) | (apply Runs.neq <;> rfl) | (apply Runs.leq <;> rfl) | (apply Runs.gtr <;> rfl) | (apply Runs.geq <;> rfl) | exact Runs.add rfl rfl (by omega) | exact Runs.sub rfl rfl (by omega) | exact Runs.mul rfl rfl (by omega) | exact Runs.quo rfl rfl (by omega) | exact Runs.rem rfl rfl (by omega) | exact Runs.shr rfl rfl | exact Runs.shl rfl rfl (by omega) | exact Runs.and20 rfl rfl | exact Runs.shrU rfl rfl | exact Runs.eqlPtrNil rfl | exact Runs.neqPtrNil rfl | exact Runs.eqlMapNil rfl | exact Runs.neqMapNil rfl | exact Runs.eqlSlNil rfl | exact Runs.eqlInts rfl rfl rfl rfl | exact Runs.neqInts rfl rfl rfl rfl) | (apply Runs.isAssign; exact Runs.assign rfl) | (apply Runs.isIndexA; first | exact Runs.indexAddr rfl rfl rfl rfl (by first | omega | decide) | exact Runs.indexAddrI rfl rfl rfl (by first | omega | decide) (by first | omega | decide) | exact Runs.indexArr rfl rfl rfl (by first | omega | decide)) | (apply Runs.isPick; first | exact Runs.pickT rfl rfl | exact Runs.pickF rfl rfl) | (apply Runs.isExtract; exact Runs.extract rfl rfl) | (apply Runs.isBuiltin; first | exact Runs.lenRow rfl | exact Runs.min2 rfl rfl | exact Runs.max2 rfl rfl | exact Runs.lenMap rfl | exact Runs.lenArr rfl) | (apply Runs.isLookup; first | exact Runs.lookupI rfl rfl | exact Runs.lookupS rfl rfl (by assumption) | exact Runs.lookupN rfl rfl (by assumption) | exact Runs.lookup rfl rfl | exact Runs.lookupOk rfl rfl) | (apply Runs.isSlice; first | exact Runs.slice _ _ rfl rfl rfl rfl rfl rfl ⟨⟨(by first | omega | decide), (by first | omega | decide)⟩, .inl rfl⟩ | exact Runs.slice3 _ _ rfl rfl rfl rfl rfl rfl rfl ⟨⟨(by first | omega | decide), (by first | omega | decide)⟩, .inr rfl⟩) | (apply Runs.isConvert; exact Runs.convII rfl (by omega)) | (apply Runs.isField; first | exact Runs.fieldVal rfl rfl | exact Runs.fieldAgg rfl) | (apply Runs.isBuild; exact Runs.build rfl rfl) | (apply Runs.isIndex; first | exact Runs.indexVal rfl rfl rfl (by first | omega | decide) rfl | exact Runs.indexAgg rfl rfl rfl rfl rfl) | (apply Runs.isUn; first | exact Runs.not rfl | exact Runs.neg rfl (by omega)) | (apply Runs.isMakeFunc; exact Runs.makeFunc rfl rfl) | (apply Runs.isNilCheck; exact Runs.nilCheck rfl)) : GL P n ops Q (⟨some d, op, ty, pos, aft, none⟩ :: rest) env F := GL.run hr hd h
theorem GD.runA {op : Op} {v : Value} (hd : Nat.blt d n = true) (h : GD P n ops F Z (k + 1) rest ((d, v) :: env)) (hr : Runs P n env F op v := by first | (apply Runs.isMove; exact Runs.move rfl) | (apply Runs.isLoad; first | exact Runs.loadBlk rfl rfl | exact Runs.loadRow rfl (by first | omega | decide) rfl | exact Runs.loadRow0 rfl (by first | omega | decide) rfl | exact Runs.loadElem rfl (by first | omega | decide) | exact Runs.loadWhole rfl rfl | exact Runs.loadBlkA rfl rfl rfl) | (apply Runs.isFieldA; exact Runs.fieldAddr rfl) | (apply Runs.isBin; first | (apply Runs.eql <;> rfl) | (apply Runs.lss <;> rfl) | (apply Runs.neq <;> rfl) | (apply Runs.leq <;> rfl) | (apply Runs.gtr <;> rfl) | (apply Runs.geq <;> rfl) | exact Runs.add rfl rfl (by omega) | exact Runs.sub rfl rfl (by omega) | exact Runs.mul rfl rfl (by omega) | exact Runs.quo rfl rfl (by omega) | exact Runs.rem rfl rfl (by omega) | exact Runs.shr rfl rfl | exact Runs.shl rfl rfl (by omega) | exact Runs.and20 rfl rfl | exact Runs.shrU rfl rfl | exact Runs.eqlPtrNil rfl | exact Runs.neqPtrNil rfl | exact Runs.eqlMapNil rfl | exact Runs.neqMapNil rfl | exact Runs.eqlSlNil rfl | exact Runs.eqlInts rfl rfl rfl rfl | exact Runs.neqInts rfl rfl rfl rfl) | (apply Runs.isAssign; exact Runs.assign rfl) | (apply Runs.isIndexA; first | exact Runs.indexAddr rfl rfl rfl rfl (by first | omega | decide) | exact Runs.indexAddrI rfl rfl rfl (by first | omega | decide) (by first | omega | decide) | exact Runs.indexArr rfl rfl rfl (by first | omega | decide)) | (apply Runs.isPick; first | exact Runs.pickT rfl rfl | exact Runs.pickF rfl rfl) | (apply Runs.isExtract; exact Runs.extract rfl rfl) | (apply Runs.isBuiltin; first | exact Runs.lenRow rfl | exact Runs.min2 rfl rfl | exact Runs.max2 rfl rfl | exact Runs.lenMap rfl | exact Runs.lenArr rfl) | (apply Runs.isLookup; first | exact Runs.lookupI rfl rfl | exact Runs.lookupS rfl rfl (by assumption) | exact Runs.lookupN rfl rfl (by assumption) | exact Runs.lookup rfl rfl | exact Runs.lookupOk rfl rfl) | (apply Runs.isSlice; first | exact Runs.slice _ _ rfl rfl rfl rfl rfl rfl ⟨⟨(by first | omega | decide), (by first | omega | decide)⟩, .inl rfl⟩ | exact Runs.slice3 _ _ rfl rfl rfl rfl rfl rfl rfl ⟨⟨(by first | omega | decide), (by first | omega | decide)⟩, .inr rfl⟩) | (apply Runs.isConvert; exact Runs.convII rfl (by omega)) | (apply Runs.isField; first | exact Runs.fieldVal rfl rfl | exact Runs.fieldAgg rfl) | (apply Runs.isBuild; exact Runs.build rfl rfl) | (apply Runs.isIndex; first | exact Runs.indexVal rfl rfl rfl (by first | omega | decide) rfl | exact Runs.indexAgg rfl rfl rfl rfl rfl) | (apply Runs.isUn; first | exact Runs.not rfl | exact Runs.neg rfl (by omega)) | (apply Runs.isMakeFunc; exact Runs.makeFunc rfl rfl) | (apply Runs.isNilCheck; exact Runs.nilCheck rfl)) : GD P n ops F Z k (⟨some d, op, ty, pos, aft, none⟩ :: rest) env := GD.run hr hd h
theorem GT.runA {E : List Eff} {op : Op} {v : Value} (hi : effIdx E 0 k = none) (hd : Nat.blt d n = true) (h : GT P n ops E F Z (k + 1) rest ((d, v) :: env)) (hr : Runs P n env F op v := by first | (apply Runs.isMove; exact Runs.move rfl) | (apply Runs.isLoad; first | exact Runs.loadBlk rfl rfl | exact Runs.loadRow rfl (by first | omega | decide) rfl | exact Runs.loadRow0 rfl (by first | omega | decide) rfl | exact Runs.loadElem rfl (by first | omega | decide) | exact Runs.loadWhole rfl rfl | exact Runs.loadBlkA rfl rfl rfl) | (apply Runs.isFieldA; exact Runs.fieldAddr rfl) | (apply Runs.isBin; first | (apply Runs.eql <;> rfl) | (apply Runs.lss <;> rfl) | (apply Runs.neq <;> rfl) | (apply Runs.leq <;> rfl) | (apply Runs.gtr <;> rfl) | (apply Runs.geq <;> rfl) | exact Runs.add rfl rfl (by omega) | exact Runs.sub rfl rfl (by omega) | exact Runs.mul rfl rfl (by omega) | exact Runs.quo rfl rfl (by omega) | exact Runs.rem rfl rfl (by omega) | exact Runs.shr rfl rfl | exact Runs.shl rfl rfl (by omega) | exact Runs.and20 rfl rfl | exact Runs.shrU rfl rfl | exact Runs.eqlPtrNil rfl | exact Runs.neqPtrNil rfl | exact Runs.eqlMapNil rfl | exact Runs.neqMapNil rfl | exact Runs.eqlSlNil rfl | exact Runs.eqlInts rfl rfl rfl rfl | exact Runs.neqInts rfl rfl rfl rfl) | (apply Runs.isAssign; exact Runs.assign rfl) | (apply Runs.isIndexA; first | exact Runs.indexAddr rfl rfl rfl rfl (by first | omega | decide) | exact Runs.indexAddrI rfl rfl rfl (by first | omega | decide) (by first | omega | decide) | exact Runs.indexArr rfl rfl rfl (by first | omega | decide)) | (apply Runs.isPick; first | exact Runs.pickT rfl rfl | exact Runs.pickF rfl rfl) | (apply Runs.isExtract; exact Runs.extract rfl rfl) | (apply Runs.isBuiltin; first | exact Runs.lenRow rfl | exact Runs.min2 rfl rfl | exact Runs.max2 rfl rfl | exact Runs.lenMap rfl | exact Runs.lenArr rfl) | (apply Runs.isLookup; first | exact Runs.lookupI rfl rfl | exact Runs.lookupS rfl rfl (by assumption) | exact Runs.lookupN rfl rfl (by assumption) | exact Runs.lookup rfl rfl | exact Runs.lookupOk rfl rfl) | (apply Runs.isSlice; first | exact Runs.slice _ _ rfl rfl rfl rfl rfl rfl ⟨⟨(by first | omega | decide), (by first | omega | decide)⟩, .inl rfl⟩ | exact Runs.slice3 _ _ rfl rfl rfl rfl rfl rfl rfl ⟨⟨(by first | omega | decide), (by first | omega | decide)⟩, .inr rfl⟩) | (apply Runs.isConvert; exact Runs.convII rfl (by omega)) | (apply Runs.isField; first | exact Runs.fieldVal rfl rfl | exact Runs.fieldAgg rfl) | (apply Runs.isBuild; exact Runs.build rfl rfl) | (apply Runs.isIndex; first | exact Runs.indexVal rfl rfl rfl (by first | omega | decide) rfl | exact Runs.indexAgg rfl rfl rfl rfl rfl) | (apply Runs.isUn; first | exact Runs.not rfl | exact Runs.neg rfl (by omega)) | (apply Runs.isMakeFunc; exact Runs.makeFunc rfl rfl) | (apply Runs.isNilCheck; exact Runs.nilCheck rfl)) : GT P n ops E F Z k (⟨some d, op, ty, pos, aft, none⟩ :: rest) env := GT.run hi hr hd h
theorem GE.only (h : GE n .normal Q env F) : GE n .normal (onlyN Q) env F := .mk h.out
end
structure Nxt (q : Prop) : Prop where
  out : q
/-- One step of a walk that leaves one goal: the tactic that finds it stands here alone. -/
theorem stp {p q : Prop} (h : q) (t : Nxt q → p := by intro hq; (first | (apply GL.isAny; first | refine GL.runA rfl ?_ | (apply GL.isStore; first | refine GL.storeBlk rfl rfl rfl rfl rfl ?_ | refine GL.storeWhole rfl rfl rfl rfl rfl ?_ | refine GL.storeBlkA rfl rfl rfl rfl rfl ?_) | refine GL.guardY rfl rfl ?_ | refine GL.guardN rfl rfl rfl ?_ | refine GL.guardU rfl rfl rfl ?_) | apply GL.nil | first | apply G.seq | apply G.region | apply G.block | apply G.skip | apply G.exit | apply G.ret | (apply G.isCond; first | refine G.condT rfl ?_ | refine G.condF rfl ?_) | refine G.draw (by kernel_rfl) (by kernel_rfl) ?_ | (apply GE.isAny; first | apply GE.again | apply GE.thenG | apply GE.blockN | apply GE.blockE | apply GE.thenE | apply GE.thenR | apply GE.blockR | refine GE.blockO rfl ?_ | apply GE.only) | (apply GD.isAny; first | refine GD.runA rfl ?_ | refine GD.guardY rfl rfl ?_ | refine GD.guardN rfl rfl rfl ?_ | refine GD.guardU rfl rfl rfl ?_) | apply GD.nilE | apply GD.nilL | (apply GT.isAny; refine GT.runA rfl rfl ?_)); exact hq.out) : p := t ⟨h⟩
/-- .. that makes a block or a row. -/
theorem stpB {p q : Prop} (h : q) (t : Nxt q → p := by intro hq; (apply GL.isAny; first | (apply GL.isBox; first | refine GL.boxA rfl rfl ?_ | refine GL.box1 rfl rfl rfl ?_ | refine GL.box rfl rfl ?_) | (apply GL.isBuildS; first | refine GL.buildSlice1A rfl rfl rfl rfl rfl ?_ | refine GL.buildSlice1 rfl rfl rfl rfl rfl ?_) | (apply GL.isCall; refine GL.append1 _ rfl rfl rfl rfl (by rfl) (by omega) (by omega) rfl ?_) | (apply GL.isAlloc; refine GL.alloc rfl ?_)); exact hq.out) : p := t ⟨h⟩
/-- .. that splits, and tidies what is tested. -/
theorem spl {p q r : Prop} (h1 : q) (h2 : r) (t : Nxt q → Nxt r → p := by
    intro hq hr
    (first | (apply GL.isAny; refine GL.guard rfl rfl ?_ ?_) | (apply G.isCond; refine G.cond rfl ?_ ?_) | (apply GD.isAny; refine GD.guard rfl rfl ?_ ?_))
    · intro hc
      first
        | (have ht : True := hq.out; (try simp only [decide_eq_true_eq, decide_eq_false_iff_not, Bool.not_true, Bool.not_false, ne_eq, Classical.not_not, Int.not_lt, Int.not_le] at hc); first | done | (exfalso; first | omega | exact hc trivial | exact hc rfl))
        | ((try simp only [decide_eq_true_eq, decide_eq_false_iff_not, Bool.not_true, Bool.not_false, ne_eq, Classical.not_not, Int.not_lt, Int.not_le] at hc); revert hc; exact hq.out)
    · intro hc
      first
        | (have ht : True := hr.out; (try simp only [decide_eq_true_eq, decide_eq_false_iff_not, Bool.not_true, Bool.not_false, ne_eq, Classical.not_not, Int.not_lt, Int.not_le] at hc); first | done | (exfalso; first | omega | exact hc trivial | exact hc rfl))
        | ((try simp only [decide_eq_true_eq, decide_eq_false_iff_not, Bool.not_true, Bool.not_false, ne_eq, Classical.not_not, Int.not_lt, Int.not_le] at hc); revert hc; exact hr.out)) : p := t ⟨h1⟩ ⟨h2⟩
section
variable {P : Program} {n : Nat} {env : Env} {F : List HProp}
theorem GE.r1 {rs : List ResultVar} {v : Value} {fn : Func} {R : Ending → World → Prop} (hr : fn.results = rs.toArray) (hR : ∀ w, holds w F → R (.returned v) w) (h : Res P n env F rs [v] := by (repeat (first | apply Res.nil | (apply Res.tmp; rfl) | (refine Res.cellA rfl rfl rfl ?_) | (refine Res.cell1 rfl rfl ?_)))) : GE n .ret (bodyPost P fn R) env F := GE.resOne hr h hR
end
end Go.Proofs.YtlcdaalalihaiaaGreat
end
section
namespace Go.Proofs.YtlcdaalalihaiaaGreat
open Go Go.RowKit Go.MapKept
set_option linter.unusedVariables false
set_option linter.unusedSectionVars false
set_option linter.unusedSimpArgs false

section
variable {P : Program} {n : Nat} {Q : Exit → Act → World → Prop} {env : Env} {F : List HProp} {ops : Array Oper} {rest : List Oper} {d : Tmp} {ty : TypeId} {pos : String} {aft : Array Edge}
end
end Go.Proofs.YtlcdaalalihaiaaGreat
end
section
namespace Go.Proofs.YtlcdaalalihaiaaGreat
open Go Go.RowKit Go.MapKept
set_option linter.unusedVariables false
set_option linter.unusedSectionVars false
set_option linter.unusedSimpArgs false

/-- Search alone: what a slot holds. -/
class LookE (env : Env) (k : Nat) (v : outParam Value) : Prop where
  ok : True
instance (priority := 1000) LookE.here {k : Nat} {v : Value} {e : Env} : LookE ((k, v) :: e) k v := ⟨trivial⟩
instance (priority := 500) LookE.there {k j : Nat} {u v : Value} {e : Env} [LookE e k v] : LookE ((j, u) :: e) k v := ⟨trivial⟩
instance (priority := 1000) LookE.env0h {k : Nat} {v : Value} {l : List Value} : LookE (env0 k (v :: l)) k v := ⟨trivial⟩
instance (priority := 500) LookE.env0t {k j : Nat} {u v : Value} {l : List Value} [LookE (env0 (k + 1) l) j u] : LookE (env0 k (v :: l)) j u := ⟨trivial⟩
instance (priority := 400) LookE.appC {k : Nat} {v : Value} {x : Nat × Value} {l e : Env} [LookE (x :: (l ++ e)) k v] : LookE ((x :: l) ++ e) k v := ⟨trivial⟩
instance (priority := 400) LookE.appN {k : Nat} {v : Value} {e : Env} [LookE e k v] : LookE ([] ++ e) k v := ⟨trivial⟩
class PickE (l : List Nat) (env : Env) (K : outParam Env) : Prop where
  ok : True
instance PickE.nil {env : Env} : PickE [] env [] := ⟨trivial⟩
instance PickE.cons {env K : Env} {k : Nat} {l : List Nat} {v : Value} [LookE env k v] [PickE l env K] : PickE (k :: l) env ((k, v) :: K) := ⟨trivial⟩
section
variable {P : Program} {n : Nat} {Q : Exit → Act → World → Prop} {env : Env} {F : List HProp}
end
end Go.Proofs.YtlcdaalalihaiaaGreat
end
section
namespace Go.Proofs.YtlcdaalalihaiaaGreat
open Go Go.RowKit Go.MapKept
set_option linter.unusedVariables false
set_option linter.unusedSectionVars false
set_option linter.unusedSimpArgs false

theorem made_flat {α : Type} {enc : α → List Value} {m : Nat} [he : Enc enc m] (z0 : α) {z : Array Value} (hz : z.toList = enc z0) (a b : Nat) (hab : a ≤ b) :
    (madeCells z (b * m)).toList.take (a * m) = (List.replicate a z0).flatMap enc := by
  have hm := he.pos
  have hzs : z.size = m := by rw [← Array.length_toList, hz, he.len]
  have hle : a * m ≤ b * m := Nat.mul_le_mul_right _ hab
  have hfl : ((List.replicate a z0).flatMap enc).length = a * m := by rw [Enc.flat_len, List.length_replicate]
  apply List.ext_getElem?
  intro j
  by_cases hj : j < a * m
  · rw [List.getElem?_take, if_pos hj]
    have h1 : j / m < a := (Nat.div_lt_iff_lt_mul hm).2 hj
    have h2 : j % m < m := Nat.mod_lt _ hm
    have h3 := Enc.flat_at (enc := enc) (n := m) (List.replicate a z0) (j / m) (by simpa using h1) (j % m) h2
    have h4 : j / m * m + j % m = j := by rw [Nat.mul_comm]; exact Nat.div_add_mod j m
    rw [h4] at h3
    rw [h3, List.getElem_replicate, ← hz]
    unfold madeCells
    simp only [Array.toList_map, Array.toList_range, List.getElem?_map, List.getElem?_range (show j < b * m by omega), Option.map_some, hzs]
    rw [Array.getElem?_toList, Array.getElem?_eq_getElem (by rw [hzs]; exact h2)]
    congr 1
    exact getElem!_pos z (j % m) (by rw [hzs]; exact h2)
  · rw [List.getElem?_eq_none (by rw [List.length_take]; omega), List.getElem?_eq_none (by rw [hfl]; omega)]
section
variable {α : Type} {enc : α → List Value} {m : Nat} {F : List HProp} {P : Program} {n : Nat} {Q : Exit → Act → World → Prop} {env : Env} {ops : Array Oper} {rest : List Oper} {d : Tmp} {ty : TypeId} {pos : String} {aft : Array Edge}
/-- 'make([]T, a, b)'. -/
theorem GL.makeSl {t e : TypeId} {x y : Operand} {size bytes : Nat} {z : Value} {i c : Int} (enc : α → List Value) [he : Enc enc m] (z0 : α) (a b : Nat) [ht : SliceT P t e size] [hz : ZeroT P e z m bytes] (hz0 : z.cells.toList = enc z0) (hx : opnd env x = some (.int .i64 i)) (hy : opnd env y = some (.int .i64 c)) (hi : i = (a : Int)) (hc : c = (b : Int)) (hab : a ≤ b) (hb : bytes * b ≤ 281474976710656) (h63 : b ≤ maxLen) (hd : Nat.blt d n = true)
    (h : ∀ g, GL P n ops Q rest ((d, .slice (some ⟨g, 0, none⟩) a b) :: env) (owns e enc m (.slice (some ⟨g, 0, none⟩) a b) (List.replicate a z0) :: F)) : GL P n ops Q (⟨some d, .makeSlice t x y, ty, pos, aft, none⟩ :: rest) env F := .mk fun ac w hf hw => by
  subst hi hc
  obtain ⟨it, g1, g2, g3⟩ := ht.ok
  obtain ⟨iz, k1, k2, k3, k4, k5⟩ := hz.ok
  refine wpList_plain rfl fun K hK => ?_
  unfold Oper.wp
  have hb' : (iz.bytes : Int) * (b : Int) ≤ 281474976710656 := by
    rw [k4]
    have h1 : ((bytes * b : Nat) : Int) ≤ 281474976710656 := by omega
    rwa [Int.natCast_mul] at h1
  have h63' : (b : Int) ≤ 9223372036854775807 := by
    have h1 := h63
    simp [maxLen] at h1
    omega
  obtain ⟨hr, hh⟩ := run_make_sl (P := P) (t := t) (e := e) (size := m) g1 k1 k2 k3 hw .i64 .i64 (x := a) (c := b) (by omega) (by omega) hb' h63'
  simp only [Int.toNat_natCast] at hr hh
  have hr2 : (execOp ac.eval ⟨some d, .makeSlice t x y, ty, pos, aft, none⟩).run P w = .ok (.value (.slice (some ⟨w.heap.size, 0, none⟩) a b)) (w.alloc (.cells (madeCells z.cells (b * m)) e)) := by
    simp [execOp, hf.eval hx, hf.eval hy, hr, Result.andThen]
  rw [hr2]
  refine hK _ _ (h _ _ _ (hf.put hd _) ?_)
  rw [made_flat z0 hz0 a b hab] at hh
  have e1 : owns e enc m (.slice (some ⟨w.heap.size, 0, none⟩) a b) (List.replicate a z0) = ownRow e m (.slice (some ⟨w.heap.size, 0, none⟩) a b) a ((List.replicate a z0).flatMap enc) := by
    unfold owns; rw [List.length_replicate]
  rw [e1]; exact hh
/-- A struct inside an element of an owned row. -/
theorem GL.storeElemA {t T : TypeId} {x y : Operand} {v : Value} {vs : Array Value} {i f size : Nat} {l : List α} {F' : List HProp} (z : α) (hx : opnd env x = some (.pointer (some ⟨rowB v, rowO v + i * m + f, none⟩))) (hy : opnd env y = some (.agg vs)) [ht : AggT P t size] [he : Enc enc m] [hr : HasOwn F v T enc m l F']
    (hi : i < l.length) (hs : Nat.beq vs.size size = true) (h1 : vs.toList.all (·.oneCell') = true) (hfm : Nat.ble (f + size) m = true) (hz : enc z = (enc l[i]).take f ++ vs.toList ++ (enc l[i]).drop (f + size))
    (h : GL P n ops Q rest env (owns T enc m v (l.set i z) :: F')) : GL P n ops Q (⟨none, .store t x y, ty, pos, aft, none⟩ :: rest) env F := .mk fun a w hf hw => by
  obtain ⟨it, ds, g1, g2, g3, g4⟩ := ht.ok
  have hs : vs.size = size := Nat.eq_of_beq_eq_true hs
  have hfm : f + size ≤ m := Nat.le_of_ble_eq_true hfm
  have hw1 := hw.perm hr.perm
  obtain ⟨_, hop⟩ := holds.open_own hw1
  have hle : (i + 1) * m ≤ l.length * m := Nat.mul_le_mul_right _ hi
  rw [Nat.succ_mul] at hle
  have hpos := he.pos
  rcases hop with ⟨_, h0, _⟩ | ⟨g, cap, cur, rfl, h4, h5, h6, h7, h8⟩
  · omega
  · have hle2 : l.length * m ≤ cap * m := Nat.mul_le_mul_right _ h4
    refine wpList_store_sl rfl rfl t x y rfl (off := i * m + f) (.agg vs) (by have := hf.eval hx; simpa [rowB, rowO, Nat.add_assoc] using this) (hf.eval hy) (by simp [g1, g2, hs, Value.cells]) (by have h1' := List.all_eq_true.1 h1; simpa [Value.cells] using h1') h8 (by simp only [Value.cells, hs, h6]; omega) fun w' hw' => h a w' hf ?_
    simp only [Value.cells, hs] at hw'
    have hsize : (cur.toList.take (i * m + f) ++ vs.toList ++ cur.toList.drop (i * m + f + size)).toArray.size = cap * m := by
      simp only [List.size_toArray, List.length_append, List.length_take, List.length_drop, Array.length_toList, h6, hs]
      omega
    have h9 := hw'.mkRow (size := m) (n := l.length) h4 h5 hsize
    have h10 : (cur.toList.take (i * m + f) ++ vs.toList ++ cur.toList.drop (i * m + f + size)).toArray.toList.take (l.length * m) = (l.set i z).flatMap enc := by
      rw [← Enc.flat_set l i z hi, hz]
      have hfl : (l.flatMap enc).length = l.length * m := Enc.flat_len l
      have e1 : enc l[i] = ((l.flatMap enc).drop (i * m)).take m := by
        apply List.ext_getElem?
        intro j
        rw [List.getElem?_take, List.getElem?_drop]
        by_cases hj : j < m
        · rw [if_pos hj, Enc.flat_at l i hi j hj]
        · rw [if_neg hj, List.getElem?_eq_none (by rw [he.len]; omega)]
      rw [e1]
      have e2 : ∀ j, j < l.length * m → cur.toList[j]? = (l.flatMap enc)[j]? := fun j hj => by rw [← h7, List.getElem?_take, if_pos hj]
      apply List.ext_getElem?
      intro j
      have hcl : cur.toList.length = cap * m := by simp [h6]
      have hvl : vs.toList.length = size := by simp [hs]
      simp only [List.getElem?_append, List.length_append, List.length_take, List.length_drop, hfl, List.getElem?_take, List.getElem?_drop, hcl, hvl]
      rw [Nat.min_eq_left (a := i * m + f) (by omega), Nat.min_eq_left (a := i * m) (by omega), Nat.min_eq_left (a := m) (by omega), Nat.min_eq_left (a := f) (by omega)]
      repeat' split
      all_goals first | rfl | (exfalso; omega) | exact e2 _ (by omega) | (rw [e2 _ (by omega)]; congr 1; omega) | (congr 1; omega) | (symm; exact List.getElem?_eq_none (by rw [hfl]; omega)) | skip
    rw [h10] at h9
    unfold owns
    rw [List.length_set]
    exact h9
end
end Go.Proofs.YtlcdaalalihaiaaGreat
end
