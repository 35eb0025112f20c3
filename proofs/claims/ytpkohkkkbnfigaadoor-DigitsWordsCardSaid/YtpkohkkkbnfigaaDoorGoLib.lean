/- More laws of the new road: rows of ints, equality of structs of ints. -/
import Derived.Test.YtpkohkkkbnfigaaDoorGoEnt
namespace Go.Proofs.YtpkohkkkbnfigaaDoor
open Go Go.RowKit Go.MapKept
set_option linter.unusedVariables false
set_option linter.unusedSectionVars false
set_option linter.unusedSimpArgs false

/-! ### Rows of ints -/
def encI1 (x : Int) : List Value := [.int .i64 x]
instance : Enc encI1 1 := ⟨fun _ => rfl, fun _ => by simp [encI1, Value.oneCell'], by omega⟩
theorem flat_ints : ∀ l : List Int, l.flatMap encI1 = l.map (.int .i64)
  | [] => rfl
  | x :: l => by
    have := flat_ints l
    simp only [List.flatMap_cons, this]
    rfl
theorem owns_ints (T : TypeId) (v : Value) (l : List Int) : owns T encI1 1 v l = ownRow T 1 v l.length (l.map (.int .i64)) := by
  unfold owns; rw [flat_ints]

/-! ### Equality of what is made of ints alone -/
def intsF (P : Program) (g : TypeId → Option Nat) : List Field → Nat → Option Nat
  | [], off => some off
  | f :: fs, off => if f.name = "_" ∨ f.offset ≠ off then none else match g f.type with
    | none => none
    | some m => if (P.info? f.type).map (·.size) = some m then intsF P g fs (off + m) else none
def intsB (P : Program) : Nat → TypeId → Option Nat
  | 0, _ => none
  | k + 1, t => match P.underlying t with
    | some (.int .i64) => some 1
    | some (.struct fs) => if P.stoodInHeld t = true then none else intsF P (intsB P k) fs.toList 0
    | some (.array len e) => match intsB P k e with
      | none => none
      | some m => if (P.info? e).map (·.size) = some m then some (len * m) else none
    | _ => none
def aggV (l : List Int) : Value := .agg (l.map (.int .i64)).toArray
def cellsI (l : List Int) : Array Value := (l.map (.int .i64)).toArray
/-- The value of the type t of these ints. -/
def valI (P : Program) (t : TypeId) (l : List Int) : Value := match P.underlying t with
  | some (.int .i64) => .int .i64 (l.headD 0)
  | _ => .agg (cellsI l)
theorem cellsI_extract (l : List Int) (off m : Nat) : (cellsI l).extract off (off + m) = cellsI ((l.drop off).take m) := by
  apply Array.ext'
  simp only [cellsI, List.extract_toArray, List.extract_eq_take_drop, List.map_take, List.map_drop]
  congr 1
  omega
theorem take_one {α : Type} : ∀ {l : List α} {off : Nat} (h : off < l.length), (l.drop off).take 1 = [l[off]]
  | l, off, h => by rw [List.drop_eq_getElem_cons h]; rfl
theorem info_size {P : Program} {t : TypeId} {m : Nat} (h : (P.info? t).map (·.size) = some m) : ∃ i, P.info? t = some i ∧ i.size = m := by
  cases e : P.info? t with
  | none => rw [e] at h; cases h
  | some i => rw [e] at h; exact ⟨i, rfl, by simpa using h⟩
theorem run_part_ints {P : Program} {k : Nat} {t : TypeId} {m : Nat} (hB : intsB P k t = some m) (hs : (P.info? t).map (·.size) = some m) (l : List Int) (off : Nat) (hl : off + m ≤ l.length) (w : World) :
    (part t (cellsI l) off).run P w = .ok (valI P t ((l.drop off).take m)) w := by
  obtain ⟨i, h1, h2⟩ := info_size hs
  cases k with
  | zero => cases hB
  | succ k =>
    unfold intsB at hB
    split at hB
    · rename_i hu
      cases hB
      have hlt : off < l.length := by omega
      have hc : (cellsI l)[off]? = some (.int .i64 l[off]) := by simp [cellsI, hlt]
      simp [part, isAgg, run_underlying hu, valI, hu, take_one hlt, Result.andThen, hc]
    · rename_i fs hu
      simp [part, isAgg, run_underlying hu, valI, hu, sizeOf, typeInfo, h1, h2, cellsI_extract, Result.andThen]
    · rename_i len e hu
      simp [part, isAgg, run_underlying hu, valI, hu, sizeOf, typeInfo, h1, h2, cellsI_extract, Result.andThen]
    · cases hB
theorem app_eq_iff {α : Type} [DecidableEq α] {a b c d : List α} (h : a.length = c.length) : decide (a ++ b = c ++ d) = (decide (a = c) && decide (b = d)) := by
  by_cases h1 : a = c
  · subst h1; simp
  · have : ¬ a ++ b = c ++ d := fun e => h1 (List.append_inj_left e h)
    simp [h1, this]
theorem drop_split {α : Type} (l : List α) (off m n : Nat) : (l.drop off).take (m + n) = (l.drop off).take m ++ (l.drop (off + m)).take n := by
  rw [List.take_add, List.drop_drop]
theorem eqFields_ints {P : Program} {k d : Nat} (ih : ∀ (t : TypeId) (n : Nat), intsB P k t = some n → ∀ (xs ys : List Int), xs.length = n → ys.length = n → ∀ w, (Op.equalIn d t (valI P t xs) (valI P t ys)).run P w = .ok (decide (xs = ys)) w) :
    ∀ (fs : List Field) (off tot : Nat), intsF P (intsB P k) fs off = some tot → ∀ (xs ys : List Int), xs.length = ys.length → tot ≤ xs.length → ∀ w, off ≤ tot ∧ (Op.eqFields d (cellsI xs) (cellsI ys) fs).run P w = .ok (decide ((xs.drop off).take (tot - off) = (ys.drop off).take (tot - off))) w
  | [], off, tot, h, xs, ys, hl, ht, w => by
    unfold intsF at h
    cases h
    simp [Op.eqFields]
  | f :: fs, off, tot, h, xs, ys, hl, ht, w => by
    unfold intsF at h
    split at h
    · cases h
    · rename_i hn
      split at h
      · cases h
      · rename_i m hm
        split at h
        · rename_i hs
          have hrec := eqFields_ints ih fs (off + m) tot h xs ys hl ht
          obtain ⟨hle, -⟩ := hrec w
          refine ⟨by omega, ?_⟩
          have hname : f.name ≠ "_" := fun e => hn (.inl e)
          have hoff : f.offset = off := Classical.not_not.1 fun e => hn (.inr e)
          have p1 := run_part_ints hm hs xs off (by omega) w
          have p2 := run_part_ints hm hs ys off (by omega) w
          have e1 := ih f.type m hm ((xs.drop off).take m) ((ys.drop off).take m) (by simp; omega) (by simp; omega) w
          have hsp : tot - off = m + (tot - (off + m)) := by omega
          rw [hsp, drop_split xs, drop_split ys, app_eq_iff (by simp; omega)]
          simp only [Op.eqFields, if_pos hname, Sem.run_bind, hoff, p1, p2, Result.andThen_ok, e1]
          by_cases hh : (xs.drop off).take m = (ys.drop off).take m
          · simp only [hh, decide_true, Bool.not_true, Bool.false_eq_true, if_false, Bool.true_and]
            exact (hrec w).2
          · simp [hh]
        · cases h
theorem equalIn_ints {P : Program} : ∀ (k : Nat) (t : TypeId) (n : Nat), intsB P k t = some n → ∀ d, k ≤ d → ∀ (xs ys : List Int), xs.length = n → ys.length = n → ∀ w,
    (Op.equalIn d t (valI P t xs) (valI P t ys)).run P w = .ok (decide (xs = ys)) w
  | 0, t, n, h, _, _, _, _, _, _, _ => by cases h
  | k + 1, t, n, h, 0, hd, _, _, _, _, _ => by omega
  | k + 1, t, n, h, d + 1, hd, xs, ys, hx, hy, w => by
    have ih := fun (t : TypeId) (n : Nat) (h : intsB P k t = some n) (xs ys : List Int) (hx : xs.length = n) (hy : ys.length = n) (w : World) => equalIn_ints k t n h d (by omega) xs ys hx hy w
    unfold intsB at h
    split at h
    · rename_i hu
      cases h
      match xs, ys, hx, hy with
      | [a], [b], _, _ =>
        simp only [valI, hu, List.headD_cons]
        rw [run_equalIn_int w d t .i64 .i64 a b hu]
        by_cases e : a = b <;> simp [e]
    · rename_i fs hu
      split at h
      · cases h
      · rename_i hp
        have hf : P.fieldsOf t = fs := by unfold Program.fieldsOf; rw [hu]
        simp only [valI, hu]
        rw [run_equalIn_struct w d t _ _ (by rw [hf]; exact hu) (by simpa using hp), hf]
        have := (eqFields_ints ih fs.toList 0 n h xs ys (by omega) (by omega) w).2
        rw [this]
        simp [List.take_of_length_le, hx, hy]
    · rename_i len e hu
      split at h
      · cases h
      · rename_i m hm
        split at h
        · rename_i hs
          cases h
          obtain ⟨i, h1, h2⟩ := info_size hs
          simp only [valI, hu]
          simp only [Op.equalIn, Sem.run_bind, run_underlying hu, Result.andThen_ok]
          have hsz : (sizeOf e).run P w = .ok m w := by simp [sizeOf, typeInfo, h1, h2, Result.andThen]
          simp only [hsz, Result.andThen_ok]
          rw [Std.Legacy.Range.forIn_eq_forIn_range']
          have key : ∀ (q off : Nat), off + q = len → ∀ w, (forIn (m := Sem) (List.range' off q 1) ((none : Option Bool), ()) fun i __s => do
              let __do_lift ← part e (cellsI xs) (i * m)
              let __do_lift_1 ← part e (cellsI ys) (i * m)
              let __do_lift ← Op.equalIn d e __do_lift __do_lift_1
              if (!__do_lift) = true then pure (ForInStep.done (some false, ())) else pure (ForInStep.yield (none, ()))).run P w = .ok (if xs.drop (off * m) = ys.drop (off * m) then (none, ()) else (some false, ())) w := by
            intro q
            induction q with
            | zero =>
              intro off ho w
              have e1 : xs.drop (off * m) = [] := List.drop_eq_nil_of_le (by rw [hx, ← ho]; simp)
              have e2 : ys.drop (off * m) = [] := List.drop_eq_nil_of_le (by rw [hy, ← ho]; simp)
              simp [e1, e2]
            | succ q ihq =>
              intro off ho w
              have hle : off * m + m ≤ len * m := by rw [← Nat.succ_mul]; exact Nat.mul_le_mul_right m (by omega)
              have p1 := run_part_ints hm hs xs (off * m) (by omega) w
              have p2 := run_part_ints hm hs ys (off * m) (by omega) w
              have e1 := ih e m hm ((xs.drop (off * m)).take m) ((ys.drop (off * m)).take m) (by simp; omega) (by simp; omega) w
              have sx : xs.drop (off * m) = (xs.drop (off * m)).take m ++ xs.drop ((off + 1) * m) := by
                rw [show (off + 1) * m = off * m + m from Nat.succ_mul off m, ← List.drop_drop, List.take_append_drop]
              have sy : ys.drop (off * m) = (ys.drop (off * m)).take m ++ ys.drop ((off + 1) * m) := by
                rw [show (off + 1) * m = off * m + m from Nat.succ_mul off m, ← List.drop_drop, List.take_append_drop]
              have hrec := ihq (off + 1) (by omega) w
              rw [List.range'_succ, List.forIn_cons]
              simp only [Sem.run_bind, p1, p2, Result.andThen_ok, e1]
              by_cases hh : (xs.drop (off * m)).take m = (ys.drop (off * m)).take m
              · simp only [hh, decide_true, Bool.not_true, Bool.false_eq_true, if_false, Sem.run_pure, Result.andThen_ok]
                rw [hrec]
                by_cases h3 : xs.drop ((off + 1) * m) = ys.drop ((off + 1) * m)
                · rw [if_pos h3, if_pos (by rw [sx, sy, hh, h3])]
                · rw [if_neg h3, if_neg (fun e => h3 (by rw [sx, sy, hh] at e; exact List.append_cancel_left e))]
              · have hne : ¬ xs.drop (off * m) = ys.drop (off * m) := fun e => hh (by rw [e])
                simp [hh, hne]
          have hk := key len 0 (by omega) w
          simp only [Nat.zero_mul, List.drop_zero] at hk
          have hr : List.range' ([:len] : Std.Legacy.Range).start ([:len] : Std.Legacy.Range).size ([:len] : Std.Legacy.Range).step = List.range' 0 len 1 := by simp [Std.Legacy.Range.size]
          rw [hr, hk]
          by_cases h4 : xs = ys
          · simp [h4]
          · simp [h4]
        · cases h
    · cases h
/-- A struct or an array of so many ints, that can be compared. -/
class IntsT (P : Program) (t : TypeId) (n : outParam Nat) : Prop where
  ok : intsB P 6 t = some n ∧ P.eqGuardType P.depth t = false ∧ aggDesc <$> P.underlying t = some true
def intsTB (P : Program) (t : TypeId) (n : Nat) : Bool := intsB P 6 t == some n && !P.eqGuardType P.depth t && (aggDesc <$> P.underlying t) == some true
theorem IntsT.of {P : Program} {t : TypeId} {n : Nat} (h : intsTB P t n = true) : IntsT P t n := by
  unfold intsTB at h
  simp only [Bool.and_eq_true, beq_iff_eq, Bool.not_eq_true'] at h
  exact ⟨h.1.1, h.1.2, h.2⟩
theorem valI_agg {P : Program} {t : TypeId} {n : Nat} [h : IntsT P t n] (l : List Int) : valI P t l = .agg (cellsI l) := by
  have := h.ok.2.2
  unfold valI
  split
  · rename_i hu; rw [hu] at this; simp [aggDesc] at this
  · rfl
/-- These cells are these ints. -/
class IntsL (cs : List Value) (xs : outParam (List Int)) : Prop where
  ok : cs = xs.map (.int .i64)
instance : IntsL [] [] := ⟨rfl⟩
instance {a : Int} {l : List Value} {xs : List Int} [h : IntsL l xs] : IntsL (.int .i64 a :: l) (a :: xs) := ⟨by rw [h.ok]; rfl⟩
instance {l m : List Value} {xs ys : List Int} [h : IntsL l xs] [g : IntsL m ys] : IntsL (l ++ m) (xs ++ ys) := ⟨by rw [h.ok, g.ok, List.map_append]⟩
class IntsA (cs : Array Value) (xs : outParam (List Int)) : Prop where
  ok : cs = cellsI xs
instance {l : List Value} {xs : List Int} [h : IntsL l xs] : IntsA l.toArray xs := ⟨by rw [h.ok]; rfl⟩
section
variable {P : Program} {n : Nat} {env : Env} {F : List HProp} {t u : TypeId} {x y : Operand} {cs ds : Array Value} {xs ys : List Int} {m : Nat}
theorem Runs.eqlInts [ht : IntsT P t m] (hx : opnd env x = some (.agg cs)) (hy : opnd env y = some (.agg ds)) [h1 : IntsA cs xs] [h2 : IntsA ds ys] (l1 : Nat.beq xs.length m = true) (l2 : Nat.beq ys.length m = true) : Runs P n env F (.binOp .eql t x y u) (.bool (decide (xs = ys))) := .mk fun a w ty pos aft g d hf hw => by
  have e := equalIn_ints 6 t m ht.ok.1 10000 (by omega) xs ys (by simpa using l1) (by simpa using l2) w
  rw [valI_agg, valI_agg] at e
  have hg : (eqGuard .eql t x y (.agg (cellsI xs)) (.agg (cellsI ys))).run P w = .ok () w := run_eqGuard_agg w .eql t x y _ _ ht.ok.2.1
  have hb := run_eql_struct (P := P) w t (cellsI xs) (cellsI ys)
  rw [e] at hb
  simp only [execOp, hf.eval hx, hf.eval hy, h1.ok, h2.ok]
  simp only [Sem.run_bind, hg, Result.andThen_ok]
  simp [hb, Result.andThen]
theorem Runs.neqInts [ht : IntsT P t m] (hx : opnd env x = some (.agg cs)) (hy : opnd env y = some (.agg ds)) [h1 : IntsA cs xs] [h2 : IntsA ds ys] (l1 : Nat.beq xs.length m = true) (l2 : Nat.beq ys.length m = true) : Runs P n env F (.binOp .neq t x y u) (.bool (!decide (xs = ys))) := .mk fun a w ty pos aft g d hf hw => by
  have e := equalIn_ints 6 t m ht.ok.1 10000 (by omega) xs ys (by simpa using l1) (by simpa using l2) w
  rw [valI_agg, valI_agg] at e
  have hg : (eqGuard .neq t x y (.agg (cellsI xs)) (.agg (cellsI ys))).run P w = .ok () w := run_eqGuard_agg w .neq t x y _ _ ht.ok.2.1
  have hb := run_neq_struct (P := P) w t (cellsI xs) (cellsI ys)
  rw [e] at hb
  simp only [execOp, hf.eval hx, hf.eval hy, h1.ok, h2.ok]
  simp only [Sem.run_bind, hg, Result.andThen_ok]
  simp [hb, Result.andThen]
end
end Go.Proofs.YtpkohkkkbnfigaaDoor
