import Derived.Test.YtipkgamiejenaaaGreatMg4
import Derived.Test.YtipkgamiejenaaaGreatLooseT
import Derived.Laws.CopyRow
import Derived.Test.YtipkgamiejenaaaGreatMg0
import Derived.KernelRfl
/- More laws of the new road: rows of ints, equality of structs of ints. Rows cut short, cleared; what functions that look for one do. The laws of a run of operations, with the tactic that finds the value. Laws of walking: a struct inside an element of a row. Loops: the slots that stay are told by their numbers alone. make of a row, and copy onto one. -/
section
namespace Go.Proofs.YtipkgamiejenaaaGreat
open Go Go.RowKit Go.MapKept
set_option linter.unusedVariables false
set_option linter.unusedSectionVars false
set_option linter.unusedSimpArgs false

/-! ### Rows of ints -/
def encI1 (x : Int) : List Value := [.int .i64 x]
instance : Enc encI1 1 := ⟨fun _ => rfl, fun _ => by simp [encI1, Value.oneCell'], by omega⟩
theorem flat_ints : ∀ l : List Int, l.flatMap encI1 = l.map (.int .i64)
  | [] => rfl
  | x :: l => by
    have := flat_ints l
    simp only [List.flatMap_cons, this]
    rfl
/-! ### Equality of what is made of ints alone -/
def intsF (P : Program) (g : TypeId → Option Nat) : List Field → Nat → Option Nat
  | [], off => some off
  | f :: fs, off => if f.name = "_" ∨ f.offset ≠ off then none else match g f.type with
    | none => none
    | some m => if (P.info? f.type).map (·.size) = some m then intsF P g fs (off + m) else none
def intsB (P : Program) : Nat → TypeId → Option Nat
  | 0, _ => none
  | k + 1, t => match P.underlying t with
    | some (.int .i64) => some 1
    | some (.struct fs) => if P.stoodInHeld t = true then none else intsF P (intsB P k) fs.toList 0
    | some (.array len e) => match intsB P k e with
      | none => none
      | some m => if (P.info? e).map (·.size) = some m then some (len * m) else none
    | _ => none
def aggV (l : List Int) : Value := .agg (l.map (.int .i64)).toArray
def cellsI (l : List Int) : Array Value := (l.map (.int .i64)).toArray
/-- The value of the type t of these ints. -/
def valI (P : Program) (t : TypeId) (l : List Int) : Value := match P.underlying t with
  | some (.int .i64) => .int .i64 (l.headD 0)
  | _ => .agg (cellsI l)
theorem cellsI_extract (l : List Int) (off m : Nat) : (cellsI l).extract off (off + m) = cellsI ((l.drop off).take m) := by
  apply Array.ext'
  simp only [cellsI, List.extract_toArray, List.extract_eq_take_drop, List.map_take, List.map_drop]
  congr 1
  omega
theorem take_one {α : Type} : ∀ {l : List α} {off : Nat} (h : off < l.length), (l.drop off).take 1 = [l[off]]
  | l, off, h => by rw [List.drop_eq_getElem_cons h]; rfl
theorem info_size {P : Program} {t : TypeId} {m : Nat} (h : (P.info? t).map (·.size) = some m) : ∃ i, P.info? t = some i ∧ i.size = m := by
  cases e : P.info? t with
  | none => rw [e] at h; cases h
  | some i => rw [e] at h; exact ⟨i, rfl, by simpa using h⟩
theorem run_part_ints {P : Program} {k : Nat} {t : TypeId} {m : Nat} (hB : intsB P k t = some m) (hs : (P.info? t).map (·.size) = some m) (l : List Int) (off : Nat) (hl : off + m ≤ l.length) (w : World) :
    (part t (cellsI l) off).run P w = .ok (valI P t ((l.drop off).take m)) w := by
  obtain ⟨i, h1, h2⟩ := info_size hs
  cases k with
  | zero => cases hB
  | succ k =>
    unfold intsB at hB
    split at hB
    · rename_i hu
      cases hB
      have hlt : off < l.length := by omega
      have hc : (cellsI l)[off]? = some (.int .i64 l[off]) := by simp [cellsI, hlt]
      simp [part, isAgg, run_underlying hu, valI, hu, take_one hlt, Result.andThen, hc]
    · rename_i fs hu
      simp [part, isAgg, run_underlying hu, valI, hu, sizeOf, typeInfo, h1, h2, cellsI_extract, Result.andThen]
    · rename_i len e hu
      simp [part, isAgg, run_underlying hu, valI, hu, sizeOf, typeInfo, h1, h2, cellsI_extract, Result.andThen]
    · cases hB
theorem app_eq_iff {α : Type} [DecidableEq α] {a b c d : List α} (h : a.length = c.length) : decide (a ++ b = c ++ d) = (decide (a = c) && decide (b = d)) := by
  by_cases h1 : a = c
  · subst h1; simp
  · have : ¬ a ++ b = c ++ d := fun e => h1 (List.append_inj_left e h)
    simp [h1, this]
theorem drop_split {α : Type} (l : List α) (off m n : Nat) : (l.drop off).take (m + n) = (l.drop off).take m ++ (l.drop (off + m)).take n := by
  rw [List.take_add, List.drop_drop]
theorem eqFields_ints {P : Program} {k d : Nat} (ih : ∀ (t : TypeId) (n : Nat), intsB P k t = some n → ∀ (xs ys : List Int), xs.length = n → ys.length = n → ∀ w, (Op.equalIn d t (valI P t xs) (valI P t ys)).run P w = .ok (decide (xs = ys)) w) :
    ∀ (fs : List Field) (off tot : Nat), intsF P (intsB P k) fs off = some tot → ∀ (xs ys : List Int), xs.length = ys.length → tot ≤ xs.length → ∀ w, off ≤ tot ∧ (Op.eqFields d (cellsI xs) (cellsI ys) fs).run P w = .ok (decide ((xs.drop off).take (tot - off) = (ys.drop off).take (tot - off))) w
  | [], off, tot, h, xs, ys, hl, ht, w => by
    unfold intsF at h
    cases h
    simp [Op.eqFields]
  | f :: fs, off, tot, h, xs, ys, hl, ht, w => by
    unfold intsF at h
    split at h
    · cases h
    · rename_i hn
      split at h
      · cases h
      · rename_i m hm
        split at h
        · rename_i hs
          have hrec := eqFields_ints ih fs (off + m) tot h xs ys hl ht
          obtain ⟨hle, -⟩ := hrec w
          refine ⟨by omega, ?_⟩
          have hname : f.name ≠ "_" := fun e => hn (.inl e)
          have hoff : f.offset = off := Classical.not_not.1 fun e => hn (.inr e)
          have p1 := run_part_ints hm hs xs off (by omega) w
          have p2 := run_part_ints hm hs ys off (by omega) w
          have e1 := ih f.type m hm ((xs.drop off).take m) ((ys.drop off).take m) (by simp; omega) (by simp; omega) w
          have hsp : tot - off = m + (tot - (off + m)) := by omega
          rw [hsp, drop_split xs, drop_split ys, app_eq_iff (by simp; omega)]
          simp only [Op.eqFields, if_pos hname, Sem.run_bind, hoff, p1, p2, Result.andThen_ok, e1]
          by_cases hh : (xs.drop off).take m = (ys.drop off).take m
          · simp only [hh, decide_true, Bool.not_true, Bool.false_eq_true, if_false, Bool.true_and]
            exact (hrec w).2
          · simp [hh]
        · cases h
theorem equalIn_ints {P : Program} : ∀ (k : Nat) (t : TypeId) (n : Nat), intsB P k t = some n → ∀ d, k ≤ d → ∀ (xs ys : List Int), xs.length = n → ys.length = n → ∀ w,
    (Op.equalIn d t (valI P t xs) (valI P t ys)).run P w = .ok (decide (xs = ys)) w
  | 0, t, n, h, _, _, _, _, _, _, _ => by cases h
  | k + 1, t, n, h, 0, hd, _, _, _, _, _ => by omega
  | k + 1, t, n, h, d + 1, hd, xs, ys, hx, hy, w => by
    have ih := fun (t : TypeId) (n : Nat) (h : intsB P k t = some n) (xs ys : List Int) (hx : xs.length = n) (hy : ys.length = n) (w : World) => equalIn_ints k t n h d (by omega) xs ys hx hy w
    unfold intsB at h
    split at h
    · rename_i hu
      cases h
      match xs, ys, hx, hy with
      | [a], [b], _, _ =>
        simp only [valI, hu, List.headD_cons]
        rw [run_equalIn_int w d t .i64 .i64 a b hu]
        by_cases e : a = b <;> simp [e]
    · rename_i fs hu
      split at h
      · cases h
      · rename_i hp
        have hf : P.fieldsOf t = fs := by unfold Program.fieldsOf; rw [hu]
        simp only [valI, hu]
        rw [run_equalIn_struct w d t _ _ (by rw [hf]; exact hu) (by simpa using hp), hf]
        have := (eqFields_ints ih fs.toList 0 n h xs ys (by omega) (by omega) w).2
        rw [this]
        simp [List.take_of_length_le, hx, hy]
    · rename_i len e hu
      split at h
      · cases h
      · rename_i m hm
        split at h
        · rename_i hs
          cases h
          obtain ⟨i, h1, h2⟩ := info_size hs
          simp only [valI, hu]
          simp only [Op.equalIn, Sem.run_bind, run_underlying hu, Result.andThen_ok]
          have hsz : (sizeOf e).run P w = .ok m w := by simp [sizeOf, typeInfo, h1, h2, Result.andThen]
          simp only [hsz, Result.andThen_ok]
          rw [Std.Legacy.Range.forIn_eq_forIn_range']
          have key : ∀ (q off : Nat), off + q = len → ∀ w, (forIn (m := Sem) (List.range' off q 1) ((none : Option Bool), ()) fun i __s => do
              let __do_lift ← part e (cellsI xs) (i * m)
              let __do_lift_1 ← part e (cellsI ys) (i * m)
              let __do_lift ← Op.equalIn d e __do_lift __do_lift_1
              if (!__do_lift) = true then pure (ForInStep.done (some false, ())) else pure (ForInStep.yield (none, ()))).run P w = .ok (if xs.drop (off * m) = ys.drop (off * m) then (none, ()) else (some false, ())) w := by
            intro q
            induction q with
            | zero =>
              intro off ho w
              have e1 : xs.drop (off * m) = [] := List.drop_eq_nil_of_le (by rw [hx, ← ho]; simp)
              have e2 : ys.drop (off * m) = [] := List.drop_eq_nil_of_le (by rw [hy, ← ho]; simp)
              simp [e1, e2]
            | succ q ihq =>
              intro off ho w
              have hle : off * m + m ≤ len * m := by rw [← Nat.succ_mul]; exact Nat.mul_le_mul_right m (by omega)
              have p1 := run_part_ints hm hs xs (off * m) (by omega) w
              have p2 := run_part_ints hm hs ys (off * m) (by omega) w
              have e1 := ih e m hm ((xs.drop (off * m)).take m) ((ys.drop (off * m)).take m) (by simp; omega) (by simp; omega) w
              have sx : xs.drop (off * m) = (xs.drop (off * m)).take m ++ xs.drop ((off + 1) * m) := by
                rw [show (off + 1) * m = off * m + m from Nat.succ_mul off m, ← List.drop_drop, List.take_append_drop]
              have sy : ys.drop (off * m) = (ys.drop (off * m)).take m ++ ys.drop ((off + 1) * m) := by
                rw [show (off + 1) * m = off * m + m from Nat.succ_mul off m, ← List.drop_drop, List.take_append_drop]
              have hrec := ihq (off + 1) (by omega) w
              rw [List.range'_succ, List.forIn_cons]
              simp only [Sem.run_bind, p1, p2, Result.andThen_ok, e1]
              by_cases hh : (xs.drop (off * m)).take m = (ys.drop (off * m)).take m
              · simp only [hh, decide_true, Bool.not_true, Bool.false_eq_true, if_false, Sem.run_pure, Result.andThen_ok]
                rw [hrec]
                by_cases h3 : xs.drop ((off + 1) * m) = ys.drop ((off + 1) * m)
                · rw [if_pos h3, if_pos (by rw [sx, sy, hh, h3])]
                · rw [if_neg h3, if_neg (fun e => h3 (by rw [sx, sy, hh] at e; exact List.append_cancel_left e))]
              · have hne : ¬ xs.drop (off * m) = ys.drop (off * m) := fun e => hh (by rw [e])
                simp [hh, hne]
          have hk := key len 0 (by omega) w
          simp only [Nat.zero_mul, List.drop_zero] at hk
          have hr : List.range' ([:len] : Std.Legacy.Range).start ([:len] : Std.Legacy.Range).size ([:len] : Std.Legacy.Range).step = List.range' 0 len 1 := by simp [Std.Legacy.Range.size]
          rw [hr, hk]
          by_cases h4 : xs = ys
          · simp [h4]
          · simp [h4]
        · cases h
    · cases h
/-- A struct or an array of so many ints, that can be compared. -/
class IntsT (P : Program) (t : TypeId) (n : outParam Nat) : Prop where
  ok : intsB P 6 t = some n ∧ P.eqGuardType P.depth t = false ∧ aggDesc <$> P.underlying t = some true
def intsTB (P : Program) (t : TypeId) (n : Nat) : Bool := intsB P 6 t == some n && !P.eqGuardType P.depth t && (aggDesc <$> P.underlying t) == some true
theorem IntsT.of {P : Program} {t : TypeId} {n : Nat} (h : intsTB P t n = true) : IntsT P t n := by
  unfold intsTB at h
  simp only [Bool.and_eq_true, beq_iff_eq, Bool.not_eq_true'] at h
  exact ⟨h.1.1, h.1.2, h.2⟩
theorem valI_agg {P : Program} {t : TypeId} {n : Nat} [h : IntsT P t n] (l : List Int) : valI P t l = .agg (cellsI l) := by
  have := h.ok.2.2
  unfold valI
  split
  · rename_i hu; rw [hu] at this; simp [aggDesc] at this
  · rfl
/-- These cells are these ints. -/
class IntsL (cs : List Value) (xs : outParam (List Int)) : Prop where
  ok : cs = xs.map (.int .i64)
instance : IntsL [] [] := ⟨rfl⟩
instance {a : Int} {l : List Value} {xs : List Int} [h : IntsL l xs] : IntsL (.int .i64 a :: l) (a :: xs) := ⟨by rw [h.ok]; rfl⟩
instance {l m : List Value} {xs ys : List Int} [h : IntsL l xs] [g : IntsL m ys] : IntsL (l ++ m) (xs ++ ys) := ⟨by rw [h.ok, g.ok, List.map_append]⟩
class IntsA (cs : Array Value) (xs : outParam (List Int)) : Prop where
  ok : cs = cellsI xs
instance {l : List Value} {xs : List Int} [h : IntsL l xs] : IntsA l.toArray xs := ⟨by rw [h.ok]; rfl⟩
section
variable {P : Program} {n : Nat} {env : Env} {F : List HProp} {t u : TypeId} {x y : Operand} {cs ds : Array Value} {xs ys : List Int} {m : Nat}
theorem Runs.eqlInts [ht : IntsT P t m] (hx : opnd env x = some (.agg cs)) (hy : opnd env y = some (.agg ds)) [h1 : IntsA cs xs] [h2 : IntsA ds ys] (l1 : Nat.beq xs.length m = true) (l2 : Nat.beq ys.length m = true) : Runs P n env F (.binOp .eql t x y u) (.bool (decide (xs = ys))) := .mk fun a w ty pos aft g d hf hw => by
  have e := equalIn_ints 6 t m ht.ok.1 10000 (by omega) xs ys (by simpa using l1) (by simpa using l2) w
  rw [valI_agg, valI_agg] at e
  have hg : (eqGuard .eql t x y (.agg (cellsI xs)) (.agg (cellsI ys))).run P w = .ok () w := run_eqGuard_agg w .eql t x y _ _ ht.ok.2.1
  have hb := run_eql_struct (P := P) w t (cellsI xs) (cellsI ys)
  rw [e] at hb
  simp only [execOp, hf.eval hx, hf.eval hy, h1.ok, h2.ok]
  simp only [Sem.run_bind, hg, Result.andThen_ok]
  simp [hb, Result.andThen]
theorem Runs.neqInts [ht : IntsT P t m] (hx : opnd env x = some (.agg cs)) (hy : opnd env y = some (.agg ds)) [h1 : IntsA cs xs] [h2 : IntsA ds ys] (l1 : Nat.beq xs.length m = true) (l2 : Nat.beq ys.length m = true) : Runs P n env F (.binOp .neq t x y u) (.bool (!decide (xs = ys))) := .mk fun a w ty pos aft g d hf hw => by
  have e := equalIn_ints 6 t m ht.ok.1 10000 (by omega) xs ys (by simpa using l1) (by simpa using l2) w
  rw [valI_agg, valI_agg] at e
  have hg : (eqGuard .neq t x y (.agg (cellsI xs)) (.agg (cellsI ys))).run P w = .ok () w := run_eqGuard_agg w .neq t x y _ _ ht.ok.2.1
  have hb := run_neq_struct (P := P) w t (cellsI xs) (cellsI ys)
  rw [e] at hb
  simp only [execOp, hf.eval hx, hf.eval hy, h1.ok, h2.ok]
  simp only [Sem.run_bind, hg, Result.andThen_ok]
  simp [hb, Result.andThen]
end
end Go.Proofs.YtipkgamiejenaaaGreat
end
section
namespace Go.Proofs.YtipkgamiejenaaaGreat
open Go Go.RowKit Go.MapKept
set_option linter.unusedVariables false
set_option linter.unusedSectionVars false
set_option linter.unusedSimpArgs false

section
variable {α : Type} {enc : α → List Value} {m : Nat} {T : TypeId} {F : List HProp}
theorem zeroCells_flat [he : Enc enc m] {z : Array Value} {z0 : α} (hz : z.toList = enc z0) (n : Nat) : (Builtin.zeroCells z n).toList = (List.replicate n z0).flatMap enc := by
  have hs : z.size = m := by rw [← Array.length_toList, hz, he.len]
  have hpos := he.pos
  apply List.ext_getElem?
  intro j
  have hl : ((List.replicate n z0).flatMap enc).length = n * m := by rw [Enc.flat_len, List.length_replicate]
  unfold Builtin.zeroCells
  by_cases hj : j < n * m
  · have hjm : j % m < m := Nat.mod_lt _ hpos
    have hd : j / m < n := (Nat.div_lt_iff_lt_mul hpos).2 hj
    have := Enc.flat_at (enc := enc) (List.replicate n z0) (j / m) (by simpa using hd) (j % m) hjm
    rw [Nat.mul_comm, Nat.div_add_mod] at this
    rw [this, List.getElem_replicate, ← hz]
    have e1 : z[j % m]! = z[j % m]'(by omega) := getElem!_pos z (j % m) (by omega)
    simp [hs, hj, e1, hjm]
  · have e1 : ((Array.range (n * z.size)).map fun i => z[i % z.size]!).toList.length = n * m := by simp [hs]
    rw [List.getElem?_eq_none (by omega), List.getElem?_eq_none (by omega)]
section
variable {P : Program} {n : Nat} {Q : Exit → Act → World → Prop} {env : Env} {ops : Array Oper} {rest : List Oper} {ty : TypeId} {pos : String} {aft : Array Edge}
/-- clear of the end of an owned row. -/
theorem GL.clearEnd {t e : TypeId} {x : Operand} {v z : Value} {size bytes lo : Nat} {l : List α} {F' : List HProp} (z0 : α) {hc : (lo ≤ l.length ∧ l.length ≤ l.length) ∧ ((none : Option Nat) = none ∨ (none : Option Nat) = some l.length)} [ht : SliceT P t e size] [hz : ZeroT P e z size bytes] [he : Enc enc m] (hm : m = size) (hz0 : z.cells.toList = enc z0)
    (hx : opnd env x = some (secV v lo l.length none l.length m hc)) [hr : HasOwn F v T enc m l F']
    (h : GL P n ops Q rest env (owns T enc m v (l.take lo ++ List.replicate (l.length - lo) z0) :: F')) : GL P n ops Q (⟨none, .call { callee := .builtin .clear, args := #[x], argTypes := #[t] }, ty, pos, aft, none⟩ :: rest) env F := .mk fun a w hf hw => by
  refine wpList_plain rfl fun K hK => ?_
  have hw1 := hw.perm hr.perm
  obtain ⟨it, g1, g2, g3⟩ := ht.ok
  obtain ⟨iz, k1, k2, k3, k4, k5⟩ := hz.ok
  obtain ⟨hxs, hop⟩ := holds.open_own hw1
  have hlen : (l.take lo ++ List.replicate (l.length - lo) z0).length = l.length := by simp; omega
  have hzr : ∀ w, (zeroValue e).run P w = .ok z w := fun w => by simp [zeroValue, typeInfo, k1, k2, Result.andThen]
  have hnone : ∀ (ad : Option Addr) (cp : Nat), opnd env x = some (.slice ad 0 cp) → holds w (owns T enc m v (l.take lo ++ List.replicate (l.length - lo) z0) :: F') → Oper.wp P ⟨none, .call { callee := .builtin .clear, args := #[x], argTypes := #[t] }, ty, pos, aft, none⟩ a w K Q := by
    intro ad cp hx0 hh
    unfold Oper.wp
    have hr : (execOp a.eval ⟨none, .call { callee := .builtin .clear, args := #[x], argTypes := #[t] }, ty, pos, aft, none⟩).run P w = .ok (.value (.tuple #[])) w := by
      cases ad <;> simp [execOp, resolve, invoke, builtin, Builtin.clear_, hf.eval hx0, run_underlying g1, Result.andThen]
    rw [hr]
    exact hK _ _ (h _ _ (hf.put0 _) hh)
  by_cases h0 : lo = l.length
  · subst h0
    have hsame : l.take l.length ++ List.replicate (l.length - l.length) z0 = l := by simp
    rw [hsame] at hnone
    have hshape : ∃ ad cp, secV v l.length l.length none l.length m hc = .slice ad 0 cp := by
      rcases hop with ⟨rfl, _⟩ | ⟨g, cap, cur, rfl, _⟩
      · exact ⟨_, _, by simp only [secV, subV, Nat.sub_self]; rfl⟩
      · exact ⟨_, _, by simp only [secV, subV, Nat.sub_self]; rfl⟩
    obtain ⟨ad, cp, e0⟩ := hshape
    rw [e0] at hx
    exact hnone ad cp hx hw1
  · have hlt : lo < l.length := by omega
    rcases hop with ⟨_, hl0, _⟩ | ⟨g, cap, cur, rfl, h4, h5, h6, h7, h8⟩
    · omega
    · have hcap : lo ≠ cap := by omega
      have hsec : secV (.slice (some ⟨g, 0, none⟩) l.length cap) lo l.length none l.length m hc = .slice (some ⟨g, lo * m, none⟩) (l.length - lo) (cap - lo) := by
        simp only [secV, subV, Option.getD_none, if_neg (Ne.symm hcap), Option.map_some, addr_add, Nat.zero_add]
      rw [hsec] at hx
      have hzc := zeroCells_flat (m := m) hz0 (l.length - lo)
      have hrl : ((List.replicate (l.length - lo) z0).flatMap enc).length = (l.length - lo) * m := by rw [Enc.flat_len, List.length_replicate]
      have hle2 : l.length * m ≤ cap * m := Nat.mul_le_mul_right _ h4
      have hmul : (l.length - lo) * m = l.length * m - lo * m := Nat.sub_mul ..
      have hle3 : lo * m ≤ l.length * m := Nat.mul_le_mul_right _ (by omega)
      have hst := run_storeCells_at (P := P) g (lo * m) T ((List.replicate (l.length - lo) z0).flatMap enc) 0 cur w h8.get_blk (by rw [hrl]; omega) (fun u hu => by
        obtain ⟨y, hy, hu⟩ := List.mem_flatMap.1 hu
        exact he.one y u hu)
      unfold Oper.wp
      have hrun : (execOp a.eval ⟨none, .call { callee := .builtin .clear, args := #[x], argTypes := #[t] }, ty, pos, aft, none⟩).run P w = .ok (.value (.tuple #[])) (w.setRow g (cur.toList.take (lo * m) ++ (List.replicate (l.length - lo) z0).flatMap enc ++ cur.toList.drop (lo * m + (l.length - lo) * m)).toArray) := by
        have hn0 : l.length - lo ≠ 0 := by omega
        have hst' := hst
        simp only [Nat.add_zero, hrl] at hst'
        obtain ⟨q, hq⟩ : ∃ q, l.length - lo = q + 1 := ⟨l.length - lo - 1, by omega⟩
        rw [hq] at hx
        have hzc' := hzc
        rw [hq] at hzc' hst'
        have hev := hf.eval hx
        simp [execOp, resolve, invoke, builtin, Builtin.clear_, hev, run_underlying g1, hzr, hzc', Result.andThen, hq]
        rw [hst']
        simp
      rw [hrun]
      have h2 := h8.turn (w' := w.setRow g (cur.toList.take (lo * m) ++ (List.replicate (l.length - lo) z0).flatMap enc ++ cur.toList.drop (lo * m + (l.length - lo) * m)).toArray) ⟨rfl, rfl, rfl, by simp, fun k _ hk => setRow_other w g k _ (fun e => hk (by simp [e]))⟩ (setRow_heap w g cur _ T _ h8.get_blk)
      refine hK _ _ (h _ _ (hf.put0 _) ?_)
      have h9 := h2.mkRow (size := m) (n := l.length) h4 h5 (by simp only [List.size_toArray, List.length_append, List.length_take, List.length_drop, Array.length_toList, hrl, h6]; omega)
      have h10 : (cur.toList.take (lo * m) ++ (List.replicate (l.length - lo) z0).flatMap enc ++ cur.toList.drop (lo * m + (l.length - lo) * m)).toArray.toList.take (l.length * m) = (l.take lo ++ List.replicate (l.length - lo) z0).flatMap enc := by
        rw [List.flatMap_append, Enc.flat_take, ← h7]
        have e1 : (cur.toList.take (lo * m) ++ (List.replicate (l.length - lo) z0).flatMap enc).length = l.length * m := by
          simp only [List.length_append, List.length_take, Array.length_toList, h6, hrl]; omega
        rw [show (cur.toList.take (lo * m) ++ (List.replicate (l.length - lo) z0).flatMap enc ++ cur.toList.drop (lo * m + (l.length - lo) * m)).toArray.toList = (cur.toList.take (lo * m) ++ (List.replicate (l.length - lo) z0).flatMap enc) ++ cur.toList.drop (lo * m + (l.length - lo) * m) from rfl, List.take_append_of_le_length (by omega), List.take_of_length_le (by omega), List.take_take, Nat.min_eq_left hle3]
      rw [h10] at h9
      unfold owns
      rw [hlen]
      exact h9
theorem GL.box1 {e : TypeId} {x : Operand} {v : Value} {d : Tmp} (hx : opnd env x = some v) (hd : Nat.blt d n = true) (hc : v.cells = #[v]) (h : ∀ b, GL P n ops Q rest ((d, .pointer (some ⟨b, 0, none⟩)) :: env) (blk b (.cells #[v] e (0, 0)) :: F)) :
    GL P n ops Q (⟨some d, .box e x, ty, pos, aft, none⟩ :: rest) env F := GL.box hx hd (by rw [hc]; exact h)
end
end
instance (priority := 300) SeesBlk.appendR {F F2 : List HProp} {b : Nat} {c : Array Value} [h : SeesBlk F b c] : SeesBlk (F2 ++ F) b c := ⟨fun w hw => h.at_ w (holds_drop hw)⟩
instance (priority := 300) Reads.appendR {α : Type} {F F2 : List HProp} {v : Value} {enc : α → List Value} {n : Nat} {l : List α} [h : Reads F v enc n l] : Reads (F2 ++ F) v enc n l := ⟨fun w hw => h.at_ w (holds_drop hw)⟩
/-- The first place. -/
def IsIdx {α : Type} (p : α → Bool) (l : List α) (r : Int) : Prop := (r = -1 ∧ ∀ x ∈ l, p x = false) ∨ ∃ (i : Nat) (h : i < l.length), r = i ∧ p l[i] = true ∧ ∀ (j : Nat) (h : j < l.length), j < i → p l[j] = false
theorem IsIdx.any {α : Type} {p : α → Bool} {l : List α} {r : Int} (h : IsIdx p l r) : l.any p = decide (0 ≤ r) := by
  rcases h with ⟨rfl, hn⟩ | ⟨i, hi, rfl, hp, _⟩
  · rw [List.any_eq_false.2 (fun x hx => by simp [hn x hx])]; rfl
  · rw [List.any_eq_true.2 ⟨l[i], List.getElem_mem hi, hp⟩]; simp
/-- Two lists are alike, place by place. -/
def eqBy {α : Type} (p : α → α → Bool) : List α → List α → Bool
  | [], [] => true
  | x :: l, y :: m => p x y && eqBy p l m
  | _, _ => false
end Go.Proofs.YtipkgamiejenaaaGreat
end
section
namespace Go.Proofs.YtipkgamiejenaaaGreat
open Go Go.RowKit Go.MapKept
set_option linter.unusedVariables false
set_option linter.unusedSectionVars false

section
variable {P : Program} {n : Nat} {ops : Array Oper} {Q : Exit → Act → World → Prop} {env : Env} {F : List HProp} {Z : Act → Prop} {k : Nat} {rest : List Oper} {d : Tmp} {ty : TypeId} {pos : String} {aft : Array Edge}
theorem GL.runA {op : Op} {v : Value} (hd : Nat.blt d n = true) (h : GL P n ops Q rest ((d, v) :: env) F) (hr : Runs P n env F op v := by first | (apply Runs.isMove; exact Runs.move rfl) | (apply Runs.isLoad; first | exact Runs.loadBlk rfl rfl | exact Runs.loadRow rfl (by first | omega | decide) rfl | exact Runs.loadRow0 rfl (by first | omega | decide) rfl | exact Runs.loadElem rfl (by first | omega | decide) | exact Runs.loadWhole rfl rfl | exact Runs.loadBlkA rfl rfl rfl) | (apply Runs.isFieldA; exact Runs.fieldAddr rfl) | (apply Runs.isBin; first | (apply Runs.eql <;> rfl) | (apply Runs.lss <;> rfl) | (apply Runs.neq <;> rfl) | (apply Runs.leq <;> rfl) | (apply Runs.gtr <;> rfl) | (apply Runs.geq <;> rfl) | exact Runs.add rfl rfl (by omega) | exact Runs.sub rfl rfl (by omega) | exact Runs.mul rfl rfl (by omega) | exact Runs.quo rfl rfl (by omega) | exact Runs.rem rfl rfl (by omega) | exact Runs.shr rfl rfl | exact Runs.shl rfl rfl (by omega) | exact Runs.and20 rfl rfl | exact Runs.shrU rfl rfl | exact Runs.eqlPtrNil rfl | exact Runs.neqPtrNil rfl | exact Runs.eqlMapNil rfl | exact Runs.neqMapNil rfl | exact Runs.eqlSlNil rfl | exact Runs.eqlInts rfl rfl rfl rfl | exact Runs.neqInts rfl rfl rfl rfl) | (apply Runs.isAssign; exact Runs.assign rfl) | (apply Runs.isIndexA; first | exact Runs.indexAddr rfl rfl rfl rfl (by first | omega | decide) | exact Runs.indexAddrI rfl rfl rfl (by first | omega | decide) (by first | omega | decide) | exact Runs.indexArr rfl rfl rfl (by first | omega | decide)) | (apply Runs.isPick; first | exact Runs.pickT rfl rfl | exact Runs.pickF rfl rfl) | (apply Runs.isExtract; exact Runs.extract rfl rfl) | (apply Runs.isBuiltin; first | exact Runs.lenRow rfl | exact Runs.min2 rfl rfl | exact Runs.max2 rfl rfl | exact Runs.lenMap rfl | exact Runs.lenArr rfl) | (apply Runs.isLookup; first | exact Runs.lookupI rfl rfl | exact Runs.lookupS rfl rfl (by assumption) | exact Runs.lookupN rfl rfl (by assumption) | exact Runs.lookup rfl rfl | exact Runs.lookupOk rfl rfl) | (apply Runs.isSlice; first | exact Runs.slice _ _ rfl rfl rfl rfl rfl rfl ⟨⟨(by first | omega | decide), (by first | omega | decide)⟩, .inl rfl⟩ | exact Runs.slice3 _ _ rfl rfl rfl rfl rfl rfl rfl ⟨⟨(by first | omega | decide), (by first | omega | decide)⟩, .inr rfl⟩) | (apply Runs.isConvert; exact Runs.convII rfl (by omega)) | (apply Runs.isField; first | exact Runs.fieldVal rfl rfl | exact Runs.fieldAgg rfl) | (apply Runs.isBuild; exact Runs.build rfl rfl) | (apply Runs.isIndex; first | exact Runs.indexVal rfl rfl rfl (by first | omega | decide) rfl | exact Runs.indexAgg rfl rfl rfl rfl rfl) | (apply Runs.isUn; first | exact Runs.not rfl | exact Runs.neg rfl (by omega)) | (apply Runs.isMakeFunc; exact Runs.makeFunc rfl rfl) | (apply Runs.isNilCheck; exact Runs.nilCheck rfl)) : GL P n ops Q (⟨some d, op, ty, pos, aft, none⟩ :: rest) env F := GL.run hr hd h
theorem GD.runA {op : Op} {v : Value} (hd : Nat.blt d n = true) (h : GD P n ops F Z (k + 1) rest ((d, v) :: env)) (hr : Runs P n env F op v := by first | (apply Runs.isMove; exact Runs.move rfl) | (apply Runs.isLoad; first | exact Runs.loadBlk rfl rfl | exact Runs.loadRow rfl (by first | omega | decide) rfl | exact Runs.loadRow0 rfl (by first | omega | decide) rfl | exact Runs.loadElem rfl (by first | omega | decide) | exact Runs.loadWhole rfl rfl | exact Runs.loadBlkA rfl rfl rfl) | (apply Runs.isFieldA; exact Runs.fieldAddr rfl) | (apply Runs.isBin; first | (apply Runs.eql <;> rfl) | (apply Runs.lss <;> rfl) | (apply Runs.neq <;> rfl) | (apply Runs.leq <;> rfl) | (apply Runs.gtr <;> rfl) | (apply Runs.geq <;> rfl) | exact Runs.add rfl rfl (by omega) | exact Runs.sub rfl rfl (by omega) | exact Runs.mul rfl rfl (by omega) | exact Runs.quo rfl rfl (by omega) | exact Runs.rem rfl rfl (by omega) | exact Runs.shr rfl rfl | exact Runs.shl rfl rfl (by omega) | exact Runs.and20 rfl rfl | exact Runs.shrU rfl rfl | exact Runs.eqlPtrNil rfl | exact Runs.neqPtrNil rfl | exact Runs.eqlMapNil rfl | exact Runs.neqMapNil rfl | exact Runs.eqlSlNil rfl | exact Runs.eqlInts rfl rfl rfl rfl | exact Runs.neqInts rfl rfl rfl rfl) | (apply Runs.isAssign; exact Runs.assign rfl) | (apply Runs.isIndexA; first | exact Runs.indexAddr rfl rfl rfl rfl (by first | omega | decide) | exact Runs.indexAddrI rfl rfl rfl (by first | omega | decide) (by first | omega | decide) | exact Runs.indexArr rfl rfl rfl (by first | omega | decide)) | (apply Runs.isPick; first | exact Runs.pickT rfl rfl | exact Runs.pickF rfl rfl) | (apply Runs.isExtract; exact Runs.extract rfl rfl) | (apply Runs.isBuiltin; first | exact Runs.lenRow rfl | exact Runs.min2 rfl rfl | exact Runs.max2 rfl rfl | exact Runs.lenMap rfl | exact Runs.lenArr rfl) | (apply Runs.isLookup; first | exact Runs.lookupI rfl rfl | exact Runs.lookupS rfl rfl (by assumption) | exact Runs.lookupN rfl rfl (by assumption) | exact Runs.lookup rfl rfl | exact Runs.lookupOk rfl rfl) | (apply Runs.isSlice; first | exact Runs.slice _ _ rfl rfl rfl rfl rfl rfl ⟨⟨(by first | omega | decide), (by first | omega | decide)⟩, .inl rfl⟩ | exact Runs.slice3 _ _ rfl rfl rfl rfl rfl rfl rfl ⟨⟨(by first | omega | decide), (by first | omega | decide)⟩, .inr rfl⟩) | (apply Runs.isConvert; exact Runs.convII rfl (by omega)) | (apply Runs.isField; first | exact Runs.fieldVal rfl rfl | exact Runs.fieldAgg rfl) | (apply Runs.isBuild; exact Runs.build rfl rfl) | (apply Runs.isIndex; first | exact Runs.indexVal rfl rfl rfl (by first | omega | decide) rfl | exact Runs.indexAgg rfl rfl rfl rfl rfl) | (apply Runs.isUn; first | exact Runs.not rfl | exact Runs.neg rfl (by omega)) | (apply Runs.isMakeFunc; exact Runs.makeFunc rfl rfl) | (apply Runs.isNilCheck; exact Runs.nilCheck rfl)) : GD P n ops F Z k (⟨some d, op, ty, pos, aft, none⟩ :: rest) env := GD.run hr hd h
theorem GT.runA {E : List Eff} {op : Op} {v : Value} (hi : effIdx E 0 k = none) (hd : Nat.blt d n = true) (h : GT P n ops E F Z (k + 1) rest ((d, v) :: env)) (hr : Runs P n env F op v := by first | (apply Runs.isMove; exact Runs.move rfl) | (apply Runs.isLoad; first | exact Runs.loadBlk rfl rfl | exact Runs.loadRow rfl (by first | omega | decide) rfl | exact Runs.loadRow0 rfl (by first | omega | decide) rfl | exact Runs.loadElem rfl (by first | omega | decide) | exact Runs.loadWhole rfl rfl | exact Runs.loadBlkA rfl rfl rfl) | (apply Runs.isFieldA; exact Runs.fieldAddr rfl) | (apply Runs.isBin; first | (apply Runs.eql <;> rfl) | (apply Runs.lss <;> rfl) | (apply Runs.neq <;> rfl) | (apply Runs.leq <;> rfl) | (apply Runs.gtr <;> rfl) | (apply Runs.geq <;> rfl) | exact Runs.add rfl rfl (by omega) | exact Runs.sub rfl rfl (by omega) | exact Runs.mul rfl rfl (by omega) | exact Runs.quo rfl rfl (by omega) | exact Runs.rem rfl rfl (by omega) | exact Runs.shr rfl rfl | exact Runs.shl rfl rfl (by omega) | exact Runs.and20 rfl rfl | exact Runs.shrU rfl rfl | exact Runs.eqlPtrNil rfl | exact Runs.neqPtrNil rfl | exact Runs.eqlMapNil rfl | exact Runs.neqMapNil rfl | exact Runs.eqlSlNil rfl | exact Runs.eqlInts rfl rfl rfl rfl | exact Runs.neqInts rfl rfl rfl rfl) | (apply Runs.isAssign; exact Runs.assign rfl) | (apply Runs.isIndexA; first | exact Runs.indexAddr rfl rfl rfl rfl (by first | omega | decide) | exact Runs.indexAddrI rfl rfl rfl (by first | omega | decide) (by first | omega | decide) | exact Runs.indexArr rfl rfl rfl (by first | omega | decide)) | (apply Runs.isPick; first | exact Runs.pickT rfl rfl | exact Runs.pickF rfl rfl) | (apply Runs.isExtract; exact Runs.extract rfl rfl) | (apply Runs.isBuiltin; first | exact Runs.lenRow rfl | exact Runs.min2 rfl rfl | exact Runs.max2 rfl rfl | exact Runs.lenMap rfl | exact Runs.lenArr rfl) | (apply Runs.isLookup; first | exact Runs.lookupI rfl rfl | exact Runs.lookupS rfl rfl (by assumption) | exact Runs.lookupN rfl rfl (by assumption) | exact Runs.lookup rfl rfl | exact Runs.lookupOk rfl rfl) | (apply Runs.isSlice; first | exact Runs.slice _ _ rfl rfl rfl rfl rfl rfl ⟨⟨(by first | omega | decide), (by first | omega | decide)⟩, .inl rfl⟩ | exact Runs.slice3 _ _ rfl rfl rfl rfl rfl rfl rfl ⟨⟨(by first | omega | decide), (by first | omega | decide)⟩, .inr rfl⟩) | (apply Runs.isConvert; exact Runs.convII rfl (by omega)) | (apply Runs.isField; first | exact Runs.fieldVal rfl rfl | exact Runs.fieldAgg rfl) | (apply Runs.isBuild; exact Runs.build rfl rfl) | (apply Runs.isIndex; first | exact Runs.indexVal rfl rfl rfl (by first | omega | decide) rfl | exact Runs.indexAgg rfl rfl rfl rfl rfl) | (apply Runs.isUn; first | exact Runs.not rfl | exact Runs.neg rfl (by omega)) | (apply Runs.isMakeFunc; exact Runs.makeFunc rfl rfl) | (apply Runs.isNilCheck; exact Runs.nilCheck rfl)) : GT P n ops E F Z k (⟨some d, op, ty, pos, aft, none⟩ :: rest) env := GT.run hi hr hd h
theorem GE.only (h : GE n .normal Q env F) : GE n .normal (onlyN Q) env F := .mk h.out
end
structure Nxt (q : Prop) : Prop where
  out : q
/-- One step of a walk that leaves one goal: the tactic that finds it stands here alone. -/
theorem stp {p q : Prop} (h : q) (t : Nxt q → p := by intro hq; (first | (apply GL.isAny; first | refine GL.runA rfl ?_ | (apply GL.isStore; first | refine GL.storeBlk rfl rfl rfl rfl rfl ?_ | refine GL.storeWhole rfl rfl rfl rfl rfl ?_ | refine GL.storeBlkA rfl rfl rfl rfl rfl ?_) | refine GL.guardY rfl rfl ?_ | refine GL.guardN rfl rfl rfl ?_ | refine GL.guardU rfl rfl rfl ?_) | apply GL.nil | first | apply G.seq | apply G.region | apply G.block | apply G.skip | apply G.exit | apply G.ret | (apply G.isCond; first | refine G.condT rfl ?_ | refine G.condF rfl ?_) | refine G.draw (by kernel_rfl) (by kernel_rfl) ?_ | (apply GE.isAny; first | apply GE.again | apply GE.thenG | apply GE.blockN | apply GE.blockE | apply GE.thenE | apply GE.thenR | apply GE.blockR | refine GE.blockO rfl ?_ | apply GE.only) | (apply GD.isAny; first | refine GD.runA rfl ?_ | refine GD.guardY rfl rfl ?_ | refine GD.guardN rfl rfl rfl ?_ | refine GD.guardU rfl rfl rfl ?_) | apply GD.nilE | apply GD.nilL | (apply GT.isAny; refine GT.runA rfl rfl ?_)); exact hq.out) : p := t ⟨h⟩
/-- .. that makes a block or a row. -/
theorem stpB {p q : Prop} (h : q) (t : Nxt q → p := by intro hq; (apply GL.isAny; first | (apply GL.isBox; first | refine GL.boxA rfl rfl ?_ | refine GL.box1 rfl rfl rfl ?_ | refine GL.box rfl rfl ?_) | (apply GL.isBuildS; first | refine GL.buildSlice1A rfl rfl rfl rfl rfl ?_ | refine GL.buildSlice1 rfl rfl rfl rfl rfl ?_) | (apply GL.isCall; refine GL.append1 _ rfl rfl rfl rfl (by rfl) (by omega) (by omega) rfl ?_) | (apply GL.isAlloc; refine GL.alloc rfl ?_)); exact hq.out) : p := t ⟨h⟩
/-- .. that splits. -/
theorem spl {p q r : Prop} (h1 : q) (h2 : r) (t : Nxt q → Nxt r → p := by intro hq hr; (first | (apply GL.isAny; refine GL.guard rfl rfl ?_ ?_) | (apply G.isCond; refine G.cond rfl ?_ ?_) | (apply GD.isAny; refine GD.guard rfl rfl ?_ ?_)); exact hq.out; exact hr.out) : p := t ⟨h1⟩ ⟨h2⟩
end Go.Proofs.YtipkgamiejenaaaGreat
end
section
namespace Go.Proofs.YtipkgamiejenaaaGreat
open Go Go.RowKit Go.MapKept
set_option linter.unusedVariables false
set_option linter.unusedSectionVars false
set_option linter.unusedSimpArgs false

section
variable {P : Program} {n : Nat} {Q : Exit → Act → World → Prop} {env : Env} {F : List HProp} {ops : Array Oper} {rest : List Oper} {d : Tmp} {ty : TypeId} {pos : String} {aft : Array Edge}
/-- A call that takes the piece X, wherever it stands. -/
theorem GL.callH {f : FuncId} {xs : List Operand} {ts : Array TypeId} {vs : List Value} {α : Sort _} {v : α → Value} {F0 : List HProp} {F' : α → List HProp} (X : HProp) [hX : Has F X F0] [ho : Own P f] (hx : opnds env xs = some vs) (hd : Nat.blt d n = true)
    (hc : ∀ w, holds w (X :: F0) → Ct P f vs.toArray w fun e w' => ∃ x, e = .returned (v x) ∧ holds w' (F' x)) (h : ∀ x, GL P n ops Q rest ((d, v x) :: env) (F' x)) :
    GL P n ops Q (⟨some d, .call { callee := .value (.func f), args := xs.toArray, argTypes := ts }, ty, pos, aft, none⟩ :: rest) env F :=
  GL.call hx hd (fun w hw => hc w (hw.perm hX.perm)) h
theorem GL.callH1 {f : FuncId} {xs : List Operand} {ts : Array TypeId} {vs : List Value} {v : Value} {F0 F' : List HProp} (X : HProp) [hX : Has F X F0] [ho : Own P f] (hx : opnds env xs = some vs) (hd : Nat.blt d n = true)
    (hc : ∀ w, holds w (X :: F0) → Ct P f vs.toArray w fun e w' => e = .returned v ∧ holds w' F') (h : GL P n ops Q rest ((d, v) :: env) F') :
    GL P n ops Q (⟨some d, .call { callee := .value (.func f), args := xs.toArray, argTypes := ts }, ty, pos, aft, none⟩ :: rest) env F :=
  GL.call1 hx hd (fun w hw => hc w (hw.perm hX.perm)) h
end
end Go.Proofs.YtipkgamiejenaaaGreat
end
section
namespace Go.Proofs.YtipkgamiejenaaaGreat
open Go Go.RowKit Go.MapKept
set_option linter.unusedVariables false
set_option linter.unusedSectionVars false
set_option linter.unusedSimpArgs false

/-- Search alone: what a slot holds. -/
class LookE (env : Env) (k : Nat) (v : outParam Value) : Prop where
  ok : True
instance (priority := 1000) LookE.here {k : Nat} {v : Value} {e : Env} : LookE ((k, v) :: e) k v := ⟨trivial⟩
instance (priority := 500) LookE.there {k j : Nat} {u v : Value} {e : Env} [LookE e k v] : LookE ((j, u) :: e) k v := ⟨trivial⟩
instance (priority := 1000) LookE.env0h {k : Nat} {v : Value} {l : List Value} : LookE (env0 k (v :: l)) k v := ⟨trivial⟩
instance (priority := 500) LookE.env0t {k j : Nat} {u v : Value} {l : List Value} [LookE (env0 (k + 1) l) j u] : LookE (env0 k (v :: l)) j u := ⟨trivial⟩
instance (priority := 400) LookE.appC {k : Nat} {v : Value} {x : Nat × Value} {l e : Env} [LookE (x :: (l ++ e)) k v] : LookE ((x :: l) ++ e) k v := ⟨trivial⟩
instance (priority := 400) LookE.appN {k : Nat} {v : Value} {e : Env} [LookE e k v] : LookE ([] ++ e) k v := ⟨trivial⟩
class PickE (l : List Nat) (env : Env) (K : outParam Env) : Prop where
  ok : True
instance PickE.nil {env : Env} : PickE [] env [] := ⟨trivial⟩
instance PickE.cons {env K : Env} {k : Nat} {l : List Nat} {v : Value} [LookE env k v] [PickE l env K] : PickE (k :: l) env ((k, v) :: K) := ⟨trivial⟩
section
variable {P : Program} {n : Nat} {Q : Exit → Act → World → Prop} {env : Env} {F : List HProp}
theorem G.loopK {c : Code} (l : List Nat) {K : Env} [PickE l env K] (α : Type) (U : α → Env) (Kp : α → List HProp) (I : α → Prop) (μ : α → Nat) (x0 : α) (hI : I x0) (hE : Sub (U x0 ++ K) env) (hK : ∀ w, holds w F → holds w (Kp x0))
    (round : ∀ x, I x → G P n c (Exit.then (fun a w => ∃ y, I y ∧ Fits n a (U y ++ K) ∧ holds w (Kp y) ∧ μ y < μ x) Q) (U x ++ K) (Kp x)) : G P n (.loop c) Q env F :=
  G.loop (fun x => U x ++ K) Kp I μ x0 hI hE hK round
end
end Go.Proofs.YtipkgamiejenaaaGreat
end
section
namespace Go.Proofs.YtipkgamiejenaaaGreat
open Go Go.RowKit Go.MapKept
set_option linter.unusedVariables false
set_option linter.unusedSectionVars false
set_option linter.unusedSimpArgs false

theorem made_flat {α : Type} {enc : α → List Value} {m : Nat} [he : Enc enc m] (z0 : α) {z : Array Value} (hz : z.toList = enc z0) (a b : Nat) (hab : a ≤ b) :
    (madeCells z (b * m)).toList.take (a * m) = (List.replicate a z0).flatMap enc := by
  have hm := he.pos
  have hzs : z.size = m := by rw [← Array.length_toList, hz, he.len]
  have hle : a * m ≤ b * m := Nat.mul_le_mul_right _ hab
  have hfl : ((List.replicate a z0).flatMap enc).length = a * m := by rw [Enc.flat_len, List.length_replicate]
  apply List.ext_getElem?
  intro j
  by_cases hj : j < a * m
  · rw [List.getElem?_take, if_pos hj]
    have h1 : j / m < a := (Nat.div_lt_iff_lt_mul hm).2 hj
    have h2 : j % m < m := Nat.mod_lt _ hm
    have h3 := Enc.flat_at (enc := enc) (n := m) (List.replicate a z0) (j / m) (by simpa using h1) (j % m) h2
    have h4 : j / m * m + j % m = j := by rw [Nat.mul_comm]; exact Nat.div_add_mod j m
    rw [h4] at h3
    rw [h3, List.getElem_replicate, ← hz]
    unfold madeCells
    simp only [Array.toList_map, Array.toList_range, List.getElem?_map, List.getElem?_range (show j < b * m by omega), Option.map_some, hzs]
    rw [Array.getElem?_toList, Array.getElem?_eq_getElem (by rw [hzs]; exact h2)]
    congr 1
    exact getElem!_pos z (j % m) (by rw [hzs]; exact h2)
  · rw [List.getElem?_eq_none (by rw [List.length_take]; omega), List.getElem?_eq_none (by rw [hfl]; omega)]
section
variable {α : Type} {enc : α → List Value} {m : Nat} {F : List HProp} {P : Program} {n : Nat} {Q : Exit → Act → World → Prop} {env : Env} {ops : Array Oper} {rest : List Oper} {d : Tmp} {ty : TypeId} {pos : String} {aft : Array Edge}
/-- 'make([]T, a, b)'. -/
theorem GL.makeSl {t e : TypeId} {x y : Operand} {size bytes : Nat} {z : Value} {i c : Int} (enc : α → List Value) [he : Enc enc m] (z0 : α) (a b : Nat) [ht : SliceT P t e size] [hz : ZeroT P e z m bytes] (hz0 : z.cells.toList = enc z0) (hx : opnd env x = some (.int .i64 i)) (hy : opnd env y = some (.int .i64 c)) (hi : i = (a : Int)) (hc : c = (b : Int)) (hab : a ≤ b) (hb : bytes * b ≤ 281474976710656) (h63 : b ≤ maxLen) (hd : Nat.blt d n = true)
    (h : ∀ g, GL P n ops Q rest ((d, .slice (some ⟨g, 0, none⟩) a b) :: env) (owns e enc m (.slice (some ⟨g, 0, none⟩) a b) (List.replicate a z0) :: F)) : GL P n ops Q (⟨some d, .makeSlice t x y, ty, pos, aft, none⟩ :: rest) env F := .mk fun ac w hf hw => by
  subst hi hc
  obtain ⟨it, g1, g2, g3⟩ := ht.ok
  obtain ⟨iz, k1, k2, k3, k4, k5⟩ := hz.ok
  refine wpList_plain rfl fun K hK => ?_
  unfold Oper.wp
  have hb' : (iz.bytes : Int) * (b : Int) ≤ 281474976710656 := by
    rw [k4]
    have h1 : ((bytes * b : Nat) : Int) ≤ 281474976710656 := by omega
    rwa [Int.natCast_mul] at h1
  have h63' : (b : Int) ≤ 9223372036854775807 := by
    have h1 := h63
    simp [maxLen] at h1
    omega
  obtain ⟨hr, hh⟩ := run_make_sl (P := P) (t := t) (e := e) (size := m) g1 k1 k2 k3 hw .i64 .i64 (x := a) (c := b) (by omega) (by omega) hb' h63'
  simp only [Int.toNat_natCast] at hr hh
  have hr2 : (execOp ac.eval ⟨some d, .makeSlice t x y, ty, pos, aft, none⟩).run P w = .ok (.value (.slice (some ⟨w.heap.size, 0, none⟩) a b)) (w.alloc (.cells (madeCells z.cells (b * m)) e)) := by
    simp [execOp, hf.eval hx, hf.eval hy, hr, Result.andThen]
  rw [hr2]
  refine hK _ _ (h _ _ _ (hf.put hd _) ?_)
  rw [made_flat z0 hz0 a b hab] at hh
  have e1 : owns e enc m (.slice (some ⟨w.heap.size, 0, none⟩) a b) (List.replicate a z0) = ownRow e m (.slice (some ⟨w.heap.size, 0, none⟩) a b) a ((List.replicate a z0).flatMap enc) := by
    unfold owns; rw [List.length_replicate]
  rw [e1]; exact hh
/-- len of a slice that is told. -/
theorem Runs.lenLit {t e : TypeId} {x : Operand} {ad : Option Addr} {k c size : Nat} [ht : SliceT P t e size] (hx : opnd env x = some (.slice ad k c)) : Runs P n env F (.call { callee := .builtin .len, args := #[x], argTypes := #[t] }) (.int .i64 k) := .mk fun a w ty pos aft g d hf hw => by
  obtain ⟨i, h1, h2, h3⟩ := ht.ok
  simp [execOp, resolve, invoke, builtin, Builtin.len_, hf.eval hx, run_underlying h1, goInt, Result.andThen]
/-- s[i:j:len(s)]. -/
theorem Runs.slice3M {t e : TypeId} {x y z u : Operand} {v : Value} {size : Nat} {l : List α} {i j c : Int} (a b : Nat) [ht : SliceT P t e size] [he : Enc enc m] [hr : Reads F v enc m l] (hm : m = size) (hx : opnd env x = some v) (hlo : opnd env y = some (.int .i64 i)) (hhi : opnd env z = some (.int .i64 j)) (hmx : opnd env u = some (.int .i64 c)) (hi : i = (a : Int)) (hj : j = (b : Int)) (hc : c = (l.length : Int)) (hab : a ≤ b) (hbl : b ≤ l.length) :
    Runs P n env F (.slice t x (some y) (some z) (some u)) (subV v a b (some l.length) m) := .mk fun ac w ty pos aft g' d hf hw => by
  subst hm hi hj hc
  obtain ⟨it, g1, g2, g3⟩ := ht.ok
  obtain ⟨ad, cap, rfl, hcap⟩ := (hr.at_ w hw).form
  have h4 : a ≤ l.length := by omega
  have hsl : (Instr.sliceBounds true l.length cap (some (.int .i64 a)) (some (.int .i64 b)) (some (.int .i64 l.length))).run P w = .ok (a, b, l.length) w := by
    simp [Instr.sliceBounds, Instr.sliceBound, asIntOf, hab, hbl, hcap, h4, Result.andThen]
  simp [execOp, hf.eval hx, hf.eval hlo, hf.eval hhi, hf.eval hmx, Instr.sliceAt, run_underlying g1, Instr.slice, hsl, sizeOf, typeInfo, g2, g3, subV, Result.andThen]
/-- A slice that is owned goes into a variable. -/
theorem GL.storeOwn {t T T' : TypeId} {x y : Operand} {b o : Nat} {c : Array Value} {F' F2 : List HProp} {u : Value} {l : List α} (hx : opnd env x = some (.pointer (some ⟨b, o, none⟩))) (hy : opnd env y = some u) [ht : CellT P t] [hb : HasBlk F b c T F'] [ho : HasOwn F u T' enc m l F2] (hlt : Nat.blt o c.size = true)
    (h : GL P n ops Q rest env (blk b (.cells (c.toList.set o u).toArray T (0, 0)) :: F')) : GL P n ops Q (⟨none, .store t x y, ty, pos, aft, none⟩ :: rest) env F := .mk fun a w hf hw => by
  obtain ⟨_, hop⟩ := holds.open_own (hw.perm ho.perm)
  rcases hop with ⟨rfl, _⟩ | ⟨g, cap, cur, rfl, _⟩ <;> exact (GL.storeBlk hx hy rfl rfl hlt h).out a w hf hw
end
end Go.Proofs.YtipkgamiejenaaaGreat
end

/- A law's arguments of any make: structs of structs, slices inside of structs; read off the first world. -/
namespace Go.Proofs.YtipkgamiejenaaaGreat
open Go Go.RowKit Go.MapKept Go.ChangeShapes Go.WideShapes Go.Deep Go.Joins
set_option linter.unusedVariables false
set_option maxRecDepth 100000

/-- What a cell may be. -/
inductive CK where
  | int (k : IntKind)
  | bool
  | str
  | slice (t : TypeId)
section
variable {H : Type} (enc0 : TypeId × Value → H) (P : Program) (W : World) (sp : Nat → Bool) (held : Bool)
def okCell : CK → Value → Prop
  | .int k, v => ∃ a, v = .int k a ∧ (Lit.int k a).wf = true
  | .bool, v => ∃ b, v = .bool b
  | .str, v => ∃ s : ByteArray, v = .string s ∧ s.size ≤ maxLen
  | .slice t, v => ∃ n x, DataW.trod enc0 P W 0 sp held n t [v] = some x
def okCells : List CK → List Value → Prop
  | [], cs => cs = []
  | k :: ks, cs => ∃ v cs', cs = v :: cs' ∧ okCell enc0 P W sp held k v ∧ okCells ks cs'
end
def ckF (P : Program) (g : TypeId → Option (List CK)) : List Field → Nat → Option (List CK)
  | [], _ => some []
  | f :: fs, off => if f.offset = off then match g f.type with
    | none => none
    | some ks => if P.cellsOf f.type = ks.length then (ckF P g fs (off + ks.length)).map (ks ++ ·) else none
    else none
def ckind (P : Program) : Nat → TypeId → Option (List CK)
  | 0, _ => none
  | k + 1, t => match P.underlying t with
    | some (.int kk) => some [.int kk]
    | some .bool => some [.bool]
    | some .string => some [.str]
    | some (.slice _) => some [.slice t]
    | some (.struct fs) => match ckF P (ckind P k) fs.toList 0 with
      | none => none
      | some ks => if P.cellsOf t = ks.length then some ks else none
    | some (.array n e) => match ckind P k e with
      | none => none
      | some ks => if P.cellsOf e = ks.length ∧ P.cellsOf t = n * ks.length then some (List.replicate n ks).flatten else none
    | _ => none
section
variable {H : Type} {enc0 : TypeId × Value → H} {P : Program} {W : World} {sp : Nat → Bool} {held : Bool}
end

/-- All of the first world is there, for reading. -/
class SeesAll (W : World) (F : List HProp) : Prop where
  at_ : ∀ w, holds w F → holds w [allOf W]
instance {W : World} {F : List HProp} : SeesAll W (allOf W :: F) := ⟨fun w h => (show holds w ([allOf W] ++ F) from h).perm_drop (.refl _)⟩
instance (priority := 500) {W : World} {F : List HProp} {X : HProp} [h : SeesAll W F] : SeesAll W (X :: F) := ⟨fun w hw => h.at_ w hw.tail⟩
section
variable {H : Type} {enc0 : TypeId × Value → H} {P : Program} {W : World} {sp : Nat → Bool} {held : Bool}
end
end Go.Proofs.YtipkgamiejenaaaGreat

/- Bytes in rows: what is plain. -/
namespace Go.Proofs.YtipkgamiejenaaaGreat
open Go Go.RowKit Go.MapKept
set_option linter.unusedVariables false
set_option linter.unusedSimpArgs false
namespace By
def zrow : List UInt8 := List.replicate 64 0
def row (t : List UInt8) (k : Nat) : List UInt8 := (t.drop (64 * k)).take 64
def splice {α : Type} (l : List α) (p : Nat) (s : List α) : List α := l.take p ++ s ++ l.drop (p + s.length)
theorem splice_len {α : Type} (l : List α) (p : Nat) (s : List α) (h : p + s.length ≤ l.length) : (splice l p s).length = l.length := by
  simp only [splice, List.length_append, List.length_take, List.length_drop]; omega
theorem splice_at {α : Type} (l : List α) (p : Nat) (s : List α) (h : p + s.length ≤ l.length) (i : Nat) : (splice l p s)[i]? = if i < p then l[i]? else if i < p + s.length then s[i - p]? else l[i]? := by
  unfold splice
  by_cases h1 : i < p
  · rw [if_pos h1, List.append_assoc, List.getElem?_append_left (by rw [List.length_take]; omega), List.getElem?_take_of_lt h1]
  · rw [if_neg h1]
    by_cases h2 : i < p + s.length
    · rw [if_pos h2, List.append_assoc, List.getElem?_append_right (by rw [List.length_take]; omega), List.length_take, Nat.min_eq_left (by omega), List.getElem?_append_left (by omega)]
    · rw [if_neg h2, List.getElem?_append_right (by rw [List.length_append, List.length_take]; omega), List.getElem?_drop, List.length_append, List.length_take]
      congr 1; omega
theorem row_len (t : List UInt8) (k : Nat) (h : 64 * k + 64 ≤ t.length) : (row t k).length = 64 := by
  unfold row; rw [List.length_take, List.length_drop]; omega
theorem row_at (t : List UInt8) (k j : Nat) (hj : j < 64) : (row t k)[j]? = t[64 * k + j]? := by
  unfold row; rw [List.getElem?_take_of_lt hj, List.getElem?_drop]
theorem row_splice (t s : List UInt8) (a k : Nat) (h1 : k + s.length ≤ 64) (h2 : 64 * a + 64 ≤ t.length) : row (splice t (64 * a + k) s) a = splice (row t a) k s := by
  have hl := row_len t a h2
  have hs : (splice t (64 * a + k) s).length = t.length := splice_len _ _ _ (by omega)
  apply List.ext_getElem?
  intro j
  by_cases hj : j < 64
  · rw [row_at _ _ _ hj, splice_at _ _ _ (by omega), splice_at _ _ _ (by omega), row_at _ _ _ hj]
    by_cases c1 : j < k
    · rw [if_pos c1, if_pos (by omega)]
    · rw [if_neg c1, if_neg (by omega)]
      by_cases c2 : j < k + s.length
      · rw [if_pos c2, if_pos (by omega)]; congr 1; omega
      · rw [if_neg c2, if_neg (by omega)]
  · rw [List.getElem?_eq_none (by rw [row_len _ _ (by omega)]; omega), List.getElem?_eq_none (by rw [splice_len _ _ _ (by omega)]; omega)]
theorem row_other (t s : List UInt8) (a k b : Nat) (h1 : k + s.length ≤ 64) (h2 : 64 * a + 64 ≤ t.length) (hb : b ≠ a) : row (splice t (64 * a + k) s) b = row t b := by
  have hs : (splice t (64 * a + k) s).length = t.length := splice_len _ _ _ (by omega)
  apply List.ext_getElem?
  intro j
  by_cases hj : j < 64
  · rw [row_at _ _ _ hj, row_at _ _ _ hj, splice_at _ _ _ (by omega)]
    by_cases c1 : 64 * b + j < 64 * a + k
    · rw [if_pos c1]
    · rw [if_neg c1, if_neg (by omega)]
  · rw [List.getElem?_eq_none, List.getElem?_eq_none] <;> (unfold row; rw [List.length_take]; omega)
theorem splice_more {α : Type} (t d : List α) (at_ i m : Nat) (h : at_ + d.length ≤ t.length) (hi : i + m ≤ d.length) : splice (splice t at_ (d.take i)) (at_ + i) ((d.drop i).take m) = splice t at_ (d.take (i + m)) := by
  have l1 : (d.take i).length = i := by rw [List.length_take]; omega
  have l2 : ((d.drop i).take m).length = m := by rw [List.length_take, List.length_drop]; omega
  have l3 : (d.take (i + m)).length = i + m := by rw [List.length_take]; omega
  have l4 : (splice t at_ (d.take i)).length = t.length := splice_len _ _ _ (by omega)
  apply List.ext_getElem?
  intro j
  rw [splice_at _ _ _ (by omega), splice_at _ _ _ (by omega), splice_at _ _ _ (by omega), l1, l2, l3]
  by_cases c1 : j < at_
  · rw [if_pos (by omega), if_pos c1, if_pos c1]
  · by_cases c2 : j < at_ + i
    · rw [if_pos c2, if_neg c1, if_pos c2, if_neg c1, if_pos (by omega), List.getElem?_take_of_lt (by omega), List.getElem?_take_of_lt (by omega)]
    · rw [if_neg c2]
      by_cases c3 : j < at_ + i + m
      · rw [if_pos c3, if_neg c1, if_pos (by omega), List.getElem?_take_of_lt (by omega), List.getElem?_take_of_lt (by omega), List.getElem?_drop]
        congr 1; omega
      · rw [if_neg c3, if_neg c1, if_neg c2, if_neg c1, if_neg (by omega)]
theorem splice_nil {α : Type} (t : List α) (p : Nat) : splice t p [] = t := by simp [splice]
/-- The rows that are there, of a text. -/
structure Rows (am : List (Int × List UInt8)) (t : List UInt8) : Prop where
  nodup : (alKeys am).Nodup
  at_ : ∀ k : Nat, 64 * k < t.length → alGet am k = if row t k = zrow then none else some (row t k)
  out : ∀ x : Int, x < 0 ∨ (t.length : Int) ≤ 64 * x → alGet am x = none
theorem alKeys_nodup_set {β : Type} {m : List (Int × β)} (h : (alKeys m).Nodup) (k : Int) (v : β) : (alKeys (alSet m k v)).Nodup := by
  rw [alKeys_set]; split
  · exact h
  · rename_i hk
    rw [List.nodup_append]
    exact ⟨h, by simp, fun a ha b hb => by simp at hb; subst hb; exact fun e => hk (e ▸ ha)⟩
def putRow (am : List (Int × List UInt8)) (a : Int) (r : List UInt8) : List (Int × List UInt8) := if r = zrow then alDel am a else alSet am a r
theorem Rows.put {am : List (Int × List UInt8)} {t s : List UInt8} (h : Rows am t) (h64 : t.length % 64 = 0) (a k : Nat) (h1 : k + s.length ≤ 64) (h2 : 64 * a < t.length) : Rows (putRow am a (splice (row t a) k s)) (splice t (64 * a + k) s) := by
  have hl : (splice t (64 * a + k) s).length = t.length := splice_len _ _ _ (by omega)
  have hg : ∀ x : Int, alGet (putRow am a (splice (row t a) k s)) x = if x = a then (if splice (row t a) k s = zrow then none else some (splice (row t a) k s)) else alGet am x := by
    intro x
    unfold putRow
    split
    · rw [alGet_del _ _ _ h.nodup]
    · rw [alGet_set]
  refine ⟨?_, fun b hb => ?_, fun x hx => ?_⟩
  · unfold putRow; split
    · rw [alKeys_del]; exact h.nodup.erase _
    · exact alKeys_nodup_set h.nodup _ _
  · rw [hl] at hb
    rw [hg]
    by_cases e : b = a
    · subst e; rw [if_pos rfl, row_splice _ _ _ _ h1 (by omega)]
    · rw [if_neg (by omega), row_other _ _ _ _ _ h1 (by omega) e, h.at_ _ hb]
  · rw [hl] at hx
    rw [hg, if_neg (by omega), h.out _ hx]
theorem Rows.get {am : List (Int × List UInt8)} {t : List UInt8} (h : Rows am t) (k : Nat) (hk : 64 * k < t.length) : (alGet am k).getD zrow = row t k := by
  rw [h.at_ k hk]; split
  · rename_i e; rw [e]; rfl
  · rfl
theorem Rows.new (n : Nat) (h64 : n % 64 = 0) : Rows [] (List.replicate n 0) := by
  refine ⟨by simp [alKeys], fun k hk => ?_, fun x _ => rfl⟩
  rw [List.length_replicate] at hk
  rw [if_pos, alGet_nil]
  unfold row zrow
  rw [List.drop_replicate, List.take_replicate]
  congr 1; omega
theorem alGet_all {β : Type} : ∀ (m : List (Int × β)), (∀ x, alGet m x = none) → m = []
  | [], _ => rfl
  | (k, v) :: m, h => by have := h k; rw [alGet_cons, if_pos rfl] at this; cases this
theorem Rows.clean {am : List (Int × List UInt8)} {t : List UInt8} (h : Rows am t) (h64 : t.length % 64 = 0) : am = [] ↔ ∀ b ∈ t, b = 0 := by
  constructor
  · rintro rfl b hb
    obtain ⟨i, hi, rfl⟩ := List.getElem_of_mem hb
    have hk := h.at_ (i / 64) (by omega)
    rw [alGet_nil] at hk
    have hr : row t (i / 64) = zrow := by
      apply Classical.byContradiction; intro c; rw [if_neg c] at hk; cases hk
    have := row_at t (i / 64) (i % 64) (by omega)
    rw [hr, show 64 * (i / 64) + i % 64 = i by omega, List.getElem?_eq_getElem hi] at this
    unfold zrow at this
    rw [List.getElem?_replicate, if_pos (by omega)] at this
    exact (Option.some.inj this).symm
  · intro ha
    refine alGet_all _ fun x => ?_
    by_cases hx : x < 0 ∨ (t.length : Int) ≤ 64 * x
    · exact h.out x hx
    · obtain ⟨k, rfl⟩ : ∃ k : Nat, x = k := ⟨x.toNat, by omega⟩
      rw [h.at_ k (by omega), if_pos]
      apply List.ext_getElem
      · rw [row_len _ _ (by omega)]; simp [zrow]
      · intro i h1 h2
        have h3 : (row t k)[i] ∈ t := List.mem_of_mem_drop (List.mem_of_mem_take (List.getElem_mem h1))
        rw [ha _ h3]; simp only [zrow, List.getElem_replicate]
end By
end Go.Proofs.YtipkgamiejenaaaGreat

/- Chapter 20 in plain terms: when chunks are sound, two ways of saying it. -/
namespace Go.Proofs.YtipkgamiejenaaaGreat

structure ChunkM where
  phase : Int
  owner : Int
  gen : Int

namespace Audit
def is (p : Int) : Bool := decide (0 ≤ p) && decide (p ≤ 3)
def right (c : ChunkM) : Bool := is c.phase && decide (0 ≤ c.owner) && (decide (0 < c.owner) == (c.phase == 1)) && decide (0 ≤ c.gen) && decide (c.gen ≤ 1048575)
def many (l : List ChunkM) (p : Int) : Nat := (l.filter fun c => c.phase == p).length
def deferredAt (l : List ChunkM) (i : Int) : Bool := decide (0 ≤ i) && decide (i < l.length) && (match l[i.toNat]? with | some c => c.phase == 2 | none => false)
def sound (l : List ChunkM) (w : List Int) : Bool := l.all right && (w.length == many l 2) && w.all (deferredAt l) && decide w.Nodup

def one (c : ChunkM) : Bool :=
  if c.phase = 1 then decide (0 < c.owner) && decide (0 ≤ c.gen) && decide (c.gen < 1048576)
  else (c.phase == 0 || c.phase == 2 || c.phase == 3) && (c.owner == 0) && decide (0 ≤ c.gen) && decide (c.gen < 1048576)
def refAt (w : List Int) (i : Nat) (c : ChunkM) : Bool := one c && !(c.phase == 2 && w.count (i : Int) != 1) && !(c.phase != 2 && w.count (i : Int) != 0)
def refRow (l : List ChunkM) (w : List Int) (i : Nat) : Bool := match l[i]? with | some c => refAt w i c | none => true
def refSound (l : List ChunkM) (w : List Int) : Bool := (List.range l.length).all (refRow l w) && w.all fun x => decide (0 ≤ x) && decide (x < l.length)

/-- The places that are deferred. -/
def places : List ChunkM → Nat → List Int
  | [], _ => []
  | c :: l, k => if c.phase = 2 then (k : Int) :: places l (k + 1) else places l (k + 1)

end Audit
end Go.Proofs.YtipkgamiejenaaaGreat
