/- Blocks of bytes: arrays and slices of bytes as lists; slices of them, copy, clear, comparing, the text of them. -/
import Derived.Test.YtoafajooffhimaaDoorByPl
import Derived.Test.YtoafajooffhimaaDoorGoEq
import Derived.Laws.IdiomStrings
namespace Go.Proofs.YtoafajooffhimaaDoor
open Go Go.RowKit Go.MapKept
set_option linter.unusedVariables false
set_option linter.unusedSimpArgs false
set_option maxRecDepth 100000
/-- A whole block of n bytes. -/
def byB (T : TypeId) (g n : Nat) (l : List UInt8) : HProp := fun f => l.length = n ∧ blk g (.cells (l.map u8v).toArray T (0, 0)) f
theorem byB.open {w : World} {T : TypeId} {g n : Nat} {l : List UInt8} {F : List HProp} (h : holds w (byB T g n l :: F)) : l.length = n ∧ holds w (blk g (.cells (l.map u8v).toArray T (0, 0)) :: F) := holds.open_pure h
theorem byB.shut {w : World} {T : TypeId} {g n : Nat} {l : List UInt8} {F : List HProp} (e : l.length = n) (h : holds w (blk g (.cells (l.map u8v).toArray T (0, 0)) :: F)) : holds w (byB T g n l :: F) := h.mono fun f hf => ⟨e, hf⟩
class SeesBy (F : List HProp) (g : Nat) (n : outParam Nat) (l : outParam (List UInt8)) : Prop where
  at_ : ∀ w, holds w F → l.length = n ∧ ∃ T, w.heap[g]? = some (.cells (l.map u8v).toArray T (0, 0))
instance SeesBy.here {T : TypeId} {g n : Nat} {l : List UInt8} {F : List HProp} : SeesBy (byB T g n l :: F) g n l := ⟨fun w h => ⟨(byB.open h).1, T, (byB.open h).2.get_blk⟩⟩
instance (priority := 500) SeesBy.there {g n : Nat} {l : List UInt8} {F : List HProp} {X : HProp} [h : SeesBy F g n l] : SeesBy (X :: F) g n l := ⟨fun w hw => h.at_ w hw.tail⟩
class HasBy (F : List HProp) (g : Nat) (T : outParam TypeId) (n : outParam Nat) (l : outParam (List UInt8)) (F' : outParam (List HProp)) : Prop where
  perm : F.Perm (byB T g n l :: F')
instance HasBy.here {T : TypeId} {g n : Nat} {l : List UInt8} {F : List HProp} : HasBy (byB T g n l :: F) g T n l F := ⟨.refl _⟩
instance (priority := 500) HasBy.there {T : TypeId} {g n : Nat} {l : List UInt8} {F F' : List HProp} {X : HProp} [h : HasBy F g T n l F'] : HasBy (X :: F) g T n l (X :: F') := ⟨(h.perm.cons X).trans (.swap _ _ _)⟩
theorem u8v_one (c : UInt8) : (u8v c).oneCell' = true := rfl
theorem by_cell {w : World} {g : Nat} {T : TypeId} {l : List UInt8} (h : w.heap[g]? = some (.cells (l.map u8v).toArray T (0, 0))) (j : Nat) : w.cell? ⟨g, j, none⟩ = (l[j]?).map u8v := by
  rw [cell_of_row w g j _ T (0, 0) h]; simp
section
variable {P : Program} {n d : Nat} {Q : Exit → Act → World → Prop} {env : Env} {F F' : List HProp} {ops : Array Oper} {rest : List Oper} {ty : TypeId} {pos : String} {aft : Array Edge}
theorem GL.storeBy {t T : TypeId} {x y : Operand} {b m : Nat} {c : Array Value} {l : List UInt8} (hx : opnd env x = some (.pointer (some ⟨b, 0, none⟩))) (hy : opnd env y = some (.agg (l.map u8v).toArray)) [ht : AggT P t m] [hb : HasBlk F b c T F'] (hl : l.length = m) (ho : Nat.beq c.size m = true)
    (h : GL P n ops Q rest env (byB T b m l :: F')) : GL P n ops Q (⟨none, .store t x y, ty, pos, aft, none⟩ :: rest) env F := .mk fun a w hf hw => by
  have ho := Nat.eq_of_beq_eq_true ho
  refine wpList_store_sl rfl rfl t x y rfl (off := 0) (.agg (l.map u8v).toArray) (hf.eval hx) (hf.eval hy) ?_ ?_ (hw.perm hb.perm) ?_ fun w' hw' => h a w' hf (byB.shut hl ?_)
  · obtain ⟨i, ds, g1, g2, g3, g4⟩ := ht.ok
    simp [g1, g2, Value.cells, hl]
  · intro u hu
    simp only [Value.cells, List.mem_map] at hu
    obtain ⟨c, _, rfl⟩ := hu
    rfl
  · simp [Value.cells, hl, ho]
  · have e : c.toList.take 0 ++ (Value.agg (l.map u8v).toArray).cells.toList ++ c.toList.drop (0 + (Value.agg (l.map u8v).toArray).cells.size) = l.map u8v := by
      simp [Value.cells, hl, ho]
    rw [e] at hw'; exact hw'
theorem Runs.loadBy {t : TypeId} {x : Operand} {b m : Nat} {l : List UInt8} [ht : AggT P t m] (hx : opnd env x = some (.pointer (some ⟨b, 0, none⟩))) [hb : SeesBy F b m l] : Runs P n env F (.load t x) (.agg (l.map u8v).toArray) := .mk fun a w ty pos aft g d hf hw => by
  obtain ⟨hl, T, h⟩ := hb.at_ w hw
  have := run_loadAgg (P := P) (t := t) (b := b) (off := 0) (w := w) (vs := l.map u8v) (by simpa using hl) (fun j hj => by rw [Nat.zero_add, by_cell h]; simp)
  simp [execOp, hf.eval hx, Instr.loadAt, Instr.sureAddr, this, Result.andThen]
theorem Runs.sliceArr {t e : TypeId} {x : Operand} {lo up : Option Operand} {b m : Nat} {i j : Int} (k q : Nat) [ht : ArrT P t m e 1] (hx : opnd env x = some (.pointer (some ⟨b, 0, none⟩))) (hlo : bnd env lo 0 = some i) (hhi : bnd env up m = some j) (hi : i = (k : Nat)) (hj : j = (q : Nat)) (hkq : k ≤ q) (hqm : q ≤ m) (hkm : k < m) :
    Runs P n env F (.slice t x lo up none) (.slice (some ⟨b, k, none⟩) (q - k) (m - k)) := .mk fun ac w ty pos aft g d hf hw => by
  subst hi hj
  obtain ⟨ie, g1, g2, g3⟩ := ht.ok
  have hsl : ∀ (L H : Option Value), (L = none ∧ k = 0 ∨ L = some (.int .i64 k)) → (H = none ∧ q = m ∨ H = some (.int .i64 q)) → (Instr.sliceBounds false m m L H none).run P w = .ok (k, q, m) w := by
    rintro L H (⟨rfl, rfl⟩ | rfl) (⟨rfl, rfl⟩ | rfl) <;> simp [Instr.sliceBounds, Instr.sliceBound, asIntOf, hkq, hqm, Result.andThen]
  have hL : lo.map ac.eval = none ∧ k = 0 ∨ lo.map ac.eval = some (.int .i64 k) := by
    cases lo with
    | none => left; simp only [bnd, Option.some.injEq] at hlo; exact ⟨rfl, by omega⟩
    | some x => right; simp [hf.bound hlo]
  have hH : up.map ac.eval = none ∧ q = m ∨ up.map ac.eval = some (.int .i64 q) := by
    cases up with
    | none => left; simp only [bnd, Option.some.injEq] at hhi; exact ⟨rfl, by omega⟩
    | some x => right; simp [hf.bound hhi]
  have hm : ¬ m = k := by omega
  have := hsl _ _ hL hH
  simp [execOp, hf.eval hx, Instr.sliceAt, Instr.sureAddr, run_underlying g1, sizeOf, typeInfo, g2, g3, this, Result.andThen, hm, Addr.add]
  intro h; omega
/-- A slice's end, by its literal. -/
theorem Runs.cutFrom {t e : TypeId} {x y : Operand} {r k m : Nat} {j : Int} [ht : SliceT P t e 1] (hx : opnd env x = some (.slice (some ⟨r, 0, none⟩) m m)) (hlo : opnd env y = some (.int .i64 j)) (hj : j = (k : Nat)) (hl : k < m) :
    Runs P n env F (.slice t x (some y) none none) (.slice (some ⟨r, k, none⟩) (m - k) (m - k)) := .mk fun ac w ty pos aft g d hf hw => by
  subst hj
  obtain ⟨it, g1, g2, g3⟩ := ht.ok
  have hsl : (Instr.sliceBounds true m m (some (.int .i64 k)) none none).run P w = .ok (k, m, m) w := by
    simp [Instr.sliceBounds, Instr.sliceBound, asIntOf, Nat.le_of_lt hl, Result.andThen]
  have e1 : ¬ (m = k) := by omega
  simp [execOp, hf.eval hx, hf.eval hlo, Instr.sliceAt, Instr.slice, run_underlying g1, sizeOf, typeInfo, g2, g3, hsl, Result.andThen, Addr.add, e1]
  intro h; omega
theorem by_store {w : World} {T : TypeId} {g m k : Nat} {l s : List UInt8} {F : List HProp} (h : holds w (byB T g m l :: F)) (hk : k + s.length ≤ m) :
    ∃ w', (storeCells ⟨g, k, none⟩ (s.map u8v)).run P w = .ok () w' ∧ holds w' (byB T g m (By.splice l k s) :: F) := by
  obtain ⟨hl, hb⟩ := byB.open h
  have hst := run_storeCells_at P g k T (s.map u8v) 0 _ w hb.get_blk (by simp; omega) (fun v hv => by obtain ⟨c, _, rfl⟩ := List.mem_map.1 hv; rfl)
  have h5 := hb.turn (w' := w.setRow g ((l.map u8v).toArray.toList.take (k + 0) ++ s.map u8v ++ (l.map u8v).toArray.toList.drop (k + 0 + (s.map u8v).length)).toArray) ⟨rfl, rfl, rfl, by simp, fun k _ hk => setRow_other w g k _ (fun e => hk (by simp [e]))⟩ (setRow_heap w g _ _ T _ hb.get_blk)
  have e : (l.map u8v).toArray.toList.take (k + 0) ++ s.map u8v ++ (l.map u8v).toArray.toList.drop (k + 0 + (s.map u8v).length) = (By.splice l k s).map u8v := by
    simp [By.splice, List.map_take, List.map_drop]
  rw [e] at h5 hst
  exact ⟨_, hst, byB.shut (by rw [By.splice_len _ _ _ (by omega)]; exact hl) h5⟩
theorem bs_cells (l : List UInt8) (q : Nat) : ((bs l).extract 0 q).data.map (fun b => Value.int .u8 (b.toNat : Int)) = ((l.take q).map u8v).toArray := by
  rw [bs_extract]
  apply Array.ext'
  simp [bs]
  rfl
/-- copy of a text into a block of bytes. -/
theorem GL.copyBS {t t2 e : TypeId} {x y : Operand} {g k m cp : Nat} {T : TypeId} {N : Nat} {l s : List UInt8} [ht : SliceT P t e 1] (hx : opnd env x = some (.slice (some ⟨g, k, none⟩) m cp)) (hy : opnd env y = some (.string (bs s))) [hr : HasBy F g T N l F'] (hm : m ≤ s.length) (hk : k + m ≤ N) (hd : Nat.blt d n = true)
    (h : GL P n ops Q rest ((d, .int .i64 m) :: env) (byB T g N (By.splice l k (s.take m)) :: F')) : GL P n ops Q (⟨some d, .call { callee := .builtin .copy, args := #[x, y], argTypes := #[t, t2] }, ty, pos, aft, none⟩ :: rest) env F := .mk fun a w hf hw => by
  obtain ⟨it, g1, g2, g3⟩ := ht.ok
  refine wpList_plain rfl fun K hK => ?_
  obtain ⟨w', h1, h2⟩ := by_store (P := P) (k := k) (s := s.take m) (hw.perm hr.perm) (by rw [List.length_take]; omega)
  have hrun : (execOp a.eval ⟨some d, .call { callee := .builtin .copy, args := #[x, y], argTypes := #[t, t2] }, ty, pos, aft, none⟩).run P w = .ok (.value (.int .i64 m)) w' := by
    have hmn : Nat.min s.length m = m := by show min s.length m = m; omega
    have hmn' : min s.length m = m := by omega
    have hfc : (Builtin.firstCells 1 m (.string (bs s))).run P w = .ok ((s.take m).map u8v).toArray w := by
      have e : Builtin.firstCells 1 m (.string (bs s)) = Pure.pure (((bs s).extract 0 m).data.map fun b => Value.int .u8 (b.toNat : Int)) := rfl
      rw [e, bs_cells]; rfl
    have h1' : (storeCells ⟨g, k, none⟩ (List.take m (s.map u8v))).run P w = .ok () w' := by rw [← List.map_take]; exact h1
    simp [execOp, resolve, invoke, builtin, hf.eval hx, hf.eval hy, Builtin.copy_, run_underlying g1, Builtin.lenOf, bs_size, sizeOf, typeInfo, g2, g3, hmn, hmn', hfc, h1, h1', goInt, Result.andThen]
  unfold Oper.wp
  rw [hrun]
  exact hK _ _ (h _ _ (hf.put hd _) h2)
/-- copy of bytes of another block. -/
theorem GL.copyBB {t t2 e : TypeId} {x y : Operand} {g k m cp g2 k2 m2 cp2 q : Nat} {T : TypeId} {N N2 : Nat} {l s : List UInt8} [ht : SliceT P t e 1] (hx : opnd env x = some (.slice (some ⟨g, k, none⟩) m cp)) (hy : opnd env y = some (.slice (some ⟨g2, k2, none⟩) m2 cp2)) [hr : HasBy F g T N l F'] [hs : SeesBy F' g2 N2 s] (hq : q = min m2 m) (hk2 : k2 + m2 ≤ N2) (hk : k + m ≤ N) (hd : Nat.blt d n = true)
    (h : GL P n ops Q rest ((d, .int .i64 q) :: env) (byB T g N (By.splice l k ((s.drop k2).take q)) :: F')) : GL P n ops Q (⟨some d, .call { callee := .builtin .copy, args := #[x, y], argTypes := #[t, t2] }, ty, pos, aft, none⟩ :: rest) env F := .mk fun a w hf hw => by
  obtain ⟨it, g1, g2', g3⟩ := ht.ok
  refine wpList_plain rfl fun K hK => ?_
  have hw1 := hw.perm hr.perm
  obtain ⟨hsl, T2, hb⟩ := hs.at_ w hw1.tail
  have hlen : ((s.drop k2).take q).length = q := by rw [List.length_take, List.length_drop]; omega
  obtain ⟨w', h1, h2⟩ := by_store (P := P) (k := k) (s := (s.drop k2).take q) hw1 (by rw [hlen]; omega)
  have hfc := run_firstCells_some (P := P) (w := w) 1 q ⟨g2, k2, none⟩ m2 cp2 (((s.drop k2).take q).map u8v) (by rw [List.length_map, hlen, Nat.mul_one]) (fun j v hv => by
    have hj : j < q := by
      have := (List.getElem?_eq_some_iff.1 hv).1
      rw [List.length_map, hlen] at this; exact this
    rw [addr_add, by_cell hb]
    rw [List.getElem?_map, List.getElem?_take_of_lt hj, List.getElem?_drop] at hv
    exact hv)
  have hrun : (execOp a.eval ⟨some d, .call { callee := .builtin .copy, args := #[x, y], argTypes := #[t, t2] }, ty, pos, aft, none⟩).run P w = .ok (.value (.int .i64 q)) w' := by
    have hmn : Nat.min m2 m = q := hq.symm
    have h1' : (storeCells ⟨g, k, none⟩ (List.take q (List.drop k2 (s.map u8v)))).run P w = .ok () w' := by rw [← List.map_drop, ← List.map_take]; exact h1
    rw [List.map_take, List.map_drop] at hfc
    have hmn' : min m2 m = q := hq.symm
    simp [execOp, resolve, invoke, builtin, hf.eval hx, hf.eval hy, Builtin.copy_, run_underlying g1, Builtin.lenOf, sizeOf, typeInfo, g2', g3, hmn, hmn', hfc, h1', goInt, Result.andThen]
  unfold Oper.wp
  rw [hrun]
  exact hK _ _ (h _ _ (hf.put hd _) h2)
theorem GL.clearBy {t e : TypeId} {x : Operand} {g k m cp : Nat} {T : TypeId} {N bytes : Nat} {l : List UInt8} [ht : SliceT P t e 1] [hz : ZeroT P e (.int .u8 0) 1 bytes] (hx : opnd env x = some (.slice (some ⟨g, k, none⟩) m cp)) [hr : HasBy F g T N l F'] (hm : 0 < m) (hk : k + m ≤ N)
    (h : GL P n ops Q rest env (byB T g N (By.splice l k (List.replicate m 0)) :: F')) : GL P n ops Q (⟨none, .call { callee := .builtin .clear, args := #[x], argTypes := #[t] }, ty, pos, aft, none⟩ :: rest) env F := .mk fun a w hf hw => by
  obtain ⟨it, g1, g2, g3⟩ := ht.ok
  obtain ⟨iz, k1, k2, k3, k4, k5⟩ := hz.ok
  refine wpList_plain rfl fun K hK => ?_
  obtain ⟨w', h1, h2⟩ := by_store (P := P) (k := k) (s := List.replicate m 0) (hw.perm hr.perm) (by rw [List.length_replicate]; omega)
  have hzr : ∀ w, (zeroValue e).run P w = .ok (.int .u8 0) w := fun w => by simp [zeroValue, typeInfo, k1, k2, Result.andThen]
  obtain ⟨m', rfl⟩ : ∃ j, m = j + 1 := ⟨m - 1, by omega⟩
  have hzc : (Builtin.zeroCells (Value.int .u8 0).cells (m' + 1)).toList = (List.replicate (m' + 1) (0 : UInt8)).map u8v := by
    apply List.ext_getElem
    · simp [Builtin.zeroCells, Value.cells]
    · intro i h1 h2
      simp [Builtin.zeroCells, Value.cells]
      rw [Nat.mod_one]; rfl
  have hrun : (execOp a.eval ⟨none, .call { callee := .builtin .clear, args := #[x], argTypes := #[t] }, ty, pos, aft, none⟩).run P w = .ok (.value (.tuple #[])) w' := by
    have h1' : (storeCells ⟨g, k, none⟩ (List.replicate (m' + 1) (u8v 0))).run P w = .ok () w' := by rw [← List.map_replicate]; exact h1
    simp [execOp, resolve, invoke, builtin, hf.eval hx, Builtin.clear_, run_underlying g1, hzr, hzc, h1', Result.andThen]
  unfold Oper.wp
  rw [hrun]
  exact hK _ _ (h _ _ (hf.put0 _) h2)
/-- The text of a block of bytes. -/
theorem Runs.textBy {t u e : TypeId} {x : Operand} {g m : Nat} {l : List UInt8} [ht : SliceT P t e 1] [he : IntT P e .u8] [hu : StrT P u] (hx : opnd env x = some (.slice (some ⟨g, 0, none⟩) m m)) [hs : SeesBy F g m l] : Runs P n env F (.convert t u x) (.string (bs l)) := .mk fun a w ty pos aft gd d hf hw => by
  obtain ⟨it, g1, g2, g3⟩ := ht.ok
  obtain ⟨rfl, T, hb⟩ := hs.at_ w hw
  have := run_convert_bytes_back (P := P) w t u e ⟨g, 0, none⟩ l.length l g1 he.ok hu.ok (fun j hj => by
    rw [addr_add, by_cell hb, Nat.zero_add, List.getElem?_eq_getElem hj]; rfl)
  simp [execOp, hf.eval hx, this, Result.andThen]
  rfl
instance {l : List UInt8} : CellsA (l.map u8v).toArray (l.map fun c => CelV.i .u8 (c.toNat : Int)) := ⟨by unfold cellsC; rw [List.map_map]; rfl⟩
theorem by_keys : ∀ (z : List UInt8) (m : Nat), z.length = m → (z.map fun c => CelV.i .u8 (c.toNat : Int)).map CelV.k = (List.replicate m [CelK.i .u8]).flatten := fun z m hz => by
  subst hz
  induction z with
  | nil => rfl
  | cons a z ih => rw [List.length_cons, List.replicate_succ, List.flatten_cons, List.map_cons, List.map_cons, ih]; rfl
/-- `==` of arrays of bytes. -/
theorem Runs.eqlBy {t u : TypeId} {x y : Operand} {m : Nat} {l r : List UInt8} [ht : CellsT P t (List.replicate m [CelK.i .u8]).flatten] (hx : opnd env x = some (.agg (l.map u8v).toArray)) (hy : opnd env y = some (.agg (r.map u8v).toArray)) (hl : l.length = m) (hr : r.length = m) : Runs P n env F (.binOp .eql t x y u) (.bool (decide (l = r))) := by
  have h := Runs.eqlCells (P := P) (n := n) (env := env) (F := F) (t := t) (x := x) (y := y) (u := u) hx hy (by_keys l m hl) (by_keys r m hr)
  have e : decide ((l.map fun c => CelV.i .u8 (c.toNat : Int)) = (r.map fun c => CelV.i .u8 (c.toNat : Int))) = decide (l = r) := by
    rw [decide_eq_decide]
    constructor
    · intro he
      have hinj : Function.Injective (fun c : UInt8 => CelV.i .u8 (c.toNat : Int)) := fun a b h => by
        simp only [CelV.i.injEq, true_and] at h
        exact UInt8.toNat_inj.1 (by omega)
      exact (List.map_inj_right (fun a b h => hinj h)).1 he
    · rintro rfl; rfl
  rw [e] at h; exact h
end
end Go.Proofs.YtoafajooffhimaaDoor
