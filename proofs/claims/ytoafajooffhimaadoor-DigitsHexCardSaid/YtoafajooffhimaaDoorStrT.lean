/- append(dst, src...) of an owned row, whatever the source holds; Go's copy of a slice of ints by append([]int.. , l...). What append of an owned row does, at an operation of such a region. Strings as lists of bytes; what a slice literal of bytes is as a string. -/
import Derived.Test.YtoafajooffhimaaDoorSepD
import Derived.Test.YtoafajooffhimaaDoorLooseT
import Derived.Laws.BytesArg
import Derived.Laws.IdiomStrings
import Derived.Laws.DeepStrings4
section
namespace Go.Proofs.YtoafajooffhimaaDoor
open Go Go.RowKit Go.MapKept
set_option maxRecDepth 100000

section
variable {P : Program} {w : World} {l : List HProp}

theorem run_append_reads {t ty e : TypeId} {i : TypeInfo} {z : Value} {size bytes : Nat} (ht : P.underlying t = some (.slice e)) (hi : P.info? e = some i) (hz : i.zero = some z)
    (hsize : i.size = size) (hby : i.bytes = bytes) (hzs : z.cells.size = size) (hsz : 0 < size)
    {v : Value} {n : Nat} {xs : List Value} (hw : holds w (ownRow e size v n xs :: l))
    {src : Value} {m : Nat} {news : List Value} (hr : reads w size src m news) (h1 : ∀ u ∈ news, u.oneCell' = true)
    (h63 : n + m ≤ maxLen) (hbytes : (n + m) * bytes ≤ 140737488355328) :
    ∃ v' w', (Builtin.append_ #[t, t] ty #[v, src]).run P w = .ok v' w' ∧ holds w' (ownRow e size v' (n + m) (xs ++ news) :: l) := by
  by_cases h0 : m = 0
  · subst h0
    obtain ⟨hl, a, cap, rfl, _, _⟩ := hr
    have hn : news = [] := List.eq_nil_of_length_eq_zero (by simpa using hl)
    subst hn
    refine ⟨v, w, ?_, by simpa using hw⟩
    rcases hw.open_own.2 with ⟨rfl, rfl, _, _⟩ | ⟨g, cap', cur, rfl, hnc, _⟩
    · cases a <;> simp [Builtin.append_, run_underlying ht, sizeOf, typeInfo, hi, Builtin.lenOf, Builtin.firstCells, loadCells, loadCellsFrom]
    · cases a <;> simp [Builtin.append_, run_underlying ht, sizeOf, typeInfo, hi, Builtin.lenOf, Builtin.firstCells, loadCells, loadCellsFrom, hnc, storeCells]
  · have hp : 0 < m * size := Nat.mul_pos (by omega) hsz
    have hl := hr.1
    obtain ⟨b, off, cap, rfl, hc, hcs⟩ := hr.cells hp
    refine run_append_sl (a := ⟨b, off, none⟩) ht hi hz hsize hby hzs hsz hw hl (fun j u hu => ?_) h1 h63 hbytes (by omega)
    have hj : j < m * size := by rw [← hl]; exact (List.getElem?_eq_some_iff.1 hu).1
    have hadd : (⟨b, off, none⟩ : Addr).add j = ⟨b, off + j, none⟩ := by unfold Addr.add; split <;> simp_all
    rw [hadd, hcs j hj, hu]
end


/-- An empty slice that is not nil. -/
theorem holds.emptyInts {w : World} {F : List HProp} (hw : holds w F) : holds (w.alloc (.cells #[] 3)) (ownInts (.slice (some ⟨w.heap.size, 0, none⟩) 0 0) [] :: F) := by
  have h2 := (hw.alloc (.cells #[] 3 (0, 0))).mkRow (size := 1) (n := 0) (cap := 0) (Nat.le_refl _) (Nat.zero_le _) (by simp)
  exact h2

end Go.Proofs.YtoafajooffhimaaDoor
end
section
namespace Go.Proofs.YtoafajooffhimaaDoor
open Go Go.RowKit
set_option linter.unusedVariables false

def sliceBlk : Value → Nat
  | .slice (some a) _ _ => a.block
  | _ => 0
def ptrBlk : Value → Nat
  | .pointer (some a) => a.block
  | _ => 0
def aggOf (u : Value) (j : Nat) : Value := match u with | .agg x => x.getD j undef | _ => undef
def tupOf (u : Value) (i : Nat) : Value := match u with | .tuple t => t.getD i undef | _ => undef

theorem tok_append {P : Program} {w : World} {l : List HProp} {o : Oper} {a : Act} (s x : Operand) (t : TypeId) (hop : o.op = .call { callee := .builtin .append, args := #[s, x], argTypes := #[t, t] })
    {e : TypeId} {i : TypeInfo} {z : Value} {size bytes : Nat} (ht : P.underlying t = some (.slice e)) (hi : P.info? e = some i) (hz : i.zero = some z)
    (hsize : i.size = size) (hby : i.bytes = bytes) (hzs : z.cells.size = size) (hsz : 0 < size)
    {v : Value} {n : Nat} {xs : List Value} (hs : a.eval s = v) (hw : holds w (ownRow e size v n xs :: l))
    {src : Value} {m : Nat} {news : List Value} (hx : a.eval x = src) (hr : reads w size src m news) (h1 : ∀ u ∈ news, u.oneCell' = true)
    (h63 : n + m ≤ maxLen) (hbytes : (n + m) * bytes ≤ 140737488355328) {C : Value → World → Prop} (hC : ∀ v' w', holds w' (ownRow e size v' (n + m) (xs ++ news) :: l) → C v' w') :
    looseUpon P C ((execOp a.eval o).run P w) := by
  obtain ⟨v', w', hrun, r1⟩ := run_append_reads (P := P) (ty := o.type) ht hi hz hsize hby hzs hsz hw hr h1 h63 hbytes
  unfold execOp
  simp only [hop, resolve, invoke, builtin, Sem.run_bind, Sem.run_pure, Result.andThen_ok, List.map_toArray, List.map_cons, List.map_nil, hs, hx, hrun]
  exact hC v' w' r1

/-- What a world reads of a block that it holds. -/
theorem blk_reads {w : World} {l : List HProp} {b : Nat} {cs : Array Value} {e : TypeId} {fz : Nat × Nat} (h : holds w (blk b (.cells cs e fz) :: l)) (size n cap : Nat) (hn : cs.size = n * size) (hc : n ≤ cap) : reads w size (.slice (some ⟨b, 0, none⟩) n cap) n cs.toList := by
  refine ⟨by simpa using hn, _, cap, rfl, hc, .inr ⟨b, 0, rfl, fun i hi => ?_⟩⟩
  rw [cellAt h.get_blk]
  simp
theorem ownRow_form {w : World} {F : List HProp} {e : TypeId} {size n : Nat} {v : Value} {xs : List Value} (h : holds w (ownRow e size v n xs :: F)) : ∃ a cap, v = .slice a n cap := by
  rcases (holds.open_own h).2 with ⟨rfl, h0, _⟩ | ⟨g, cap, cur, rfl, _⟩
  · exact ⟨none, 0, by rw [h0]⟩
  · exact ⟨_, _, rfl⟩
end Go.Proofs.YtoafajooffhimaaDoor
end
section
namespace Go.Proofs.YtoafajooffhimaaDoor
open Go Go.RowKit Go.MapKept
set_option maxRecDepth 100000
set_option linter.unusedVariables false

def bs (l : List UInt8) : ByteArray := ⟨l.toArray⟩
theorem bs_size (l : List UInt8) : (bs l).size = l.length := by simp [bs, ByteArray.size]
theorem bs_append (a b : List UInt8) : bs a ++ bs b = bs (a ++ b) := by
  apply ByteArray.ext
  simp [bs, ByteArray.data_append]
theorem bs_list (s : ByteArray) : bs s.data.toList = s := by
  apply ByteArray.ext
  simp [bs]
theorem bs_inj {a b : List UInt8} (h : bs a = bs b) : a = b := by
  have := congrArg (fun s => s.data.toList) h
  simpa [bs] using this
theorem bs_toList (l : List UInt8) : (bs l).toList = l := by rw [ByteArray.toList_eq]; simp [bs]
/-- A byte as a value. -/
def u8v (c : UInt8) : Value := .int .u8 (c.toNat : Int)

theorem conv_cells (w : World) (l : List UInt8) (cap : Nat) (T : TypeId) (fz : Nat × Nat) (b : Nat) (h : w.heap[b]? = some (.cells (l.map u8v).toArray T fz)) :
    (convert 51 9 (.slice (some ⟨b, 0, none⟩) l.length cap)).run Tryd.prog w = .ok (.string (bs l)) w := by
  refine run_convert_bytes_back w 51 9 5 ⟨b, 0, none⟩ cap l Tryd.underlying51 Tryd.underlying5 Tryd.underlying9 fun j hj => ?_
  have : (⟨b, 0, none⟩ : Addr).add j = ⟨b, j, none⟩ := by unfold Addr.add; split <;> simp_all
  rw [this, cellAt h]
  simp [u8v, hj]
/-- 'string([]byte{..})' of a slice literal. -/
theorem convL (w : World) (vs : Array Value) (n : Nat) (l : List UInt8) (h : vs = (l.map u8v).toArray) (hn : n = l.length) :
    (convert 51 9 (.slice (some ⟨w.heap.size, 0, none⟩) n n)).run Tryd.prog (w.alloc (.cells vs 5)) = .ok (.string (bs l)) (w.alloc (.cells vs 5)) := by
  subst h hn
  exact conv_cells _ l l.length 5 (0, 0) w.heap.size (heap_alloc_new w _)
theorem convLd (w : World) (vs : Array Value) (n : Nat) (l : List UInt8) (h : vs = (l.map u8v).toArray) (hn : n = l.length) :
    (convert 51 9 (.slice (some ⟨w.heap.size, 0, none⟩) n n)).run Tryd.prog (w.alloc (.cells vs 5)).drew = .ok (.string (bs l)) (w.alloc (.cells vs 5)).drew := by
  subst h hn
  exact conv_cells _ l l.length 5 (0, 0) w.heap.size (heap_alloc_new w _)
theorem bs_at (l : List UInt8) (i : Nat) (h : i < (bs l).size) : (bs l)[i] = l[i]'(by simpa [bs_size] using h) := by
  simp [bs, ByteArray.getElem_eq_getElem_data]

/-- A slice of bytes, owned. -/
def ownB (v : Value) (l : List UInt8) : HProp := ownRow 5 1 v l.length (l.map u8v)
theorem Tryd.infoU8 : (Tryd.prog.info? 5).map (fun i => (i.zero, i.size, i.bytes)) = some (some (.int .u8 0), 1, 1) := by kernel_rfl
theorem ownB_form {w : World} {F : List HProp} {v : Value} {l : List UInt8} (h : holds w (ownB v l :: F)) : ∃ a cap, v = .slice a l.length cap := ownRow_form h
theorem ownB_nil {w : World} {F : List HProp} (h : holds w F) : holds w (ownB (.slice none 0 0) [] :: F) := holds_ownRow_nil h _ _
/-- 'append(v, c)' at an operation. -/
theorem tok_appB {w : World} {G : List HProp} {o : Oper} {a : Act} (s x : Operand) (hop : o.op = .call { callee := .builtin .append, args := #[s, x], argTypes := #[51, 51] })
    {v : Value} {l m : List UInt8} {nb cap : Nat} {T : TypeId} (hs : a.eval s = v) (hx : a.eval x = .slice (some ⟨nb, 0, none⟩) m.length cap) (hcap : m.length ≤ cap) (hw : holds w (ownB v l :: blk nb (.cells (m.map u8v).toArray T (0, 0)) :: G)) (hl : l.length + m.length ≤ 1000000000) :
    looseUpon Tryd.prog (fun u w' => (∃ (a : Option Addr) (cap : Nat), u = .slice a (l.length + m.length) cap) ∧ holds w' (ownB u (l ++ m) :: blk nb (.cells (m.map u8v).toArray T (0, 0)) :: G)) ((execOp a.eval o).run Tryd.prog w) := by
  obtain ⟨i0, hi, hz0, hz1, hz2⟩ := info_parts Tryd.infoU8
  refine tok_append s x _ hop Tryd.underlying51 hi hz0 hz1 hz2 rfl (by omega) hs hw hx (blk_reads (hw.pick 1) 1 m.length cap (by simp) hcap) (by simp [u8v, Value.oneCell']) (by unfold maxLen; omega) (by omega) fun v' w' h => ?_
  have h2 : holds w' (ownB v' (l ++ m) :: blk nb (.cells (m.map u8v).toArray T (0, 0)) :: G) := by
    unfold ownB
    rw [List.length_append, List.map_append]
    simpa using h
  obtain ⟨a1, c1, e1⟩ := ownB_form h2
  exact ⟨⟨a1, c1, by rw [e1, List.length_append]⟩, h2⟩
/-- 'string(v)'. -/
theorem conv_ownB {w : World} {G : List HProp} {v : Value} {l : List UInt8} (h : holds w (ownB v l :: G)) : (convert 51 9 v).run Tryd.prog w = .ok (.string (bs l)) w := by
  have hr := holds.ownReads h
  by_cases h0 : l = []
  · subst h0
    obtain ⟨_, a, cap, rfl, _⟩ := hr
    cases a with
    | none => exact run_convert_bytes_nil w 51 5 Tryd.underlying51 Tryd.underlying5 0 cap 9 Tryd.underlying9
    | some p => exact run_convert_bytes_back w 51 9 5 p cap [] Tryd.underlying51 Tryd.underlying5 Tryd.underlying9 (fun j hj => by simp at hj)
  · have hp : 0 < l.length := by cases l with | nil => exact absurd rfl h0 | cons x l => simp
    obtain ⟨b, off, cap, rfl, hc, hcs⟩ := hr.cells (by omega)
    refine run_convert_bytes_back w 51 9 5 ⟨b, off, none⟩ cap l Tryd.underlying51 Tryd.underlying5 Tryd.underlying9 fun j hj => ?_
    have : (⟨b, off, none⟩ : Addr).add j = ⟨b, off + j, none⟩ := by unfold Addr.add; split <;> simp_all
    rw [this, hcs j (by omega)]
    simp [u8v, hj]
end Go.Proofs.YtoafajooffhimaaDoor
end
