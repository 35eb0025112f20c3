/- append(dst, src...) of an owned row, whatever the source holds; Go's copy of a slice of ints by append([]int.. , l...). What append of an owned row does, at an operation of such a region. Strings as lists of bytes; what a slice literal of bytes is as a string. -/
import Derived.Test.YtfiggkbclldccaaGreatSepD
import Derived.Test.YtfiggkbclldccaaGreatLooseT
import Derived.Laws.BytesArg
import Derived.Laws.IdiomStrings
import Derived.Laws.DeepStrings4
section
namespace Go.Proofs.YtfiggkbclldccaaGreat
open Go Go.RowKit Go.MapKept
set_option maxRecDepth 100000

section
variable {P : Program} {w : World} {l : List HProp}

theorem run_append_reads {t ty e : TypeId} {i : TypeInfo} {z : Value} {size bytes : Nat} (ht : P.underlying t = some (.slice e)) (hi : P.info? e = some i) (hz : i.zero = some z)
    (hsize : i.size = size) (hby : i.bytes = bytes) (hzs : z.cells.size = size) (hsz : 0 < size)
    {v : Value} {n : Nat} {xs : List Value} (hw : holds w (ownRow e size v n xs :: l))
    {src : Value} {m : Nat} {news : List Value} (hr : reads w size src m news) (h1 : ∀ u ∈ news, u.oneCell' = true)
    (h63 : n + m ≤ maxLen) (hbytes : (n + m) * bytes ≤ 140737488355328) :
    ∃ v' w', (Builtin.append_ #[t, t] ty #[v, src]).run P w = .ok v' w' ∧ holds w' (ownRow e size v' (n + m) (xs ++ news) :: l) := by
  by_cases h0 : m = 0
  · subst h0
    obtain ⟨hl, a, cap, rfl, _, _⟩ := hr
    have hn : news = [] := List.eq_nil_of_length_eq_zero (by simpa using hl)
    subst hn
    refine ⟨v, w, ?_, by simpa using hw⟩
    rcases hw.open_own.2 with ⟨rfl, rfl, _, _⟩ | ⟨g, cap', cur, rfl, hnc, _⟩
    · cases a <;> simp [Builtin.append_, run_underlying ht, sizeOf, typeInfo, hi, Builtin.lenOf, Builtin.firstCells, loadCells, loadCellsFrom]
    · cases a <;> simp [Builtin.append_, run_underlying ht, sizeOf, typeInfo, hi, Builtin.lenOf, Builtin.firstCells, loadCells, loadCellsFrom, hnc, storeCells]
  · have hp : 0 < m * size := Nat.mul_pos (by omega) hsz
    have hl := hr.1
    obtain ⟨b, off, cap, rfl, hc, hcs⟩ := hr.cells hp
    refine run_append_sl (a := ⟨b, off, none⟩) ht hi hz hsize hby hzs hsz hw hl (fun j u hu => ?_) h1 h63 hbytes (by omega)
    have hj : j < m * size := by rw [← hl]; exact (List.getElem?_eq_some_iff.1 hu).1
    have hadd : (⟨b, off, none⟩ : Addr).add j = ⟨b, off + j, none⟩ := by unfold Addr.add; split <;> simp_all
    rw [hadd, hcs j hj, hu]
end

/-- 'append(v, src...)' of ints. -/
theorem wpList_appendInts {ops : Array Oper} {rest : List Oper} {o : Oper} {a : Act} {Q : Exit → Act → World → Prop} {w : World} {F : List HProp} (hg : o.guard = none) (s x : Operand)
    (hop : o.op = .call { callee := .builtin .append, args := #[s, x], argTypes := #[28, 28] })
    {v src : Value} {l m : List Int} (hs : a.eval s = v) (hw : holds w (ownInts v l :: F)) (hx : a.eval x = src) (hr : reads w 1 src m.length (ints m)) (hlen : l.length + m.length < 1099511627776)
    (hK : ∀ v' w', holds w' (ownInts v' (l ++ m) :: F) → wpList Tryz.prog ops Q rest (a.put o.dst v') w') : wpList Tryz.prog ops Q (o :: rest) a w := by
  obtain ⟨i0, hi, hz0, hz1, hz2⟩ := info_parts Tryz.infoInt
  refine wpList_plain hg fun K' hK' => ?_
  obtain ⟨v', w', hrun, r1⟩ := run_append_reads (P := Tryz.prog) (ty := o.type) Tryz.underlying28 hi hz0 hz1 hz2 rfl (by omega) hw hr (by simp [ints, Value.oneCell']) (by unfold maxLen; omega) (by omega)
  unfold Oper.wp execOp
  simp only [hop, resolve, invoke, builtin, Sem.run_bind, Sem.run_pure, Result.andThen_ok, List.map_toArray, List.map_cons, List.map_nil, hs, hx, hrun]
  refine hK' _ _ (hK v' w' ?_)
  unfold ownInts
  rw [show (l ++ m).length = l.length + m.length from by simp, show ints (l ++ m) = ints l ++ ints m from by simp [ints]]
  exact r1

/-- An empty slice that is not nil. -/
theorem holds.emptyInts {w : World} {F : List HProp} (hw : holds w F) : holds (w.alloc (.cells #[] 3)) (ownInts (.slice (some ⟨w.heap.size, 0, none⟩) 0 0) [] :: F) := by
  have h2 := (hw.alloc (.cells #[] 3 (0, 0))).mkRow (size := 1) (n := 0) (cap := 0) (Nat.le_refl _) (Nat.zero_le _) (by simp)
  exact h2

end Go.Proofs.YtfiggkbclldccaaGreat
end
section
namespace Go.Proofs.YtfiggkbclldccaaGreat
open Go Go.RowKit
set_option linter.unusedVariables false

def sliceBlk : Value → Nat
  | .slice (some a) _ _ => a.block
  | _ => 0
def ptrBlk : Value → Nat
  | .pointer (some a) => a.block
  | _ => 0
def aggOf (u : Value) (j : Nat) : Value := match u with | .agg x => x.getD j undef | _ => undef
def tupOf (u : Value) (i : Nat) : Value := match u with | .tuple t => t.getD i undef | _ => undef

theorem tok_append {P : Program} {w : World} {l : List HProp} {o : Oper} {a : Act} (s x : Operand) (t : TypeId) (hop : o.op = .call { callee := .builtin .append, args := #[s, x], argTypes := #[t, t] })
    {e : TypeId} {i : TypeInfo} {z : Value} {size bytes : Nat} (ht : P.underlying t = some (.slice e)) (hi : P.info? e = some i) (hz : i.zero = some z)
    (hsize : i.size = size) (hby : i.bytes = bytes) (hzs : z.cells.size = size) (hsz : 0 < size)
    {v : Value} {n : Nat} {xs : List Value} (hs : a.eval s = v) (hw : holds w (ownRow e size v n xs :: l))
    {src : Value} {m : Nat} {news : List Value} (hx : a.eval x = src) (hr : reads w size src m news) (h1 : ∀ u ∈ news, u.oneCell' = true)
    (h63 : n + m ≤ maxLen) (hbytes : (n + m) * bytes ≤ 140737488355328) {C : Value → World → Prop} (hC : ∀ v' w', holds w' (ownRow e size v' (n + m) (xs ++ news) :: l) → C v' w') :
    looseUpon P C ((execOp a.eval o).run P w) := by
  obtain ⟨v', w', hrun, r1⟩ := run_append_reads (P := P) (ty := o.type) ht hi hz hsize hby hzs hsz hw hr h1 h63 hbytes
  unfold execOp
  simp only [hop, resolve, invoke, builtin, Sem.run_bind, Sem.run_pure, Result.andThen_ok, List.map_toArray, List.map_cons, List.map_nil, hs, hx, hrun]
  exact hC v' w' r1

/-- What a world reads of a block that it holds. -/
theorem blk_reads {w : World} {l : List HProp} {b : Nat} {cs : Array Value} {e : TypeId} {fz : Nat × Nat} (h : holds w (blk b (.cells cs e fz) :: l)) (size n cap : Nat) (hn : cs.size = n * size) (hc : n ≤ cap) : reads w size (.slice (some ⟨b, 0, none⟩) n cap) n cs.toList := by
  refine ⟨by simpa using hn, _, cap, rfl, hc, .inr ⟨b, 0, rfl, fun i hi => ?_⟩⟩
  rw [cellAt h.get_blk]
  simp
theorem ownRow_form {w : World} {F : List HProp} {e : TypeId} {size n : Nat} {v : Value} {xs : List Value} (h : holds w (ownRow e size v n xs :: F)) : ∃ a cap, v = .slice a n cap := by
  rcases (holds.open_own h).2 with ⟨rfl, h0, _⟩ | ⟨g, cap, cur, rfl, _⟩
  · exact ⟨none, 0, by rw [h0]⟩
  · exact ⟨_, _, rfl⟩
end Go.Proofs.YtfiggkbclldccaaGreat
end
section
namespace Go.Proofs.YtfiggkbclldccaaGreat
open Go Go.RowKit Go.MapKept
set_option maxRecDepth 100000
set_option linter.unusedVariables false

def bs (l : List UInt8) : ByteArray := ⟨l.toArray⟩
/-- A byte as a value. -/
def u8v (c : UInt8) : Value := .int .u8 (c.toNat : Int)

/-- A slice of bytes, owned. -/
def ownB (v : Value) (l : List UInt8) : HProp := ownRow 5 1 v l.length (l.map u8v)
end Go.Proofs.YtfiggkbclldccaaGreat
end
