import Derived.Test.YtlcdaalalihaiaaGreatMg10
import Derived.WalkSpells
import Derived.Laws.StructEq
/- Laws of walking for operations on memory: cells, structs, rows; what is known of types stands in classes. -/
namespace Go.Proofs.YtlcdaalalihaiaaGreat
open Go Go.RowKit Go.MapKept
set_option linter.unusedVariables false
set_option linter.unusedSectionVars false
set_option linter.unusedSimpArgs false

/-! ### Types -/
def aggDesc : TypeDesc → Bool
  | .struct _ | .array _ _ => true
  | _ => false
/-- A type of one cell. -/
class CellT (P : Program) (t : TypeId) : Prop where
  ok : ∃ i d, P.info? t = some i ∧ i.size = 1 ∧ P.underlying t = some d ∧ aggDesc d = false
/-- A struct or an array of so many cells. -/
class AggT (P : Program) (t : TypeId) (size : outParam Nat) : Prop where
  ok : ∃ i d, P.info? t = some i ∧ i.size = size ∧ P.underlying t = some d ∧ aggDesc d = true
/-- Field f of the struct t lies at off and is of type ft. -/
class FieldT (P : Program) (t : TypeId) (f : Nat) (off : outParam Nat) (ft : outParam TypeId) : Prop where
  ok : ∃ fs fd i, P.underlying t = some (.struct fs) ∧ fs[f]? = some fd ∧ fd.offset = off ∧ fd.type = ft ∧ P.info? ft = some i ∧ i.size ≠ 0
class SliceT (P : Program) (t : TypeId) (e : outParam TypeId) (size : outParam Nat) : Prop where
  ok : ∃ i, P.underlying t = some (.slice e) ∧ P.info? e = some i ∧ i.size = size
class ArrT (P : Program) (t : TypeId) (len : outParam Nat) (e : outParam TypeId) (size : outParam Nat) : Prop where
  ok : ∃ i, P.underlying t = some (.array len e) ∧ P.info? e = some i ∧ i.size = size
/-- The zero value's cells. -/
class ZeroT (P : Program) (t : TypeId) (z : outParam Value) (size bytes : outParam Nat) : Prop where
  ok : ∃ i, P.info? t = some i ∧ i.zero = some z ∧ i.size = size ∧ i.bytes = bytes ∧ z.cells.size = size
class MapT (P : Program) (t : TypeId) (k e : outParam TypeId) : Prop where
  ok : P.underlying t = some (.map k e)
class IntT (P : Program) (t : TypeId) (k : outParam IntKind) : Prop where
  ok : P.underlying t = some (.int k)

section
variable {P : Program} {t e ft k : TypeId} {f off size len : Nat}
def cellB (P : Program) (t : TypeId) : Bool := match P.info? t, P.underlying t with
  | some i, some d => (i.size == 1) && !aggDesc d
  | _, _ => false
theorem CellT.of (h : cellB P t = true) : CellT P t := by
  unfold cellB at h
  split at h
  · rename_i i d h1 h2; simp at h; exact ⟨i, d, h1, h.1, h2, h.2⟩
  · cases h
def aggB (P : Program) (t : TypeId) (size : Nat) : Bool := match P.info? t, P.underlying t with
  | some i, some d => (i.size == size) && aggDesc d
  | _, _ => false
theorem AggT.of (h : aggB P t size = true) : AggT P t size := by
  unfold aggB at h
  split at h
  · rename_i i d h1 h2; simp at h; exact ⟨i, d, h1, h.1, h2, h.2⟩
  · cases h
def fieldB (P : Program) (t : TypeId) (f off : Nat) (ft : TypeId) : Bool := match P.underlying t, P.info? ft with
  | some (.struct fs), some i => (match fs[f]? with | some fd => (fd.offset == off) && (fd.type == ft) | none => false) && (i.size != 0)
  | _, _ => false
theorem FieldT.of (h : fieldB P t f off ft = true) : FieldT P t f off ft := by
  unfold fieldB at h
  split at h
  · rename_i fs i h1 h2
    simp only [Bool.and_eq_true] at h
    obtain ⟨h3, h4⟩ := h
    split at h3
    · rename_i fd h5; simp at h3 h4; exact ⟨fs, fd, i, h1, h5, h3.1, h3.2, h2, h4⟩
    · cases h3
  · cases h
def sliceB (P : Program) (t e : TypeId) (size : Nat) : Bool := match P.underlying t, P.info? e with
  | some (.slice e'), some i => (e' == e) && (i.size == size)
  | _, _ => false
theorem SliceT.of (h : sliceB P t e size = true) : SliceT P t e size := by
  unfold sliceB at h
  split at h
  · rename_i e' i h1 h2; simp at h; obtain ⟨rfl, h3⟩ := h; exact ⟨i, h1, h2, h3⟩
  · cases h
def arrB (P : Program) (t : TypeId) (len : Nat) (e : TypeId) (size : Nat) : Bool := match P.underlying t, P.info? e with
  | some (.array len' e'), some i => (len' == len) && (e' == e) && (i.size == size)
  | _, _ => false
theorem ArrT.of (h : arrB P t len e size = true) : ArrT P t len e size := by
  unfold arrB at h
  split at h
  · rename_i len' e' i h1 h2; simp at h; obtain ⟨⟨rfl, rfl⟩, h3⟩ := h; exact ⟨i, h1, h2, h3⟩
  · cases h
theorem ZeroT.of {z : Value} {bytes : Nat} (h : (P.info? t).map (fun i => (i.zero, i.size, i.bytes)) = some (some z, size, bytes)) (hs : z.cells.size = size) : ZeroT P t z size bytes := by
  cases hi : P.info? t with
  | none => simp [hi] at h
  | some i => simp [hi] at h; exact ⟨i, hi, h.1, h.2.1, h.2.2, hs⟩
theorem run_loadCell [h : CellT P t] {a : Addr} {w : World} {v : Value} (hv : w.cell? a = some v) : (loadVar t a).run P w = .ok v w := by
  obtain ⟨i, d, h1, h2, h3, h4⟩ := h.ok
  cases d <;> simp [aggDesc] at h4 <;> simp [loadVar, isAgg, run_underlying h3, hv, Result.andThen]
theorem run_loadAgg [h : AggT P t size] {b off : Nat} {w : World} {vs : List Value} (hl : vs.length = size) (hv : ∀ j, j < size → w.cell? ⟨b, off + j, none⟩ = vs[j]?) : (loadVar t ⟨b, off, none⟩).run P w = .ok (.agg vs.toArray) w := by
  obtain ⟨i, d, h1, h2, h3, h4⟩ := h.ok
  have key : ∀ (m k : Nat) (acc : Array Value), k + m = size → acc.toList = vs.take k → (loadCellsFrom ⟨b, off, none⟩ k m acc).run P w = .ok vs.toArray w := by
    intro m
    induction m with
    | zero =>
      intro k acc hk ha
      have : acc = vs.toArray := by
        apply Array.ext'
        rw [ha, List.take_of_length_le (by omega)]
      simp [loadCellsFrom, this]
    | succ m ih =>
      intro k acc hk ha
      have hadd : (⟨b, off, none⟩ : Addr).add k = ⟨b, off + k, none⟩ := by
        unfold Addr.add; split
        · rename_i h0; rw [h0]; rfl
        · rfl
      have hklt : k < vs.length := by omega
      have hc : w.cell? ⟨b, off + k, none⟩ = some vs[k] := by rw [hv k (by omega)]; simp [hklt]
      simp only [loadCellsFrom, hadd]
      simp [hc]
      refine ih (k + 1) _ (by omega) ?_
      rw [Array.toList_push, ha, List.take_succ_eq_append_getElem hklt]
  have hkey := key size 0 #[] (by omega) (by simp)
  cases d <;> simp [aggDesc] at h4 <;> simp [loadVar, isAgg, run_underlying h3, loadCells, sizeOf, typeInfo, h1, h2, hkey, Result.andThen]
end

/-- The element at a place, told as it stands there. -/
def nthL : List Value → Nat → Option Value
  | [], _ => none
  | a :: l, n => bif Nat.beq n 0 then some a else nthL l (n - 1)
theorem nthL_eq : ∀ (l : List Value) (n : Nat), nthL l n = l[n]?
  | [], n => by simp [nthL]
  | a :: l, 0 => rfl
  | a :: l, n + 1 => by
    show (bif Nat.beq (n + 1) 0 then some a else nthL l (n + 1 - 1)) = _
    rw [Nat.add_sub_cancel, nthL_eq l n, List.getElem?_cons_succ]
    rfl
theorem nthL_arr {c : Array Value} {o : Nat} {u : Value} (h : nthL c.toList o = some u) : c[o]? = some u := by rw [nthL_eq, Array.getElem?_toList] at h; exact h

/-! ### What stands among the pieces -/
/-- Among the pieces is the block b, owned. -/
class HasBlk (F : List HProp) (b : Nat) (c : outParam (Array Value)) (T : outParam TypeId) (F' : outParam (List HProp)) : Prop where
  perm : F.Perm (blk b (.cells c T (0, 0)) :: F')
instance HasBlk.here {b : Nat} {c : Array Value} {T : TypeId} {F : List HProp} : HasBlk (blk b (.cells c T (0, 0)) :: F) b c T F := ⟨.refl _⟩
instance (priority := 500) HasBlk.there {b : Nat} {c : Array Value} {T : TypeId} {F F' : List HProp} {X : HProp} [h : HasBlk F b c T F'] : HasBlk (X :: F) b c T (X :: F') := ⟨(h.perm.cons X).trans (.swap _ _ _)⟩
/-- Among the pieces is the piece X. -/
class Has (F : List HProp) (X : HProp) (F' : outParam (List HProp)) : Prop where
  perm : F.Perm (X :: F')
instance Has.here {X : HProp} {F : List HProp} : Has (X :: F) X F := ⟨.refl _⟩
instance (priority := 500) Has.there {X Y : HProp} {F F' : List HProp} [h : Has F X F'] : Has (Y :: F) X (Y :: F') := ⟨(h.perm.cons Y).trans (.swap _ _ _)⟩
/-- Block b is there, owned or for reading. -/
class SeesBlk (F : List HProp) (b : Nat) (c : outParam (Array Value)) : Prop where
  at_ : ∀ w, holds w F → ∃ T fz, w.heap[b]? = some (.cells c T fz)
instance SeesBlk.own {b : Nat} {c : Array Value} {T : TypeId} {fz : Nat × Nat} {F : List HProp} : SeesBlk (blk b (.cells c T fz) :: F) b c := ⟨fun w h => ⟨T, fz, h.get_blk⟩⟩
instance SeesBlk.ro {b : Nat} {c : Array Value} {T : TypeId} {fz : Nat × Nat} {F : List HProp} : SeesBlk (ro b (.cells c T fz) :: F) b c := ⟨fun w h => ⟨T, fz, h.get_ro⟩⟩
instance (priority := 500) SeesBlk.there {b : Nat} {c : Array Value} {F : List HProp} {X : HProp} [h : SeesBlk F b c] : SeesBlk (X :: F) b c := ⟨fun w hw => h.at_ w hw.tail⟩

/-- What is held is held, in another order, and with something let go. -/
class SubS (F H : List HProp) : Prop where
  sub : ∀ f, sep F f → sep H f
theorem sep_tail {X : HProp} {F : List HProp} {f : Frag} (h : sep (X :: F) f) : sep F f := by
  obtain ⟨f1, f2, ha, hl, j⟩ := h
  exact sep_sub F f2 f j.symm hl
instance (priority := 900) SubS.refl {F : List HProp} : SubS F F := ⟨fun _ h => h⟩
instance (priority := 100) SubS.drop {F H : List HProp} {X : HProp} [h : SubS F H] : SubS (X :: F) H := ⟨fun w hw => h.sub w (sep_tail hw)⟩
instance (priority := 500) SubS.cons {F F' H : List HProp} {X : HProp} [h1 : Has F X F'] [h2 : SubS F' H] : SubS F (X :: H) := ⟨fun f h => sep_cons_mono (fun _ h => h) h2.sub (sep_perm h1.perm f h)⟩
theorem holds.sub {w : World} {F H : List HProp} [h : SubS F H] (hw : holds w F) : holds w H := let ⟨f, hf, hs⟩ := hw; ⟨f, hf, h.sub f hs⟩

/-! ### Rows of elements -/
def rowB : Value → Nat
  | .slice (some a) _ _ => a.block
  | _ => 0
def rowO : Value → Nat
  | .slice (some a) _ _ => a.off
  | _ => 0
/-- How an element lies in cells. -/
class Enc {α : Type} (enc : α → List Value) (n : outParam Nat) : Prop where
  len : ∀ a, (enc a).length = n
  one : ∀ a, ∀ u ∈ enc a, u.oneCell' = true
  pos : 0 < n
theorem Enc.flat_len {α : Type} {enc : α → List Value} {n : Nat} [h : Enc enc n] : ∀ l : List α, (l.flatMap enc).length = l.length * n
  | [] => by simp
  | a :: l => by simp only [List.flatMap_cons, List.length_append, h.len, Enc.flat_len l, List.length_cons, Nat.succ_mul]; omega
theorem Enc.flat_at {α : Type} {enc : α → List Value} {n : Nat} [h : Enc enc n] : ∀ (l : List α) (i : Nat) (hi : i < l.length) (j : Nat), j < n → (l.flatMap enc)[i * n + j]? = (enc l[i])[j]?
  | a :: l, 0, _, j, hj => by
    rw [Nat.zero_mul, Nat.zero_add, List.flatMap_cons, List.getElem?_append_left (by rw [h.len]; exact hj)]
    rfl
  | a :: l, i + 1, hi, j, hj => by
    rw [List.flatMap_cons, List.getElem?_append_right (by rw [h.len, Nat.succ_mul]; omega), h.len, Nat.succ_mul, show i * n + n + j - n = i * n + j by omega]
    exact Enc.flat_at l i (by simpa using hi) j hj
  | [], i, hi, _, _ => by simp at hi
theorem Enc.flat_set {α : Type} {enc : α → List Value} {n : Nat} [h : Enc enc n] : ∀ (l : List α) (i : Nat) (a : α), i < l.length → (l.flatMap enc).take (i * n) ++ enc a ++ (l.flatMap enc).drop (i * n + n) = (l.set i a).flatMap enc
  | b :: l, 0, a, _ => by
    rw [Nat.zero_mul, Nat.zero_add, List.take_zero, List.nil_append, List.set_cons_zero, List.flatMap_cons, List.flatMap_cons, List.drop_left' (h.len b)]
  | b :: l, i + 1, a, hi => by
    rw [List.set_cons_succ, List.flatMap_cons, List.flatMap_cons, ← Enc.flat_set l i a (by simpa using hi), Nat.succ_mul,
      List.take_append, List.drop_append, h.len, List.take_of_length_le (by rw [h.len]; omega), List.drop_eq_nil_of_le (by rw [h.len]; omega)]
    simp only [List.append_assoc, List.nil_append]
    congr 3
    · congr 1; omega
    · congr 2; omega
  | [], i, _, hi => by simp at hi

/-- The slice v, owned, with the elements l. -/
def owns {α : Type} (T : TypeId) (enc : α → List Value) (n : Nat) (v : Value) (l : List α) : HProp := ownRow T n v l.length (l.flatMap enc)
/-- .. for reading. -/
def rows {α : Type} (enc : α → List Value) (n : Nat) (v : Value) (l : List α) : HProp := roRow n v l.length (l.flatMap enc)
/-- The slice v reads as l. -/
class Reads {α : outParam Type} (F : List HProp) (v : Value) (enc : outParam (α → List Value)) (n : outParam Nat) (l : outParam (List α)) : Prop where
  at_ : ∀ w, holds w F → reads w n v l.length (l.flatMap enc)
class HasOwn {α : outParam Type} (F : List HProp) (v : Value) (T : outParam TypeId) (enc : outParam (α → List Value)) (n : outParam Nat) (l : outParam (List α)) (F' : outParam (List HProp)) : Prop where
  perm : F.Perm (owns T enc n v l :: F')
section
variable {α : Type} {F F' : List HProp} {v : Value} {enc : α → List Value} {n : Nat} {l : List α} {T : TypeId} {X : HProp}
instance HasOwn.here : HasOwn (owns T enc n v l :: F) v T enc n l F := ⟨.refl _⟩
instance (priority := 500) HasOwn.there [h : HasOwn F v T enc n l F'] : HasOwn (X :: F) v T enc n l (X :: F') := ⟨(h.perm.cons X).trans (.swap _ _ _)⟩
instance Reads.own : Reads (owns T enc n v l :: F) v enc n l := ⟨fun w h => holds.ownReads h⟩
instance Reads.ro : Reads (rows enc n v l :: F) v enc n l := ⟨fun w h => holds.roReads h⟩
instance (priority := 500) Reads.there [h : Reads F v enc n l] : Reads (X :: F) v enc n l := ⟨fun w hw => h.at_ w hw.tail⟩
instance (priority := 400) Reads.appendL {F2 : List HProp} [h : Reads F v enc n l] : Reads (F ++ F2) v enc n l := ⟨fun w hw => h.at_ w (by obtain ⟨f, hf, hs⟩ := hw; obtain ⟨f1, f2, h1, h2, j⟩ := (sep_append F F2 f).1 hs; exact ⟨f, hf, sep_sub F f1 f j h1⟩)⟩
theorem reads.cellAt {w : World} [he : Enc enc n] (h : reads w n v l.length (l.flatMap enc)) {i : Nat} (hi : i < l.length) {f : Nat} {u : Value} (hf : (enc l[i])[f]? = some u) : w.cell? ⟨rowB v, rowO v + i * n + f, none⟩ = some u := by
  have hfn : f < n := by have := (List.getElem?_eq_some_iff.1 hf).1; rwa [he.len] at this
  have hin : i * n + f < l.length * n := by
    have : (i + 1) * n ≤ l.length * n := Nat.mul_le_mul_right _ hi
    rw [Nat.succ_mul] at this; omega
  obtain ⟨b, off, cap, rfl, _, h3⟩ := h.cells (by omega)
  rw [Nat.add_assoc]
  exact (h3 _ hin).trans ((Enc.flat_at l i hi f hfn).trans hf)
theorem Enc.flat_drop [he : Enc enc n] : ∀ (l : List α) (k : Nat), (l.drop k).flatMap enc = (l.flatMap enc).drop (k * n)
  | [], k => by simp
  | a :: l, 0 => by simp
  | a :: l, k + 1 => by
    rw [List.drop_succ_cons, Enc.flat_drop l k, List.flatMap_cons, Nat.succ_mul, Nat.add_comm, ← List.drop_drop, List.drop_left' (he.len a)]
theorem Enc.flat_take [he : Enc enc n] : ∀ (l : List α) (k : Nat), (l.take k).flatMap enc = (l.flatMap enc).take (k * n)
  | [], k => by simp
  | a :: l, 0 => by simp
  | a :: l, k + 1 => by
    have h1 : (enc a).take ((k + 1) * n) = enc a := List.take_of_length_le (by rw [he.len, Nat.succ_mul]; omega)
    rw [List.take_succ_cons, List.flatMap_cons, Enc.flat_take l k, List.flatMap_cons, List.take_append, he.len, h1, Nat.succ_mul, Nat.add_sub_cancel]
/-- A part of a slice. -/
def subV (v : Value) (lo hi : Nat) (cut : Option Nat) (n : Nat) : Value :=
  match v with
  | .slice a _ cap => .slice (if cut.getD cap = lo then a else a.map (·.add (lo * n))) (hi - lo) (cut.getD cap - lo)
  | v => v
theorem reads.sub {w : World} {m len : Nat} {xs : List Value} (h : reads w m v len xs) {lo hi : Nat} (h1 : lo ≤ hi) (h2 : hi ≤ len) {cut : Option Nat} (hc : cut = none ∨ cut = some hi) : reads w m (subV v lo hi cut m) (hi - lo) ((xs.drop (lo * m)).take ((hi - lo) * m)) := by
  obtain ⟨hl, a, cap, rfl, hcap, ha⟩ := h
  have hmul : hi * m ≤ len * m := Nat.mul_le_mul_right _ h2
  have hsub : (hi - lo) * m = hi * m - lo * m := Nat.sub_mul _ _ _
  refine ⟨by rw [List.length_take, List.length_drop, hl, hsub]; omega, _, _, rfl, ?_, ?_⟩
  · rcases hc with rfl | rfl <;> simp <;> omega
  · by_cases h0 : (hi - lo) * m = 0
    · exact .inl h0
    · right
      have hlt : lo < hi := by
        rcases Nat.lt_or_ge lo hi with h | h
        · exact h
        · exact absurd (by rw [Nat.sub_eq_zero_of_le h, Nat.zero_mul]) h0
      have hm : 0 < m := by
        rcases Nat.eq_zero_or_pos m with h | h
        · subst h; simp at h0
        · exact h
      have hlm : lo * m < hi * m := Nat.mul_lt_mul_of_pos_right hlt hm
      rcases ha with h3 | ⟨b, off, rfl, hcell⟩
      · omega
      · refine ⟨b, off + lo * m, ?_, fun i hi' => ?_⟩
        · rcases hc with rfl | rfl
          · rw [if_neg (by simp; omega)]
            simp only [Option.map_some]
            unfold Addr.add; split
            · rename_i h; simp [h]
            · rfl
          · rw [if_neg (by simp; omega)]
            simp only [Option.map_some]
            unfold Addr.add; split
            · rename_i h; simp [h]
            · rfl
        · rw [List.getElem?_take, if_pos hi', List.getElem?_drop, Nat.add_assoc]
          exact hcell _ (by omega)
/-- The part, with what it is a part of, and that it is one. -/
def secV (v : Value) (lo hi : Nat) (cut : Option Nat) (N n : Nat) (h : (lo ≤ hi ∧ hi ≤ N) ∧ (cut = none ∨ cut = some hi)) : Value := subV v lo hi cut n
instance Reads.sec {lo hi : Nat} {cut : Option Nat} [he : Enc enc n] [hr : Reads F v enc n l] {h : (lo ≤ hi ∧ hi ≤ l.length) ∧ (cut = none ∨ cut = some hi)} : Reads F (secV v lo hi cut l.length n h) enc n ((l.take hi).drop lo) := ⟨fun w hw => by
  have h3 := (hr.at_ w hw).sub h.1.1 h.1.2 h.2
  have hlen : ((l.take hi).drop lo).length = hi - lo := by rw [List.length_drop, List.length_take, Nat.min_eq_left h.1.2]
  have hcells : ((l.take hi).drop lo).flatMap enc = ((l.flatMap enc).drop (lo * n)).take ((hi - lo) * n) := by
    rw [Enc.flat_drop, Enc.flat_take, List.drop_take, Nat.sub_mul]
  rw [hlen, hcells]
  exact h3⟩
end

section
variable {P : Program} {n : Nat} {Q : Exit → Act → World → Prop} {env : Env} {F : List HProp} {ops : Array Oper} {rest : List Oper} {d : Tmp} {ty : TypeId} {pos : String} {aft : Array Edge}

/-! ### Addresses -/
theorem addr_add (b off k : Nat) : (⟨b, off, none⟩ : Addr).add k = ⟨b, off + k, none⟩ := by
  unfold Addr.add; split
  · rename_i h; subst h; rfl
  · rfl
theorem Runs.fieldAddr {t : TypeId} {x : Operand} {f off : Nat} {ft : TypeId} {b o : Nat} [h : FieldT P t f off ft] (hx : opnd env x = some (.pointer (some ⟨b, o, none⟩))) : Runs P n env F (.fieldAddr t x f) (.pointer (some ⟨b, o + off, none⟩)) := .mk fun a w ty pos aft g d hf hw => by
  obtain ⟨fs, fd, i, h1, h2, h3, h4, h5, h6⟩ := h.ok
  simp [execOp, hf.eval hx, Instr.fieldAt, run_underlying h1, h2, Instr.sureAddr, fieldPlace, sizeOf, typeInfo, h4, h5, h6, h3, addr_add, Result.andThen]
theorem Runs.indexAddr {α : Type} {t e : TypeId} {x y : Operand} {v : Value} {i : Int} {k : Nat} {enc : α → List Value} {m size : Nat} {l : List α} [ht : SliceT P t e size] [he : Enc enc m] [hr : Reads F v enc m l] (hx : opnd env x = some v) (hy : opnd env y = some (.int .i64 i)) (hm : m = size) (hik : i = (k : Int)) (hk : k < l.length) :
    Runs P n env F (.indexAddr t x y) (.pointer (some ⟨rowB v, rowO v + k * m, none⟩)) := .mk fun a w ty pos aft g d hf hw => by
  subst hm hik
  obtain ⟨i, h1, h2, h3⟩ := ht.ok
  obtain ⟨b, off, cap, rfl, _, _⟩ := (hr.at_ w hw).cells (Nat.mul_pos (by omega) he.pos)
  simp [execOp, hf.eval hx, hf.eval hy, Instr.indexAt, asIntOf, run_underlying h1, sizeOf, typeInfo, h2, h3, hk, addr_add, rowB, rowO, Result.andThen]
theorem Runs.indexAddrI {α : Type} {t e : TypeId} {x y : Operand} {v : Value} {i : Int} {enc : α → List Value} {m size : Nat} {l : List α} [ht : SliceT P t e size] [he : Enc enc m] [hr : Reads F v enc m l] (hx : opnd env x = some v) (hy : opnd env y = some (.int .i64 i)) (hm : m = size) (h0 : 0 ≤ i) (hk : i < l.length) :
    Runs P n env F (.indexAddr t x y) (.pointer (some ⟨rowB v, rowO v + i.toNat * m, none⟩)) := Runs.indexAddr hx hy hm (by omega) (by omega)
/-- .. into an array that lies in a block. -/
theorem Runs.indexArr {t e : TypeId} {x y : Operand} {i : Int} {k b o len size : Nat} [ht : ArrT P t len e size] (hx : opnd env x = some (.pointer (some ⟨b, o, none⟩))) (hy : opnd env y = some (.int .i64 i)) (hik : i = (k : Int)) (hk : k < len) :
    Runs P n env F (.indexAddr t x y) (.pointer (some ⟨b, o + k * size, none⟩)) := .mk fun a w ty pos aft g d hf hw => by
  subst hik
  obtain ⟨i, h1, h2, h3⟩ := ht.ok
  simp [execOp, hf.eval hx, hf.eval hy, Instr.indexAt, asIntOf, run_underlying h1, Instr.sureAddr, sizeOf, typeInfo, h2, h3, hk, addr_add, Result.andThen]
theorem Runs.indexVal {t e : TypeId} {x y : Operand} {i : Int} {k len : Nat} {cs : Array Value} {u : Value} [ht : ArrT P t len e 1] [hc : CellT P e] (hx : opnd env x = some (.agg cs)) (hy : opnd env y = some (.int .i64 i)) (hik : i = (k : Int)) (hk : k < len) (hu : nthL cs.toList k = some u) :
    Runs P n env F (.index t x y) u := .mk fun a w ty pos aft g d hf hw => by
  have hu := nthL_arr hu
  subst hik
  obtain ⟨i, h1, h2, h3⟩ := ht.ok
  obtain ⟨i', d', g1, g2, g3, g4⟩ := hc.ok
  cases d' <;> simp [aggDesc] at g4 <;> simp [execOp, hf.eval hx, hf.eval hy, Instr.index, asIntOf, run_underlying h1, sizeOf, typeInfo, h2, h3, hk, part, isAgg, run_underlying g3, hu, Result.andThen]

/-! ### Loads -/
theorem Runs.loadBlk {t : TypeId} {x : Operand} {b o : Nat} {c : Array Value} {u : Value} [CellT P t] [hb : SeesBlk F b c] (hx : opnd env x = some (.pointer (some ⟨b, o, none⟩))) (hu : nthL c.toList o = some u) : Runs P n env F (.load t x) u := .mk fun a w ty pos aft g d hf hw => by
  have hu := nthL_arr hu
  obtain ⟨T, fz, h⟩ := hb.at_ w hw
  have hc : w.cell? ⟨b, o, none⟩ = some u := (cell_of_row w b o c T fz h).trans hu
  simp [execOp, hf.eval hx, Instr.loadAt, Instr.sureAddr, run_loadCell (P := P) (t := t) hc, Result.andThen]
/-- A struct or array out of a block. -/
theorem Runs.loadBlkA {t : TypeId} {x : Operand} {b o size : Nat} {c : Array Value} {vs : List Value} [AggT P t size] [hb : SeesBlk F b c] (hx : opnd env x = some (.pointer (some ⟨b, o, none⟩))) (hu : (c.toList.drop o).take size = vs) (hl : Nat.beq vs.length size = true) : Runs P n env F (.load t x) (.agg vs.toArray) := .mk fun a w ty pos aft g d hf hw => by
  have hl : vs.length = size := Nat.eq_of_beq_eq_true hl
  obtain ⟨T, fz, h⟩ := hb.at_ w hw
  have := run_loadAgg (P := P) (t := t) (b := b) (off := o) (w := w) (vs := vs) hl fun j hj => by
    rw [cell_of_row w b (o + j) c T fz h, ← hu, List.getElem?_take, if_pos hj, List.getElem?_drop, Array.getElem?_toList]
  simp [execOp, hf.eval hx, Instr.loadAt, Instr.sureAddr, this, Result.andThen]
/-- The whole of a block. -/
theorem Runs.loadWhole {t : TypeId} {x : Operand} {b size : Nat} {c : Array Value} [AggT P t size] (hx : opnd env x = some (.pointer (some ⟨b, 0, none⟩))) [hb : SeesBlk F b c] (hl : Nat.beq c.size size = true) : Runs P n env F (.load t x) (.agg c) := .mk fun a w ty pos aft g d hf hw => by
  have hl : c.size = size := Nat.eq_of_beq_eq_true hl
  have h := (Runs.loadBlkA (P := P) (n := n) (env := env) (F := F) (t := t) (x := x) (b := b) (o := 0) (size := size) (c := c) (vs := c.toList) hx (by rw [List.drop_zero, List.take_of_length_le (by simp [hl])]) (by rw [Array.length_toList, hl]; simp)).out a w ty pos aft g d hf hw
  simpa using h
theorem Runs.loadRow {α : Type} {t : TypeId} {x : Operand} {v u : Value} {enc : α → List Value} {m i f : Nat} {l : List α} [CellT P t] [he : Enc enc m] (hx : opnd env x = some (.pointer (some ⟨rowB v, rowO v + i * m + f, none⟩))) [hr : Reads F v enc m l] (hi : i < l.length) (hu : nthL (enc l[i]) f = some u) :
    Runs P n env F (.load t x) u := .mk fun a w ty pos aft g d hf hw => by
  rw [nthL_eq] at hu
  have hc := reads.cellAt (hr.at_ w hw) hi hu
  simp [execOp, hf.eval hx, Instr.loadAt, Instr.sureAddr, run_loadCell (P := P) (t := t) hc, Result.andThen]
theorem Runs.loadRow0 {α : Type} {t : TypeId} {x : Operand} {v u : Value} {enc : α → List Value} {m i : Nat} {l : List α} [CellT P t] [he : Enc enc m] (hx : opnd env x = some (.pointer (some ⟨rowB v, rowO v + i * m, none⟩))) [hr : Reads F v enc m l] (hi : i < l.length) (hu : nthL (enc l[i]) 0 = some u) :
    Runs P n env F (.load t x) u := Runs.loadRow (f := 0) hx hi hu
/-- A whole element. -/
theorem Runs.loadElem {α : Type} {t : TypeId} {x : Operand} {v : Value} {enc : α → List Value} {m i : Nat} {l : List α} [AggT P t m] [he : Enc enc m] (hx : opnd env x = some (.pointer (some ⟨rowB v, rowO v + i * m, none⟩))) [hr : Reads F v enc m l] (hi : i < l.length) :
    Runs P n env F (.load t x) (.agg (enc l[i]).toArray) := .mk fun a w ty pos aft g d hf hw => by
  have := run_loadAgg (P := P) (t := t) (b := rowB v) (off := rowO v + i * m) (w := w) (vs := enc l[i]) (he.len _) fun j hj => by
    have hj' : j < (enc l[i]).length := by rw [he.len]; exact hj
    rw [List.getElem?_eq_getElem hj']
    exact reads.cellAt (hr.at_ w hw) hi (List.getElem?_eq_getElem hj')
  simp [execOp, hf.eval hx, Instr.loadAt, Instr.sureAddr, this, Result.andThen]
/-- A field of a struct in a slot. -/
theorem Runs.fieldVal {t : TypeId} {x : Operand} {f off : Nat} {ft : TypeId} {cs : Array Value} {u : Value} [h : FieldT P t f off ft] [hc : CellT P ft] (hx : opnd env x = some (.agg cs)) (hu : nthL cs.toList off = some u) : Runs P n env F (.field t x f) u := .mk fun a w ty pos aft g d hf hw => by
  have hu := nthL_arr hu
  obtain ⟨fs, fd, i, h1, h2, h3, h4, h5, h6⟩ := h.ok
  obtain ⟨i', d', g1, g2, g3, g4⟩ := hc.ok
  cases d' <;> simp [aggDesc] at g4 <;> simp [execOp, hf.eval hx, Instr.field, run_underlying h1, h2, h3, h4, asAgg, part, isAgg, run_underlying g3, hu, Result.andThen]
theorem Runs.fieldAgg {t : TypeId} {x : Operand} {f off size : Nat} {ft : TypeId} {cs : Array Value} [h : FieldT P t f off ft] [hc : AggT P ft size] (hx : opnd env x = some (.agg cs)) : Runs P n env F (.field t x f) (.agg (cs.extract off (off + size))) := .mk fun a w ty pos aft g d hf hw => by
  obtain ⟨fs, fd, i, h1, h2, h3, h4, h5, h6⟩ := h.ok
  obtain ⟨i', d', g1, g2, g3, g4⟩ := hc.ok
  cases d' <;> simp [aggDesc] at g4 <;> simp [execOp, hf.eval hx, Instr.field, run_underlying h1, h2, h3, h4, asAgg, part, isAgg, run_underlying g3, sizeOf, typeInfo, g1, g2, Result.andThen]
theorem Runs.lenRow {α : Type} {t e : TypeId} {x : Operand} {v : Value} {enc : α → List Value} {m size : Nat} {l : List α} [ht : SliceT P t e size] (hx : opnd env x = some v) [hr : Reads F v enc m l] :
    Runs P n env F (.call { callee := .builtin .len, args := #[x], argTypes := #[t] }) (.int .i64 l.length) := .mk fun a w ty pos aft g d hf hw => by
  obtain ⟨i, h1, h2, h3⟩ := ht.ok
  obtain ⟨c, cap, rfl, _⟩ := (hr.at_ w hw).form
  simp [execOp, resolve, invoke, builtin, Builtin.len_, hf.eval hx, run_underlying h1, goInt, Result.andThen]
theorem Runs.lenArr {t e : TypeId} {x : Operand} {v : Value} {m size : Nat} [ht : ArrT P t m e size] (hx : opnd env x = some v) :
    Runs P n env F (.call { callee := .builtin .len, args := #[x], argTypes := #[t] }) (.int .i64 m) := .mk fun a w ty pos aft g d hf hw => by
  obtain ⟨i, h1, h2, h3⟩ := ht.ok
  simp [execOp, resolve, invoke, builtin, Builtin.len_, hf.eval hx, run_underlying h1, goInt, Result.andThen]

/-! ### Struct values -/
theorem Fits.parts {a : Act} (hf : Fits n a env) : ∀ (l : List (Nat × Operand)) (qs : List (Nat × Value)), l.mapM (fun p => (opnd env p.2).map (Prod.mk p.1)) = some qs → l.map (fun p => (p.1, a.eval p.2)) = qs := by
  intro l
  induction l with
  | nil => intro qs hqs; simp at hqs; simp [hqs]
  | cons p' l' ih' =>
    intro qs hqs
    simp only [List.mapM_cons, Option.bind_eq_bind, Option.bind_eq_some_iff, Option.map_eq_some_iff, Option.pure_def, Option.some.injEq] at hqs
    obtain ⟨q', ⟨v', hv', rfl⟩, qs', hqs', rfl⟩ := hqs
    simp [hf.eval hv', ih' qs' hqs']
theorem Fits.parts' {a : Act} (hf : Fits n a env) {l : List (Nat × Operand)} {qs : List (Nat × Value)} (h : l.mapM (fun p => (opnd env p.2).map (Prod.mk p.1)) = some qs) : (l.toArray.map fun x => match x with | (i, x) => (i, a.eval x)) = qs.toArray := by
  have : (l.toArray.map fun p => (p.1, a.eval p.2)) = qs.toArray := by simp [hf.parts _ _ h]
  exact this
def partsOf (env : Env) : List (Nat × Operand) → Option (List (Nat × Value))
  | [] => some []
  | (i, x) :: l => match opnd env x, partsOf env l with
    | some v, some vs => some ((i, v) :: vs)
    | _, _ => none
theorem partsOf_mapM : ∀ (l : List (Nat × Operand)), l.mapM (fun p => (opnd env p.2).map (Prod.mk p.1)) = partsOf env l
  | [] => rfl
  | (i, x) :: l => by
    rw [List.mapM_cons, partsOf_mapM l, partsOf]
    cases opnd env x <;> cases partsOf env l <;> rfl
def putAt (l : List Value) (off : Nat) (vs : List Value) : List Value := l.take off ++ (vs ++ l.drop (off + vs.length))
theorem foldl_put (off : Nat) : ∀ (vs : List Value) (k : Nat) (cs : Array Value), off + k + vs.length ≤ cs.size →
    ((vs.zipIdx k).foldl (fun (cs : Array Value) (p : Value × Nat) => cs.setIfInBounds (off + p.2) p.1) cs) = (putAt cs.toList (off + k) vs).toArray
  | [], k, cs, _ => by simp [putAt]
  | v :: vs, k, cs, h => by
    simp only [List.length_cons] at h
    rw [List.zipIdx_cons, List.foldl_cons, foldl_put off vs (k + 1) _ (by simp; omega)]
    congr 1
    unfold putAt
    apply List.ext_getElem?
    intro j
    simp only [Array.toList_setIfInBounds, List.getElem?_append, List.getElem?_take, List.getElem?_drop, List.length_append, List.length_take, List.length_drop, List.length_set, Array.length_toList, List.length_cons, List.getElem?_set, List.getElem?_cons]
    repeat' split
    all_goals first | rfl | (exfalso; omega) | (congr 1; omega) | skip
def fillL (pl : List (Nat × Nat)) : List Value → List (Nat × Value) → Option (List Value)
  | l, [] => some l
  | l, (i, v) :: ps => match pl[i]? with
    | none => none
    | some (off, size) => if (Nat.beq v.cells.size size && Nat.ble (off + v.cells.size) l.length) = true then fillL pl (putAt l off v.cells.toList) ps else none
theorem fill_fillL (pl : List (Nat × Nat)) (place : Nat → Option (Nat × Nat)) (hp : ∀ i q, pl[i]? = some q → place i = some q) : ∀ (ps : List (Nat × Value)) (l r : List Value), fillL pl l ps = some r → Instr.fill place l.toArray ps = some r.toArray
  | [], l, r, h => by simp only [fillL, Option.some.injEq] at h; subst h; rfl
  | (i, v) :: ps, l, r, h => by
    unfold fillL at h
    unfold Instr.fill
    cases hi : pl[i]? with
    | none => simp [hi] at h
    | some q =>
      rw [hp i q hi]
      obtain ⟨off, size⟩ := q
      simp only [hi] at h
      split at h
      · rename_i hc
        simp only [Bool.and_eq_true] at hc
        have h1 := Nat.eq_of_beq_eq_true hc.1
        have h2 := Nat.le_of_ble_eq_true hc.2
        simp only []
        have hfold : (v.cells.zipIdx.foldl (fun cs (c, j) => cs.setIfInBounds (off + j) c) l.toArray) = (putAt l off v.cells.toList).toArray := by
          have := foldl_put off v.cells.toList 0 l.toArray (by simpa using h2)
          rw [Nat.add_zero] at this
          rw [← Array.foldl_toList, Array.toList_zipIdx]
          exact this
        have ih := fill_fillL pl place hp ps _ r h
        split
        · rename_i hbad
          simp only [ne_eq, Bool.or_eq_true, decide_eq_true_eq] at hbad
          simp [h1] at hbad
          omega
        · rw [hfold]; exact ih
      · cases h
/-- A struct's or an array's places, and its zero. -/
class BuildT (P : Program) (t : TypeId) (pl : outParam (List (Nat × Nat))) (z : outParam (List Value)) : Prop where
  ok : ∀ (ps : List (Nat × Value)) (r : List Value), fillL pl z ps = some r → P.built t ps = some r.toArray
theorem BuildT.ofStruct {t : TypeId} {pl : List (Nat × Nat)} {z : List Value} {fs : Array Field} (hz : (P.info? t).map (·.zero) = some (some (.agg z.toArray))) (hu : P.underlying t = some (.struct fs))
    (hp : fs.toList.mapM (fun f => (P.info? f.type).map fun i => (f.offset, i.size)) = some pl) : BuildT P t pl z := ⟨fun ps r hr => by
  cases hi : P.info? t with
  | none => simp [hi] at hz
  | some i =>
    simp [hi] at hz
    have := fill_fillL pl (fun i => pl.toArray[i]?) (fun i q h => by simpa using h) ps z r hr
    simp only [Program.built, hi, hu, hz, hp]
    exact this⟩
theorem BuildT.ofArr {t : TypeId} {pl : List (Nat × Nat)} {z : List Value} {m e size : Nat} (hz : (P.info? t).map (·.zero) = some (some (.agg z.toArray))) (hu : P.underlying t = some (.array m e)) (he : (P.info? e).map (·.size) = some size)
    (hp : ∀ p ∈ pl.zipIdx, p.1 = (p.2 * size, size)) : BuildT P t pl z := ⟨fun ps r hr => by
  cases hi : P.info? t with
  | none => simp [hi] at hz
  | some i =>
    simp [hi] at hz
    cases hie : P.info? e with
    | none => simp [hie] at he
    | some ie =>
      simp [hie] at he
      subst he
      have := fill_fillL pl (fun i => some (i * ie.size, ie.size)) (fun i q h => by
        have h2 := hp (q, i) (by rw [List.mk_mem_zipIdx_iff_getElem?]; exact h)
        simp only at h2; rw [h2]) ps z r hr
      simp only [Program.built, hi, hu, hz, hie]
      exact this⟩
theorem Runs.build {t : TypeId} {parts : List (Nat × Operand)} {ps : List (Nat × Value)} {pl : List (Nat × Nat)} {z cs : List Value} [hb : BuildT P t pl z] (hp : partsOf env parts = some ps) (hr : fillL pl z ps = some cs) : Runs P n env F (.build t parts.toArray) (.agg cs.toArray) := .mk fun a w ty pos aft g d hf hw => by
  simp only [execOp]
  rw [hf.parts' (by rw [partsOf_mapM]; exact hp)]
  have := run_build w t ps.toArray cs.toArray (hb.ok ps cs hr)
  simp [this, Result.andThen]

/-- 'v[lo:hi]'. -/
def bnd (env : Env) (o : Option Operand) (dflt : Nat) : Option Int :=
  match o with
  | none => some (dflt : Int)
  | some x => match opnd env x with
    | some (.int .i64 i) => some i
    | _ => none
theorem Fits.bound {a : Act} (hf : Fits n a env) {x : Operand} {m : Nat} {i : Int} (h : bnd env (some x) m = some i) : a.eval x = .int .i64 i := by
  unfold bnd at h
  simp only at h
  split at h
  · rename_i j hj; cases h; exact hf.eval hj
  · cases h
theorem Runs.slice {α : Type} {t e : TypeId} {x : Operand} {lo hi : Option Operand} {v : Value} {enc : α → List Value} {m size : Nat} {l : List α} {i j : Int} [ht : SliceT P t e size] [he : Enc enc m] [hr : Reads F v enc m l] (a b : Nat) (hx : opnd env x = some v) (hlo : bnd env lo 0 = some i) (hhi : bnd env hi l.length = some j) (hm : m = size)
    (hia : i = (a : Int)) (hj : j = (b : Int)) (hab : (a ≤ b ∧ b ≤ l.length) ∧ ((none : Option Nat) = none ∨ (none : Option Nat) = some b)) : Runs P n env F (.slice t x lo hi none) (secV v a b none l.length m hab) := .mk fun ac w ty pos aft g d hf hw => by
  subst hm hia hj
  obtain ⟨⟨h1, h2⟩, _⟩ := id hab
  obtain ⟨it, g1, g2, g3⟩ := ht.ok
  obtain ⟨ad, cap, rfl, hcap⟩ := (hr.at_ w hw).form
  have h4 : b ≤ cap := by omega
  have hsl : ∀ (L H : Option Value), (L = none ∧ a = 0 ∨ L = some (.int .i64 a)) → (H = none ∧ b = l.length ∨ H = some (.int .i64 b)) → (Instr.sliceBounds true l.length cap L H none).run P w = .ok (a, b, cap) w := by
    rintro L H (⟨rfl, rfl⟩ | rfl) (⟨rfl, rfl⟩ | rfl) <;> simp [Instr.sliceBounds, Instr.sliceBound, asIntOf, h1, h2, h4, Result.andThen]
  have hL : lo.map ac.eval = none ∧ a = 0 ∨ lo.map ac.eval = some (.int .i64 a) := by
    cases lo with
    | none => left; simp only [bnd, Option.some.injEq] at hlo; exact ⟨rfl, by omega⟩
    | some x => right; simp [hf.bound hlo]
  have hH : hi.map ac.eval = none ∧ b = l.length ∨ hi.map ac.eval = some (.int .i64 b) := by
    cases hi with
    | none => left; simp only [bnd, Option.some.injEq] at hhi; exact ⟨rfl, by omega⟩
    | some x => right; simp [hf.bound hhi]
  have := hsl _ _ hL hH
  simp [execOp, hf.eval hx, Instr.sliceAt, run_underlying g1, Instr.slice, this, sizeOf, typeInfo, g2, g3, secV, subV, Result.andThen]
theorem Runs.slice3 {α : Type} {t e : TypeId} {x y z : Operand} {lo : Option Operand} {v : Value} {enc : α → List Value} {m size : Nat} {l : List α} {i j : Int} [ht : SliceT P t e size] [he : Enc enc m] [hr : Reads F v enc m l] (a b : Nat) (hx : opnd env x = some v) (hlo : bnd env lo 0 = some i) (hhi : bnd env (some y) l.length = some j) (hmx : bnd env (some z) 0 = some j) (hm : m = size)
    (hia : i = (a : Int)) (hj : j = (b : Int)) (hab : (a ≤ b ∧ b ≤ l.length) ∧ ((some b : Option Nat) = none ∨ (some b : Option Nat) = some b)) : Runs P n env F (.slice t x lo (some y) (some z)) (secV v a b (some b) l.length m hab) := .mk fun ac w ty pos aft g d hf hw => by
  subst hm hia hj
  obtain ⟨⟨h1, h2⟩, _⟩ := id hab
  obtain ⟨it, g1, g2, g3⟩ := ht.ok
  obtain ⟨ad, cap, rfl, hcap⟩ := (hr.at_ w hw).form
  have h4 : b ≤ cap := by omega
  have hsl : ∀ (L : Option Value), (L = none ∧ a = 0 ∨ L = some (.int .i64 a)) → (Instr.sliceBounds true l.length cap L (some (.int .i64 b)) (some (.int .i64 b))).run P w = .ok (a, b, b) w := by
    rintro L (⟨rfl, rfl⟩ | rfl) <;> simp [Instr.sliceBounds, Instr.sliceBound, asIntOf, h1, h2, h4, Result.andThen]
  have hL : lo.map ac.eval = none ∧ a = 0 ∨ lo.map ac.eval = some (.int .i64 a) := by
    cases lo with
    | none => left; simp only [bnd, Option.some.injEq] at hlo; exact ⟨rfl, by omega⟩
    | some x => right; simp [hf.bound hlo]
  have := hsl _ hL
  simp [execOp, hf.eval hx, hf.bound hhi, hf.bound hmx, Instr.sliceAt, run_underlying g1, Instr.slice, this, sizeOf, typeInfo, g2, g3, secV, subV, Result.andThen]

/-! ### New blocks -/
theorem run_newObj (o : Obj) (w : World) : (newObj o : Sem Nat).run P w = .ok w.heap.size (w.alloc o) := rfl
theorem GL.box {e : TypeId} {x : Operand} {v : Value} (hx : opnd env x = some v) (hd : Nat.blt d n = true) (h : ∀ b, GL P n ops Q rest ((d, .pointer (some ⟨b, 0, none⟩)) :: env) (blk b (.cells v.cells e (0, 0)) :: F)) :
    GL P n ops Q (⟨some d, .box e x, ty, pos, aft, none⟩ :: rest) env F := .mk fun a w hf hw => by
  refine wpList_plain rfl fun K hK => ?_
  unfold Oper.wp
  have hr : (execOp a.eval ⟨some d, .box e x, ty, pos, aft, none⟩).run P w = .ok (.value (.pointer (some ⟨w.heap.size, 0, none⟩))) (w.alloc (.cells v.cells e (0, 0))) := by
    simp [execOp, hf.eval hx, Instr.box, newVar, newRow, run_newObj, Result.andThen]
  rw [hr]
  exact hK _ _ (h _ _ _ (hf.put hd _) (hw.alloc _))
theorem GL.boxA {e : TypeId} {x : Operand} {cs : Array Value} (hx : opnd env x = some (.agg cs)) (hd : Nat.blt d n = true) (h : ∀ b, GL P n ops Q rest ((d, .pointer (some ⟨b, 0, none⟩)) :: env) (blk b (.cells cs e (0, 0)) :: F)) :
    GL P n ops Q (⟨some d, .box e x, ty, pos, aft, none⟩ :: rest) env F := GL.box hx hd h
theorem GL.alloc {e : TypeId} {z : Value} {size bytes : Nat} [hz : ZeroT P e z size bytes] (hd : Nat.blt d n = true) (h : ∀ b, GL P n ops Q rest ((d, .pointer (some ⟨b, 0, none⟩)) :: env) (blk b (.cells z.cells e (0, 0)) :: F)) :
    GL P n ops Q (⟨some d, .alloc e, ty, pos, aft, none⟩ :: rest) env F := .mk fun a w hf hw => by
  refine wpList_plain rfl fun K hK => ?_
  unfold Oper.wp
  obtain ⟨i, h1, h2, _⟩ := hz.ok
  have hr : (execOp a.eval ⟨some d, .alloc e, ty, pos, aft, none⟩).run P w = .ok (.value (.pointer (some ⟨w.heap.size, 0, none⟩))) (w.alloc (.cells z.cells e (0, 0))) := by
    simp [execOp, Instr.alloc, zeroValue, typeInfo, h1, h2, newVar, newRow, run_newObj, Result.andThen]
  rw [hr]
  exact hK _ _ (h _ _ _ (hf.put hd _) (hw.alloc _))
theorem run_buildSlice {t e : TypeId} {size m bytes : Nat} {z : Value} (ht : SliceT P t e size) (hz : ZeroT P e z size bytes) (hpos : 0 < m * size) (hm : m * size ≤ 16777216) (ps : List (Nat × Value)) (r : List Value)
    (hr : fillL ((List.range m).map fun i => (i * size, size)) (List.replicate (m * size) (default : Value)) ps = some r) (hall : ∀ l, l.length = m * size → fillL ((List.range m).map fun i => (i * size, size)) l ps = some r) (w : World) :
    (Instr.buildSlice t m ps.toArray).run P w = .ok (.slice (some ⟨w.heap.size, 0, none⟩) m m) (w.alloc (.cells r.toArray e (0, 0))) := by
  obtain ⟨i, h1, h2, h3⟩ := ht.ok
  obtain ⟨i', g1, g2, g3, g4, g5⟩ := hz.ok
  rw [h2] at g1; cases g1
  have hne : ¬ m * size = 0 := by omega
  have hfill : Instr.fill (fun i => some (i * size, size)) ((Array.range (m * size)).map (z.cells[· % z.cells.size]!)) ps = some r.toArray := by
    have h4 := fill_fillL ((List.range m).map fun i => (i * size, size)) (fun i => some (i * size, size)) (fun i q h => by
      simp only [List.getElem?_map, Option.map_eq_some_iff] at h
      obtain ⟨k, hk, rfl⟩ := h
      obtain ⟨hlt, hk⟩ := List.getElem?_eq_some_iff.1 hk
      simp at hk; subst hk; rfl) ps ((Array.range (m * size)).map (z.cells[· % z.cells.size]!)).toList r (hall _ (by simp))
    rw [Array.toArray_toList] at h4
    exact h4
  have hle : ¬ (m * size > 2 ^ 24) := by omega
  simp only [Instr.buildSlice, Sem.run_bind, run_underlying h1, Result.andThen_ok, sizeOf, typeInfo]
  simp [h2, h3, g2, hle, hne, zeroValue, typeInfo, hfill, newRow, run_newObj, Result.andThen]
/-- '[]T{x}': a new row of one element. -/
theorem GL.buildSlice1 {t e : TypeId} {size bytes : Nat} {z : Value} {x : Operand} {v : Value} [ht : SliceT P t e size] [hz : ZeroT P e z size bytes] (hx : opnd env x = some v) (hs : Nat.beq v.cells.size size = true) (h0 : Nat.blt 0 size = true) (h1 : Nat.ble size 16777216 = true) (hd : Nat.blt d n = true)
    (h : ∀ b, GL P n ops Q rest ((d, .slice (some ⟨b, 0, none⟩) 1 1) :: env) (blk b (.cells v.cells e (0, 0)) :: F)) :
    GL P n ops Q (⟨some d, .buildSlice t 1 #[(0, x)], ty, pos, aft, none⟩ :: rest) env F := .mk fun a w hf hw => by
  refine wpList_plain rfl fun K hK => ?_
  unfold Oper.wp
  have hs := Nat.eq_of_beq_eq_true hs
  have h0 : 0 < size := by simpa [Nat.blt_eq] using h0
  have h1 := Nat.le_of_ble_eq_true h1
  have hall : ∀ l : List Value, l.length = 1 * size → fillL ((List.range 1).map fun i => (i * size, size)) l [(0, v)] = some v.cells.toList := by
    intro l hl
    have hl' : l.length = size := by simpa using hl
    have hp : putAt l 0 v.cells.toList = v.cells.toList := by
      unfold putAt
      rw [List.take_zero, List.nil_append, List.drop_eq_nil_of_le (by simp [hs, hl']), List.append_nil]
    simp [fillL, List.range_succ, hs, hl', hp]
  have hr : (execOp a.eval ⟨some d, .buildSlice t 1 #[(0, x)], ty, pos, aft, none⟩).run P w = .ok (.value (.slice (some ⟨w.heap.size, 0, none⟩) 1 1)) (w.alloc (.cells v.cells e (0, 0))) := by
    have := run_buildSlice ht hz (m := 1) (by omega) (by omega) [(0, v)] v.cells.toList (hall _ (by simp)) hall w
    have e1 : (#[(0, x)].map fun x => match x with | (i, x) => (i, a.eval x)) = #[(0, v)] := by simp [hf.eval hx]
    simp only [execOp]
    rw [e1]
    have e2 : ([(0, v)] : List (Nat × Value)).toArray = #[(0, v)] := rfl
    rw [e2] at this
    simp [this, Result.andThen]
  rw [hr]
  exact hK _ _ (h _ _ _ (hf.put hd _) (hw.alloc _))
theorem GL.buildSlice1A {t e : TypeId} {size bytes : Nat} {z : Value} {x : Operand} {cs : Array Value} [ht : SliceT P t e size] [hz : ZeroT P e z size bytes] (hx : opnd env x = some (.agg cs)) (hs : Nat.beq cs.size size = true) (h0 : Nat.blt 0 size = true) (h1 : Nat.ble size 16777216 = true) (hd : Nat.blt d n = true)
    (h : ∀ b, GL P n ops Q rest ((d, .slice (some ⟨b, 0, none⟩) 1 1) :: env) (blk b (.cells cs e (0, 0)) :: F)) :
    GL P n ops Q (⟨some d, .buildSlice t 1 #[(0, x)], ty, pos, aft, none⟩ :: rest) env F := GL.buildSlice1 hx hs h0 h1 hd h
/-- '[]T{x, y, ..}'. -/
theorem GL.buildSlice {t e : TypeId} {size m bytes : Nat} {z : Value} {parts : List (Nat × Operand)} {ps : List (Nat × Value)} {r : List Value} [ht : SliceT P t e size] [hz : ZeroT P e z size bytes] (hp : partsOf env parts = some ps) (hpos : Nat.blt 0 (m * size) = true) (hm : Nat.ble (m * size) 16777216 = true)
    (hr : fillL ((List.range m).map fun i => (i * size, size)) (List.replicate (m * size) (default : Value)) ps = some r) (hall : ∀ l, l.length = m * size → fillL ((List.range m).map fun i => (i * size, size)) l ps = some r) (hd : Nat.blt d n = true)
    (h : ∀ b, GL P n ops Q rest ((d, .slice (some ⟨b, 0, none⟩) m m) :: env) (blk b (.cells r.toArray e (0, 0)) :: F)) :
    GL P n ops Q (⟨some d, .buildSlice t m parts.toArray, ty, pos, aft, none⟩ :: rest) env F := .mk fun a w hf hw => by
  refine wpList_plain rfl fun K hK => ?_
  unfold Oper.wp
  have hr : (execOp a.eval ⟨some d, .buildSlice t m parts.toArray, ty, pos, aft, none⟩).run P w = .ok (.value (.slice (some ⟨w.heap.size, 0, none⟩) m m)) (w.alloc (.cells r.toArray e (0, 0))) := by
    simp only [execOp]
    rw [hf.parts' (by rw [partsOf_mapM]; exact hp)]
    have := run_buildSlice ht hz (by simpa [Nat.blt_eq] using hpos) (Nat.le_of_ble_eq_true hm) ps r hr hall w
    simp [this, Result.andThen]
  rw [hr]
  exact hK _ _ (h _ _ _ (hf.put hd _) (hw.alloc _))

/-! ### Stores -/
theorem GL.storeBlk {t T : TypeId} {x y : Operand} {b o : Nat} {c : Array Value} {F' : List HProp} {u : Value} (hx : opnd env x = some (.pointer (some ⟨b, o, none⟩))) (hy : opnd env y = some u) [ht : CellT P t] [hb : HasBlk F b c T F'] (hc : u.cells = #[u]) (h1 : u.oneCell' = true) (ho : Nat.blt o c.size = true)
    (h : GL P n ops Q rest env (blk b (.cells (c.toList.set o u).toArray T (0, 0)) :: F')) : GL P n ops Q (⟨none, .store t x y, ty, pos, aft, none⟩ :: rest) env F := .mk fun a w hf hw => by
  obtain ⟨i, ds, g1, g2, g3, g4⟩ := ht.ok
  refine wpList_store1_sl rfl rfl t x y rfl (off := o) u (hf.eval hx) (hf.eval hy) (by simp [g1, g2]) hc h1 (hw.perm hb.perm) (by simpa [Nat.blt_eq] using ho) fun w' hw' => h a w' hf ?_
  have : (c.toList.set o u).toArray = c.setIfInBounds o u := by apply Array.ext'; simp
  rw [this]; exact hw'
/-- A whole struct or array. -/
theorem GL.storeBlkA {t T : TypeId} {x y : Operand} {b o size : Nat} {c : Array Value} {F' : List HProp} {vs : Array Value} (hx : opnd env x = some (.pointer (some ⟨b, o, none⟩))) (hy : opnd env y = some (.agg vs)) [ht : AggT P t size] [hb : HasBlk F b c T F'] (hs : Nat.beq vs.size size = true) (h1 : vs.toList.all (·.oneCell') = true) (ho : Nat.ble (o + size) c.size = true)
    (h : GL P n ops Q rest env (blk b (.cells (c.toList.take o ++ vs.toList ++ c.toList.drop (o + size)).toArray T (0, 0)) :: F')) : GL P n ops Q (⟨none, .store t x y, ty, pos, aft, none⟩ :: rest) env F := .mk fun a w hf hw => by
  obtain ⟨i, ds, g1, g2, g3, g4⟩ := ht.ok
  have hs : vs.size = size := Nat.eq_of_beq_eq_true hs
  refine wpList_store_sl rfl rfl t x y rfl (off := o) (.agg vs) (hf.eval hx) (hf.eval hy) (by simp [g1, g2, hs, Value.cells]) (by have h1' := List.all_eq_true.1 h1; simpa [Value.cells] using h1') (hw.perm hb.perm) (by have := Nat.le_of_ble_eq_true ho; simp only [Value.cells, hs]; exact this) fun w' hw' => h a w' hf ?_
  simp only [Value.cells, hs] at hw'; exact hw'
/-- The whole of a block. -/
theorem GL.storeWhole {t T : TypeId} {x y : Operand} {b size : Nat} {c : Array Value} {F' : List HProp} {vs : Array Value} (hx : opnd env x = some (.pointer (some ⟨b, 0, none⟩))) (hy : opnd env y = some (.agg vs)) [ht : AggT P t size] [hb : HasBlk F b c T F'] (hs : Nat.beq vs.size size = true) (h1 : vs.toList.all (·.oneCell') = true) (ho : Nat.beq c.size size = true)
    (h : GL P n ops Q rest env (blk b (.cells vs T (0, 0)) :: F')) : GL P n ops Q (⟨none, .store t x y, ty, pos, aft, none⟩ :: rest) env F :=
  GL.storeBlkA hx hy hs h1 (by rw [Nat.zero_add, Nat.eq_of_beq_eq_true ho]; simp) (by
    have e : (c.toList.take 0 ++ vs.toList ++ c.toList.drop (0 + size)).toArray = vs := by
      rw [List.take_zero, List.nil_append, List.drop_eq_nil_of_le (by rw [Array.length_toList, Nat.eq_of_beq_eq_true ho]; omega), List.append_nil, Array.toArray_toList]
    rw [e]; exact h)
/-! ### Maps keyed by ints -/
class MapKT (P : Program) (t : TypeId) : Prop where
  ok : ∃ k e, P.underlying t = some (.map k e) ∧ P.underlying k = some (.int .i64)
class HasMap {β : outParam Type} (F : List HProp) (b : Nat) (enc : outParam (β → Value)) (m : outParam (List (Int × β))) (F' : outParam (List HProp)) : Prop where
  perm : F.Perm (imap enc b m :: F')
instance HasMap.here {β : Type} {b : Nat} {enc : β → Value} {m : List (Int × β)} {F : List HProp} : HasMap (imap enc b m :: F) b enc m F := ⟨.refl _⟩
instance (priority := 500) HasMap.there {β : Type} {b : Nat} {enc : β → Value} {m : List (Int × β)} {F F' : List HProp} {X : HProp} [h : HasMap F b enc m F'] : HasMap (X :: F) b enc m (X :: F') := ⟨(h.perm.cons X).trans (.swap _ _ _)⟩
theorem run_lookup_any {β : Type} {t k e : TypeId} {w : World} {l : List HProp} {enc : β → Value} {b : Nat} {m : List (Int × β)} {z : Value} (ht : P.underlying t = some (.map k e)) (hk : P.underlying k = some (.int .i64)) (hz : (zeroValue e).run P w = .ok z w)
    (h : holds w (imap enc b m :: l)) (x : Int) (c : Bool) :
    (Instr.lookup t (.map (some b)) (.int .i64 x) c).run P w = .ok (match alGet m x with | some u => if c then .tuple #[enc u, .bool true] else enc u | none => if c then .tuple #[z, .bool false] else z) w := by
  obtain ⟨es, clock, h1, h2, h3⟩ := h.open_map
  have hf := findNow_int enc x es.toList m 0 h1
  have hck := run_checkKey (P := P) (w := w) (kt := k) (k := .int .i64 x) hk (by simp [IsKey]) es.isEmpty 9999
  cases hg : alFind x m 0 with
  | none => simp [Instr.lookup, run_underlying ht, MapKept.run_getObj_map h3.get_blk, hck, Instr.findKey, run_underlying hk, hf, hg, hz, Result.andThen, alGet]
  | some p => simp [Instr.lookup, run_underlying ht, MapKept.run_getObj_map h3.get_blk, hck, Instr.findKey, run_underlying hk, hf, hg, Result.andThen, alGet]
/-- 'm[x]'. -/
theorem Runs.lookup {β : Type} {t k e : TypeId} {x y : Operand} {b size bytes : Nat} {i : Int} {z : Value} {enc : β → Value} {m : List (Int × β)} {F' : List HProp} [hm : MapT P t k e] [hk : IntT P k .i64] [hz : ZeroT P e z size bytes] (hx : opnd env x = some (.map (some b))) (hy : opnd env y = some (.int .i64 i)) [hr : HasMap F b enc m F'] :
    Runs P n env F (.lookup t x y false) (match alGet m i with | some u => enc u | none => z) := .mk fun a w ty pos aft g d hf hw => by
  have h1 := hw.perm hr.perm
  obtain ⟨iz, g1, g2, _⟩ := hz.ok
  have hzr : (zeroValue e).run P w = .ok z w := by simp [zeroValue, typeInfo, g1, g2, Result.andThen]
  have := run_lookup_any (P := P) hm.ok hk.ok hzr h1 i false
  simp only [execOp, hf.eval hx, hf.eval hy, Sem.run_bind, Sem.run_pure]
  rw [this]
  cases alGet m i <;> rfl
theorem Runs.lookupOk {β : Type} {t k e : TypeId} {x y : Operand} {b size bytes : Nat} {i : Int} {z : Value} {enc : β → Value} {m : List (Int × β)} {F' : List HProp} [hm : MapT P t k e] [hk : IntT P k .i64] [hz : ZeroT P e z size bytes] (hx : opnd env x = some (.map (some b))) (hy : opnd env y = some (.int .i64 i)) [hr : HasMap F b enc m F'] :
    Runs P n env F (.lookup t x y true) (match alGet m i with | some u => .tuple #[enc u, .bool true] | none => .tuple #[z, .bool false]) := .mk fun a w ty pos aft g d hf hw => by
  have h1 := hw.perm hr.perm
  obtain ⟨iz, g1, g2, _⟩ := hz.ok
  have hzr : (zeroValue e).run P w = .ok z w := by simp [zeroValue, typeInfo, g1, g2, Result.andThen]
  have := run_lookup_any (P := P) hm.ok hk.ok hzr h1 i true
  simp only [execOp, hf.eval hx, hf.eval hy, Sem.run_bind, Sem.run_pure]
  rw [this]
  cases alGet m i <;> rfl
theorem GL.mapUpdate {β : Type} {t k e : TypeId} {x y u : Operand} {b : Nat} {i : Int} {val : Value} {enc : β → Value} {m : List (Int × β)} {F' : List HProp} (v : β) [hm : MapT P t k e] [hk : IntT P k .i64] (hx : opnd env x = some (.map (some b))) (hy : opnd env y = some (.int .i64 i)) (hu : opnd env u = some val) [hr : HasMap F b enc m F'] (hv : val = enc v)
    (h : GL P n ops Q rest env (imap enc b (alSet m i v) :: F')) : GL P n ops Q (⟨none, .mapUpdate t x y u, ty, pos, aft, none⟩ :: rest) env F := .mk fun a w hf hw =>
  wpList_mapUpdate_sl rfl rfl x y u t rfl hm.ok hk.ok (hf.eval hx) i v (hf.eval hy) ((hf.eval hu).trans hv) (hw.perm hr.perm) fun w' hw' => h a w' hf hw'
theorem Runs.lenMap {β : Type} {t k e : TypeId} {x : Operand} {b : Nat} {enc : β → Value} {m : List (Int × β)} {F' : List HProp} [hm : MapT P t k e] (hx : opnd env x = some (.map (some b))) [hr : HasMap F b enc m F'] :
    Runs P n env F (.call { callee := .builtin .len, args := #[x], argTypes := #[t] }) (.int .i64 m.length) := .mk fun a w ty pos aft g d hf hw => by
  have := run_len_sl (P := P) (ty := ty) hm.ok (hw.perm hr.perm)
  simp [execOp, resolve, invoke, builtin, hf.eval hx, this, Result.andThen]
theorem GL.makeMap {β : Type} {t : TypeId} (enc : β → Value) (hd : Nat.blt d n = true) (h : ∀ b, GL P n ops Q rest ((d, .map (some b)) :: env) (imap enc b [] :: F)) :
    GL P n ops Q (⟨some d, .makeMap t none, ty, pos, aft, none⟩ :: rest) env F := .mk fun a w hf hw => by
  refine wpList_plain rfl fun K hK => ?_
  unfold Oper.wp
  have hr : (execOp a.eval ⟨some d, .makeMap t none, ty, pos, aft, none⟩).run P w = .ok (.value (.map (some w.heap.size))) (w.alloc (.map #[] 0)) := by
    simp [execOp, Instr.makeMap, run_newObj, Result.andThen]
  rw [hr]
  refine hK _ _ (h _ _ _ (hf.put hd _) ?_)
  refine (hw.alloc (.map #[] 0)).mkMap (by simp) ?_
  exact ⟨by simp, by simp, by simp⟩
theorem Runs.eqlMapNil {t u k e : TypeId} {x : Operand} {b : Option Nat} [hm : MapT P t k e] (hx : opnd env x = some (.map b)) : Runs P n env F (.binOp .eql t x (.const (.map none)) u) (.bool b.isNone) := .mk fun a w ty pos aft g d hf hw => by
  have := run_eql_map_nil (P := P) w t k e b hm.ok
  have e1 : eqGuard .eql t x (.const (.map none)) (.map b) (.map none) = pure () := by cases b <;> rfl
  simp [execOp, hf.eval hx, show a.eval (.const (.map none)) = .map none from rfl, e1, this, Result.andThen]
theorem Runs.neqMapNil {t u k e : TypeId} {x : Operand} {b : Option Nat} [hm : MapT P t k e] (hx : opnd env x = some (.map b)) : Runs P n env F (.binOp .neq t x (.const (.map none)) u) (.bool (!b.isNone)) := .mk fun a w ty pos aft g d hf hw => by
  have := run_neq_map_nil (P := P) w t k e b hm.ok
  have e1 : eqGuard .neq t x (.const (.map none)) (.map b) (.map none) = pure () := by cases b <;> rfl
  simp [execOp, hf.eval hx, show a.eval (.const (.map none)) = .map none from rfl, e1, this, Result.andThen]
/-- A pointer's type. -/
class PtrT (P : Program) (t : TypeId) (e : outParam TypeId) : Prop where
  ok : P.underlying t = some (.pointer e)
theorem run_equalIn_ptr_nil (k : Nat) {t e : TypeId} (h : P.underlying t = some (.pointer e)) (p : Option Addr) (w : World) : (Op.equalIn (k + 1) t (.pointer p) (.pointer none)).run P w = .ok p.isNone w := by
  cases p <;> simp [Op.equalIn, run_underlying h]
theorem run_equal_ptr_nil {t e : TypeId} (h : P.underlying t = some (.pointer e)) (p : Option Addr) (w : World) : (Op.equal t (.pointer p) (.pointer none)).run P w = .ok p.isNone w :=
  run_equalIn_ptr_nil 9999 h p w
theorem Runs.eqlPtrNil {t u e : TypeId} {x : Operand} {b : Option Addr} [hp : PtrT P t e] (hx : opnd env x = some (.pointer b)) : Runs P n env F (.binOp .eql t x (.const (.pointer none)) u) (.bool b.isNone) := .mk fun a w ty pos aft g d hf hw => by
  have := run_equal_ptr_nil (P := P) hp.ok b w
  have e1 : eqGuard .eql t x (.const (.pointer none)) (.pointer b) (.pointer none) = pure () := rfl
  have e2 : binOp .eql t (.pointer b) (.pointer none) = (do pure (.bool (← Op.equal t (.pointer b) (.pointer none)))) := rfl
  simp [execOp, hf.eval hx, show a.eval (.const (.pointer none)) = .pointer none from rfl, e1, e2, this, Result.andThen]
theorem Runs.neqPtrNil {t u e : TypeId} {x : Operand} {b : Option Addr} [hp : PtrT P t e] (hx : opnd env x = some (.pointer b)) : Runs P n env F (.binOp .neq t x (.const (.pointer none)) u) (.bool (!b.isNone)) := .mk fun a w ty pos aft g d hf hw => by
  have := run_equal_ptr_nil (P := P) hp.ok b w
  have e1 : eqGuard .neq t x (.const (.pointer none)) (.pointer b) (.pointer none) = pure () := rfl
  have e2 : binOp .neq t (.pointer b) (.pointer none) = (do pure (.bool (!(← Op.equal t (.pointer b) (.pointer none))))) := rfl
  simp [execOp, hf.eval hx, show a.eval (.const (.pointer none)) = .pointer none from rfl, e1, e2, this, Result.andThen]
/-- A slice against nil: it is nil, or it has a place. -/
theorem run_equalIn_sl_nil (k : Nat) {t e : TypeId} (h : P.underlying t = some (.slice e)) (p : Option Addr) (n c : Nat) (w : World) : (Op.equalIn (k + 1) t (.slice p n c) (.slice none 0 0)).run P w = .ok p.isNone w := by
  cases p <;> simp [Op.equalIn, run_underlying h]
theorem run_equal_sl_nil {t e : TypeId} (h : P.underlying t = some (.slice e)) (p : Option Addr) (n c : Nat) (w : World) : (Op.equal t (.slice p n c) (.slice none 0 0)).run P w = .ok p.isNone w :=
  run_equalIn_sl_nil 9999 h p n c w
def isNilV : Value → Bool
  | .slice none _ _ => true
  | _ => false
theorem Runs.eqlSlNil {α : Type} {t u e : TypeId} {size m : Nat} {x : Operand} {v : Value} {enc : α → List Value} {l : List α} [ht : SliceT P t e size] [hr : Reads F v enc m l] (hx : opnd env x = some v) : Runs P n env F (.binOp .eql t x (.const (.slice none 0 0)) u) (.bool (isNilV v)) := .mk fun a w ty pos aft g d hf hw => by
  obtain ⟨i, h1, _⟩ := ht.ok
  obtain ⟨c, cap, hv, _⟩ := (hr.at_ w hw).form
  have := run_equal_sl_nil (P := P) h1 c l.length cap w
  have hxe := hf.eval hx
  rw [hv] at hxe
  have e1 : eqGuard .eql t x (.const (.slice none 0 0)) (.slice c l.length cap) (.slice none 0 0) = pure () := rfl
  have e2 : binOp .eql t (.slice c l.length cap) (.slice none 0 0) = (do pure (.bool (← Op.equal t (.slice c l.length cap) (.slice none 0 0)))) := rfl
  rw [hv]
  simp [execOp, hxe, show a.eval (.const (.slice none 0 0)) = .slice none 0 0 from rfl, e1, e2, this, Result.andThen]
  cases c <;> rfl
/-- What is nil is empty. -/
theorem reads.nil {α : Type} {w : World} {m : Nat} {v : Value} {enc : α → List Value} {l : List α} [he : Enc enc m] (h : reads w m v l.length (l.flatMap enc)) (hn : isNilV v = true) : l = [] := by
  obtain ⟨_, a, cap, rfl, _, h2⟩ := h
  cases a with
  | some a => cases hn
  | none =>
    rcases h2 with h2 | ⟨b, off, h3, _⟩
    · have := he.pos
      rcases Nat.mul_eq_zero.1 h2 with h | h
      · exact List.eq_nil_of_length_eq_zero h
      · omega
    · cases h3

/-! ### append -/
/-- 'append(v, y..)' where what is appended lies in a block. -/
theorem GL.append {α : Type} {t T e : TypeId} {x y : Operand} {v z : Value} {enc : α → List Value} {m size bytes b k c0 : Nat} {l : List α} {cs : Array Value} {F' : List HProp} (ys : List α) [ht : SliceT P t e size] [hz : ZeroT P e z size bytes] (hx : opnd env x = some v) (hy : opnd env y = some (.slice (some ⟨b, 0, none⟩) k c0)) [he : Enc enc m] [hr : HasOwn F v T enc m l F'] [hb : SeesBlk F b cs]
    (hm : m = size) (hT : T = e) (hk : k = ys.length) (h0 : 0 < ys.length) (hcs : cs.toList = ys.flatMap enc) (hlen : (l.length + ys.length) * bytes ≤ 140737488355328) (hl63 : l.length + ys.length ≤ 140737488355328) (hd : Nat.blt d n = true)
    (h : ∀ v', GL P n ops Q rest ((d, v') :: env) (owns T enc m v' (l ++ ys) :: F')) : GL P n ops Q (⟨some d, .call { callee := .builtin .append, args := #[x, y], argTypes := #[t, t] }, ty, pos, aft, none⟩ :: rest) env F := .mk fun a w hf hw => by
  subst hm hT hk
  obtain ⟨i, h1, h2, h3⟩ := ht.ok
  obtain ⟨i', g1, g2, g3, g4, g5⟩ := hz.ok
  have hii : i = i' := by rw [h2] at g1; exact Option.some.inj g1
  subst hii
  obtain ⟨T', fz, hbw⟩ := hb.at_ w hw
  refine wpList_append_sl (news := ys.flatMap enc) rfl x y t rfl h1 h2 g2 h3 g4 g5 he.pos (hf.eval hx) (hw.perm hr.perm) (hf.eval hy) (Enc.flat_len ys) (fun j u hu => ?_) (fun u hu => ?_) (by unfold maxLen; omega) hlen h0 fun v' w' h' => h v' _ w' (hf.put hd v') ?_
  · rw [addr_add, cell_of_row w b (0 + j) cs T' fz hbw, Nat.zero_add, ← Array.getElem?_toList, hcs]; exact hu
  · obtain ⟨y, _, hy'⟩ := List.mem_flatMap.1 hu
    exact he.one y u hy'
  · unfold owns
    rw [List.length_append, List.flatMap_append]
    exact h'
/-- .. one element. -/
theorem GL.append1 {α : Type} {t T e : TypeId} {x y : Operand} {v z : Value} {enc : α → List Value} {m size bytes b c0 : Nat} {l : List α} {cs : Array Value} {F' : List HProp} (u : α) [ht : SliceT P t e size] [hz : ZeroT P e z size bytes] (hx : opnd env x = some v) (hy : opnd env y = some (.slice (some ⟨b, 0, none⟩) 1 c0)) [he : Enc enc m] [hr : HasOwn F v T enc m l F'] [hb : SeesBlk F b cs]
    (hm : m = size) (hT : T = e) (hcs : cs.toList = enc u) (hlen : (l.length + 1) * bytes ≤ 140737488355328) (hl63 : l.length + 1 ≤ 140737488355328) (hd : Nat.blt d n = true)
    (h : ∀ v', GL P n ops Q rest ((d, v') :: env) (owns T enc m v' (l ++ [u]) :: F')) : GL P n ops Q (⟨some d, .call { callee := .builtin .append, args := #[x, y], argTypes := #[t, t] }, ty, pos, aft, none⟩ :: rest) env F :=
  GL.append (b := b) (cs := cs) [u] hx hy hm hT rfl (by simp) (by simpa using hcs) hlen hl63 hd h
end
end Go.Proofs.YtlcdaalalihaiaaGreat
