import Derived.Test.YtipkgamiejenaaaGreatMg6
import Derived.Test.YtipkgamiejenaaaGreatMg7
import Derived.Test.YtipkgamiejenaaaGreatMg5
import Derived.Laws.IdiomStrings
import Derived.Test.YtipkgamiejenaaaGreatTypes
import Derived.Laws.LoneSync

/- A reclaiming as the document says: what is plain. -/
namespace Go.Proofs.YtipkgamiejenaaaGreat
open Go Go.RowKit Go.MapKept
set_option linter.unusedVariables false
set_option linter.unusedSimpArgs false
namespace St
theorem step_go {t : S} {k : Nat} {n : Int} (hk : k < t.ch.length) (hn : 1 ≤ n) (hp : (t.c k).phase = 3) : step t k n = if t.w k + portion t k n < t.size then (wiped t k n, false, 0) else ({ wiped t k n with stack := t.stack ++ [(k : Int)], ch := t.ch.set k ⟨0, 0, (t.c k).gen + 1⟩, ev := up t.ev 3 }, true, 0) := by
  have ho : ¬ (t.out k ∨ n < 1) := by unfold S.out; omega
  have hp2 : ¬ ((t.c k).phase ≠ 3) := fun h => h hp
  unfold step
  rw [if_neg ho, if_neg hp2]
  rfl
/-- A step that ends the wiping: as one of the whole size. -/
theorem step_fin {t : S} {i n : Int} (hn : 1 ≤ n) (h : t.size - t.w i ≤ n) (hs : (n : Int) ≤ t.size) : step t i n = step t i t.size := by
  have hp : portion t i n = portion t i t.size := by
    unfold portion
    by_cases hw : 0 ≤ t.w i
    · rw [show min n ((t.size : Int) - t.w i) = min (t.size : Int) ((t.size : Int) - t.w i) by omega]
    · omega
  unfold step wiped
  rw [hp]
  by_cases h1 : t.out i
  · rw [if_pos (Or.inl h1 : t.out i ∨ n < 1), if_pos (Or.inl h1 : t.out i ∨ (t.size : Int) < 1)]
  · have h2 : ¬ (t.out i ∨ n < 1) := fun h => h.elim h1 (by omega)
    have h3 : ¬ (t.out i ∨ (t.size : Int) < 1) := fun h => h.elim h1 (by omega)
    rw [if_neg h2, if_neg h3]
theorem step_more {t : S} {K : Nat} (hI : Inv t K) {k : Nat} (hk : k < t.ch.length) (hp : (t.c k).phase = 3) (h : t.w k + 64 < t.size) :
    step t k 64 = (wiped t k 64, false, 0) ∧ (wiped t k 64).w k = t.w k + 64 ∧ (step (wiped t k 64) k t.size) = step t k t.size := by
  have hp0 := hp
  rw [t.c_eq k hk] at hp
  have hc := hI.cell k hk
  obtain ⟨⟨hw0, hw1⟩, hz⟩ := hc.wip hp
  have p1 : portion t k 64 = 64 := by unfold portion; omega
  have ho : ¬ t.out k := by unfold S.out; omega
  have hwk : (wiped t k 64).w k = t.w k + 64 := by
    unfold S.w wiped
    rw [p1, Int.toNat_natCast, getD_set _ _ _ _ _ (by rw [hI.n2]; exact hk), if_pos rfl]; rfl
  have hxk : (wiped t k 64).x k = By.splice (t.x k) (t.w k).toNat (zeros 64) := by
    unfold S.x wiped
    rw [p1, Int.toNat_natCast, getD_set _ _ _ _ _ (by rw [hI.n1]; exact hk), if_pos rfl]; rfl
  refine ⟨?_, hwk, ?_⟩
  · rw [step_go hk (by omega) hp0, p1, if_pos (by omega)]
  · have p2 : portion (wiped t k 64) k t.size = (t.size - t.w k - 64).toNat := by
      unfold portion; rw [hwk]; show (min (t.size : Int) ((t.size : Int) - _)).toNat = _; omega
    have p3 : portion t k t.size = 64 + (t.size - t.w k - 64).toNat := by unfold portion; omega
    obtain ⟨m, hm⟩ : ∃ m, m = (t.size - t.w k - 64).toNat := ⟨_, rfl⟩
    rw [← hm] at p2 p3
    have hsp : By.splice (By.splice (t.x k) (t.w k).toNat (zeros 64)) ((t.w k).toNat + 64) (zeros m) = By.splice (t.x k) (t.w k).toNat (zeros (64 + m)) := by
      have := By.splice_more (t.x k) (zeros (64 + m)) (t.w k).toNat 64 m (by rw [hc.len]; simp [zeros]; omega) (by simp [zeros])
      simpa [zeros, List.take_replicate, List.drop_replicate] using this
    have hww : wiped (wiped t k 64) k t.size = wiped t k t.size := by
      have e1 : (wiped (wiped t k 64) k t.size).tx = (wiped t k t.size).tx := by
        show (wiped t k 64).tx.set _ (By.splice ((wiped t k 64).x k) ((wiped t k 64).w k).toNat (zeros (portion (wiped t k 64) k t.size))) = t.tx.set _ (By.splice (t.x k) (t.w k).toNat (zeros (portion t k t.size)))
        rw [hxk, hwk, p2, p3, show (t.w k + 64).toNat = (t.w k).toNat + 64 by omega, hsp]
        show (t.tx.set _ _).set _ _ = _
        rw [List.set_set]
      have e2 : (wiped (wiped t k 64) k t.size).wi = (wiped t k t.size).wi := by
        show (wiped t k 64).wi.set _ ((wiped t k 64).w k + portion (wiped t k 64) k t.size) = t.wi.set _ (t.w k + portion t k t.size)
        rw [hwk, p2, p3]
        show (t.wi.set _ _).set _ _ = _
        rw [List.set_set]
        congr 1; omega
      show S.mk _ _ _ _ _ _ = S.mk _ _ _ _ _ _
      rw [S.mk.injEq]
      exact ⟨rfl, rfl, e1, e2, rfl, rfl⟩
    rw [step_go (t := wiped t k 64) hk (by omega) hp0, step_go (t := t) (n := t.size) hk (by omega) hp0, hww, p2, p3, hwk]
    have q1 : ¬ (t.w k + 64 + (m : Nat) < (t.size : Int)) := by omega
    have q2 : ¬ (t.w k + ((64 + m : Nat) : Int) < (t.size : Int)) := by omega
    rw [if_neg q2]
    exact if_neg q1
theorem step_size {t : S} {i n : Int} : (step t i n).1.size = t.size := by unfold step wiped; split <;> (try split) <;> (try split) <;> rfl
theorem start_size {t : S} {i : Int} : (start t i).1.size = t.size := by unfold start; split <;> (try split) <;> rfl
theorem step_chl {t : S} {i n : Int} : (step t i n).1.ch.length = t.ch.length := by unfold step wiped; split <;> (try split) <;> (try split) <;> simp
theorem start_chl {t : S} {i : Int} : (start t i).1.ch.length = t.ch.length := by unfold start; split <;> (try split) <;> simp
end St
namespace Rc
/-- A chunk is made free. -/
def wipe (t : St.S) (i : Int) : St.S := (St.step (St.start t i).1 i t.size).1
theorem wipe_size (t : St.S) (i : Int) : (wipe t i).size = t.size := by unfold wipe; rw [St.step_size, St.start_size]
theorem wipe_chl (t : St.S) (i : Int) : (wipe t i).ch.length = t.ch.length := by unfold wipe; rw [St.step_chl, St.start_chl]
theorem start_eq {t : St.S} {k : Nat} (hk : k < t.ch.length) (hp : (t.c k).phase = 2) : St.start t k = ({ t with wi := t.wi.set k 0, ch := t.ch.set k ⟨3, 0, (t.c k).gen⟩, ev := St.up t.ev 2 }, 0) := by
  unfold St.start
  rw [if_neg (by unfold St.S.out; omega), if_neg (by omega), Int.toNat_natCast]
theorem start_ph {t : St.S} {k : Nat} (hk : k < t.ch.length) (hp : (t.c k).phase = 2) : ((St.start t k).1.c k).phase = 3 := by
  rw [start_eq hk hp]
  unfold St.S.c
  rw [Int.toNat_natCast, St.getD_set _ _ _ _ _ hk, if_pos rfl]
theorem start_w {t : St.S} {K : Nat} (hI : St.Inv t K) {k : Nat} (hk : k < t.ch.length) (hp : (t.c k).phase = 2) : (St.start t k).1.w k = 0 := by
  rw [start_eq hk hp]
  unfold St.S.w
  rw [Int.toNat_natCast, St.getD_set _ _ _ _ _ (by rw [hI.n2]; exact hk), if_pos rfl]
/-- What a wiping that is whole ends with. -/
theorem step_end {t : St.S} {k : Nat} (hk : k < t.ch.length) (hp : (t.c k).phase = 3) (n : Int) (hn : 1 ≤ n) (h : t.size - t.w k ≤ n) (hw : t.w k < t.size) : ∃ t', St.step t k n = (t', true, 0) ∧ t'.ch = t.ch.set k ⟨0, 0, (t.c k).gen + 1⟩ := by
  refine ⟨_, (St.step_go hk hn hp).trans (if_neg (by unfold St.portion; omega)), rfl⟩
theorem wipe_ch {t : St.S} {K : Nat} (hI : St.Inv t K) {k : Nat} (hk : k < t.ch.length) (hp : (t.c k).phase = 2) : (wipe t k).ch = t.ch.set k ⟨0, 0, (t.c k).gen + 1⟩ := by
  have hz := hI.sz
  have h1 := start_ph hk hp
  have h2 := start_w hI hk hp
  obtain ⟨t', e, hc⟩ := step_end (t := (St.start t k).1) (k := k) (by rw [St.start_chl]; exact hk) h1 t.size (by omega) (by rw [h2, St.start_size]; omega) (by rw [h2, St.start_size]; omega)
  unfold wipe
  rw [e, hc]
  rw [start_eq hk hp]
  dsimp only
  rw [List.set_set]
  congr 2
  unfold St.S.c
  rw [Int.toNat_natCast, St.getD_set _ _ _ _ _ hk, if_pos rfl]
theorem wipe_inv {t : St.S} {K : Nat} (hI : St.Inv t K) (i : Int) : St.Inv (wipe t i) (K + 2) := (hI.start i).step i t.size
/-- A reclaiming: the store, what waits, what is asked for, the levels, how many became free. -/
structure S where
  t : St.S
  q : Int
  low : Int
  line : List Int
  want : List Int
  lv : List Int
  fr : Int
/-- What waits in a line is deferred. -/
structure Wt (t : St.S) (l : List Int) : Prop where
  nd : l.Nodup
  ph : ∀ x ∈ l, ∃ k : Nat, x = k ∧ k < t.ch.length ∧ (t.c k).phase = 2
theorem Wt.len {t : St.S} {l : List Int} (h : Wt t l) : l.length ≤ t.ch.length := Stk.nodup_len _ _ h.nd (fun x hx => by obtain ⟨k, rfl, hk, _⟩ := h.ph x hx; omega)
theorem Wt.tail {t : St.S} {K : Nat} (hI : St.Inv t K) {i : Int} {l : List Int} (h : Wt t (i :: l)) : Wt (wipe t i) l := by
  have hn := List.nodup_cons.1 h.nd
  refine ⟨hn.2, fun x hx => ?_⟩
  obtain ⟨k, rfl, hk, hp⟩ := h.ph i List.mem_cons_self
  obtain ⟨j, rfl, hj, hq⟩ := h.ph x (List.mem_cons_of_mem _ hx)
  have hjk : j ≠ k := fun e => hn.1 (by rw [← e]; exact hx)
  refine ⟨j, rfl, by rw [wipe_chl]; exact hj, ?_⟩
  unfold St.S.c at hq ⊢
  rw [wipe_ch hI hk hp, Int.toNat_natCast, St.getD_set _ _ _ _ _ hk, if_neg hjk]
  rw [Int.toNat_natCast] at hq
  exact hq
/-- So many are taken and made free. -/
def drain : Nat → St.S → List Int → St.S × List Int × List Int
  | 0, t, l => (t, l, [])
  | _ + 1, t, [] => (t, [], [])
  | k + 1, t, i :: l => ((drain k (wipe t i) l).1, (drain k (wipe t i) l).2.1, i :: (drain k (wipe t i) l).2.2)
theorem drain_inv : ∀ (k : Nat) (t : St.S) (l : List Int) (K : Nat), St.Inv t K → Wt t l → St.Inv (drain k t l).1 (K + 2 * (l.take k).length) ∧ Wt (drain k t l).1 (l.drop k) ∧ (drain k t l).1.size = t.size ∧ (drain k t l).1.ch.length = t.ch.length
  | 0, t, l, K, hI, h => by simp [drain]; exact ⟨hI, h⟩
  | k + 1, t, [], K, hI, h => by simp [drain]; exact ⟨hI, h⟩
  | k + 1, t, i :: l, K, hI, h => by
    obtain ⟨a, b, c, d⟩ := drain_inv k (wipe t i) l (K + 2) (wipe_inv hI i) (h.tail hI)
    rw [wipe_size] at c
    rw [wipe_chl] at d
    exact ⟨by simp only [drain, List.take_succ_cons, List.length_cons]; exact a.mono (by omega), by simpa [drain] using b, c, d⟩
end Rc
end Go.Proofs.YtipkgamiejenaaaGreat

/- Blocks of bytes: arrays and slices of bytes as lists; slices of them, copy, clear, comparing, the text of them. -/
namespace Go.Proofs.YtipkgamiejenaaaGreat
open Go Go.RowKit Go.MapKept
set_option linter.unusedVariables false
set_option linter.unusedSimpArgs false
set_option maxRecDepth 100000
/-- A whole block of n bytes. -/
def byB (T : TypeId) (g n : Nat) (l : List UInt8) : HProp := fun f => l.length = n ∧ blk g (.cells (l.map u8v).toArray T (0, 0)) f
theorem byB.open {w : World} {T : TypeId} {g n : Nat} {l : List UInt8} {F : List HProp} (h : holds w (byB T g n l :: F)) : l.length = n ∧ holds w (blk g (.cells (l.map u8v).toArray T (0, 0)) :: F) := holds.open_pure h
theorem byB.shut {w : World} {T : TypeId} {g n : Nat} {l : List UInt8} {F : List HProp} (e : l.length = n) (h : holds w (blk g (.cells (l.map u8v).toArray T (0, 0)) :: F)) : holds w (byB T g n l :: F) := h.mono fun f hf => ⟨e, hf⟩
class SeesBy (F : List HProp) (g : Nat) (n : outParam Nat) (l : outParam (List UInt8)) : Prop where
  at_ : ∀ w, holds w F → l.length = n ∧ ∃ T, w.heap[g]? = some (.cells (l.map u8v).toArray T (0, 0))
instance SeesBy.here {T : TypeId} {g n : Nat} {l : List UInt8} {F : List HProp} : SeesBy (byB T g n l :: F) g n l := ⟨fun w h => ⟨(byB.open h).1, T, (byB.open h).2.get_blk⟩⟩
instance (priority := 500) SeesBy.there {g n : Nat} {l : List UInt8} {F : List HProp} {X : HProp} [h : SeesBy F g n l] : SeesBy (X :: F) g n l := ⟨fun w hw => h.at_ w hw.tail⟩
class HasBy (F : List HProp) (g : Nat) (T : outParam TypeId) (n : outParam Nat) (l : outParam (List UInt8)) (F' : outParam (List HProp)) : Prop where
  perm : F.Perm (byB T g n l :: F')
instance HasBy.here {T : TypeId} {g n : Nat} {l : List UInt8} {F : List HProp} : HasBy (byB T g n l :: F) g T n l F := ⟨.refl _⟩
instance (priority := 500) HasBy.there {T : TypeId} {g n : Nat} {l : List UInt8} {F F' : List HProp} {X : HProp} [h : HasBy F g T n l F'] : HasBy (X :: F) g T n l (X :: F') := ⟨(h.perm.cons X).trans (.swap _ _ _)⟩
theorem by_cell {w : World} {g : Nat} {T : TypeId} {l : List UInt8} (h : w.heap[g]? = some (.cells (l.map u8v).toArray T (0, 0))) (j : Nat) : w.cell? ⟨g, j, none⟩ = (l[j]?).map u8v := by
  rw [cell_of_row w g j _ T (0, 0) h]; simp
section
variable {P : Program} {n d : Nat} {Q : Exit → Act → World → Prop} {env : Env} {F F' : List HProp} {ops : Array Oper} {rest : List Oper} {ty : TypeId} {pos : String} {aft : Array Edge}
theorem GL.storeBy {t T : TypeId} {x y : Operand} {b m : Nat} {c : Array Value} {l : List UInt8} (hx : opnd env x = some (.pointer (some ⟨b, 0, none⟩))) (hy : opnd env y = some (.agg (l.map u8v).toArray)) [ht : AggT P t m] [hb : HasBlk F b c T F'] (hl : l.length = m) (ho : Nat.beq c.size m = true)
    (h : GL P n ops Q rest env (byB T b m l :: F')) : GL P n ops Q (⟨none, .store t x y, ty, pos, aft, none⟩ :: rest) env F := .mk fun a w hf hw => by
  have ho := Nat.eq_of_beq_eq_true ho
  refine wpList_store_sl rfl rfl t x y rfl (off := 0) (.agg (l.map u8v).toArray) (hf.eval hx) (hf.eval hy) ?_ ?_ (hw.perm hb.perm) ?_ fun w' hw' => h a w' hf (byB.shut hl ?_)
  · obtain ⟨i, ds, g1, g2, g3, g4⟩ := ht.ok
    simp [g1, g2, Value.cells, hl]
  · intro u hu
    simp only [Value.cells, List.mem_map] at hu
    obtain ⟨c, _, rfl⟩ := hu
    rfl
  · simp [Value.cells, hl, ho]
  · have e : c.toList.take 0 ++ (Value.agg (l.map u8v).toArray).cells.toList ++ c.toList.drop (0 + (Value.agg (l.map u8v).toArray).cells.size) = l.map u8v := by
      simp [Value.cells, hl, ho]
    rw [e] at hw'; exact hw'
theorem Runs.loadBy {t : TypeId} {x : Operand} {b m : Nat} {l : List UInt8} [ht : AggT P t m] (hx : opnd env x = some (.pointer (some ⟨b, 0, none⟩))) [hb : SeesBy F b m l] : Runs P n env F (.load t x) (.agg (l.map u8v).toArray) := .mk fun a w ty pos aft g d hf hw => by
  obtain ⟨hl, T, h⟩ := hb.at_ w hw
  have := run_loadAgg (P := P) (t := t) (b := b) (off := 0) (w := w) (vs := l.map u8v) (by simpa using hl) (fun j hj => by rw [Nat.zero_add, by_cell h]; simp)
  simp [execOp, hf.eval hx, Instr.loadAt, Instr.sureAddr, this, Result.andThen]
theorem Runs.sliceArr {t e : TypeId} {x : Operand} {lo up : Option Operand} {b m : Nat} {i j : Int} (k q : Nat) [ht : ArrT P t m e 1] (hx : opnd env x = some (.pointer (some ⟨b, 0, none⟩))) (hlo : bnd env lo 0 = some i) (hhi : bnd env up m = some j) (hi : i = (k : Nat)) (hj : j = (q : Nat)) (hkq : k ≤ q) (hqm : q ≤ m) (hkm : k < m) :
    Runs P n env F (.slice t x lo up none) (.slice (some ⟨b, k, none⟩) (q - k) (m - k)) := .mk fun ac w ty pos aft g d hf hw => by
  subst hi hj
  obtain ⟨ie, g1, g2, g3⟩ := ht.ok
  have hsl : ∀ (L H : Option Value), (L = none ∧ k = 0 ∨ L = some (.int .i64 k)) → (H = none ∧ q = m ∨ H = some (.int .i64 q)) → (Instr.sliceBounds false m m L H none).run P w = .ok (k, q, m) w := by
    rintro L H (⟨rfl, rfl⟩ | rfl) (⟨rfl, rfl⟩ | rfl) <;> simp [Instr.sliceBounds, Instr.sliceBound, asIntOf, hkq, hqm, Result.andThen]
  have hL : lo.map ac.eval = none ∧ k = 0 ∨ lo.map ac.eval = some (.int .i64 k) := by
    cases lo with
    | none => left; simp only [bnd, Option.some.injEq] at hlo; exact ⟨rfl, by omega⟩
    | some x => right; simp [hf.bound hlo]
  have hH : up.map ac.eval = none ∧ q = m ∨ up.map ac.eval = some (.int .i64 q) := by
    cases up with
    | none => left; simp only [bnd, Option.some.injEq] at hhi; exact ⟨rfl, by omega⟩
    | some x => right; simp [hf.bound hhi]
  have hm : ¬ m = k := by omega
  have := hsl _ _ hL hH
  simp [execOp, hf.eval hx, Instr.sliceAt, Instr.sureAddr, run_underlying g1, sizeOf, typeInfo, g2, g3, this, Result.andThen, hm, Addr.add]
  intro h; omega
theorem by_store {w : World} {T : TypeId} {g m k : Nat} {l s : List UInt8} {F : List HProp} (h : holds w (byB T g m l :: F)) (hk : k + s.length ≤ m) :
    ∃ w', (storeCells ⟨g, k, none⟩ (s.map u8v)).run P w = .ok () w' ∧ holds w' (byB T g m (By.splice l k s) :: F) := by
  obtain ⟨hl, hb⟩ := byB.open h
  have hst := run_storeCells_at P g k T (s.map u8v) 0 _ w hb.get_blk (by simp; omega) (fun v hv => by obtain ⟨c, _, rfl⟩ := List.mem_map.1 hv; rfl)
  have h5 := hb.turn (w' := w.setRow g ((l.map u8v).toArray.toList.take (k + 0) ++ s.map u8v ++ (l.map u8v).toArray.toList.drop (k + 0 + (s.map u8v).length)).toArray) ⟨rfl, rfl, rfl, by simp, fun k _ hk => setRow_other w g k _ (fun e => hk (by simp [e]))⟩ (setRow_heap w g _ _ T _ hb.get_blk)
  have e : (l.map u8v).toArray.toList.take (k + 0) ++ s.map u8v ++ (l.map u8v).toArray.toList.drop (k + 0 + (s.map u8v).length) = (By.splice l k s).map u8v := by
    simp [By.splice, List.map_take, List.map_drop]
  rw [e] at h5 hst
  exact ⟨_, hst, byB.shut (by rw [By.splice_len _ _ _ (by omega)]; exact hl) h5⟩
theorem bs_cells (l : List UInt8) (q : Nat) : ((bs l).extract 0 q).data.map (fun b => Value.int .u8 (b.toNat : Int)) = ((l.take q).map u8v).toArray := by
  rw [bs_extract]
  apply Array.ext'
  simp [bs]
  rfl
/-- copy of a text into a block of bytes. -/
theorem GL.copyBS {t t2 e : TypeId} {x y : Operand} {g k m cp : Nat} {T : TypeId} {N : Nat} {l s : List UInt8} [ht : SliceT P t e 1] (hx : opnd env x = some (.slice (some ⟨g, k, none⟩) m cp)) (hy : opnd env y = some (.string (bs s))) [hr : HasBy F g T N l F'] (hm : m ≤ s.length) (hk : k + m ≤ N) (hd : Nat.blt d n = true)
    (h : GL P n ops Q rest ((d, .int .i64 m) :: env) (byB T g N (By.splice l k (s.take m)) :: F')) : GL P n ops Q (⟨some d, .call { callee := .builtin .copy, args := #[x, y], argTypes := #[t, t2] }, ty, pos, aft, none⟩ :: rest) env F := .mk fun a w hf hw => by
  obtain ⟨it, g1, g2, g3⟩ := ht.ok
  refine wpList_plain rfl fun K hK => ?_
  obtain ⟨w', h1, h2⟩ := by_store (P := P) (k := k) (s := s.take m) (hw.perm hr.perm) (by rw [List.length_take]; omega)
  have hrun : (execOp a.eval ⟨some d, .call { callee := .builtin .copy, args := #[x, y], argTypes := #[t, t2] }, ty, pos, aft, none⟩).run P w = .ok (.value (.int .i64 m)) w' := by
    have hmn : Nat.min s.length m = m := by show min s.length m = m; omega
    have hmn' : min s.length m = m := by omega
    have hfc : (Builtin.firstCells 1 m (.string (bs s))).run P w = .ok ((s.take m).map u8v).toArray w := by
      have e : Builtin.firstCells 1 m (.string (bs s)) = Pure.pure (((bs s).extract 0 m).data.map fun b => Value.int .u8 (b.toNat : Int)) := rfl
      rw [e, bs_cells]; rfl
    have h1' : (storeCells ⟨g, k, none⟩ (List.take m (s.map u8v))).run P w = .ok () w' := by rw [← List.map_take]; exact h1
    simp [execOp, resolve, invoke, builtin, hf.eval hx, hf.eval hy, Builtin.copy_, run_underlying g1, Builtin.lenOf, bs_size, sizeOf, typeInfo, g2, g3, hmn, hmn', hfc, h1, h1', goInt, Result.andThen]
  unfold Oper.wp
  rw [hrun]
  exact hK _ _ (h _ _ (hf.put hd _) h2)
theorem GL.clearBy {t e : TypeId} {x : Operand} {g k m cp : Nat} {T : TypeId} {N bytes : Nat} {l : List UInt8} [ht : SliceT P t e 1] [hz : ZeroT P e (.int .u8 0) 1 bytes] (hx : opnd env x = some (.slice (some ⟨g, k, none⟩) m cp)) [hr : HasBy F g T N l F'] (hm : 0 < m) (hk : k + m ≤ N)
    (h : GL P n ops Q rest env (byB T g N (By.splice l k (List.replicate m 0)) :: F')) : GL P n ops Q (⟨none, .call { callee := .builtin .clear, args := #[x], argTypes := #[t] }, ty, pos, aft, none⟩ :: rest) env F := .mk fun a w hf hw => by
  obtain ⟨it, g1, g2, g3⟩ := ht.ok
  obtain ⟨iz, k1, k2, k3, k4, k5⟩ := hz.ok
  refine wpList_plain rfl fun K hK => ?_
  obtain ⟨w', h1, h2⟩ := by_store (P := P) (k := k) (s := List.replicate m 0) (hw.perm hr.perm) (by rw [List.length_replicate]; omega)
  have hzr : ∀ w, (zeroValue e).run P w = .ok (.int .u8 0) w := fun w => by simp [zeroValue, typeInfo, k1, k2, Result.andThen]
  obtain ⟨m', rfl⟩ : ∃ j, m = j + 1 := ⟨m - 1, by omega⟩
  have hzc : (Builtin.zeroCells (Value.int .u8 0).cells (m' + 1)).toList = (List.replicate (m' + 1) (0 : UInt8)).map u8v := by
    apply List.ext_getElem
    · simp [Builtin.zeroCells, Value.cells]
    · intro i h1 h2
      simp [Builtin.zeroCells, Value.cells]
      rw [Nat.mod_one]; rfl
  have hrun : (execOp a.eval ⟨none, .call { callee := .builtin .clear, args := #[x], argTypes := #[t] }, ty, pos, aft, none⟩).run P w = .ok (.value (.tuple #[])) w' := by
    have h1' : (storeCells ⟨g, k, none⟩ (List.replicate (m' + 1) (u8v 0))).run P w = .ok () w' := by rw [← List.map_replicate]; exact h1
    simp [execOp, resolve, invoke, builtin, hf.eval hx, Builtin.clear_, run_underlying g1, hzr, hzc, h1', Result.andThen]
  unfold Oper.wp
  rw [hrun]
  exact hK _ _ (h _ _ (hf.put0 _) h2)
instance {l : List UInt8} : CellsA (l.map u8v).toArray (l.map fun c => CelV.i .u8 (c.toNat : Int)) := ⟨by unfold cellsC; rw [List.map_map]; rfl⟩
theorem by_keys : ∀ (z : List UInt8) (m : Nat), z.length = m → (z.map fun c => CelV.i .u8 (c.toNat : Int)).map CelV.k = (List.replicate m [CelK.i .u8]).flatten := fun z m hz => by
  subst hz
  induction z with
  | nil => rfl
  | cons a z ih => rw [List.length_cons, List.replicate_succ, List.flatten_cons, List.map_cons, List.map_cons, ih]; rfl
/-- `==` of arrays of bytes. -/
theorem Runs.eqlBy {t u : TypeId} {x y : Operand} {m : Nat} {l r : List UInt8} [ht : CellsT P t (List.replicate m [CelK.i .u8]).flatten] (hx : opnd env x = some (.agg (l.map u8v).toArray)) (hy : opnd env y = some (.agg (r.map u8v).toArray)) (hl : l.length = m) (hr : r.length = m) : Runs P n env F (.binOp .eql t x y u) (.bool (decide (l = r))) := by
  have h := Runs.eqlCells (P := P) (n := n) (env := env) (F := F) (t := t) (x := x) (y := y) (u := u) hx hy (by_keys l m hl) (by_keys r m hr)
  have e : decide ((l.map fun c => CelV.i .u8 (c.toNat : Int)) = (r.map fun c => CelV.i .u8 (c.toNat : Int))) = decide (l = r) := by
    rw [decide_eq_decide]
    constructor
    · intro he
      have hinj : Function.Injective (fun c : UInt8 => CelV.i .u8 (c.toNat : Int)) := fun a b h => by
        simp only [CelV.i.injEq, true_and] at h
        exact UInt8.toNat_inj.1 (by omega)
      exact (List.map_inj_right (fun a b h => hinj h)).1 he
    · rintro rfl; rfl
  rw [e] at h; exact h
end
end Go.Proofs.YtipkgamiejenaaaGreat

/- Package bytes: the walks. -/
namespace Go.Proofs.YtipkgamiejenaaaGreat
open Go Go.RowKit Go.MapKept
set_option linter.unusedVariables false
set_option linter.unusedSimpArgs false
set_option maxRecDepth 100000
set_option maxHeartbeats 2000000
def encRow (r : List UInt8) : Value := .agg (r.map u8v).toArray
instance : BuildT Tryz.prog 274 [] (By.zrow.map u8v) := ⟨fun ps r hr => by
  cases ps with
  | nil => simp only [fillL, Option.some.injEq] at hr; subst hr; kernel_rfl
  | cons p ps => simp [fillL] at hr⟩
instance : CellsT Tryz.prog 274 (List.replicate 64 [CelK.i .u8]).flatten := ⟨by kernel_rfl, by kernel_rfl, by kernel_rfl⟩
/-- The bytes tx. -/
def bytesP (b sz : Nat) (tx : List UInt8) : HProp := fun f => ∃ (m : Nat) (am : List (Int × List UInt8)), (tx.length = sz ∧ sz % 64 = 0 ∧ (1 ≤ sz ∧ sz ≤ 1048576) ∧ By.Rows am tx) ∧ sep [blk b (.cells #[.map (some m), .int .i64 (sz : Nat)] 219 (0, 0)), imap encRow m am] f
theorem bytesP.open {w : World} {b sz : Nat} {tx : List UInt8} {F : List HProp} (h : holds w (bytesP b sz tx :: F)) : ∃ (m : Nat) (am : List (Int × List UInt8)), (tx.length = sz ∧ sz % 64 = 0 ∧ (1 ≤ sz ∧ sz ≤ 1048576) ∧ By.Rows am tx) ∧ holds w (blk b (.cells #[.map (some m), .int .i64 (sz : Nat)] 219 (0, 0)) :: imap encRow m am :: F) := by
  obtain ⟨m, h⟩ := holds.open_ex h
  obtain ⟨am, h⟩ := holds.open_ex h
  obtain ⟨e, h⟩ := holds.open_pure h
  exact ⟨m, am, e, holds_sep.1 h⟩
theorem bytesP.shut {w : World} {b sz m : Nat} {tx : List UInt8} {am : List (Int × List UInt8)} {F : List HProp} (e : tx.length = sz ∧ sz % 64 = 0 ∧ (1 ≤ sz ∧ sz ≤ 1048576) ∧ By.Rows am tx) (h : holds w (blk b (.cells #[.map (some m), .int .i64 (sz : Nat)] 219 (0, 0)) :: imap encRow m am :: F)) : holds w (bytesP b sz tx :: F) :=
  (holds_sep (l := [blk b (.cells #[.map (some m), .int .i64 (sz : Nat)] 219 (0, 0)), imap encRow m am]).2 h).mono fun f hf => ⟨m, am, e, hf⟩
theorem bytes_New (sz : Nat) (h64 : sz % 64 = 0) (h0 : 1 ≤ sz) (h1 : sz ≤ 1048576) (w : World) (F : List HProp) (hw : holds w F) :
    Ct Tryz.prog 84 #[.int .i64 (sz : Nat)] w fun e w' => ∃ b : Nat, e = .returned (.pointer (some ⟨b, 0, none⟩)) ∧ holds w' (bytesP b sz (St.zeros sz) :: F) := by
  refine Ct.go (args := [.int .i64 (sz : Nat)]) Tryz.func84 rfl rfl rfl hw ?_
  repeat' (first | (first | (apply GL.isAny; refine GL.makeMap encRow rfl (fun m => ?_)) | (apply GL.isBox; refine GL.boxA (cs := #[.map (some m), .int .i64 (sz : Nat)]) rfl rfl (fun b => ?_))) | first | refine stp ?_ | (refine stpB ?_; intro _) | (refine spl ?_ ?_ <;> intro hc <;> ((try simp only [decide_eq_true_eq, decide_eq_false_iff_not, Bool.not_true, Bool.not_false, ne_eq, Classical.not_not, Int.not_lt, Int.not_le] at hc); (try (exfalso; first | omega | exact hc trivial | exact hc rfl)))))
  all_goals (first | (exfalso; omega) | (refine GE.resOne rfl (by (repeat (first | apply Res.nil | (apply Res.tmp; rfl) | (refine Res.cellA rfl rfl rfl ?_) | (refine Res.cell1 rfl rfl ?_)))) (fun w h => ?_); exact ⟨b, rfl, bytesP.shut (m := m) ⟨by simp [St.zeros], h64, ⟨h0, h1⟩, By.Rows.new sz h64⟩ h.sub⟩))
section
variable (b sz : Nat) (tx : List UInt8)
theorem bytes_Size (m : Nat) (w : World) (F : List HProp) [SeesBlk F b #[.map (some m), .int .i64 (sz : Nat)]] (hw : holds w F) :
    Ct Tryz.prog 188 #[.pointer (some ⟨b, 0, none⟩)] w fun e w' => e = .returned (.int .i64 (sz : Nat)) ∧ holds w' F := by
  refine Ct.go (args := [.pointer (some ⟨b, 0, none⟩)]) Tryz.func188 rfl rfl rfl hw ?_
  repeat' (first | refine stp ?_ | (refine stpB ?_; intro _) | (refine spl ?_ ?_ <;> intro hc <;> ((try simp only [decide_eq_true_eq, decide_eq_false_iff_not, Bool.not_true, Bool.not_false, ne_eq, Classical.not_not, Int.not_lt, Int.not_le] at hc); (try (exfalso; first | omega | exact hc trivial | exact hc rfl)))))
  refine GE.resOne rfl (by (repeat (first | apply Res.nil | (apply Res.tmp; rfl) | (refine Res.cellA rfl rfl rfl ?_) | (refine Res.cell1 rfl rfl ?_)))) (fun w h => ?_); exact ⟨rfl, h.sub⟩
theorem bytes_check (hsz : sz ≤ 1048576) (m : Nat) (k n : Int) (w : World) (F : List HProp) [SeesBlk F b #[.map (some m), .int .i64 (sz : Nat)]] (hw : holds w F) :
    Ct Tryz.prog 168 #[.pointer (some ⟨b, 0, none⟩), .int .i64 k, .int .i64 n] w fun e w' => e = .returned (.int .i64 (if k < 0 ∨ n < 0 ∨ (sz : Int) < k + n then 15 else 0)) ∧ holds w' F := by
  refine Ct.go (args := [.pointer (some ⟨b, 0, none⟩), .int .i64 k, .int .i64 n]) Tryz.func168 rfl rfl rfl hw ?_
  repeat' (first | refine stp ?_ | (refine stpB ?_; intro _) | (refine spl ?_ ?_ <;> intro hc <;> ((try simp only [decide_eq_true_eq, decide_eq_false_iff_not, Bool.not_true, Bool.not_false, ne_eq, Classical.not_not, Int.not_lt, Int.not_le] at hc); (try (exfalso; first | omega | exact hc trivial | exact hc rfl)))))
  all_goals (first | (exfalso; omega) | (refine GE.resOne rfl (by (repeat (first | apply Res.nil | (apply Res.tmp; rfl) | (refine Res.cellA rfl rfl rfl ?_) | (refine Res.cell1 rfl rfl ?_)))) (fun w h => ?_); exact ⟨by first | rw [if_pos (by omega)] | rw [if_neg (by omega)], h⟩))
theorem bytes_Clean (w : World) (F : List HProp) (hw : holds w (bytesP b sz tx :: F)) :
    Ct Tryz.prog 116 #[.pointer (some ⟨b, 0, none⟩)] w fun e w' => e = .returned (.bool (decide (∀ y ∈ tx, y = 0))) ∧ holds w' (bytesP b sz tx :: F) := by
  obtain ⟨m, am, ⟨e1, e2, e3, e4⟩, h1⟩ := bytesP.open hw
  refine Ct.go (args := [.pointer (some ⟨b, 0, none⟩)]) Tryz.func116 rfl rfl rfl h1 ?_
  have hc2 := e4.clean (by omega)
  repeat' (first | refine stp ?_ | (refine stpB ?_; intro _) | (refine spl ?_ ?_ <;> intro hc <;> ((try simp only [decide_eq_true_eq, decide_eq_false_iff_not, Bool.not_true, Bool.not_false, ne_eq, Classical.not_not, Int.not_lt, Int.not_le] at hc); (try (exfalso; first | omega | exact hc trivial | exact hc rfl)))))
  all_goals (first | (exfalso; simp at hc; done) | skip)
  refine GE.resOne rfl (by (repeat (first | apply Res.nil | (apply Res.tmp; rfl) | (refine Res.cellA rfl rfl rfl ?_) | (refine Res.cell1 rfl rfl ?_)))) (fun w h => ?_)
  refine ⟨?_, bytesP.shut (m := m) ⟨e1, e2, e3, e4⟩ h.sub⟩
  congr 2
  rw [decide_eq_decide, ← hc2]
  constructor
  · intro h; exact List.eq_nil_of_length_eq_zero (by omega)
  · rintro rfl; rfl
end
end Go.Proofs.YtipkgamiejenaaaGreat

/- Functions of sync/atomic, which have no body: they load, store, add and swap. -/
namespace Go.Proofs.YtipkgamiejenaaaGreat
open Go Go.RowKit Go.MapKept
set_option linter.unusedVariables false
set_option linter.unusedSimpArgs false
section
variable {P : Program} {f : FuncId} {fn : Func}
class ExtLoad (P : Program) (f : FuncId) (k : outParam IntKind) : Prop where
  run : ∀ (a : Addr) (x : Int) (w : World), w.cell? a = some (.int k x) → (callFunc f #[.pointer (some a)]).run P w = .ok (.value (.int k x)) w
theorem ExtLoad.of (hf : P.funcs[f]? = some fn) (hname : (fn.name == "runtime.NumGoroutine") = false) (hb : fn.body.isNone = true) (hn : Extern.findNext fn = none) (k : IntKind) (he : Extern.find fn = some (Extern.Atomic.loadT (.int k))) : ExtLoad P f k := ⟨fun a x w hc => run_call_load hf hname hb hn k he hc⟩
class ExtStore (P : Program) (f : FuncId) : Prop where
  run : ∀ (a : Addr) (k : IntKind) (y : Int) (u : Value) (w : World), w.cell? a = some u → w.frozen? a = false → (callFunc f #[.pointer (some a), .int k y]).run P w = .ok (.value (.tuple #[])) (w.setCell a (.int k y))
theorem ExtStore.of (hf : P.funcs[f]? = some fn) (hname : (fn.name == "runtime.NumGoroutine") = false) (hb : fn.body.isNone = true) (hn : Extern.findNext fn = none) (he : Extern.find fn = some Extern.Atomic.storeT) : ExtStore P f := ⟨fun a k y u w hc hz => run_call_store hf hname hb hn he hc hz⟩
class ExtAdd (P : Program) (f : FuncId) (k : outParam IntKind) : Prop where
  run : ∀ (a : Addr) (x y : Int) (w : World), w.cell? a = some (.int k x) → w.frozen? a = false → (callFunc f #[.pointer (some a), .int k y]).run P w = .ok (.value (.int k (k.wrap (x + y)))) (w.setCell a (.int k (k.wrap (x + y))))
theorem ExtAdd.of (hf : P.funcs[f]? = some fn) (hname : (fn.name == "runtime.NumGoroutine") = false) (hb : fn.body.isNone = true) (hn : Extern.findNext fn = none) (k : IntKind) (he : Extern.find fn = some (Extern.Atomic.update (Op.intArith .add) k true)) : ExtAdd P f k := ⟨fun a x y w hc hz => run_call_add hf hname hb hn k he hc hz (by simp [Op.intArith])⟩
class ExtCas (P : Program) (f : FuncId) (k : outParam IntKind) : Prop where
  run : ∀ (a : Addr) (x y : Int) (w : World), w.cell? a = some (.int k x) → w.frozen? a = false → (callFunc f #[.pointer (some a), .int k x, .int k y]).run P w = .ok (.value (.bool true)) (w.setCell a (.int k y))
theorem ExtCas.of (hf : P.funcs[f]? = some fn) (hname : (fn.name == "runtime.NumGoroutine") = false) (hb : fn.body.isNone = true) (hn : Extern.findNext fn = none) (k : IntKind) (he : Extern.find fn = some (Extern.Atomic.casT (.int k))) : ExtCas P f k := ⟨fun a x y w hc hz => run_call_cas_hit hf hname hb hn k he hc hz⟩
end
theorem holds.notFrozen {w : World} {l : List HProp} {b o : Nat} {c : Array Value} {T : TypeId} (h : holds w (blk b (.cells c T (0, 0)) :: l)) : w.frozen? ⟨b, o, none⟩ = false := by
  simp [World.frozen?, h.get_blk]
theorem holds.cellAt {w : World} {l : List HProp} {b o : Nat} {c : Array Value} {T : TypeId} {u : Value} (h : holds w (blk b (.cells c T (0, 0)) :: l)) (hu : nthL c.toList o = some u) : w.cell? ⟨b, o, none⟩ = some u := (cell_of_row w b o c T (0, 0) h.get_blk).trans (nthL_arr hu)
theorem holds.setAt {w : World} {l : List HProp} {b o : Nat} {c : Array Value} {T : TypeId} {u : Value} (h : holds w (blk b (.cells c T (0, 0)) :: l)) : holds (w.setCell ⟨b, o, none⟩ u) (blk b (.cells (c.toList.set o u).toArray T (0, 0)) :: l) := by
  have h1 := h.setCell o u
  have : (c.toList.set o u).toArray = c.setIfInBounds o u := by apply Array.ext'; simp
  rw [this]; exact h1
section
variable {P : Program} {n d : Nat} {Q : Exit → Act → World → Prop} {env : Env} {F F' : List HProp} {ops : Array Oper} {rest : List Oper} {ty T : TypeId} {pos : String} {aft : Array Edge} {f : FuncId} {k : IntKind} {xs : List Operand} {b o : Nat} {c : Array Value} {i j : Int} {ts : Array TypeId} {u : Value}
theorem Fits.callRun {a : Act} {w w' : World} {vs : List Value} {r : Next} {d : Option Tmp} {g : Option (Nat × Bool)} (hf : Fits n a env) (hx : opnds env xs = some vs) (hr : (callFunc f vs.toArray).run P w = .ok r w') :
    (execOp a.eval ⟨d, .call { callee := .value (.func f), args := xs.toArray, argTypes := ts }, ty, pos, aft, g⟩).run P w = .ok r w' := by
  simp [execOp, resolve, Act.eval, Deferred.ofValue, invoke, hf.evals hx, Result.andThen]
  exact hr
theorem Runs.extLoad [he : ExtLoad P f k] [hb : SeesBlk F b c] (hx : opnds env xs = some [.pointer (some ⟨b, o, none⟩)]) (hu : nthL c.toList o = some (.int k i)) : Runs P n env F (.call { callee := .value (.func f), args := xs.toArray, argTypes := ts }) (.int k i) := .mk fun a w ty pos aft g d hf hw => by
  obtain ⟨T, fz, h⟩ := hb.at_ w hw
  have hc : w.cell? ⟨b, o, none⟩ = some (.int k i) := (cell_of_row w b o c T fz h).trans (nthL_arr hu)
  exact hf.callRun hx (he.run _ _ w hc)
/-- The end of a function without results. -/
theorem GE.res0 {fn : Func} {R : Ending → World → Prop} {e : Exit} (he : e = .normal ∨ e = .ret) (hr : fn.results = #[]) (hR : ∀ w, holds w F → R (.returned (.tuple #[])) w) : GE n e (bodyPost P fn R) env F := .mk fun a w hf hw => by
  have h1 : (results fn a.tmps).run P w = .ok (.tuple #[]) w := by simp [results, hr]
  rcases he with rfl | rfl <;> exact ⟨hf.defs, _, h1, hR w hw⟩
end
end Go.Proofs.YtipkgamiejenaaaGreat

/- Which types are strings. Printed by gentypes.py. -/
namespace Go.Proofs.YtipkgamiejenaaaGreat
open Go Go.RowKit
set_option maxRecDepth 100000
instance : StrT Tryz.prog 9 := ⟨by kernel_rfl⟩
end Go.Proofs.YtipkgamiejenaaaGreat

/- Package bytes: bytes are put row by row; a text is put, bytes are wiped. -/
namespace Go.Proofs.YtipkgamiejenaaaGreat
open Go Go.RowKit Go.MapKept
set_option linter.unusedVariables false
set_option linter.unusedSimpArgs false
set_option maxRecDepth 100000
set_option maxHeartbeats 2000000
instance : ZeroT Tryz.prog 274 (encRow By.zrow) 64 64 := (inferInstance : ZeroT Tryz.prog 274 _ _ _)
theorem Runs.lookRow {P : Program} {n : Nat} {env : Env} {F F' : List HProp} {t k e : TypeId} {x y : Operand} {b size bytes : Nat} {i : Int} {m : List (Int × List UInt8)} [hm : MapT P t k e] [hk : IntT P k .i64] [hz : ZeroT P e (encRow By.zrow) size bytes] (hx : opnd env x = some (.map (some b))) (hy : opnd env y = some (.int .i64 i)) [hr : HasMap F b encRow m F'] :
    Runs P n env F (.lookup t x y false) (encRow ((alGet m i).getD By.zrow)) := by
  cases h : alGet m i with
  | none => exact Runs.lookupN hx hy h
  | some u => exact Runs.lookupS hx hy h
theorem Runs.sliceArrM {P : Program} {n : Nat} {env : Env} {F : List HProp} {t e : TypeId} {x y z : Operand} {b m : Nat} {i j : Int} (k q : Nat) [ht : ArrT P t m e 1] (hx : opnd env x = some (.pointer (some ⟨b, 0, none⟩))) (hlo : opnd env y = some (.int .i64 i)) (hhi : opnd env z = some (.int .i64 j)) (hi : i = (k : Nat)) (hj : j = (k : Int) + (q : Nat)) (hqm : k + q ≤ m) (hkm : k < m) :
    Runs P n env F (.slice t x (some y) (some z) none) (.slice (some ⟨b, k, none⟩) q (m - k)) := by
  have h := Runs.sliceArr (P := P) (n := n) (env := env) (F := F) (t := t) (x := x) (lo := some y) (up := some z) (b := b) (m := m) (i := i) (j := j) k (k + q) hx (by simp [bnd, hlo]) (by simp [bnd, hhi]) hi (by omega) (by omega) hqm hkm
  rw [Nat.add_sub_cancel_left] at h; exact h
section
variable (b sz : Nat) (tx : List UInt8)
theorem bytes_put (g : FuncId) [hg : Own Tryz.prog g] (first cap : List Value) (E : HProp) (k0 nn : Nat) (d : List UInt8) (hnn : d.length = nn) (hfit : k0 + d.length ≤ sz)
    (hfill : ∀ (rb k mm i : Nat) (row : List UInt8) (w : World) (F : List HProp), k + mm ≤ 64 → 0 < mm → i + mm ≤ d.length → holds w (byB 274 rb 64 row :: E :: F) → Ct Tryz.prog g (first ++ [Value.slice (some ⟨rb, k, none⟩) mm (64 - k), Value.int .i64 (i : Nat)] ++ cap).toArray w fun e w' => e = .returned (.tuple #[]) ∧ holds w' (byB 274 rb 64 (By.splice row k ((d.drop i).take mm)) :: E :: F))
    (w : World) (F : List HProp) (hw : holds w (bytesP b sz tx :: E :: F)) :
    Ct Tryz.prog 169 #[.pointer (some ⟨b, 0, none⟩), .int .i64 (k0 : Nat), .int .i64 (nn : Nat), .func (.func g) first.toArray cap.toArray] w fun e w' => e = .returned (.tuple #[]) ∧ holds w' (bytesP b sz (By.splice tx k0 d) :: E :: F) := by
  subst hnn
  obtain ⟨m, am, ⟨e1, e2, e3, e4⟩, h1⟩ := bytesP.open hw
  refine Ct.go (args := [.pointer (some ⟨b, 0, none⟩), .int .i64 (k0 : Nat), .int .i64 (d.length : Nat), .func (.func g) first.toArray cap.toArray]) Tryz.func169 rfl rfl rfl h1 ?_
  repeat' (first | refine stp ?_ | (refine stpB ?_; intro _) | (refine spl ?_ ?_ <;> intro hc <;> ((try simp only [decide_eq_true_eq, decide_eq_false_iff_not, Bool.not_true, Bool.not_false, ne_eq, Classical.not_not, Int.not_lt, Int.not_le] at hc); (try (exfalso; first | omega | exact hc trivial | exact hc rfl)))))
  refine G.loopK [0, 1, 2, 3] (Nat × List (Int × List UInt8)) (fun y => [(8, .int .i64 y.1)]) (fun y => blk b (.cells #[.map (some m), .int .i64 (sz : Nat)] 219 (0, 0)) :: imap encRow m y.2 :: E :: F) (fun y => y.1 ≤ d.length ∧ By.Rows y.2 (By.splice tx k0 (d.take y.1))) (fun y => d.length - y.1) ((0, am)) (⟨Nat.zero_le _, by rw [List.take_zero, By.splice_nil]; exact e4⟩) (by repeat (first | exact trivial | refine And.intro rfl ?_)) (fun w h => by (try dsimp only); first | exact h | exact h.sub | ((try simp only [List.take_zero, List.drop_zero, List.map_nil, List.nil_append, List.zipIdx_nil, List.filter_nil]); exact h.sub)) ?_
  rintro ⟨i, am2⟩ ⟨hi, hR⟩
  dsimp only at hi hR ⊢
  by_cases hlt : i < d.length
  · obtain ⟨a, ha⟩ : ∃ a, a = (k0 + i) / 64 := ⟨_, rfl⟩
    obtain ⟨k, hk⟩ : ∃ k, k = (k0 + i) % 64 := ⟨_, rfl⟩
    obtain ⟨mm, hm⟩ : ∃ mm, mm = min (64 - k) (d.length - i) := ⟨_, rfl⟩
    have hda : ((k0 : Int) + i) / 64 = (a : Nat) := by omega
    have hdk : ((k0 : Int) + i) % 64 = (k : Nat) := by omega
    have hdm : min (64 - (k : Int)) ((d.length : Int) - i) = (mm : Nat) := by omega
    have hl : (By.splice tx k0 (d.take i)).length = sz := by rw [By.splice_len _ _ _ (by rw [List.length_take]; omega)]; exact e1
    generalize ht : By.splice tx k0 (d.take i) = t at hR hl
    have ha64 : 64 * a < t.length := by omega
    have hrow := hR.get a ha64
    have hrl := By.row_len t a (by omega)
    have hsl : ((d.drop i).take mm).length = mm := by rw [List.length_take, List.length_drop]; omega
    have hput := hR.put (by omega) a k (s := (d.drop i).take mm) (by omega) ha64
    have hmore := By.splice_more tx d k0 i mm (by omega) (by omega)
    rw [ht, show k0 + i = 64 * a + k by omega] at hmore
    rw [hmore] at hput
    have hsp : (By.splice (By.row t a) k ((d.drop i).take mm)).length = 64 := by rw [By.splice_len _ _ _ (by omega)]; exact hrl
    have hz : By.zrow.length = 64 := rfl
    have hF := fun rb w F h => hfill rb k mm i (By.row t a) w F (by omega) (by omega) (by omega) h
    generalize hq : By.splice (By.row t a) k ((d.drop i).take mm) = q at hput hsp hF
    have hn : (i : Int) + mm = ((i + mm : Nat) : Int) := by omega
    repeat' (first | (first | (refine G.isRegion 3 ?_; rw [hda, hdk]; apply G.region) | (refine G.isRegion 5 ?_; rw [hdm]; apply G.region) | (apply GL.isAny; refine GL.run (v := encRow (By.row t a)) (by apply Runs.isLookup; rw [← hrow]; exact Runs.lookRow rfl rfl) rfl ?_) | (apply GL.isAlloc; refine GL.alloc rfl (fun rb => ?_)) | (apply GL.isStore; refine GL.storeBy (l := By.row t a) rfl rfl hrl rfl ?_) | (apply GL.isAny; refine GL.run (by apply Runs.isSlice; exact Runs.sliceArrM k mm rfl rfl rfl rfl rfl (by omega) (by omega)) rfl ?_) | (apply GL.isCall; refine GL.callV1 (first := first) (captured := cap) (vs := [.slice (some ⟨rb, k, none⟩) mm (64 - k), .int .i64 (i : Nat)]) rfl rfl rfl (fun w h => hF rb w (blk b (.cells #[.map (some m), .int .i64 (sz : Nat)] 219 (0, 0)) :: imap encRow m am2 :: F) h.sub) ?_) | (apply GL.isAny; refine GL.run (by apply Runs.isLoad; exact Runs.loadBy rfl) rfl ?_) | (apply GL.isAny; refine GL.run (by apply Runs.isBin; exact Runs.eqlBy (m := 64) (l := q) (r := By.zrow) rfl rfl hsp hz) rfl ?_) | refine G.drawTail 6 (by kernel_rfl) (by simp only [List.take_succ_cons, List.take_zero]; rfl) (by simp only [List.drop_succ_cons, List.drop_zero]; rfl) (by kernel_rfl) ?_ | (apply GD.isAny; refine GD.run (by apply Runs.isLoad; exact Runs.loadBy rfl) rfl ?_) | (refine GL.mapDelete rfl rfl rfl ?_) | (refine GL.mapUpdate q rfl rfl rfl rfl ?_)) | first | refine stp ?_ | (refine stpB ?_; intro _) | (refine spl ?_ ?_ <;> intro hc <;> ((try simp only [decide_eq_true_eq, decide_eq_false_iff_not, Bool.not_true, Bool.not_false, ne_eq, Classical.not_not, Int.not_lt, Int.not_le] at hc); (try (exfalso; first | omega | exact hc trivial | exact hc rfl)))))
    all_goals (first | (exfalso; omega) | skip)
    · have hp : By.putRow am2 a q = alDel am2 a := by unfold By.putRow; rw [if_pos hc]
      rw [hp] at hput
      rw [hn]
      refine GE.round ((i + mm, alDel am2 a)) (⟨by omega, hput⟩) (by repeat (first | exact trivial | refine And.intro rfl ?_)) (fun w h => by (try dsimp only); exact h.sub) (by (try dsimp only); omega)
    · have hp : By.putRow am2 a q = alSet am2 a q := by unfold By.putRow; rw [if_neg hc]
      rw [hp] at hput
      rw [hn]
      refine GE.round ((i + mm, alSet am2 a q)) (⟨by omega, hput⟩) (by repeat (first | exact trivial | refine And.intro rfl ?_)) (fun w h => by (try dsimp only); exact h.sub) (by (try dsimp only); omega)
  · obtain rfl : i = d.length := by omega
    rw [List.take_of_length_le (Nat.le_refl _)] at hR
    repeat' (first | refine stp ?_ | (refine stpB ?_; intro _) | (refine spl ?_ ?_ <;> intro hc <;> ((try simp only [decide_eq_true_eq, decide_eq_false_iff_not, Bool.not_true, Bool.not_false, ne_eq, Classical.not_not, Int.not_lt, Int.not_le] at hc); (try (exfalso; first | omega | exact hc trivial | exact hc rfl)))))
    all_goals (first | (exfalso; omega) | skip)
    (first | refine GE.res0 (.inl rfl) rfl (fun w h => ?_) | refine GE.res0 (.inr rfl) rfl (fun w h => ?_))
    exact ⟨rfl, bytesP.shut (m := m) ⟨by rw [By.splice_len _ _ _ (by omega)]; exact e1, e2, e3, hR⟩ h.sub⟩
theorem bytes_Store1 (rb sb k mm i : Nat) (row s : List UInt8) (hk : k + mm ≤ 64) (hi : i + mm ≤ s.length) (w : World) (F : List HProp) (hw : holds w (byB 274 rb 64 row :: blk sb (.cells #[.string (bs s)] 9 (0, 0)) :: F)) :
    Ct Tryz.prog 170 #[.slice (some ⟨rb, k, none⟩) mm (64 - k), .int .i64 (i : Nat), .pointer (some ⟨sb, 0, none⟩)] w fun e w' => e = .returned (.tuple #[]) ∧ holds w' (byB 274 rb 64 (By.splice row k ((s.drop i).take mm)) :: blk sb (.cells #[.string (bs s)] 9 (0, 0)) :: F) := by
  refine Ct.go (args := [.slice (some ⟨rb, k, none⟩) mm (64 - k), .int .i64 (i : Nat), .pointer (some ⟨sb, 0, none⟩)]) Tryz.func170 rfl rfl rfl hw ?_
  repeat' (first | (first | (apply GL.isAny; refine GL.run (by apply Runs.isSlice; exact Runs.strFrom (a := i) rfl rfl rfl (by omega)) rfl ?_) | (refine GL.copyBS (s := s.drop i) rfl rfl (by rw [List.length_drop]; omega) (by omega) rfl ?_)) | first | refine stp ?_ | (refine stpB ?_; intro _) | (refine spl ?_ ?_ <;> intro hc <;> ((try simp only [decide_eq_true_eq, decide_eq_false_iff_not, Bool.not_true, Bool.not_false, ne_eq, Classical.not_not, Int.not_lt, Int.not_le] at hc); (try (exfalso; first | omega | exact hc trivial | exact hc rfl)))))
  (first | refine GE.res0 (.inl rfl) rfl (fun w h => ?_) | refine GE.res0 (.inr rfl) rfl (fun w h => ?_))
  exact ⟨rfl, h.sub⟩
theorem bytes_Wipe1 (rb k mm i : Nat) (row : List UInt8) (hk : k + mm ≤ 64) (hm : 0 < mm) (w : World) (F : List HProp) (hw : holds w (byB 274 rb 64 row :: F)) :
    Ct Tryz.prog 224 #[.slice (some ⟨rb, k, none⟩) mm (64 - k), .int .i64 (i : Nat)] w fun e w' => e = .returned (.tuple #[]) ∧ holds w' (byB 274 rb 64 (By.splice row k (List.replicate mm 0)) :: F) := by
  refine Ct.go (args := [.slice (some ⟨rb, k, none⟩) mm (64 - k), .int .i64 (i : Nat)]) Tryz.func224 rfl rfl rfl hw ?_
  repeat' (first | ((refine GL.clearBy rfl hm (by omega) ?_)) | first | refine stp ?_ | (refine stpB ?_; intro _) | (refine spl ?_ ?_ <;> intro hc <;> ((try simp only [decide_eq_true_eq, decide_eq_false_iff_not, Bool.not_true, Bool.not_false, ne_eq, Classical.not_not, Int.not_lt, Int.not_le] at hc); (try (exfalso; first | omega | exact hc trivial | exact hc rfl)))))

  (first | refine GE.res0 (.inl rfl) rfl (fun w h => ?_) | refine GE.res0 (.inr rfl) rfl (fun w h => ?_))
  exact ⟨rfl, h.sub⟩
end
end Go.Proofs.YtipkgamiejenaaaGreat

/- Package bytes: Store, Wipe, Load. -/
namespace Go.Proofs.YtipkgamiejenaaaGreat
open Go Go.RowKit Go.MapKept
set_option linter.unusedVariables false
set_option linter.unusedSimpArgs false
set_option maxRecDepth 100000
set_option maxHeartbeats 2000000
namespace By
theorem fill (cut : List UInt8) (n i q : Nat) (hc : cut.length = n) (h : i + q ≤ n) : splice (cut.take i ++ List.replicate (n - i) 0) i ((cut.drop i).take q) = cut.take (i + q) ++ List.replicate (n - (i + q)) 0 := by
  have l1 : (cut.take i).length = i := by rw [List.length_take]; omega
  have l2 : ((cut.drop i).take q).length = q := by rw [List.length_take, List.length_drop]; omega
  have l3 : (cut.take i ++ List.replicate (n - i) (0 : UInt8)).take i = cut.take i := by rw [List.take_append_of_le_length (by omega), List.take_of_length_le (by omega)]
  have l4 : (cut.take i ++ List.replicate (n - i) (0 : UInt8)).drop (i + q) = List.replicate (n - (i + q)) 0 := by
    rw [List.drop_append, l1, show (cut.take i).drop (i + q) = [] from List.drop_eq_nil_of_le (by omega), List.nil_append, List.drop_replicate]
    congr 1; omega
  unfold splice
  rw [l2, l3, l4, ← List.take_add]
end By
def encB1 (c : UInt8) : List Value := [u8v c]
instance : Enc encB1 1 := ⟨fun _ => rfl, fun _ => by simp [encB1, u8v, Value.oneCell'], by omega⟩
theorem flat_bytes : ∀ l : List UInt8, l.flatMap encB1 = l.map u8v
  | [] => rfl
  | a :: l => by rw [List.flatMap_cons, flat_bytes l]; rfl
theorem byB.ofOwn {w : World} {T : TypeId} {g k : Nat} {l : List UInt8} {F : List HProp} (h : holds w (owns T encB1 1 (.slice (some ⟨g, 0, none⟩) k k) l :: F)) : holds w (byB T g k l :: F) := by
  obtain ⟨hl, ho⟩ := holds.open_own h
  rcases ho with ⟨h1, _⟩ | ⟨g', cap, cur, h1, h2, h3, h4, h5, h6⟩
  · cases h1
  · simp only [Value.slice.injEq, Option.some.injEq, Addr.mk.injEq] at h1
    obtain ⟨⟨rfl, -, -⟩, hk, rfl⟩ := h1
    refine byB.shut hk.symm ?_
    have e : cur = (l.map u8v).toArray := by
      apply Array.ext'
      rw [List.take_of_length_le (by simp at h4 ⊢; omega), flat_bytes] at h5
      exact h5
    rw [← e]; exact h6
abbrev fStore1 : FuncId := 170
abbrev fWipe1 : FuncId := 224
def nilP : HProp := fun _ => True
theorem holds.addNil {w : World} {F : List HProp} (h : holds w F) : holds w (nilP :: F) := by
  obtain ⟨f, hf, hs⟩ := h
  exact ⟨f, hf, ⟨f.os, f.tape, f.output, fun _ => none⟩, f, trivial, hs, ⟨rfl, rfl, rfl, rfl, rfl, rfl, fun _ => .inl ⟨rfl, rfl⟩⟩⟩
section
variable (b sz : Nat) (tx : List UInt8)
theorem bytes_Store (k : Int) (s : List UInt8) (hs : s.length ≤ 1099511627776) (w : World) (F : List HProp) (hw : holds w (bytesP b sz tx :: F)) :
    Ct Tryz.prog 106 #[.pointer (some ⟨b, 0, none⟩), .int .i64 k, .string (bs s)] w fun e w' => e = .returned (.int .i64 (if St.off tx k s.length then 15 else 0)) ∧ holds w' (bytesP b sz (if St.off tx k s.length then tx else By.splice tx k.toNat s) :: F) := by
  obtain ⟨m, am, ⟨e1, e2, e3, e4⟩, h1⟩ := bytesP.open hw
  have hck := fun w (F : List HProp) [SeesBlk F b #[.map (some m), .int .i64 (sz : Nat)]] h => bytes_check b sz e3.2 m k s.length w F h
  have eo : (k < 0 ∨ (s.length : Int) < 0 ∨ (sz : Int) < k + s.length) ↔ St.off tx k s.length := by unfold St.off; rw [e1]
  refine Ct.go (args := [.pointer (some ⟨b, 0, none⟩), .int .i64 k, .string (bs s)]) Tryz.func106 rfl rfl rfl h1 ?_
  by_cases ho : St.off tx k s.length
  · rw [if_pos ho, if_pos ho]
    rw [if_pos (eo.2 ho)] at hck
    repeat' (first | (first | (apply GL.isBox; refine GL.box1 rfl rfl rfl (fun sb => ?_)) | (apply GL.isAny; refine GL.run (Runs.strLen rfl) rfl ?_) | first | (apply GL.isCall; refine GL.call1 rfl rfl (fun w h => hck w _ h) ?_) | (apply GD.isAny; refine GD.call rfl rfl (fun w F' h => hck w _ h) ?_)) | first | refine stp ?_ | (refine stpB ?_; intro _) | (refine spl ?_ ?_ <;> intro hc <;> ((try simp only [decide_eq_true_eq, decide_eq_false_iff_not, Bool.not_true, Bool.not_false, ne_eq, Classical.not_not, Int.not_lt, Int.not_le] at hc); (try (exfalso; first | omega | exact hc trivial | exact hc rfl)))))
    all_goals (first | (exfalso; simp at hc; done) | (refine GE.resOne rfl (by (repeat (first | apply Res.nil | (apply Res.tmp; rfl) | (refine Res.cellA rfl rfl rfl ?_) | (refine Res.cell1 rfl rfl ?_)))) (fun w h => ?_); exact ⟨rfl, bytesP.shut (m := m) ⟨e1, e2, e3, e4⟩ h.sub⟩))
  · rw [if_neg ho, if_neg ho]
    rw [if_neg (fun h => ho (eo.1 h))] at hck
    unfold St.off at ho
    obtain ⟨k0, rfl⟩ : ∃ k0 : Nat, k = k0 := ⟨k.toNat, by omega⟩
    rw [Int.toNat_natCast]
    have hput := fun (sb : Nat) w (F : List HProp) h => bytes_put b sz tx fStore1 [] [.pointer (some ⟨sb, 0, none⟩)] (blk sb (.cells #[.string (bs s)] 9 (0, 0))) k0 s.length s rfl (by omega) (fun rb k mm i row w F q1 q2 q3 h => bytes_Store1 rb sb k mm i row s q1 q3 w F h) w F h
    repeat' (first | (first | (apply GL.isBox; refine GL.box1 rfl rfl rfl (fun sb => ?_)) | (apply GL.isAny; refine GL.run (Runs.strLen rfl) rfl ?_) | first | (apply GL.isCall; refine GL.call1 rfl rfl (fun w h => hck w _ h) ?_) | (apply GD.isAny; refine GD.call rfl rfl (fun w F' h => hck w _ h) ?_) | (apply GL.isCall; refine GL.call1 (vs := [.pointer (some ⟨b, 0, none⟩), .int .i64 (k0 : Nat), .int .i64 (s.length : Nat), .func (.func fStore1) #[] #[.pointer (some ⟨sb, 0, none⟩)]]) rfl rfl (fun w h => hput sb w F (bytesP.shut (m := m) (am := am) ⟨e1, e2, e3, e4⟩ (holds.sub (H := blk b (.cells #[.map (some m), .int .i64 (sz : Nat)] 219 (0, 0)) :: imap encRow m am :: blk sb (.cells #[.string (bs s)] 9 (0, 0)) :: F) h))) ?_)) | first | refine stp ?_ | (refine stpB ?_; intro _) | (refine spl ?_ ?_ <;> intro hc <;> ((try simp only [decide_eq_true_eq, decide_eq_false_iff_not, Bool.not_true, Bool.not_false, ne_eq, Classical.not_not, Int.not_lt, Int.not_le] at hc); (try (exfalso; first | omega | exact hc trivial | exact hc rfl)))))
    all_goals (first | (exfalso; simp at hc; done) | (refine GE.resOne rfl (by (repeat (first | apply Res.nil | (apply Res.tmp; rfl) | (refine Res.cellA rfl rfl rfl ?_) | (refine Res.cell1 rfl rfl ?_)))) (fun w h => ?_); exact ⟨rfl, h.sub⟩))
theorem bytes_Wipe (k n : Int) (hb : n ≤ 1099511627776) (w : World) (F : List HProp) (hw : holds w (bytesP b sz tx :: F)) :
    Ct Tryz.prog 191 #[.pointer (some ⟨b, 0, none⟩), .int .i64 k, .int .i64 n] w fun e w' => e = .returned (.int .i64 (if St.off tx k n then 15 else 0)) ∧ holds w' (bytesP b sz (if St.off tx k n then tx else By.splice tx k.toNat (St.zeros n.toNat)) :: F) := by
  obtain ⟨m, am, ⟨e1, e2, e3, e4⟩, h1⟩ := bytesP.open hw
  have hck := fun w (F : List HProp) [SeesBlk F b #[.map (some m), .int .i64 (sz : Nat)]] h => bytes_check b sz e3.2 m k n w F h
  have eo : (k < 0 ∨ n < 0 ∨ (sz : Int) < k + n) ↔ St.off tx k n := by unfold St.off; rw [e1]
  refine Ct.go (args := [.pointer (some ⟨b, 0, none⟩), .int .i64 k, .int .i64 n]) Tryz.func191 rfl rfl rfl h1 ?_
  by_cases ho : St.off tx k n
  · rw [if_pos ho, if_pos ho]
    rw [if_pos (eo.2 ho)] at hck
    repeat' (first | (first | (apply GL.isCall; refine GL.call1 rfl rfl (fun w h => hck w _ h) ?_) | (apply GD.isAny; refine GD.call rfl rfl (fun w F' h => hck w _ h) ?_)) | first | refine stp ?_ | (refine stpB ?_; intro _) | (refine spl ?_ ?_ <;> intro hc <;> ((try simp only [decide_eq_true_eq, decide_eq_false_iff_not, Bool.not_true, Bool.not_false, ne_eq, Classical.not_not, Int.not_lt, Int.not_le] at hc); (try (exfalso; first | omega | exact hc trivial | exact hc rfl)))))
    all_goals (first | (exfalso; simp at hc; done) | (refine GE.resOne rfl (by (repeat (first | apply Res.nil | (apply Res.tmp; rfl) | (refine Res.cellA rfl rfl rfl ?_) | (refine Res.cell1 rfl rfl ?_)))) (fun w h => ?_); exact ⟨rfl, bytesP.shut (m := m) ⟨e1, e2, e3, e4⟩ h.sub⟩))
  · rw [if_neg ho, if_neg ho]
    rw [if_neg (fun h => ho (eo.1 h))] at hck
    unfold St.off at ho
    obtain ⟨k0, rfl⟩ : ∃ k0 : Nat, k = k0 := ⟨k.toNat, by omega⟩
    obtain ⟨n0, rfl⟩ : ∃ n0 : Nat, n = n0 := ⟨n.toNat, by omega⟩
    rw [Int.toNat_natCast, Int.toNat_natCast]
    have hzl : (St.zeros n0).length = n0 := by simp [St.zeros]
    have hput := fun w (F : List HProp) h => bytes_put b sz tx fWipe1 [] [] nilP k0 n0 (St.zeros n0) hzl (by rw [hzl]; omega) (fun rb k mm i row w F q1 q2 q3 h => by
      have e : ((St.zeros n0).drop i).take mm = List.replicate mm 0 := by
        rw [hzl] at q3
        unfold St.zeros
        rw [List.drop_replicate, List.take_replicate, Nat.min_eq_left (by omega)]
      rw [e]
      exact bytes_Wipe1 rb k mm i row q1 q2 w (nilP :: F) h) w F h
    repeat' (first | (first | first | (apply GL.isCall; refine GL.call1 rfl rfl (fun w h => hck w _ h) ?_) | (apply GD.isAny; refine GD.call rfl rfl (fun w F' h => hck w _ h) ?_) | (apply GL.isCall; refine GL.call1 (vs := [.pointer (some ⟨b, 0, none⟩), .int .i64 (k0 : Nat), .int .i64 (n0 : Nat), .func (.func fWipe1) #[] #[]]) rfl rfl (fun w h => hput w F ((bytesP.shut (m := m) (am := am) ⟨e1, e2, e3, e4⟩ (holds.sub (H := blk b (.cells #[.map (some m), .int .i64 (sz : Nat)] 219 (0, 0)) :: imap encRow m am :: F) h)).addNil.order [1, 0])) ?_)) | first | refine stp ?_ | (refine stpB ?_; intro _) | (refine spl ?_ ?_ <;> intro hc <;> ((try simp only [decide_eq_true_eq, decide_eq_false_iff_not, Bool.not_true, Bool.not_false, ne_eq, Classical.not_not, Int.not_lt, Int.not_le] at hc); (try (exfalso; first | omega | exact hc trivial | exact hc rfl)))))
    all_goals (first | (exfalso; simp at hc; done) | (refine GE.resOne rfl (by (repeat (first | apply Res.nil | (apply Res.tmp; rfl) | (refine Res.cellA rfl rfl rfl ?_) | (refine Res.cell1 rfl rfl ?_)))) (fun w h => ?_); exact ⟨rfl, h.sub⟩))
end
end Go.Proofs.YtipkgamiejenaaaGreat
