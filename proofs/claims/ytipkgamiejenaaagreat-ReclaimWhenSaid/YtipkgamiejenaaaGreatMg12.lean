import Derived.Test.YtipkgamiejenaaaGreatMg11
import Derived.StillTailTactics
import Derived.IntWalk

import Derived.Test.YtipkgamiejenaaaGreatMg9
import Derived.Test.YtipkgamiejenaaaGreatMg5
/- Contracts of package tags: Leave, Raise, New. -/
namespace Go.Proofs.YtipkgamiejenaaaGreat
open Go Go.RowKit Go.MapKept
set_option maxRecDepth 100000
set_option maxHeartbeats 1600000
set_option linter.unusedVariables false

theorem tags_Leave (w : World) (v : Value) (l : List (Int × Int)) (i : Int) (F : List HProp) (hl : l.length ≤ 1048576) (hw : holds w (tagsAt v l :: F)) :
    Calls Tryz.prog 100 #[v, .int .i64 i] w fun e w' => e = .returned (.int .i64 (Tags.leave l i).1) ∧ holds w' (tagsAt v (Tags.leave l i).2 :: F) := by
  obtain ⟨b, g, bm, m, rfl, hm, h⟩ := open_tags hw
  have c0 := cellAt h.get_blk 0
  have c1 := cellAt h.get_blk 1
  simp at c0 c1
  have qT : ∀ (w : World) (r : Option Nat), (binOp .eql 156 (.map r) (.map none)).run Tryz.prog w = .ok (.bool r.isNone) w := fun w r => run_eql_map_nil w _ _ _ r Tryz.underlying156
  have HM := Lib.hid hm
  clear hm
  by_cases h0 : 0 ≤ i ∧ i < l.length
  · obtain ⟨k, rfl⟩ := Int.eq_ofNat_of_zero_le h0.1
    have hk : k < l.length := by omega
    obtain ⟨k1, k2⟩ := tagArr_at l k hk
    rw [← cellAt (h.pick 1).get_blk] at k1 k2
    have hf := frozen_of_row w g (k * 2) _ _ (h.pick 1).get_blk
    have hset := tagArr_set1 l k hk 0
    have hkk : ∀ w' : World, w'.heap[g]? = some (.cells (tagArr l) 215 (0, 0)) → w'.cell? ⟨g, k * 2, none⟩ = some (.int .i64 l[k].1) := fun w' hw' => by rw [cellAt hw']; exact (tagArr_at l k hk).1
    have e : Tags.leave l k = if l[k].1 = 0 then (20, l) else (0, l.set k (0, l[k].2)) := by unfold Tags.leave; rw [if_neg (by omega)]; simp [hk]
    have hlv : 0 < l[k].1 → _ := fun hp => HM.out.leave k hk hp
    have hpos := HM.out.own l[k] (List.getElem_mem hk)
    have hg := HM.out.getD l[k].1
    have hcl := cnt_le l l[k].1
    rw [e]
    have HS := Lib.hid hset
    have HL := Lib.hid hlv
    have HK := Lib.hid hkk
    clear e hset hlv k2 h0 hkk
    by_cases hz : l[k].1 = 0
    · rw [if_pos hz]
      rw [hz] at k1
      clear hz hpos hg hcl
      go_enter Tryz.func100, Tryz.ntmps100
      go_wp2
      go_ret
      exact ⟨rfl, hw⟩
    · rw [if_neg hz]
      have hb : (l[k].1 == 0) = false := by simpa using hz
      obtain ⟨hc1, hone, hmore⟩ := HL.out (by omega)
      have HONE := Lib.hid hone
      have HMORE := Lib.hid hmore
      clear hone hmore HL hz
      generalize l[k].1 = x at k1 hb hg hcl hpos hc1 HONE HMORE HK
      generalize cnt l x = c at hg hcl hc1 HONE HMORE
      have hlk := run_lookup_sl (P := Tryz.prog) (t := 156) (z := (0 : Int)) Tryz.underlying156 Tryz.underlying3 (by kernel_rfl) (h.drew.pick 2) x false
      simp only [Bool.false_eq_true, if_false] at hlk
      rw [hg] at hlk
      clear hg
      have hm2 := h.drew.pick 2
      go_enter Tryz.func100, Tryz.ntmps100
      by_cases hone : c = 1
      · subst hone
        have HO := Lib.hid (HONE.out rfl)
        clear HONE HMORE
        go_wp2
        go_still_tail 10, (by kernel_rfl)
        change wpList _ _ _ _ _ w.drew
        refine wpList_mapUpdate_sl rfl rfl _ _ _ _ rfl Tryz.underlying156 Tryz.underlying3 rfl _ (0 : Int) rfl rfl hm2 ?_
        clear hlk c0 c1 k1 hf hm2
        intro w3 h3
        have d1 := cellAt (h3.pick 1).get_blk 1
        simp at d1
        have k1 := HK.out w3 (h3.pick 2).get_blk
        have hlk2 := run_lookup_sl (P := Tryz.prog) (t := 156) (z := (0 : Int)) Tryz.underlying156 Tryz.underlying3 (by kernel_rfl) h3 x false
        rw [alGet_set, if_pos rfl] at hlk2
        simp only [Bool.false_eq_true, if_false, Option.getD_some] at hlk2
        have hlk3 := run_lookup_sl (P := Tryz.prog) (t := 156) (z := (0 : Int)) Tryz.underlying156 Tryz.underlying3 (by kernel_rfl) h3.drew x false
        rw [alGet_set, if_pos rfl] at hlk3
        simp only [Bool.false_eq_true, if_false, Option.getD_some] at hlk3
        go_wp2
        go_still_tail 9, (by kernel_rfl)
        change wpList _ _ _ _ _ w3.drew
        have h4 := h3.drew
        clear hlk2 hlk3 d1 k1
        generalize w3.drew = w4 at h4 ⊢
        have d1 := cellAt (h4.pick 1).get_blk 1
        simp at d1
        have k1 := HK.out _ (h4.pick 2).get_blk
        have hf := frozen_of_row _ g (k * 2) _ _ (h4.pick 2).get_blk
        go_wp2
        have hm4 := h4.drew
        go_still_tail 8, (by kernel_rfl)
        change wpList _ _ _ _ _ w4.drew
        refine wpList_delete_sl rfl rfl _ _ _ rfl Tryz.underlying156 Tryz.underlying3 rfl _ rfl hm4 ?_
        clear d1 k1 hf
        intro w5 h5
        have hf := frozen_of_row w5 g (k * 2) _ _ (h5.pick 2).get_blk
        have k1 := HK.out _ (h5.pick 2).get_blk
        go_wp2
        go_ret
        exact ⟨rfl, by
          have h6 := tags_set (h5.order [1, 2, 0]) HS.out
          refine shut_tags (g := g) (bm := bm) HO.out ?_
          rw [List.length_set]
          exact h6⟩
      · have HO := Lib.hid (HMORE.out hone)
        have hne : ((c : Int) - 1 == 0) = false := by simp; omega
        have hwr : IntKind.i64.wrap ((c : Int) - 1) = (c : Int) - 1 := IntWalk.i64_in _ (by omega)
        clear HONE HMORE
        go_wp2
        go_still_tail 10, (by kernel_rfl)
        change wpList _ _ _ _ _ w.drew
        refine wpList_mapUpdate_sl rfl rfl _ _ _ _ rfl Tryz.underlying156 Tryz.underlying3 rfl _ ((c : Nat) - 1 : Int) rfl rfl hm2 ?_
        clear hlk c0 c1 k1 hf hm2
        intro w3 h3
        have d1 := cellAt (h3.pick 1).get_blk 1
        simp at d1
        have k1 := HK.out w3 (h3.pick 2).get_blk
        have hlk2 := run_lookup_sl (P := Tryz.prog) (t := 156) (z := (0 : Int)) Tryz.underlying156 Tryz.underlying3 (by kernel_rfl) h3 x false
        rw [alGet_set, if_pos rfl] at hlk2
        simp only [Bool.false_eq_true, if_false, Option.getD_some] at hlk2
        have hlk3 := run_lookup_sl (P := Tryz.prog) (t := 156) (z := (0 : Int)) Tryz.underlying156 Tryz.underlying3 (by kernel_rfl) h3.drew x false
        rw [alGet_set, if_pos rfl] at hlk3
        simp only [Bool.false_eq_true, if_false, Option.getD_some] at hlk3
        go_wp2
        go_still_tail 9, (by kernel_rfl)
        change wpList _ _ _ _ _ w3.drew
        have h4 := h3.drew
        clear hlk2 hlk3 d1 k1
        generalize w3.drew = w4 at h4 ⊢
        have d1 := cellAt (h4.pick 1).get_blk 1
        simp at d1
        have k1 := HK.out _ (h4.pick 2).get_blk
        have hf := frozen_of_row _ g (k * 2) _ _ (h4.pick 2).get_blk
        go_wp2
        go_ret
        exact ⟨rfl, by
          have h6 := tags_set (h4.order [1, 2, 0]) HS.out
          refine shut_tags (g := g) (bm := bm) HO.out ?_
          rw [List.length_set]
          exact h6⟩
  · have e : Tags.leave l i = (2, l) := by unfold Tags.leave; rw [if_pos (by omega)]
    rw [e]
    by_cases h1 : 0 ≤ i
    · have h2 : ¬ i < l.length := by omega
      clear h0
      go_enter Tryz.func100, Tryz.ntmps100
      go_wp2
      go_ret
      exact ⟨rfl, hw⟩
    · clear h0
      go_enter Tryz.func100, Tryz.ntmps100
      go_wp2
      go_ret
      exact ⟨rfl, hw⟩

theorem tags_Raise (w : World) (v : Value) (l : List (Int × Int)) (i : Int) (F : List HProp) (hl : l.length ≤ 1048576) (hgen : ∀ t ∈ l, 0 ≤ t.2 ∧ t.2 ≤ 1048575) (hw : holds w (tagsAt v l :: F)) :
    Calls Tryz.prog 134 #[v, .int .i64 i] w fun e w' => e = .returned (.int .i64 (Tags.raise l i).1) ∧ holds w' (tagsAt v (Tags.raise l i).2 :: F) := by
  obtain ⟨b, g, bm, m, rfl, hm, h⟩ := open_tags hw
  have c0 := cellAt h.get_blk 0
  have c1 := cellAt h.get_blk 1
  simp at c0 c1
  have qT : ∀ (w : World) (r : Option Nat), (binOp .eql 156 (.map r) (.map none)).run Tryz.prog w = .ok (.bool r.isNone) w := fun w r => run_eql_map_nil w _ _ _ r Tryz.underlying156
  have HM := Lib.hid hm
  clear hm
  by_cases h0 : 0 ≤ i ∧ i < l.length
  · obtain ⟨k, rfl⟩ := Int.eq_ofNat_of_zero_le h0.1
    have hk : k < l.length := by omega
    obtain ⟨k1, k2⟩ := tagArr_at l k hk
    rw [← cellAt (h.pick 1).get_blk] at k1 k2
    have hf := frozen_of_row w g (k * 2 + 1) _ _ (h.pick 1).get_blk
    have hset := tagArr_set2 l k hk (l[k].2 + 1)
    have e : Tags.raise l k = if l[k].1 ≠ 0 then (19, l) else if 1048575 ≤ l[k].2 then (6, l) else (0, l.set k (l[k].1, l[k].2 + 1)) := by unfold Tags.raise; rw [if_neg (by omega)]; simp [hk]
    have hr := HM.out.raise k hk (l[k].2 + 1)
    have hgb := hgen l[k] (List.getElem_mem hk)
    rw [e]
    have HS := Lib.hid hset
    have HR := Lib.hid hr
    clear e hset hr h0 hgen
    by_cases hz : l[k].1 = 0
    · rw [if_neg (by simpa using hz)]
      rw [hz] at k1 HS HR
      rw [hz]
      clear hz
      by_cases hg : 1048575 ≤ l[k].2
      · rw [if_pos hg]
        go_enter Tryz.func134, Tryz.ntmps134
        go_wp2
        go_ret
        exact ⟨rfl, hw⟩
      · rw [if_neg hg]
        go_enter Tryz.func134, Tryz.ntmps134
        go_wp2
        go_ret
        refine ⟨rfl, ?_⟩
        have h2 := tags_set h HS.out
        refine shut_tags (g := g) (bm := bm) HR.out ?_
        rw [List.length_set]
        exact h2
    · rw [if_pos hz]
      have hb : (l[k].1 != 0) = true := by simpa using hz
      generalize l[k].1 = x at k1 hb
      go_enter Tryz.func134, Tryz.ntmps134
      go_wp2
      go_ret
      exact ⟨rfl, hw⟩
  · have e : Tags.raise l i = (2, l) := by unfold Tags.raise; rw [if_pos (by omega)]
    rw [e]
    by_cases h1 : 0 ≤ i
    · have h2 : ¬ i < l.length := by omega
      clear h0
      go_enter Tryz.func134, Tryz.ntmps134
      go_wp2
      go_ret
      exact ⟨rfl, hw⟩
    · clear h0
      go_enter Tryz.func134, Tryz.ntmps134
      go_wp2
      go_ret
      exact ⟨rfl, hw⟩

end Go.Proofs.YtipkgamiejenaaaGreat

/- Contracts of package tags: New, Of. -/
namespace Go.Proofs.YtipkgamiejenaaaGreat
open Go Go.RowKit Go.MapKept
set_option maxRecDepth 100000
set_option linter.unusedVariables false

/-- The places at which a number stands. -/
def ofTo (L : List Int) (o : Int) (k : Nat) : List Int := ((List.range k).filter fun i => L.getD i 0 == o).map Int.ofNat
def ofs (L : List Int) (o : Int) : List Int := if 0 < o then ofTo L o L.length else []
theorem madeCells_two (z : Value) (m : Nat) : madeCells #[z, z] m = Array.replicate m z := by
  apply Array.ext
  · simp [size_madeCells]
  · intro i h1 h2
    rcases Nat.mod_two_eq_zero_or_one i with h | h <;> simp [madeCells, h]
theorem tagArr_replicate (n : Nat) : tagArr (List.replicate n (0, 0)) = Array.replicate (n * 2) (.int .i64 0) := by
  induction n with
  | zero => rfl
  | succ n ih =>
    have h := congrArg Array.toList ih
    apply Array.ext'
    simp only [tagArr, Array.toList_replicate] at h ⊢
    rw [List.replicate_succ, List.flatMap_cons, h, show (n + 1) * 2 = n * 2 + 1 + 1 by omega, List.replicate_succ, List.replicate_succ]
    rfl
theorem ManyOk.new (n : Nat) : ManyOk (List.replicate n (0, 0)) [] := by
  refine ⟨fun o => ?_, by simp [alKeys], fun t ht => by rw [List.eq_of_mem_replicate ht]; exact Int.le_refl _⟩
  have : cnt (List.replicate n (0, 0)) o = 0 := by
    unfold cnt
    split
    · rename_i ho
      rw [List.filter_replicate, if_neg (by simp; omega)]
      rfl
    · rfl
  rw [this, if_pos rfl]
  rfl

theorem Tryz.infoTag : (Tryz.prog.info? 215).map (fun i => (i.zero, i.size, i.bytes)) = some (some (.agg #[.int .i64 0, .int .i64 0]), 2, 16) := by kernel_rfl

theorem tags_New (w : World) (n : Int) (F : List HProp) (hn0 : 0 ≤ n) (hn : n ≤ 1048576) (hw : holds w F) :
    Calls Tryz.prog 65 #[.int .i64 n] w fun e w' => ∃ v, e = .returned v ∧ holds w' (tagsAt v (List.replicate n.toNat (0, 0)) :: F) := by
  obtain ⟨n, rfl⟩ := Int.eq_ofNat_of_zero_le hn0
  rw [Int.toNat_natCast]
  obtain ⟨i0, hi, hz0, hz1, hz2⟩ := info_parts Tryz.infoTag
  have hm := fun w (hw : holds w F) => run_make_sl (P := Tryz.prog) (t := 198) Tryz.underlying198 hi hz0 hz1 hw .i64 .i64 (x := n) (c := n) (by omega) (by omega) (by rw [hz2]; omega) (by omega)
  have hm1 := (hm w hw).1
  have hmm := @run_makeMap Tryz.prog
  have hc : madeCells (Value.agg #[.int .i64 0, .int .i64 0]).cells (n * 2) = tagArr (List.replicate n (0, 0)) := by
    rw [tagArr_replicate, ← madeCells_two]
    congr 1
  simp only [Int.toNat_natCast, hc] at hm1
  clear hm hi hz0 hz1 hz2 hc
  go_enter Tryz.func65, Tryz.ntmps65
  go_wp2
  go_ret
  have h1 := ((hw.alloc (.cells (tagArr (List.replicate n (0, 0))) 215 (0, 0))).alloc (.map #[] 0)).mkMap (enc := (.int .i64 : Int → Value)) (m := []) rfl (stamped_empty 0)
  have h2 := (h1.alloc (.cells #[.slice (some ⟨w.heap.size, 0, none⟩) n n, .map (some (w.heap.size + 1))] 200 (0, 0))).order [0, 2, 1]
  simp only [World.size_alloc] at h2
  refine ⟨_, rfl, shut_tags (g := w.heap.size) (bm := w.heap.size + 1) (ManyOk.new n) ?_⟩
  rw [List.length_replicate]
  exact h2

end Go.Proofs.YtipkgamiejenaaaGreat

/- Package store: what lies in memory. -/
namespace Go.Proofs.YtipkgamiejenaaaGreat
open Go Go.RowKit Go.MapKept
set_option linter.unusedVariables false
set_option linter.unusedSimpArgs false
set_option maxRecDepth 100000
theorem eraseIdx_perm {α : Type _} : ∀ (l : List α) (i : Nat) (h : i < l.length), (l[i] :: l.eraseIdx i).Perm l
  | a :: l, 0, _ => .refl _
  | a :: l, i + 1, h => by
    have ih := eraseIdx_perm l i (by simpa using h)
    simp only [List.getElem_cons_succ, List.eraseIdx_cons_succ]
    exact (List.Perm.swap _ _ _).trans (ih.cons a)
  | [], i, h => by simp at h
/-- Pieces, numbered. -/
def bigF (n : Nat) (f : Nat → HProp) : HProp := sep ((List.range n).map f)
theorem bigF.take {w : World} {n i : Nat} {f : Nat → HProp} {F : List HProp} (hi : i < n) (h : holds w (bigF n f :: F)) : holds w (f i :: sep (((List.range n).map f).eraseIdx i) :: F) := by
  have h1 := (holds_sep.1 h).pick i (A := f i) (by rw [List.getElem?_append_left (by simpa using hi)]; simp [hi])
  rw [List.eraseIdx_append_of_lt_length (by simpa using hi)] at h1
  exact ((holds_sep (l := ((List.range n).map f).eraseIdx i) (m := f i :: F)).2 (h1.perm List.perm_middle.symm)).order [1, 0]
theorem bigF.put {w : World} {n i : Nat} {f f' : Nat → HProp} {F : List HProp} (hi : i < n) (hf : ∀ j, j < n → j ≠ i → f' j = f j) (h : holds w (f' i :: sep (((List.range n).map f).eraseIdx i) :: F)) : holds w (bigF n f' :: F) := by
  have e : ((List.range n).map f).eraseIdx i = ((List.range n).map f').eraseIdx i := by
    apply List.ext_getElem
    · simp [List.length_eraseIdx]
    · intro j h1 h2
      simp only [List.length_eraseIdx, List.length_map, List.length_range, hi, if_true] at h1
      rw [List.getElem_eraseIdx, List.getElem_eraseIdx]
      split
      · simp only [List.getElem_map, List.getElem_range]; exact (hf _ (by omega) (by omega)).symm
      · simp only [List.getElem_map, List.getElem_range]; exact (hf _ (by omega) (by omega)).symm
  rw [e] at h
  have h1 : holds w (f' i :: (((List.range n).map f').eraseIdx i ++ F)) := (holds_sep.1 (h.order [1, 0])).perm List.perm_middle
  refine holds_sep.2 (h1.perm ?_)
  have h2 : (f' i :: ((List.range n).map f').eraseIdx i).Perm ((List.range n).map f') := by
    have h3 : ((List.range n).map f')[i]'(by simpa using hi) = f' i := by simp
    have := eraseIdx_perm ((List.range n).map f') i (by simpa using hi)
    rw [h3] at this; exact this
  exact h2.append_right F
@[reducible] def pV (o : Option Nat) : Value := .pointer (o.map fun b => ⟨b, 0, none⟩)
/-- What a chunk has: whether its bytes are there, the lock, the phase, the bytes, the wiping. -/
structure CellV where
  d : Int
  l : Int
  ph : Int
  bp : Option Nat
  wp : Option Nat
@[reducible] def encCell (c : CellV) : List Value := [.int .u32 c.d, .int .i32 c.l, .int .u32 0, .int .i64 c.ph, pV c.bp, pV c.wp]
instance : Enc encCell 6 := ⟨fun _ => rfl, fun c => by simp [encCell, Value.oneCell', pV], by omega⟩
def cell0 : CellV := ⟨0, 0, 0, none, none⟩
def bytesO (o : Option Nat) (sz : Nat) (tx : List UInt8) : HProp := match o with
  | some b => bytesP b sz tx
  | none => fun _ => ∀ y ∈ tx, y = 0
def wipeO (o p : Option Nat) (x : Int) : HProp := match o with
  | some wb => blk wb (.cells #[pV p, .int .i64 x] 262 (0, 0))
  | none => nilP
structure CellV.Ok (v : CellV) (c : ChunkM) : Prop where
  l : v.l = 0
  ph : v.ph = c.phase
  d : v.d = if v.bp.isSome then 1 else 0
  bp : c.phase ≠ 0 → v.bp.isSome = true
  wp : v.wp.isSome = true ↔ c.phase = 3
def chunkP (sz : Nat) (c : ChunkM) (tx : List UInt8) (x : Int) (v : CellV) : HProp := fun f => v.Ok c ∧ sep [bytesO v.bp sz tx, wipeO v.wp v.bp x] f
theorem chunkP.open {w : World} {sz : Nat} {c : ChunkM} {tx : List UInt8} {x : Int} {v : CellV} {F : List HProp} (h : holds w (chunkP sz c tx x v :: F)) : v.Ok c ∧ holds w (bytesO v.bp sz tx :: wipeO v.wp v.bp x :: F) := by
  obtain ⟨e, h⟩ := holds.open_pure h
  exact ⟨e, holds_sep.1 h⟩
theorem chunkP.shut {w : World} {sz : Nat} {c : ChunkM} {tx : List UInt8} {x : Int} {v : CellV} {F : List HProp} (e : v.Ok c) (h : holds w (bytesO v.bp sz tx :: wipeO v.wp v.bp x :: F)) : holds w (chunkP sz c tx x v :: F) :=
  (holds_sep (l := [bytesO v.bp sz tx, wipeO v.wp v.bp x]).2 h).mono fun f hf => ⟨e, hf⟩
def chunkF (t : St.S) (vs : List CellV) (i : Nat) : HProp := chunkP t.size (t.c i) (t.x i) (t.w i) (vs.getD i cell0)
structure StoM where
  tb : Nat
  fb : Nat
  cb : Nat
  kb : Nat
  vs : List CellV
/-- A store. -/
def storeP (sb : Nat) (t : St.S) : HProp := fun f => ∃ q : StoM, q.vs.length = t.ch.length ∧ sep [blk sb (.cells #[.pointer (some ⟨q.tb, 0, none⟩), .pointer (some ⟨q.fb, 0, none⟩), .slice (some ⟨q.cb, 0, none⟩) t.ch.length t.ch.length, .int .i64 (t.size : Nat), .int .i64 (St.cntP t.ch 0), .int .i64 (St.cntP t.ch 1), .int .i64 (St.cntP t.ch 2), .int .i64 (St.cntP t.ch 3), .pointer (some ⟨q.kb, 0, none⟩)] 123 (0, 0)), tagsAt (.pointer (some ⟨q.tb, 0, none⟩)) (t.ch.map fun c => (c.owner, c.gen)), freeP (.pointer (some ⟨q.fb, 0, none⟩)) t.ch.length t.stack, owns 148 encCell 6 (.slice (some ⟨q.cb, 0, none⟩) t.ch.length t.ch.length) q.vs, bigF t.ch.length (chunkF t q.vs), bookP (.pointer (some ⟨q.kb, 0, none⟩)) 4 t.ev] f
theorem storeP.open {w : World} {sb : Nat} {t : St.S} {F : List HProp} (h : holds w (storeP sb t :: F)) : ∃ q : StoM, q.vs.length = t.ch.length ∧ holds w (blk sb (.cells #[.pointer (some ⟨q.tb, 0, none⟩), .pointer (some ⟨q.fb, 0, none⟩), .slice (some ⟨q.cb, 0, none⟩) t.ch.length t.ch.length, .int .i64 (t.size : Nat), .int .i64 (St.cntP t.ch 0), .int .i64 (St.cntP t.ch 1), .int .i64 (St.cntP t.ch 2), .int .i64 (St.cntP t.ch 3), .pointer (some ⟨q.kb, 0, none⟩)] 123 (0, 0)) :: tagsAt (.pointer (some ⟨q.tb, 0, none⟩)) (t.ch.map fun c => (c.owner, c.gen)) :: freeP (.pointer (some ⟨q.fb, 0, none⟩)) t.ch.length t.stack :: owns 148 encCell 6 (.slice (some ⟨q.cb, 0, none⟩) t.ch.length t.ch.length) q.vs :: bigF t.ch.length (chunkF t q.vs) :: bookP (.pointer (some ⟨q.kb, 0, none⟩)) 4 t.ev :: F) := by
  obtain ⟨q, h⟩ := holds.open_ex h
  obtain ⟨e, h⟩ := holds.open_pure h
  exact ⟨q, e, holds_sep.1 h⟩
theorem storeP.shut {w : World} {sb : Nat} {t : St.S} {F : List HProp} (q : StoM) (e : q.vs.length = t.ch.length) (h : holds w (blk sb (.cells #[.pointer (some ⟨q.tb, 0, none⟩), .pointer (some ⟨q.fb, 0, none⟩), .slice (some ⟨q.cb, 0, none⟩) t.ch.length t.ch.length, .int .i64 (t.size : Nat), .int .i64 (St.cntP t.ch 0), .int .i64 (St.cntP t.ch 1), .int .i64 (St.cntP t.ch 2), .int .i64 (St.cntP t.ch 3), .pointer (some ⟨q.kb, 0, none⟩)] 123 (0, 0)) :: tagsAt (.pointer (some ⟨q.tb, 0, none⟩)) (t.ch.map fun c => (c.owner, c.gen)) :: freeP (.pointer (some ⟨q.fb, 0, none⟩)) t.ch.length t.stack :: owns 148 encCell 6 (.slice (some ⟨q.cb, 0, none⟩) t.ch.length t.ch.length) q.vs :: bigF t.ch.length (chunkF t q.vs) :: bookP (.pointer (some ⟨q.kb, 0, none⟩)) 4 t.ev :: F)) : holds w (storeP sb t :: F) :=
  (holds_sep (l := [blk sb (.cells #[.pointer (some ⟨q.tb, 0, none⟩), .pointer (some ⟨q.fb, 0, none⟩), .slice (some ⟨q.cb, 0, none⟩) t.ch.length t.ch.length, .int .i64 (t.size : Nat), .int .i64 (St.cntP t.ch 0), .int .i64 (St.cntP t.ch 1), .int .i64 (St.cntP t.ch 2), .int .i64 (St.cntP t.ch 3), .pointer (some ⟨q.kb, 0, none⟩)] 123 (0, 0)), tagsAt (.pointer (some ⟨q.tb, 0, none⟩)) (t.ch.map fun c => (c.owner, c.gen)), freeP (.pointer (some ⟨q.fb, 0, none⟩)) t.ch.length t.stack, owns 148 encCell 6 (.slice (some ⟨q.cb, 0, none⟩) t.ch.length t.ch.length) q.vs, bigF t.ch.length (chunkF t q.vs), bookP (.pointer (some ⟨q.kb, 0, none⟩)) 4 t.ev]).2 h).mono fun f hf => ⟨q, e, hf⟩
end Go.Proofs.YtipkgamiejenaaaGreat

/- Package store: find, and lead. -/
namespace Go.Proofs.YtipkgamiejenaaaGreat
open Go Go.RowKit Go.MapKept
set_option linter.unusedVariables false
set_option linter.unusedSimpArgs false
set_option maxRecDepth 100000
set_option maxHeartbeats 2000000
theorem phase_step (p : Nat) (hp : p < 4) (w : World) (F : List HProp) (hw : holds w F) :
    Ct Tryz.prog 152 #[.int .i64 (p : Nat), .int .i64 ((p + 1 : Nat) : Int)] w fun r w' => r = .returned (.tuple #[.int .i64 (((p + 1) % 4 : Nat) : Int), .int .i64 0]) ∧ holds w' F := by
  have h := phase_Next p (p + 1) hp ⟨by omega, by omega⟩ w F hw
  rw [if_pos rfl, if_pos rfl] at h
  exact h
theorem phase_stop (p e : Nat) (hp : p < 4) (he : 1 ≤ e ∧ e ≤ 4) (hne : p + 1 ≠ e) (w : World) (F : List HProp) (hw : holds w F) :
    Ct Tryz.prog 152 #[.int .i64 (p : Nat), .int .i64 (e : Nat)] w fun r w' => r = .returned (.tuple #[.int .i64 0, .int .i64 18]) ∧ holds w' F := by
  have h := phase_Next p e hp he w F hw
  rw [if_neg hne, if_neg hne] at h
  exact h
section
variable (sb n sz : Nat) (q : StoM) (m0 m1 m2 m3 : Int)
theorem store_is (w : World) (F : List HProp) [SeesBlk F sb #[.pointer (some ⟨q.tb, 0, none⟩), .pointer (some ⟨q.fb, 0, none⟩), .slice (some ⟨q.cb, 0, none⟩) n n, .int .i64 (sz : Nat), .int .i64 m0, .int .i64 m1, .int .i64 m2, .int .i64 m3, .pointer (some ⟨q.kb, 0, none⟩)]] (hw : holds w F) :
    Ct Tryz.prog 78 #[.pointer (some ⟨sb, 0, none⟩)] w fun e w' => e = .returned (.bool true) ∧ holds w' F := by
  refine Ct.go (args := [.pointer (some ⟨sb, 0, none⟩)]) Tryz.func78 rfl rfl rfl hw ?_
  repeat' (first | refine stp ?_ | (refine stpB ?_; intro _) | (refine spl ?_ ?_ <;> intro hc <;> ((try simp only [decide_eq_true_eq, decide_eq_false_iff_not, Bool.not_true, Bool.not_false, ne_eq, Classical.not_not, Int.not_lt, Int.not_le] at hc); (try (exfalso; first | omega | exact hc trivial | exact hc rfl)))))
  refine GE.resOne rfl (by (repeat (first | apply Res.nil | (apply Res.tmp; rfl) | (refine Res.cellA rfl rfl rfl ?_) | (refine Res.cell1 rfl rfl ?_)))) (fun w h => ?_); exact ⟨rfl, h.sub⟩
theorem store_find (vs : List CellV) (hv : vs.length = n) (i : Nat) (hi : i < n) (w : World) (F : List HProp) [SeesBlk F sb #[.pointer (some ⟨q.tb, 0, none⟩), .pointer (some ⟨q.fb, 0, none⟩), .slice (some ⟨q.cb, 0, none⟩) n n, .int .i64 (sz : Nat), .int .i64 m0, .int .i64 m1, .int .i64 m2, .int .i64 m3, .pointer (some ⟨q.kb, 0, none⟩)]] [Reads F (.slice (some ⟨q.cb, 0, none⟩) n n) encCell 6 vs] (hw : holds w F) :
    Ct Tryz.prog 98 #[.pointer (some ⟨sb, 0, none⟩), .int .i64 (i : Nat)] w fun e w' => e = .returned (.tuple #[.pointer (some ⟨rowB (.slice (some ⟨q.cb, 0, none⟩) n n), rowO (.slice (some ⟨q.cb, 0, none⟩) n n) + i * 6, none⟩), .int .i64 0]) ∧ holds w' F := by
  refine Ct.go (args := [.pointer (some ⟨sb, 0, none⟩), .int .i64 (i : Nat)]) Tryz.func98 rfl rfl rfl hw ?_
  repeat' (first | (first | first | (apply GL.isCall; refine GL.call1 rfl rfl (fun w h => store_is sb n sz q m0 m1 m2 m3 w _ h) ?_) | (apply GD.isAny; refine GD.call rfl rfl (fun w F' h => store_is sb n sz q m0 m1 m2 m3 w _ h) ?_) | (apply GL.isAny; refine GL.run (by apply Runs.isIndexA; exact Runs.indexAddr (k := i) rfl rfl rfl rfl (by omega)) rfl ?_)) | first | refine stp ?_ | (refine stpB ?_; intro _) | (refine spl ?_ ?_ <;> intro hc <;> ((try simp only [decide_eq_true_eq, decide_eq_false_iff_not, Bool.not_true, Bool.not_false, ne_eq, Classical.not_not, Int.not_lt, Int.not_le] at hc); (try (exfalso; first | omega | exact hc trivial | exact hc rfl)))))
  all_goals (first | (exfalso; omega) | (exfalso; simp at hc; done) | (refine GE.resMany rfl (by (repeat (first | apply Res.nil | (apply Res.tmp; rfl) | (refine Res.cellA rfl rfl rfl ?_) | (refine Res.cell1 rfl rfl ?_)))) (fun w h => ?_); exact ⟨rfl, h⟩))
theorem store_findN (vs : List CellV) (hv : vs.length = n) (i : Int) (hi : i < 0 ∨ (n : Int) ≤ i) (w : World) (F : List HProp) [SeesBlk F sb #[.pointer (some ⟨q.tb, 0, none⟩), .pointer (some ⟨q.fb, 0, none⟩), .slice (some ⟨q.cb, 0, none⟩) n n, .int .i64 (sz : Nat), .int .i64 m0, .int .i64 m1, .int .i64 m2, .int .i64 m3, .pointer (some ⟨q.kb, 0, none⟩)]] [Reads F (.slice (some ⟨q.cb, 0, none⟩) n n) encCell 6 vs] (hw : holds w F) :
    Ct Tryz.prog 98 #[.pointer (some ⟨sb, 0, none⟩), .int .i64 i] w fun e w' => e = .returned (.tuple #[.pointer none, .int .i64 2]) ∧ holds w' F := by
  refine Ct.go (args := [.pointer (some ⟨sb, 0, none⟩), .int .i64 i]) Tryz.func98 rfl rfl rfl hw ?_
  repeat' (first | (first | (apply GL.isCall; refine GL.call1 rfl rfl (fun w h => store_is sb n sz q m0 m1 m2 m3 w _ h) ?_) | (apply GD.isAny; refine GD.call rfl rfl (fun w F' h => store_is sb n sz q m0 m1 m2 m3 w _ h) ?_)) | first | refine stp ?_ | (refine stpB ?_; intro _) | (refine spl ?_ ?_ <;> intro hc <;> ((try simp only [decide_eq_true_eq, decide_eq_false_iff_not, Bool.not_true, Bool.not_false, ne_eq, Classical.not_not, Int.not_lt, Int.not_le] at hc); (try (exfalso; first | omega | exact hc trivial | exact hc rfl)))))
  all_goals (first | (exfalso; omega) | (exfalso; simp at hc; done) | (refine GE.resMany rfl (by (repeat (first | apply Res.nil | (apply Res.tmp; rfl) | (refine Res.cellA rfl rfl rfl ?_) | (refine Res.cell1 rfl rfl ?_)))) (fun w h => ?_); exact ⟨rfl, h⟩))
theorem store_leadN (vs : List CellV) (ev : List Int) (i p e : Nat) (hi : i < vs.length) (hp : p < 4) (he : 1 ≤ e ∧ e ≤ 4) (hne : p + 1 ≠ e) (hph : (vs[i]).ph = p) (w : World) (F : List HProp) [Reads F (.slice (some ⟨q.cb, 0, none⟩) n n) encCell 6 vs] (hw : holds w F) :
    Ct Tryz.prog 86 #[.pointer (some ⟨sb, 0, none⟩), .pointer (some ⟨rowB (.slice (some ⟨q.cb, 0, none⟩) n n), rowO (.slice (some ⟨q.cb, 0, none⟩) n n) + i * 6, none⟩), .int .i64 (e : Nat)] w fun r w' => r = .returned (.int .i64 18) ∧ holds w' F := by
  refine Ct.go (args := [.pointer (some ⟨sb, 0, none⟩), .pointer (some ⟨rowB (.slice (some ⟨q.cb, 0, none⟩) n n), rowO (.slice (some ⟨q.cb, 0, none⟩) n n) + i * 6, none⟩), .int .i64 (e : Nat)]) Tryz.func86 rfl rfl rfl hw ?_
  repeat' (first | (first | (rw [hph]) | first | (apply GL.isCall; refine GL.call1 rfl rfl (fun w h => phase_stop p e hp he hne w _ h) ?_) | (apply GD.isAny; refine GD.call rfl rfl (fun w F' h => phase_stop p e hp he hne w _ h) ?_)) | first | refine stp ?_ | (refine stpB ?_; intro _) | (refine spl ?_ ?_ <;> intro hc <;> ((try simp only [decide_eq_true_eq, decide_eq_false_iff_not, Bool.not_true, Bool.not_false, ne_eq, Classical.not_not, Int.not_lt, Int.not_le] at hc); (try (exfalso; first | omega | exact hc trivial | exact hc rfl)))))
  all_goals (first | (exfalso; simp at hc; done) | (refine GE.resOne rfl (by (repeat (first | apply Res.nil | (apply Res.tmp; rfl) | (refine Res.cellA rfl rfl rfl ?_) | (refine Res.cell1 rfl rfl ?_)))) (fun w h => ?_); exact ⟨rfl, h.sub⟩))
theorem store_lead (vs : List CellV) (ev : List Int) (hev : ev.length = 4) (i p : Nat) (hi : i < vs.length) (hp : p < 4) (hph : (vs[i]).ph = p) (n0 n1 n2 n3 : Int) (hN : [n0, n1, n2, n3] = ([m0, m1, m2, m3].set p ([m0, m1, m2, m3].getD p 0 - 1)).set ((p + 1) % 4) ([m0, m1, m2, m3].getD ((p + 1) % 4) 0 + 1))
    (hb : ∀ m ∈ [m0, m1, m2, m3], 0 ≤ m ∧ m ≤ 1099511627776) (he0 : 0 ≤ ev.getD p 0) (he1 : ev.getD p 0 ≤ 1099511627776) (w : World) (F : List HProp) (hw : holds w (blk sb (.cells #[.pointer (some ⟨q.tb, 0, none⟩), .pointer (some ⟨q.fb, 0, none⟩), .slice (some ⟨q.cb, 0, none⟩) n n, .int .i64 (sz : Nat), .int .i64 m0, .int .i64 m1, .int .i64 m2, .int .i64 m3, .pointer (some ⟨q.kb, 0, none⟩)] 123 (0, 0)) :: owns 148 encCell 6 (.slice (some ⟨q.cb, 0, none⟩) n n) vs :: bookP (.pointer (some ⟨q.kb, 0, none⟩)) 4 ev :: F)) :
    Ct Tryz.prog 86 #[.pointer (some ⟨sb, 0, none⟩), .pointer (some ⟨rowB (.slice (some ⟨q.cb, 0, none⟩) n n), rowO (.slice (some ⟨q.cb, 0, none⟩) n n) + i * 6, none⟩), .int .i64 ((p + 1 : Nat) : Int)] w fun r w' => r = .returned (.int .i64 0) ∧ holds w' (blk sb (.cells #[.pointer (some ⟨q.tb, 0, none⟩), .pointer (some ⟨q.fb, 0, none⟩), .slice (some ⟨q.cb, 0, none⟩) n n, .int .i64 (sz : Nat), .int .i64 n0, .int .i64 n1, .int .i64 n2, .int .i64 n3, .pointer (some ⟨q.kb, 0, none⟩)] 123 (0, 0)) :: owns 148 encCell 6 (.slice (some ⟨q.cb, 0, none⟩) n n) (vs.set i { vs[i] with ph := (((p + 1) % 4 : Nat) : Int) }) :: bookP (.pointer (some ⟨q.kb, 0, none⟩)) 4 (ev.set p (ev.getD p 0 + 1)) :: F) := by
  have hb0 := hb m0 (by simp)
  have hb1 := hb m1 (by simp)
  have hb2 := hb m2 (by simp)
  have hb3 := hb m3 (by simp)
  have hA := fun w (F : List HProp) h => count_Add (.pointer (some ⟨q.kb, 0, none⟩)) 4 (by omega) ev hev p hp 1 (by omega) he0 (by omega) w F h
  have hS := fun w (F : List HProp) h => phase_step p hp w F h
  have hc4 : p = 0 ∨ p = 1 ∨ p = 2 ∨ p = 3 := by omega
  rcases hc4 with rfl | rfl | rfl | rfl
  · obtain ⟨d0, d1, d2, d3⟩ : n0 = m0 - 1 ∧ n1 = m1 + 1 ∧ n2 = m2 ∧ n3 = m3 := by simpa using hN
    rw [d0, d1, d2, d3]
    refine Ct.go (args := [.pointer (some ⟨sb, 0, none⟩), .pointer (some ⟨rowB (.slice (some ⟨q.cb, 0, none⟩) n n), rowO (.slice (some ⟨q.cb, 0, none⟩) n n) + i * 6, none⟩), .int .i64 ((0 + 1 : Nat) : Int)]) Tryz.func86 rfl rfl rfl hw ?_
    repeat' (first | (first | (rw [hph]) | (apply GL.isCall; refine GL.call1 (vs := [.int .i64 ((0 : Nat) : Int), .int .i64 ((0 + 1 : Nat) : Int)]) rfl rfl (fun w h => hS w _ h) ?_) | (refine G.isRegion 4 ?_; refine G.drawTail 13 (by kernel_rfl) (by simp only [List.take_succ_cons, List.take_zero]; rfl) (by simp only [List.drop_succ_cons, List.drop_zero]; rfl) (by kernel_rfl) ?_) | (refine G.isRegion 5 ?_; refine G.drawTail 10 (by kernel_rfl) (by simp only [List.take_succ_cons, List.take_zero]; rfl) (by simp only [List.drop_succ_cons, List.drop_zero]; rfl) (by kernel_rfl) ?_) | (refine G.isRegion 6 ?_; refine G.imp (F' := blk sb (.cells #[.pointer (some ⟨q.tb, 0, none⟩), .pointer (some ⟨q.fb, 0, none⟩), .slice (some ⟨q.cb, 0, none⟩) n n, .int .i64 (sz : Nat), .int .i64 (m0 - 1), .int .i64 (m1 + 1), .int .i64 (m2), .int .i64 (m3), .pointer (some ⟨q.kb, 0, none⟩)] 123 (0, 0)) :: owns 148 encCell 6 (.slice (some ⟨q.cb, 0, none⟩) n n) vs :: bookP (.pointer (some ⟨q.kb, 0, none⟩)) 4 ev :: F) ?_ (fun w h => h); apply G.region) | (apply GL.isStore; refine GL.storeElem (f := 3) ({ vs[i] with ph := (((0 + 1) % 4 : Nat) : Int) }) rfl rfl hi rfl rfl rfl rfl ?_) | (apply GL.isCall; refine GL.call1 (vs := [.pointer (some ⟨q.kb, 0, none⟩), .int .i64 ((0 : Nat) : Int), .int .i64 1]) rfl rfl (fun w h => hA w (blk sb (.cells #[.pointer (some ⟨q.tb, 0, none⟩), .pointer (some ⟨q.fb, 0, none⟩), .slice (some ⟨q.cb, 0, none⟩) n n, .int .i64 (sz : Nat), .int .i64 (m0 - 1), .int .i64 (m1 + 1), .int .i64 (m2), .int .i64 (m3), .pointer (some ⟨q.kb, 0, none⟩)] 123 (0, 0)) :: owns 148 encCell 6 (.slice (some ⟨q.cb, 0, none⟩) n n) (vs.set i { vs[i] with ph := (((0 + 1) % 4 : Nat) : Int) }) :: F) h.sub) ?_)) | first | refine stp ?_ | (refine stpB ?_; intro _) | (refine spl ?_ ?_ <;> intro hc <;> ((try simp only [decide_eq_true_eq, decide_eq_false_iff_not, Bool.not_true, Bool.not_false, ne_eq, Classical.not_not, Int.not_lt, Int.not_le] at hc); (try (exfalso; first | omega | exact hc trivial | exact hc rfl)))))
    all_goals (first | (exfalso; simp at hc; done) | (refine GE.resOne rfl (by (repeat (first | apply Res.nil | (apply Res.tmp; rfl) | (refine Res.cellA rfl rfl rfl ?_) | (refine Res.cell1 rfl rfl ?_)))) (fun w h => ?_); exact ⟨rfl, h.sub⟩))
  · obtain ⟨d0, d1, d2, d3⟩ : n0 = m0 ∧ n1 = m1 - 1 ∧ n2 = m2 + 1 ∧ n3 = m3 := by simpa using hN
    rw [d0, d1, d2, d3]
    refine Ct.go (args := [.pointer (some ⟨sb, 0, none⟩), .pointer (some ⟨rowB (.slice (some ⟨q.cb, 0, none⟩) n n), rowO (.slice (some ⟨q.cb, 0, none⟩) n n) + i * 6, none⟩), .int .i64 ((1 + 1 : Nat) : Int)]) Tryz.func86 rfl rfl rfl hw ?_
    repeat' (first | (first | (rw [hph]) | (apply GL.isCall; refine GL.call1 (vs := [.int .i64 ((1 : Nat) : Int), .int .i64 ((1 + 1 : Nat) : Int)]) rfl rfl (fun w h => hS w _ h) ?_) | (refine G.isRegion 4 ?_; refine G.drawTail 13 (by kernel_rfl) (by simp only [List.take_succ_cons, List.take_zero]; rfl) (by simp only [List.drop_succ_cons, List.drop_zero]; rfl) (by kernel_rfl) ?_) | (refine G.isRegion 5 ?_; refine G.drawTail 10 (by kernel_rfl) (by simp only [List.take_succ_cons, List.take_zero]; rfl) (by simp only [List.drop_succ_cons, List.drop_zero]; rfl) (by kernel_rfl) ?_) | (refine G.isRegion 6 ?_; refine G.imp (F' := blk sb (.cells #[.pointer (some ⟨q.tb, 0, none⟩), .pointer (some ⟨q.fb, 0, none⟩), .slice (some ⟨q.cb, 0, none⟩) n n, .int .i64 (sz : Nat), .int .i64 (m0), .int .i64 (m1 - 1), .int .i64 (m2 + 1), .int .i64 (m3), .pointer (some ⟨q.kb, 0, none⟩)] 123 (0, 0)) :: owns 148 encCell 6 (.slice (some ⟨q.cb, 0, none⟩) n n) vs :: bookP (.pointer (some ⟨q.kb, 0, none⟩)) 4 ev :: F) ?_ (fun w h => h); apply G.region) | (apply GL.isStore; refine GL.storeElem (f := 3) ({ vs[i] with ph := (((1 + 1) % 4 : Nat) : Int) }) rfl rfl hi rfl rfl rfl rfl ?_) | (apply GL.isCall; refine GL.call1 (vs := [.pointer (some ⟨q.kb, 0, none⟩), .int .i64 ((1 : Nat) : Int), .int .i64 1]) rfl rfl (fun w h => hA w (blk sb (.cells #[.pointer (some ⟨q.tb, 0, none⟩), .pointer (some ⟨q.fb, 0, none⟩), .slice (some ⟨q.cb, 0, none⟩) n n, .int .i64 (sz : Nat), .int .i64 (m0), .int .i64 (m1 - 1), .int .i64 (m2 + 1), .int .i64 (m3), .pointer (some ⟨q.kb, 0, none⟩)] 123 (0, 0)) :: owns 148 encCell 6 (.slice (some ⟨q.cb, 0, none⟩) n n) (vs.set i { vs[i] with ph := (((1 + 1) % 4 : Nat) : Int) }) :: F) h.sub) ?_)) | first | refine stp ?_ | (refine stpB ?_; intro _) | (refine spl ?_ ?_ <;> intro hc <;> ((try simp only [decide_eq_true_eq, decide_eq_false_iff_not, Bool.not_true, Bool.not_false, ne_eq, Classical.not_not, Int.not_lt, Int.not_le] at hc); (try (exfalso; first | omega | exact hc trivial | exact hc rfl)))))
    all_goals (first | (exfalso; simp at hc; done) | (refine GE.resOne rfl (by (repeat (first | apply Res.nil | (apply Res.tmp; rfl) | (refine Res.cellA rfl rfl rfl ?_) | (refine Res.cell1 rfl rfl ?_)))) (fun w h => ?_); exact ⟨rfl, h.sub⟩))
  · obtain ⟨d0, d1, d2, d3⟩ : n0 = m0 ∧ n1 = m1 ∧ n2 = m2 - 1 ∧ n3 = m3 + 1 := by simpa using hN
    rw [d0, d1, d2, d3]
    refine Ct.go (args := [.pointer (some ⟨sb, 0, none⟩), .pointer (some ⟨rowB (.slice (some ⟨q.cb, 0, none⟩) n n), rowO (.slice (some ⟨q.cb, 0, none⟩) n n) + i * 6, none⟩), .int .i64 ((2 + 1 : Nat) : Int)]) Tryz.func86 rfl rfl rfl hw ?_
    repeat' (first | (first | (rw [hph]) | (apply GL.isCall; refine GL.call1 (vs := [.int .i64 ((2 : Nat) : Int), .int .i64 ((2 + 1 : Nat) : Int)]) rfl rfl (fun w h => hS w _ h) ?_) | (refine G.isRegion 4 ?_; refine G.drawTail 13 (by kernel_rfl) (by simp only [List.take_succ_cons, List.take_zero]; rfl) (by simp only [List.drop_succ_cons, List.drop_zero]; rfl) (by kernel_rfl) ?_) | (refine G.isRegion 5 ?_; refine G.drawTail 10 (by kernel_rfl) (by simp only [List.take_succ_cons, List.take_zero]; rfl) (by simp only [List.drop_succ_cons, List.drop_zero]; rfl) (by kernel_rfl) ?_) | (refine G.isRegion 6 ?_; refine G.imp (F' := blk sb (.cells #[.pointer (some ⟨q.tb, 0, none⟩), .pointer (some ⟨q.fb, 0, none⟩), .slice (some ⟨q.cb, 0, none⟩) n n, .int .i64 (sz : Nat), .int .i64 (m0), .int .i64 (m1), .int .i64 (m2 - 1), .int .i64 (m3 + 1), .pointer (some ⟨q.kb, 0, none⟩)] 123 (0, 0)) :: owns 148 encCell 6 (.slice (some ⟨q.cb, 0, none⟩) n n) vs :: bookP (.pointer (some ⟨q.kb, 0, none⟩)) 4 ev :: F) ?_ (fun w h => h); apply G.region) | (apply GL.isStore; refine GL.storeElem (f := 3) ({ vs[i] with ph := (((2 + 1) % 4 : Nat) : Int) }) rfl rfl hi rfl rfl rfl rfl ?_) | (apply GL.isCall; refine GL.call1 (vs := [.pointer (some ⟨q.kb, 0, none⟩), .int .i64 ((2 : Nat) : Int), .int .i64 1]) rfl rfl (fun w h => hA w (blk sb (.cells #[.pointer (some ⟨q.tb, 0, none⟩), .pointer (some ⟨q.fb, 0, none⟩), .slice (some ⟨q.cb, 0, none⟩) n n, .int .i64 (sz : Nat), .int .i64 (m0), .int .i64 (m1), .int .i64 (m2 - 1), .int .i64 (m3 + 1), .pointer (some ⟨q.kb, 0, none⟩)] 123 (0, 0)) :: owns 148 encCell 6 (.slice (some ⟨q.cb, 0, none⟩) n n) (vs.set i { vs[i] with ph := (((2 + 1) % 4 : Nat) : Int) }) :: F) h.sub) ?_)) | first | refine stp ?_ | (refine stpB ?_; intro _) | (refine spl ?_ ?_ <;> intro hc <;> ((try simp only [decide_eq_true_eq, decide_eq_false_iff_not, Bool.not_true, Bool.not_false, ne_eq, Classical.not_not, Int.not_lt, Int.not_le] at hc); (try (exfalso; first | omega | exact hc trivial | exact hc rfl)))))
    all_goals (first | (exfalso; simp at hc; done) | (refine GE.resOne rfl (by (repeat (first | apply Res.nil | (apply Res.tmp; rfl) | (refine Res.cellA rfl rfl rfl ?_) | (refine Res.cell1 rfl rfl ?_)))) (fun w h => ?_); exact ⟨rfl, h.sub⟩))
  · obtain ⟨d0, d1, d2, d3⟩ : n0 = m0 + 1 ∧ n1 = m1 ∧ n2 = m2 ∧ n3 = m3 - 1 := by simpa using hN
    rw [d0, d1, d2, d3]
    refine Ct.go (args := [.pointer (some ⟨sb, 0, none⟩), .pointer (some ⟨rowB (.slice (some ⟨q.cb, 0, none⟩) n n), rowO (.slice (some ⟨q.cb, 0, none⟩) n n) + i * 6, none⟩), .int .i64 ((3 + 1 : Nat) : Int)]) Tryz.func86 rfl rfl rfl hw ?_
    repeat' (first | (first | (rw [hph]) | (apply GL.isCall; refine GL.call1 (vs := [.int .i64 ((3 : Nat) : Int), .int .i64 ((3 + 1 : Nat) : Int)]) rfl rfl (fun w h => hS w _ h) ?_) | (refine G.isRegion 4 ?_; refine G.drawTail 13 (by kernel_rfl) (by simp only [List.take_succ_cons, List.take_zero]; rfl) (by simp only [List.drop_succ_cons, List.drop_zero]; rfl) (by kernel_rfl) ?_) | (refine G.isRegion 5 ?_; refine G.drawTail 10 (by kernel_rfl) (by simp only [List.take_succ_cons, List.take_zero]; rfl) (by simp only [List.drop_succ_cons, List.drop_zero]; rfl) (by kernel_rfl) ?_) | (refine G.isRegion 6 ?_; refine G.imp (F' := blk sb (.cells #[.pointer (some ⟨q.tb, 0, none⟩), .pointer (some ⟨q.fb, 0, none⟩), .slice (some ⟨q.cb, 0, none⟩) n n, .int .i64 (sz : Nat), .int .i64 (m0 + 1), .int .i64 (m1), .int .i64 (m2), .int .i64 (m3 - 1), .pointer (some ⟨q.kb, 0, none⟩)] 123 (0, 0)) :: owns 148 encCell 6 (.slice (some ⟨q.cb, 0, none⟩) n n) vs :: bookP (.pointer (some ⟨q.kb, 0, none⟩)) 4 ev :: F) ?_ (fun w h => h); apply G.region) | (apply GL.isStore; refine GL.storeElem (f := 3) ({ vs[i] with ph := (((3 + 1) % 4 : Nat) : Int) }) rfl rfl hi rfl rfl rfl rfl ?_) | (apply GL.isCall; refine GL.call1 (vs := [.pointer (some ⟨q.kb, 0, none⟩), .int .i64 ((3 : Nat) : Int), .int .i64 1]) rfl rfl (fun w h => hA w (blk sb (.cells #[.pointer (some ⟨q.tb, 0, none⟩), .pointer (some ⟨q.fb, 0, none⟩), .slice (some ⟨q.cb, 0, none⟩) n n, .int .i64 (sz : Nat), .int .i64 (m0 + 1), .int .i64 (m1), .int .i64 (m2), .int .i64 (m3 - 1), .pointer (some ⟨q.kb, 0, none⟩)] 123 (0, 0)) :: owns 148 encCell 6 (.slice (some ⟨q.cb, 0, none⟩) n n) (vs.set i { vs[i] with ph := (((3 + 1) % 4 : Nat) : Int) }) :: F) h.sub) ?_)) | first | refine stp ?_ | (refine stpB ?_; intro _) | (refine spl ?_ ?_ <;> intro hc <;> ((try simp only [decide_eq_true_eq, decide_eq_false_iff_not, Bool.not_true, Bool.not_false, ne_eq, Classical.not_not, Int.not_lt, Int.not_le] at hc); (try (exfalso; first | omega | exact hc trivial | exact hc rfl)))))
    all_goals (first | (exfalso; simp at hc; done) | (refine GE.resOne rfl (by (repeat (first | apply Res.nil | (apply Res.tmp; rfl) | (refine Res.cellA rfl rfl rfl ?_) | (refine Res.cell1 rfl rfl ?_)))) (fun w h => ?_); exact ⟨rfl, h.sub⟩))
end
end Go.Proofs.YtipkgamiejenaaaGreat

/- Package store: a chunk's bytes are laid once. -/
namespace Go.Proofs.YtipkgamiejenaaaGreat
open Go Go.RowKit Go.MapKept
set_option linter.unusedVariables false
set_option linter.unusedSimpArgs false
set_option maxRecDepth 100000
set_option maxHeartbeats 2000000
section
variable {P : Program} {n : Nat} {env : Env} {F : List HProp}
/-- A call that gives a pointer to something new. -/
theorem DoesW.callPt {f : FuncId} {xs : List Operand} {ts : Array TypeId} {vs : List Value} {L : List HProp} (pc : Nat → HProp) [ho : Own P f] (hx : opnds env xs = some vs)
    (hc : ∀ w G, holds w G → Ct P f vs.toArray w fun e w' => ∃ b : Nat, e = .returned (.pointer (some ⟨b, 0, none⟩)) ∧ holds w' (pc b :: G)) :
    DoesW P n env F [] L (.call { callee := .value (.func f), args := xs.toArray, argTypes := ts }) IsPt (fun u => pc (ptB u)) := ⟨fun a w F' ty pos aft g d hf hw => by
  have hr : (execOp a.eval ⟨d, .call { callee := .value (.func f), args := xs.toArray, argTypes := ts }, ty, pos, aft, g⟩).run P w = .ok (.enter f vs.toArray) w := by
    simp [execOp, resolve, Act.eval, Deferred.ofValue, invoke, hf.evals hx, Result.andThen]
    exact ho.run _ _
  rw [hr]
  exact (hc w (L ++ (F ++ F')) (by simpa using hw)).out.mono fun e w' ⟨b, he, hh⟩ => ⟨_, he, ⟨b, rfl⟩, hh⟩⟩
theorem flat_set_field {α : Type} {enc : α → List Value} {m : Nat} [he : Enc enc m] : ∀ (l : List α) (i f : Nat) (u : Value) (z : α) (hi : i < l.length), f < m → enc z = (enc l[i]).set f u → (l.flatMap enc).set (i * m + f) u = (l.set i z).flatMap enc
  | a :: l, 0, f, u, z, _, hf, hz => by
    simp only [List.getElem_cons_zero] at hz
    rw [List.flatMap_cons, List.set_cons_zero, List.flatMap_cons, hz, Nat.zero_mul, Nat.zero_add, List.set_append_left _ _ (by rw [he.len]; exact hf)]
  | a :: l, i + 1, f, u, z, hi, hf, hz => by
    have ih := flat_set_field l i f u z (by simpa using hi) hf (by simpa using hz)
    rw [List.flatMap_cons, List.set_cons_succ, List.flatMap_cons, ← ih, List.set_append_right _ _ (by rw [he.len, Nat.succ_mul]; omega), he.len]
    congr 2
    rw [Nat.succ_mul]; omega
  | [], i, f, u, z, hi, _, _ => by simp at hi
end
/-- The row of cells as a block. -/
def celB (cb n : Nat) (vs : List CellV) : HProp := fun f => vs.length = n ∧ blk cb (.cells (vs.flatMap encCell).toArray 148 (0, 0)) f
theorem celB.ofOwn {w : World} {cb n : Nat} {vs : List CellV} {F : List HProp} (h : holds w (owns 148 encCell 6 (.slice (some ⟨cb, 0, none⟩) n n) vs :: F)) : vs.length = n ∧ n ≤ maxLen ∧ holds w (blk cb (.cells (vs.flatMap encCell).toArray 148 (0, 0)) :: F) := by
  obtain ⟨hl, ho⟩ := holds.open_own h
  rcases ho with ⟨h1, _⟩ | ⟨g', cap, cur, h1, h2, h3, h4, h5, h6⟩
  · cases h1
  · simp only [Value.slice.injEq, Option.some.injEq, Addr.mk.injEq] at h1
    obtain ⟨⟨rfl, -, -⟩, hk, rfl⟩ := h1
    refine ⟨hk.symm, h3, ?_⟩
    have e : cur = (vs.flatMap encCell).toArray := by
      apply Array.ext'
      rw [List.take_of_length_le (by rw [Array.length_toList, h4, ← hk]; exact Nat.le_refl _)] at h5
      exact h5
    rw [← e]; exact h6
theorem celB.back {w : World} {cb n : Nat} {vs : List CellV} {F : List HProp} (hl : vs.length = n) (hm : n ≤ maxLen) (h : holds w (blk cb (.cells (vs.flatMap encCell).toArray 148 (0, 0)) :: F)) : holds w (owns 148 encCell 6 (.slice (some ⟨cb, 0, none⟩) n n) vs :: F) := by
  have h1 := h.mkRow (size := 6) (n := n) (cap := n) (Nat.le_refl _) hm (by rw [List.size_toArray, Enc.flat_len (enc := encCell) (n := 6), hl])
  have e : (vs.flatMap encCell).toArray.toList.take (n * 6) = vs.flatMap encCell := List.take_of_length_le (by show (vs.flatMap encCell).length ≤ n * 6; rw [Enc.flat_len (enc := encCell) (n := 6), hl]; exact Nat.le_refl _)
  rw [e] at h1
  unfold owns; rw [hl]; exact h1
section
variable (sb n sz : Nat) (q : StoM) (m0 m1 m2 m3 : Int)
abbrev fTake1 : FuncId := 83
theorem store_Take1 (h64 : sz % 64 = 0) (h0 : 1 ≤ sz) (h1 : sz ≤ 1048576) (b2 b8 i : Nat) (vs : List CellV) (hi : i < vs.length) (w : World) (F : List HProp) [SeesBlk F sb #[.pointer (some ⟨q.tb, 0, none⟩), .pointer (some ⟨q.fb, 0, none⟩), .slice (some ⟨q.cb, 0, none⟩) n n, .int .i64 (sz : Nat), .int .i64 m0, .int .i64 m1, .int .i64 m2, .int .i64 m3, .pointer (some ⟨q.kb, 0, none⟩)]] [SeesBlk F b2 #[.pointer (some ⟨sb, 0, none⟩)]] [SeesBlk F b8 #[.pointer (some ⟨rowB (.slice (some ⟨q.cb, 0, none⟩) n n), rowO (.slice (some ⟨q.cb, 0, none⟩) n n) + i * 6, none⟩)]] (hw : holds w (blk q.cb (.cells ((vs).flatMap encCell).toArray 148 (0, 0)) :: F)) :
    Ct Tryz.prog fTake1 #[.pointer (some ⟨b2, 0, none⟩), .pointer (some ⟨b8, 0, none⟩)] w fun e w' => ∃ b : Nat, e = .returned (.tuple #[]) ∧ holds w' (blk q.cb (.cells ((vs.set i { vs[i] with bp := some b }).flatMap encCell).toArray 148 (0, 0)) :: bytesP b sz (St.zeros sz) :: F) := by
  have hlen : i * 6 + 4 < (vs.flatMap encCell).toArray.size := by
    rw [List.size_toArray, Enc.flat_len (enc := encCell) (n := 6)]; omega
  have hblt : Nat.blt (rowO (.slice (some ⟨q.cb, 0, none⟩) n n) + i * 6 + 4) (vs.flatMap encCell).toArray.size = true := by
    rw [Nat.blt_eq]; show 0 + i * 6 + 4 < _; omega
  have hset : ∀ b : Nat, (((vs.flatMap encCell).toArray).toList.set (rowO (.slice (some ⟨q.cb, 0, none⟩) n n) + i * 6 + 4) (.pointer (some ⟨b, 0, none⟩))).toArray = ((vs.set i { vs[i] with bp := some b }).flatMap encCell).toArray := fun b => by
    have := flat_set_field (enc := encCell) (m := 6) vs i 4 (.pointer (some ⟨b, 0, none⟩)) { vs[i] with bp := some b } hi (by omega) rfl
    rw [← this]
    show ((vs.flatMap encCell).set (0 + i * 6 + 4) _).toArray = _
    rw [Nat.zero_add]
  refine Ct.go (args := [.pointer (some ⟨b2, 0, none⟩), .pointer (some ⟨b8, 0, none⟩)]) Tryz.func83 rfl rfl rfl hw ?_
  repeat' (first | (first | (refine G.isRegion 0 ?_; refine G.drawW [⟨none, [], some 8, none, fun _ => True, fun _ => blk q.cb (.cells ((vs).flatMap encCell).toArray 148 (0, 0))⟩, ⟨some 5, [], none, some 7, IsPt, fun u => bytesP (ptB u) sz (St.zeros sz)⟩, ⟨some 8, [0], none, some 7, fun _ => True, fun u => blk q.cb (.cells ((vs.set i { vs[i] with bp := some (ptB u) }).flatMap encCell).toArray 148 (0, 0))⟩] [] [0] [1, 2] (by kernel_rfl) (by kernel_rfl) rfl ⟨⟨_, rfl, .inl rfl⟩, trivial⟩ ?_) | (apply GW.isAny; first | refine GW.runA rfl rfl ?_ | refine GW.seeA rfl rfl ⟨⟨_, rfl, .inl rfl⟩, trivial⟩ rfl ?_) | (apply GW.isAny; refine GW.eff rfl rfl rfl rfl rfl trivial rfl trivial (fun u hu => hu.defd) (DoesW.callPt (vs := [.int .i64 (sz : Nat)]) (fun b => bytesP b sz (St.zeros sz)) rfl (fun w G h => bytes_New sz h64 h0 h1 w G h)) rfl (fun u hu => ?_); obtain ⟨bb, rfl⟩ := hu) | (apply GW.isAny; refine GW.storeOn (v7 := .pointer (some ⟨bb, 0, none⟩)) rfl rfl rfl rfl rfl rfl rfl ⟨⟨_, rfl, .inl rfl⟩, trivial⟩ rfl trivial rfl (DoesW.storeBlk (R := fun _ => True) rfl rfl rfl rfl hblt (hset bb)) ?_) | (refine GW.nilE rfl ⟨⟨_, rfl, .inr (.inr ⟨_, _, rfl, rfl, rfl⟩)⟩, ⟨_, rfl, .inr (.inr ⟨_, _, rfl, rfl, rfl⟩)⟩, trivial⟩ ?_; refine GE.imp (F' := bytesP bb sz (St.zeros sz) :: blk q.cb (.cells ((vs.set i { vs[i] with bp := some bb }).flatMap encCell).toArray 148 (0, 0)) :: F) ?_ (fun w h => h))) | first | refine stp ?_ | (refine stpB ?_; intro _) | (refine spl ?_ ?_ <;> intro hc <;> ((try simp only [decide_eq_true_eq, decide_eq_false_iff_not, Bool.not_true, Bool.not_false, ne_eq, Classical.not_not, Int.not_lt, Int.not_le] at hc); (try (exfalso; first | omega | exact hc trivial | exact hc rfl)))))
  (first | refine GE.res0 (.inl rfl) rfl (fun w h => ?_) | refine GE.res0 (.inr rfl) rfl (fun w h => ?_))
  exact ⟨bb, rfl, h.order [1, 0]⟩
/-- The cells around a chunk's once. -/
def celX (vs : List CellV) (i b : Nat) (s : List Value) (d l : Value) : HProp := blk b (.cells ((vs.take i).flatMap encCell ++ d :: l :: (s ++ (vs.drop (i + 1)).flatMap encCell)).toArray 148 (0, 0))
def celR (v : CellV) : List Value := [.int .u32 0, .int .i64 v.ph, pV v.bp, pV v.wp]
theorem celX_eq (vs : List CellV) (i b : Nat) (hi : i < vs.length) (v : CellV) : celX vs i b (celR v) (.int .u32 v.d) (.int .i32 v.l) = blk b (.cells ((vs.set i v).flatMap encCell).toArray 148 (0, 0)) := by
  have e : (vs.set i v).flatMap encCell = (vs.take i).flatMap encCell ++ Value.int .u32 v.d :: Value.int .i32 v.l :: (celR v ++ (vs.drop (i + 1)).flatMap encCell) := by
    rw [List.set_eq_take_append_cons_drop, if_pos hi, List.flatMap_append, List.flatMap_cons]; rfl
  unfold celX
  rw [e]
theorem celX_once (vs : List CellV) (i : Nat) (hi : i < vs.length) : OnceAt (rowB (.slice (some ⟨q.cb, 0, none⟩) n n)) (rowO (.slice (some ⟨q.cb, 0, none⟩) n n) + i * 6) (fun (s : List Value) d l => celX vs i (rowB (.slice (some ⟨q.cb, 0, none⟩) n n)) s d l) := by
  have hA : ((vs.take i).flatMap encCell).length = rowO (.slice (some ⟨q.cb, 0, none⟩) n n) + i * 6 := by
    rw [Enc.flat_len (enc := encCell) (n := 6), List.length_take]; show _ = 0 + i * 6; rw [Nat.min_eq_left (by omega)]; omega
  refine ⟨fun s l => ?_, fun s d => ?_⟩
  · have h := cellAt_blk (rowB (.slice (some ⟨q.cb, 0, none⟩) n n)) ((vs.take i).flatMap encCell) (l :: (s ++ (vs.drop (i + 1)).flatMap encCell)) 148
    rw [hA] at h; exact h
  · have h := cellAt_blk (rowB (.slice (some ⟨q.cb, 0, none⟩) n n)) ((vs.take i).flatMap encCell ++ [d]) (s ++ (vs.drop (i + 1)).flatMap encCell) 148
    have e : ∀ v, ((vs.take i).flatMap encCell ++ [d]) ++ v :: (s ++ (vs.drop (i + 1)).flatMap encCell) = (vs.take i).flatMap encCell ++ d :: v :: (s ++ (vs.drop (i + 1)).flatMap encCell) := fun v => by simp
    simp only [e] at h
    rw [List.length_append, hA, List.length_singleton] at h; exact h
/-- A chunk's bytes are there from now on. -/
theorem store_once (hsz : sz % 64 = 0 ∧ 1 ≤ sz ∧ sz ≤ 1048576) (b2 b8 i : Nat) (vs : List CellV) (hi : i < vs.length) (tx : List UInt8) (htl : tx.length = sz) (hl : (vs[i]).l = 0) (hd : (vs[i]).d = if (vs[i]).bp.isSome then 1 else 0) (w : World) (F : List HProp) [SeesBlk F sb #[.pointer (some ⟨q.tb, 0, none⟩), .pointer (some ⟨q.fb, 0, none⟩), .slice (some ⟨q.cb, 0, none⟩) n n, .int .i64 (sz : Nat), .int .i64 m0, .int .i64 m1, .int .i64 m2, .int .i64 m3, .pointer (some ⟨q.kb, 0, none⟩)]] [SeesBlk F b2 #[.pointer (some ⟨sb, 0, none⟩)]] [SeesBlk F b8 #[.pointer (some ⟨rowB (.slice (some ⟨q.cb, 0, none⟩) n n), rowO (.slice (some ⟨q.cb, 0, none⟩) n n) + i * 6, none⟩)]]
    (hw : holds w (owns 148 encCell 6 (.slice (some ⟨q.cb, 0, none⟩) n n) vs :: bytesO (vs[i]).bp sz tx :: F)) :
    Ct Tryz.prog 82 #[.pointer (some ⟨rowB (.slice (some ⟨q.cb, 0, none⟩) n n), rowO (.slice (some ⟨q.cb, 0, none⟩) n n) + i * 6, none⟩), .func (.func fTake1) #[] #[.pointer (some ⟨b2, 0, none⟩), .pointer (some ⟨b8, 0, none⟩)]] w fun e w' => ∃ b : Nat, e = .returned (.tuple #[]) ∧ holds w' (owns 148 encCell 6 (.slice (some ⟨q.cb, 0, none⟩) n n) (vs.set i { vs[i] with d := 1, bp := some b }) :: bytesP b sz tx :: F) := by
  obtain ⟨hvl, hmx, h1⟩ := celB.ofOwn hw
  obtain ⟨v, hv⟩ : ∃ v, v = vs[i] := ⟨_, rfl⟩
  have hs : vs = vs.set i v := by rw [hv, List.set_getElem_self]
  rw [← hv] at hl hd h1 ⊢
  obtain ⟨d, l, ph, bp, wp⟩ := v
  dsimp only at hl hd h1 ⊢
  subst hl
  cases bp with
  | some b =>
    have hd1 : d = 1 := hd
    subst hd1
    have h2 : holds w (celX vs i (rowB (.slice (some ⟨q.cb, 0, none⟩) n n)) (celR ⟨1, 0, ph, some b, wp⟩) (.int .u32 1) (.int .i32 0) :: bytesP b sz tx :: F) := by
      rw [celX_eq vs i _ hi ⟨1, 0, ph, some b, wp⟩, ← hs]; exact h1
    refine (once_Done (celX_once n q vs i hi) (celR ⟨1, 0, ph, some b, wp⟩) w (bytesP b sz tx :: F) _ h2).mono fun e w' ⟨he, h3⟩ => ⟨b, he, ?_⟩
    refine celB.back (by rw [List.length_set]; exact hvl) hmx ?_
    have h4 : holds w' (celX vs i (rowB (.slice (some ⟨q.cb, 0, none⟩) n n)) (celR ⟨1, 0, ph, some b, wp⟩) (.int .u32 1) (.int .i32 0) :: bytesP b sz tx :: F) := h3
    rw [celX_eq vs i _ hi ⟨1, 0, ph, some b, wp⟩] at h4
    exact h4
  | none =>
    have hd0 : d = 0 := hd
    subst hd0
    have hz : tx = St.zeros sz := by
      obtain ⟨f, _, f1, f2, ha, _, _⟩ := (h1.order [1, 0] : holds w (bytesO none sz tx :: _))
      have ha : ∀ y ∈ tx, y = 0 := ha
      exact List.eq_replicate_iff.2 ⟨htl, ha⟩
    subst hz
    have h2 : holds w (celX vs i (rowB (.slice (some ⟨q.cb, 0, none⟩) n n)) (celR ⟨0, 0, ph, none, wp⟩) (.int .u32 0) (.int .i32 0) :: F) := by
      rw [celX_eq vs i _ hi ⟨0, 0, ph, none, wp⟩, ← hs]; exact (h1.order [1, 0]).tail
    refine (once_Do (celX_once n q vs i hi) (celR ⟨0, 0, ph, none, wp⟩) (fun b : Nat => celR ⟨0, 0, ph, some b, wp⟩) fTake1 [] [.pointer (some ⟨b2, 0, none⟩), .pointer (some ⟨b8, 0, none⟩)] w F (fun b => bytesP b sz (St.zeros sz) :: F) (fun _ _ => rfl) (fun w h => ?_) h2).mono fun e w' ⟨b, he, h3⟩ => ⟨b, he, ?_⟩
    · have h3 : holds w (celX vs i (rowB (.slice (some ⟨q.cb, 0, none⟩) n n)) (celR ⟨0, 1, ph, none, wp⟩) (.int .u32 0) (.int .i32 1) :: F) := h
      rw [celX_eq vs i _ hi ⟨0, 1, ph, none, wp⟩] at h3
      have hi2 : i < (vs.set i ⟨0, 1, ph, none, wp⟩).length := by rw [List.length_set]; exact hi
      refine (store_Take1 sb n sz q m0 m1 m2 m3 hsz.1 hsz.2.1 hsz.2.2 b2 b8 i (vs.set i ⟨0, 1, ph, none, wp⟩) hi2 w F h3).mono fun e w' ⟨b, he, h4⟩ => ⟨b, he, ?_⟩
      rw [List.set_set, List.getElem_set_self] at h4
      have h5 : holds w' (blk (rowB (.slice (some ⟨q.cb, 0, none⟩) n n)) (.cells ((vs.set i ⟨0, 1, ph, some b, wp⟩).flatMap encCell).toArray 148 (0, 0)) :: bytesP b sz (St.zeros sz) :: F) := h4
      rw [← celX_eq vs i _ hi ⟨0, 1, ph, some b, wp⟩] at h5
      exact h5
    · refine celB.back (by rw [List.length_set]; exact hvl) hmx ?_
      have h4 : holds w' (celX vs i (rowB (.slice (some ⟨q.cb, 0, none⟩) n n)) (celR ⟨1, 0, ph, some b, wp⟩) (.int .u32 1) (.int .i32 0) :: bytesP b sz (St.zeros sz) :: F) := h3
      rw [celX_eq vs i _ hi ⟨1, 0, ph, some b, wp⟩] at h4
      exact h4
end
end Go.Proofs.YtipkgamiejenaaaGreat
