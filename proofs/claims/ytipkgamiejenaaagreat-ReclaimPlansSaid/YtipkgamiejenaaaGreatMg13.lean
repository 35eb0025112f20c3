import Derived.Test.YtipkgamiejenaaaGreatSepD
import Derived.WalkSpells
import Derived.StillTailTactics
import Derived.IntWalk

import Derived.Test.YtipkgamiejenaaaGreatMg11
import Derived.Test.YtipkgamiejenaaaGreatMg12
import Derived.Test.YtipkgamiejenaaaGreatMg5
/- Contracts of package tags. -/
namespace Go.Proofs.YtipkgamiejenaaaGreat
open Go Go.RowKit Go.MapKept
set_option maxRecDepth 100000
set_option linter.unusedVariables false

def tagCells (t : Int × Int) : List Value := [.int .i64 t.1, .int .i64 t.2]
def tagArr (l : List (Int × Int)) : Array Value := (l.flatMap tagCells).toArray
theorem tagArr_at : ∀ (l : List (Int × Int)) (i : Nat) (hi : i < l.length), (tagArr l)[i * 2]? = some (.int .i64 l[i].1) ∧ (tagArr l)[i * 2 + 1]? = some (.int .i64 l[i].2)
  | t :: l, 0, _ => by simp [tagArr, tagCells]
  | t :: l, i + 1, hi => by
    have ih := tagArr_at l i (by simpa using hi)
    have e : ∀ j, (tagArr (t :: l))[(i + 1) * 2 + j]? = (tagArr l)[i * 2 + j]? := fun j => by
      simp only [tagArr, List.flatMap_cons, List.getElem?_toArray]
      rw [List.getElem?_append_right (by simp [tagCells]; omega)]
      congr 1
      simp [tagCells]; omega
    have e0 := e 0
    simp only [Nat.add_zero] at e0
    simp only [List.getElem_cons_succ, e0, e 1]
    exact ih
  | [], i, hi => by simp at hi
theorem tagArr_set1 : ∀ (l : List (Int × Int)) (i : Nat) (hi : i < l.length) (x : Int), (tagArr l).setIfInBounds (i * 2) (.int .i64 x) = tagArr (l.set i (x, l[i].2))
  | t :: l, 0, _, x => by simp [tagArr, tagCells]
  | t :: l, i + 1, hi, x => by
    have ih := tagArr_set1 l i (by simpa using hi) x
    have h1 := congrArg Array.toList ih
    apply Array.ext'
    simp only [tagArr, Array.toList_setIfInBounds, List.flatMap_cons, List.set_cons_succ, List.getElem_cons_succ] at h1 ⊢
    rw [List.set_append_right _ _ (by simp [tagCells]; omega), ← h1]
    congr 2
    simp [tagCells]; omega
  | [], i, hi, x => by simp at hi
theorem tagArr_set2 : ∀ (l : List (Int × Int)) (i : Nat) (hi : i < l.length) (x : Int), (tagArr l).setIfInBounds (i * 2 + 1) (.int .i64 x) = tagArr (l.set i (l[i].1, x))
  | t :: l, 0, _, x => by simp [tagArr, tagCells]
  | t :: l, i + 1, hi, x => by
    have ih := tagArr_set2 l i (by simpa using hi) x
    have h1 := congrArg Array.toList ih
    apply Array.ext'
    simp only [tagArr, Array.toList_setIfInBounds, List.flatMap_cons, List.set_cons_succ, List.getElem_cons_succ] at h1 ⊢
    rw [List.set_append_right _ _ (by simp [tagCells]; omega), ← h1]
    congr 2
    simp [tagCells]; omega
  | [], i, hi, x => by simp at hi
/-- How many chunks an owner has. -/
def cnt (l : List (Int × Int)) (o : Int) : Nat := if 0 < o then (l.filter fun t => t.1 == o).length else 0
theorem cnt_le (l : List (Int × Int)) (o : Int) : cnt l o ≤ l.length := by
  unfold cnt; split
  · exact List.length_filter_le _ _
  · omega
theorem filter_set (p : Int × Int → Bool) : ∀ (l : List (Int × Int)) (i : Nat) (hi : i < l.length) (t : Int × Int), ((l.set i t).filter p).length + (if p l[i] then 1 else 0) = (l.filter p).length + (if p t then 1 else 0)
  | [], i, hi, t => by simp at hi
  | u :: l, 0, _, t => by simp only [List.set_cons_zero, List.filter_cons, List.getElem_cons_zero]; split <;> split <;> simp <;> omega
  | u :: l, i + 1, hi, t => by
    have ih := filter_set p l i (by simpa using hi) t
    simp only [List.set_cons_succ, List.filter_cons, List.getElem_cons_succ]
    split
    · simp only [List.length_cons]; omega
    · exact ih
theorem cnt_set (l : List (Int × Int)) (i : Nat) (hi : i < l.length) (t : Int × Int) (o : Int) (ho : 0 < o) : cnt (l.set i t) o + (if l[i].1 = o then 1 else 0) = cnt l o + (if t.1 = o then 1 else 0) := by
  have := filter_set (fun t => t.1 == o) l i hi t
  simp only [cnt, ho, if_true]
  simpa using this

/-- The map tells how many each owner has. -/
structure ManyOk (l : List (Int × Int)) (m : List (Int × Int)) : Prop where
  get : ∀ o, alGet m o = if cnt l o = 0 then none else some ((cnt l o : Nat) : Int)
  nodup : (alKeys m).Nodup
  own : ∀ t ∈ l, 0 ≤ t.1
theorem set_own {l : List (Int × Int)} (h : ∀ t ∈ l, 0 ≤ t.1) (k : Nat) (t : Int × Int) (ht : 0 ≤ t.1) : ∀ u ∈ l.set k t, 0 ≤ u.1 := fun u hu => by
  rcases List.mem_or_eq_of_mem_set hu with h1 | h1
  · exact h u h1
  · rw [h1]; exact ht
theorem ManyOk.take {l m : List (Int × Int)} (h : ManyOk l m) (k : Nat) (hk : k < l.length) (h0 : l[k].1 = 0) (o : Int) (ho : 0 < o) : ManyOk (l.set k (o, l[k].2)) (alSet m o ((cnt l o : Nat) + 1)) := by
  refine ⟨fun x => ?_, alKeys_set_nodup _ _ _ h.nodup, set_own h.own _ _ (by simp; omega)⟩
  rw [alGet_set, h.get]
  by_cases hx : 0 < x
  · have hc := cnt_set l k hk (o, l[k].2) x hx
    rw [if_neg (show ¬ l[k].1 = x by omega)] at hc
    by_cases e : x = o
    · subst e
      simp only [if_true] at hc
      rw [if_pos rfl, if_neg (by omega)]
      congr 1; omega
    · rw [if_neg (fun h => e h.symm)] at hc
      simp only [Nat.add_zero] at hc
      rw [if_neg e, hc]
  · have e1 : ∀ l : List (Int × Int), cnt l x = 0 := fun l => by simp [cnt, hx]
    rw [e1, e1, if_neg (show ¬ x = o by omega)]
theorem ManyOk.leave {l m : List (Int × Int)} (h : ManyOk l m) (k : Nat) (hk : k < l.length) (h0 : 0 < l[k].1) : 0 < cnt l l[k].1 ∧
    ((cnt l l[k].1 = 1 → ManyOk (l.set k (0, l[k].2)) (alDel (alSet m l[k].1 ((cnt l l[k].1 : Nat) - 1)) l[k].1)) ∧
     (cnt l l[k].1 ≠ 1 → ManyOk (l.set k (0, l[k].2)) (alSet m l[k].1 ((cnt l l[k].1 : Nat) - 1)))) := by
  have hpos : 0 < cnt l l[k].1 := by
    have := cnt_set l k hk (0, l[k].2) l[k].1 h0
    simp only [if_true] at this
    rw [if_neg (show ¬ (0 : Int) = l[k].1 by omega)] at this
    omega
  have key : ∀ x, cnt (l.set k (0, l[k].2)) x = if x = l[k].1 then cnt l x - 1 else cnt l x := fun x => by
    by_cases hx : 0 < x
    · have hc := cnt_set l k hk (0, l[k].2) x hx
      rw [if_neg (show ¬ (0 : Int) = x by omega)] at hc
      by_cases e : x = l[k].1
      · rw [if_pos e.symm] at hc; rw [if_pos e]; omega
      · rw [if_neg (fun h => e h.symm)] at hc; rw [if_neg e]; omega
    · have e1 : ∀ l : List (Int × Int), cnt l x = 0 := fun l => by simp [cnt, hx]
      rw [e1, e1, if_neg (show ¬ x = l[k].1 by omega)]
  refine ⟨hpos, fun h1 => ⟨fun x => ?_, alKeys_del_nodup _ _ (alKeys_set_nodup _ _ _ h.nodup), set_own h.own _ _ (Int.le_refl _)⟩, fun h1 => ⟨fun x => ?_, alKeys_set_nodup _ _ _ h.nodup, set_own h.own _ _ (Int.le_refl _)⟩⟩
  · rw [alGet_del _ _ _ (alKeys_set_nodup _ _ _ h.nodup), alGet_set, h.get, key]
    by_cases e : x = l[k].1
    · rw [if_pos e, if_pos e, if_pos (by rw [e]; omega)]
    · rw [if_neg e, if_neg e, if_neg e]
  · rw [alGet_set, h.get, key]
    by_cases e : x = l[k].1
    · rw [if_pos e, if_pos e, e, if_neg (by omega)]
      congr 1; omega
    · rw [if_neg e, if_neg e]
theorem ManyOk.raise {l m : List (Int × Int)} (h : ManyOk l m) (k : Nat) (hk : k < l.length) (g : Int) : ManyOk (l.set k (l[k].1, g)) m := by
  refine ⟨fun x => ?_, h.nodup, set_own h.own _ _ (h.own l[k] (List.getElem_mem hk))⟩
  rw [h.get]
  by_cases hx : 0 < x
  · have hc := cnt_set l k hk (l[k].1, g) x hx
    have : cnt (l.set k (l[k].1, g)) x = cnt l x := Nat.add_right_cancel hc
    rw [this]
  · have e1 : ∀ l : List (Int × Int), cnt l x = 0 := fun l => by simp [cnt, hx]
    rw [e1, e1]
theorem ManyOk.getD {l m : List (Int × Int)} (h : ManyOk l m) (o : Int) : (alGet m o).getD 0 = ((cnt l o : Nat) : Int) := by
  rw [h.get]; by_cases hz : cnt l o = 0 <;> simp [hz]

def tagsAt (v : Value) (l : List (Int × Int)) : HProp := fun f => ∃ b g bm m, (v = .pointer (some ⟨b, 0, none⟩) ∧ ManyOk l m) ∧
  sep [blk b (.cells #[.slice (some ⟨g, 0, none⟩) l.length l.length, .map (some bm)] 200 (0, 0)), blk g (.cells (tagArr l) 215 (0, 0)), imap (.int .i64) bm m] f

theorem open_tags {w : World} {F : List HProp} {v : Value} {l : List (Int × Int)} (h : holds w (tagsAt v l :: F)) : ∃ b g bm m, v = .pointer (some ⟨b, 0, none⟩) ∧ ManyOk l m ∧
    holds w (blk b (.cells #[.slice (some ⟨g, 0, none⟩) l.length l.length, .map (some bm)] 200 (0, 0)) :: blk g (.cells (tagArr l) 215 (0, 0)) :: imap (.int .i64) bm m :: F) := by
  obtain ⟨b, h⟩ := h.open_ex
  obtain ⟨g, h⟩ := h.open_ex
  obtain ⟨bm, h⟩ := h.open_ex
  obtain ⟨m, h⟩ := h.open_ex
  obtain ⟨⟨h1, h2⟩, h⟩ := h.open_pure
  exact ⟨b, g, bm, m, h1, h2, holds_sep.1 h⟩
theorem shut_tags {w : World} {F : List HProp} {b g bm : Nat} {m l : List (Int × Int)} (hm : ManyOk l m)
    (h : holds w (blk b (.cells #[.slice (some ⟨g, 0, none⟩) l.length l.length, .map (some bm)] 200 (0, 0)) :: blk g (.cells (tagArr l) 215 (0, 0)) :: imap (.int .i64) bm m :: F)) :
    holds w (tagsAt (.pointer (some ⟨b, 0, none⟩)) l :: F) :=
  (holds_sep (l := [_, _, _]).2 h).mono fun _ hf => ⟨b, g, bm, m, ⟨rfl, hm⟩, hf⟩

theorem tags_set {w : World} {b g j : Nat} {C : Obj} {T : TypeId} {A A' : Array Value} {M : HProp} {F : List HProp} {val : Value} (h : holds w (blk b C :: blk g (.cells A T (0, 0)) :: M :: F)) (e : A.setIfInBounds j val = A') :
    holds (w.setCell ⟨g, j, none⟩ val) (blk b C :: blk g (.cells A' T (0, 0)) :: M :: F) := by
  have h2 := ((h.pick 1).setCell j val).order [1, 0, 2]
  rw [e] at h2
  exact h2

/-! ### What only reads -/
theorem tags_Owner (w : World) (v : Value) (l : List (Int × Int)) (i : Int) (F : List HProp) (hl : l.length ≤ 1048576) (hw : holds w (tagsAt v l :: F)) :
    Calls Tryz.prog 99 #[v, .int .i64 i] w fun e w' => e = .returned (.int .i64 (if 0 ≤ i ∧ i < l.length then (l.getD i.toNat (0, 0)).1 else 0)) ∧ holds w' (tagsAt v l :: F) := by
  obtain ⟨b, g, bm, m, rfl, hm, h⟩ := open_tags hw
  have c0 := cellAt h.get_blk 0
  simp at c0
  by_cases h0 : 0 ≤ i
  · by_cases h1 : i < l.length
    · rw [if_pos ⟨h0, h1⟩]
      obtain ⟨k, rfl⟩ := Int.eq_ofNat_of_zero_le h0
      have hk : k < l.length := by omega
      obtain ⟨c1, c2⟩ := tagArr_at l k hk
      rw [← cellAt (h.pick 1).get_blk] at c1 c2
      have e : (l.getD (k : Int).toNat (0, 0)).1 = l[k].1 := by simp [hk]
      rw [e]
      generalize l[k].1 = x at c1
      clear e c2
      go_enter Tryz.func99, Tryz.ntmps99
      go_wp2
      go_ret
      exact ⟨rfl, hw⟩
    · rw [if_neg (fun h => h1 h.2)]
      go_enter Tryz.func99, Tryz.ntmps99
      go_wp2
      go_ret
      exact ⟨rfl, hw⟩
  · rw [if_neg (fun h => h0 h.1)]
    go_enter Tryz.func99, Tryz.ntmps99
    go_wp2
    go_ret
    exact ⟨rfl, hw⟩

theorem tags_Gen (w : World) (v : Value) (l : List (Int × Int)) (i : Int) (F : List HProp) (hl : l.length ≤ 1048576) (hw : holds w (tagsAt v l :: F)) :
    Calls Tryz.prog 110 #[v, .int .i64 i] w fun e w' => e = .returned (.int .i64 (if 0 ≤ i ∧ i < l.length then (l.getD i.toNat (0, 0)).2 else -1)) ∧ holds w' (tagsAt v l :: F) := by
  obtain ⟨b, g, bm, m, rfl, hm, h⟩ := open_tags hw
  have c0 := cellAt h.get_blk 0
  simp at c0
  by_cases h0 : 0 ≤ i
  · by_cases h1 : i < l.length
    · rw [if_pos ⟨h0, h1⟩]
      obtain ⟨k, rfl⟩ := Int.eq_ofNat_of_zero_le h0
      have hk : k < l.length := by omega
      obtain ⟨c1, c2⟩ := tagArr_at l k hk
      rw [← cellAt (h.pick 1).get_blk] at c1 c2
      have e : (l.getD (k : Int).toNat (0, 0)).2 = l[k].2 := by simp [hk]
      rw [e]
      generalize l[k].2 = x at c2
      clear e c1
      go_enter Tryz.func110, Tryz.ntmps110
      go_wp2
      go_ret
      exact ⟨rfl, hw⟩
    · rw [if_neg (fun h => h1 h.2)]
      go_enter Tryz.func110, Tryz.ntmps110
      go_wp2
      go_ret
      exact ⟨rfl, hw⟩
  · rw [if_neg (fun h => h0 h.1)]
    go_enter Tryz.func110, Tryz.ntmps110
    go_wp2
    go_ret
    exact ⟨rfl, hw⟩

/-! ### What writes -/
def Tags.own (l : List (Int × Int)) (i o : Int) : Int × List (Int × Int) :=
  if i < 0 ∨ l.length ≤ i ∨ o < 1 then (2, l) else if (l.getD i.toNat (0, 0)).1 ≠ 0 then (19, l) else (0, l.set i.toNat (o, (l.getD i.toNat (0, 0)).2))
def Tags.leave (l : List (Int × Int)) (i : Int) : Int × List (Int × Int) :=
  if i < 0 ∨ l.length ≤ i then (2, l) else if (l.getD i.toNat (0, 0)).1 = 0 then (20, l) else (0, l.set i.toNat (0, (l.getD i.toNat (0, 0)).2))
def Tags.raise (l : List (Int × Int)) (i : Int) : Int × List (Int × Int) :=
  if i < 0 ∨ l.length ≤ i then (2, l) else if (l.getD i.toNat (0, 0)).1 ≠ 0 then (19, l) else if 1048575 ≤ (l.getD i.toNat (0, 0)).2 then (6, l) else (0, l.set i.toNat ((l.getD i.toNat (0, 0)).1, (l.getD i.toNat (0, 0)).2 + 1))

theorem tags_Own (w : World) (v : Value) (l : List (Int × Int)) (i o : Int) (F : List HProp) (hl : l.length ≤ 1048576) (hw : holds w (tagsAt v l :: F)) :
    Calls Tryz.prog 85 #[v, .int .i64 i, .int .i64 o] w fun e w' => e = .returned (.int .i64 (Tags.own l i o).1) ∧ holds w' (tagsAt v (Tags.own l i o).2 :: F) := by
  obtain ⟨b, g, bm, m, rfl, hm, h⟩ := open_tags hw
  have c0 := cellAt h.get_blk 0
  have c1 := cellAt h.get_blk 1
  simp at c0 c1
  have qT : ∀ (w : World) (r : Option Nat), (binOp .eql 156 (.map r) (.map none)).run Tryz.prog w = .ok (.bool r.isNone) w := fun w r => run_eql_map_nil w _ _ _ r Tryz.underlying156
  have HM := Lib.hid hm
  clear hm
  by_cases h0 : 0 ≤ i
  · by_cases h1 : i < l.length
    · obtain ⟨k, rfl⟩ := Int.eq_ofNat_of_zero_le h0
      have hk : k < l.length := by omega
      by_cases ho : o < 1
      · have e : Tags.own l k o = (2, l) := by simp [Tags.own, ho]
        rw [e]
        go_enter Tryz.func85, Tryz.ntmps85
        go_wp2
        go_ret
        exact ⟨rfl, hw⟩
      · obtain ⟨k1, k2⟩ := tagArr_at l k hk
        rw [← cellAt (h.pick 1).get_blk] at k1 k2
        have hf := frozen_of_row w g (k * 2) _ _ (h.pick 1).get_blk
        have hset := tagArr_set1 l k hk o
        have e : Tags.own l k o = if l[k].1 ≠ 0 then (19, l) else (0, l.set k (o, l[k].2)) := by
          unfold Tags.own; rw [if_neg (by omega)]; simp [hk]
        have hown : l[k].1 = 0 → ManyOk (l.set k (o, l[k].2)) (alSet m o ((cnt l o : Nat) + 1)) := fun h0 => HM.out.take k hk h0 o (by omega)
        rw [e]
        have HS := Lib.hid hset
        have HO := Lib.hid hown
        clear e hset hown k2
        by_cases hz : l[k].1 = 0
        · rw [hz] at k1
          have HO2 := Lib.hid (HO.out hz)
          rw [if_neg (by simpa using hz)]
          have hg := HM.out.getD o
          have hcl := cnt_le l o
          clear hz HO
          have h2 := tags_set h HS.out
          have d1 := cellAt h2.get_blk 1
          have hm2 := h2.pick 2
          simp at d1
          have hlk := run_lookup_sl (P := Tryz.prog) (t := 156) (z := (0 : Int)) Tryz.underlying156 Tryz.underlying3 (by kernel_rfl) (h2.pick 2) o false
          simp only [Bool.false_eq_true, if_false] at hlk
          rw [hg] at hlk
          clear hg
          go_enter Tryz.func85, Tryz.ntmps85
          go_wp2_with (first
            | (at_mapUpdate; refine wpList_mapUpdate_sl rfl rfl _ _ _ _ rfl Tryz.underlying156 Tryz.underlying3 rfl _ (((cnt l o : Nat) : Int) + 1) rfl rfl hm2 ?_; clear hlk d1; intro w3 h3)
            | go_in)
          go_ret
          refine ⟨rfl, ?_⟩
          have h4 := h3.order [1, 2, 0]
          refine shut_tags (g := g) (bm := bm) HO2.out ?_
          rw [List.length_set]
          exact h4
        · rw [if_pos hz]
          have hb : (l[k].1 != 0) = true := by simpa using hz
          generalize l[k].1 = x at k1 hb
          go_enter Tryz.func85, Tryz.ntmps85
          go_wp2
          go_ret
          exact ⟨rfl, hw⟩
    · have e : Tags.own l i o = (2, l) := by unfold Tags.own; rw [if_pos (by omega)]
      rw [e]
      go_enter Tryz.func85, Tryz.ntmps85
      go_wp2
      go_ret
      exact ⟨rfl, hw⟩
  · have e : Tags.own l i o = (2, l) := by unfold Tags.own; rw [if_pos (by omega)]
    rw [e]
    go_enter Tryz.func85, Tryz.ntmps85
    go_wp2
    go_ret
    exact ⟨rfl, hw⟩

end Go.Proofs.YtipkgamiejenaaaGreat

/- Contracts of package tags: Leave, Raise, New. -/
namespace Go.Proofs.YtipkgamiejenaaaGreat
open Go Go.RowKit Go.MapKept
set_option maxRecDepth 100000
set_option maxHeartbeats 1600000
set_option linter.unusedVariables false

theorem tags_Leave (w : World) (v : Value) (l : List (Int × Int)) (i : Int) (F : List HProp) (hl : l.length ≤ 1048576) (hw : holds w (tagsAt v l :: F)) :
    Calls Tryz.prog 100 #[v, .int .i64 i] w fun e w' => e = .returned (.int .i64 (Tags.leave l i).1) ∧ holds w' (tagsAt v (Tags.leave l i).2 :: F) := by
  obtain ⟨b, g, bm, m, rfl, hm, h⟩ := open_tags hw
  have c0 := cellAt h.get_blk 0
  have c1 := cellAt h.get_blk 1
  simp at c0 c1
  have qT : ∀ (w : World) (r : Option Nat), (binOp .eql 156 (.map r) (.map none)).run Tryz.prog w = .ok (.bool r.isNone) w := fun w r => run_eql_map_nil w _ _ _ r Tryz.underlying156
  have HM := Lib.hid hm
  clear hm
  by_cases h0 : 0 ≤ i ∧ i < l.length
  · obtain ⟨k, rfl⟩ := Int.eq_ofNat_of_zero_le h0.1
    have hk : k < l.length := by omega
    obtain ⟨k1, k2⟩ := tagArr_at l k hk
    rw [← cellAt (h.pick 1).get_blk] at k1 k2
    have hf := frozen_of_row w g (k * 2) _ _ (h.pick 1).get_blk
    have hset := tagArr_set1 l k hk 0
    have hkk : ∀ w' : World, w'.heap[g]? = some (.cells (tagArr l) 215 (0, 0)) → w'.cell? ⟨g, k * 2, none⟩ = some (.int .i64 l[k].1) := fun w' hw' => by rw [cellAt hw']; exact (tagArr_at l k hk).1
    have e : Tags.leave l k = if l[k].1 = 0 then (20, l) else (0, l.set k (0, l[k].2)) := by unfold Tags.leave; rw [if_neg (by omega)]; simp [hk]
    have hlv : 0 < l[k].1 → _ := fun hp => HM.out.leave k hk hp
    have hpos := HM.out.own l[k] (List.getElem_mem hk)
    have hg := HM.out.getD l[k].1
    have hcl := cnt_le l l[k].1
    rw [e]
    have HS := Lib.hid hset
    have HL := Lib.hid hlv
    have HK := Lib.hid hkk
    clear e hset hlv k2 h0 hkk
    by_cases hz : l[k].1 = 0
    · rw [if_pos hz]
      rw [hz] at k1
      clear hz hpos hg hcl
      go_enter Tryz.func100, Tryz.ntmps100
      go_wp2
      go_ret
      exact ⟨rfl, hw⟩
    · rw [if_neg hz]
      have hb : (l[k].1 == 0) = false := by simpa using hz
      obtain ⟨hc1, hone, hmore⟩ := HL.out (by omega)
      have HONE := Lib.hid hone
      have HMORE := Lib.hid hmore
      clear hone hmore HL hz
      generalize l[k].1 = x at k1 hb hg hcl hpos hc1 HONE HMORE HK
      generalize cnt l x = c at hg hcl hc1 HONE HMORE
      have hlk := run_lookup_sl (P := Tryz.prog) (t := 156) (z := (0 : Int)) Tryz.underlying156 Tryz.underlying3 (by kernel_rfl) (h.drew.pick 2) x false
      simp only [Bool.false_eq_true, if_false] at hlk
      rw [hg] at hlk
      clear hg
      have hm2 := h.drew.pick 2
      go_enter Tryz.func100, Tryz.ntmps100
      by_cases hone : c = 1
      · subst hone
        have HO := Lib.hid (HONE.out rfl)
        clear HONE HMORE
        go_wp2
        go_still_tail 10, (by kernel_rfl)
        change wpList _ _ _ _ _ w.drew
        refine wpList_mapUpdate_sl rfl rfl _ _ _ _ rfl Tryz.underlying156 Tryz.underlying3 rfl _ (0 : Int) rfl rfl hm2 ?_
        clear hlk c0 c1 k1 hf hm2
        intro w3 h3
        have d1 := cellAt (h3.pick 1).get_blk 1
        simp at d1
        have k1 := HK.out w3 (h3.pick 2).get_blk
        have hlk2 := run_lookup_sl (P := Tryz.prog) (t := 156) (z := (0 : Int)) Tryz.underlying156 Tryz.underlying3 (by kernel_rfl) h3 x false
        rw [alGet_set, if_pos rfl] at hlk2
        simp only [Bool.false_eq_true, if_false, Option.getD_some] at hlk2
        have hlk3 := run_lookup_sl (P := Tryz.prog) (t := 156) (z := (0 : Int)) Tryz.underlying156 Tryz.underlying3 (by kernel_rfl) h3.drew x false
        rw [alGet_set, if_pos rfl] at hlk3
        simp only [Bool.false_eq_true, if_false, Option.getD_some] at hlk3
        go_wp2
        go_still_tail 9, (by kernel_rfl)
        change wpList _ _ _ _ _ w3.drew
        have h4 := h3.drew
        clear hlk2 hlk3 d1 k1
        generalize w3.drew = w4 at h4 ⊢
        have d1 := cellAt (h4.pick 1).get_blk 1
        simp at d1
        have k1 := HK.out _ (h4.pick 2).get_blk
        have hf := frozen_of_row _ g (k * 2) _ _ (h4.pick 2).get_blk
        go_wp2
        have hm4 := h4.drew
        go_still_tail 8, (by kernel_rfl)
        change wpList _ _ _ _ _ w4.drew
        refine wpList_delete_sl rfl rfl _ _ _ rfl Tryz.underlying156 Tryz.underlying3 rfl _ rfl hm4 ?_
        clear d1 k1 hf
        intro w5 h5
        have hf := frozen_of_row w5 g (k * 2) _ _ (h5.pick 2).get_blk
        have k1 := HK.out _ (h5.pick 2).get_blk
        go_wp2
        go_ret
        exact ⟨rfl, by
          have h6 := tags_set (h5.order [1, 2, 0]) HS.out
          refine shut_tags (g := g) (bm := bm) HO.out ?_
          rw [List.length_set]
          exact h6⟩
      · have HO := Lib.hid (HMORE.out hone)
        have hne : ((c : Int) - 1 == 0) = false := by simp; omega
        have hwr : IntKind.i64.wrap ((c : Int) - 1) = (c : Int) - 1 := IntWalk.i64_in _ (by omega)
        clear HONE HMORE
        go_wp2
        go_still_tail 10, (by kernel_rfl)
        change wpList _ _ _ _ _ w.drew
        refine wpList_mapUpdate_sl rfl rfl _ _ _ _ rfl Tryz.underlying156 Tryz.underlying3 rfl _ ((c : Nat) - 1 : Int) rfl rfl hm2 ?_
        clear hlk c0 c1 k1 hf hm2
        intro w3 h3
        have d1 := cellAt (h3.pick 1).get_blk 1
        simp at d1
        have k1 := HK.out w3 (h3.pick 2).get_blk
        have hlk2 := run_lookup_sl (P := Tryz.prog) (t := 156) (z := (0 : Int)) Tryz.underlying156 Tryz.underlying3 (by kernel_rfl) h3 x false
        rw [alGet_set, if_pos rfl] at hlk2
        simp only [Bool.false_eq_true, if_false, Option.getD_some] at hlk2
        have hlk3 := run_lookup_sl (P := Tryz.prog) (t := 156) (z := (0 : Int)) Tryz.underlying156 Tryz.underlying3 (by kernel_rfl) h3.drew x false
        rw [alGet_set, if_pos rfl] at hlk3
        simp only [Bool.false_eq_true, if_false, Option.getD_some] at hlk3
        go_wp2
        go_still_tail 9, (by kernel_rfl)
        change wpList _ _ _ _ _ w3.drew
        have h4 := h3.drew
        clear hlk2 hlk3 d1 k1
        generalize w3.drew = w4 at h4 ⊢
        have d1 := cellAt (h4.pick 1).get_blk 1
        simp at d1
        have k1 := HK.out _ (h4.pick 2).get_blk
        have hf := frozen_of_row _ g (k * 2) _ _ (h4.pick 2).get_blk
        go_wp2
        go_ret
        exact ⟨rfl, by
          have h6 := tags_set (h4.order [1, 2, 0]) HS.out
          refine shut_tags (g := g) (bm := bm) HO.out ?_
          rw [List.length_set]
          exact h6⟩
  · have e : Tags.leave l i = (2, l) := by unfold Tags.leave; rw [if_pos (by omega)]
    rw [e]
    by_cases h1 : 0 ≤ i
    · have h2 : ¬ i < l.length := by omega
      clear h0
      go_enter Tryz.func100, Tryz.ntmps100
      go_wp2
      go_ret
      exact ⟨rfl, hw⟩
    · clear h0
      go_enter Tryz.func100, Tryz.ntmps100
      go_wp2
      go_ret
      exact ⟨rfl, hw⟩

theorem tags_Raise (w : World) (v : Value) (l : List (Int × Int)) (i : Int) (F : List HProp) (hl : l.length ≤ 1048576) (hgen : ∀ t ∈ l, 0 ≤ t.2 ∧ t.2 ≤ 1048575) (hw : holds w (tagsAt v l :: F)) :
    Calls Tryz.prog 134 #[v, .int .i64 i] w fun e w' => e = .returned (.int .i64 (Tags.raise l i).1) ∧ holds w' (tagsAt v (Tags.raise l i).2 :: F) := by
  obtain ⟨b, g, bm, m, rfl, hm, h⟩ := open_tags hw
  have c0 := cellAt h.get_blk 0
  have c1 := cellAt h.get_blk 1
  simp at c0 c1
  have qT : ∀ (w : World) (r : Option Nat), (binOp .eql 156 (.map r) (.map none)).run Tryz.prog w = .ok (.bool r.isNone) w := fun w r => run_eql_map_nil w _ _ _ r Tryz.underlying156
  have HM := Lib.hid hm
  clear hm
  by_cases h0 : 0 ≤ i ∧ i < l.length
  · obtain ⟨k, rfl⟩ := Int.eq_ofNat_of_zero_le h0.1
    have hk : k < l.length := by omega
    obtain ⟨k1, k2⟩ := tagArr_at l k hk
    rw [← cellAt (h.pick 1).get_blk] at k1 k2
    have hf := frozen_of_row w g (k * 2 + 1) _ _ (h.pick 1).get_blk
    have hset := tagArr_set2 l k hk (l[k].2 + 1)
    have e : Tags.raise l k = if l[k].1 ≠ 0 then (19, l) else if 1048575 ≤ l[k].2 then (6, l) else (0, l.set k (l[k].1, l[k].2 + 1)) := by unfold Tags.raise; rw [if_neg (by omega)]; simp [hk]
    have hr := HM.out.raise k hk (l[k].2 + 1)
    have hgb := hgen l[k] (List.getElem_mem hk)
    rw [e]
    have HS := Lib.hid hset
    have HR := Lib.hid hr
    clear e hset hr h0 hgen
    by_cases hz : l[k].1 = 0
    · rw [if_neg (by simpa using hz)]
      rw [hz] at k1 HS HR
      rw [hz]
      clear hz
      by_cases hg : 1048575 ≤ l[k].2
      · rw [if_pos hg]
        go_enter Tryz.func134, Tryz.ntmps134
        go_wp2
        go_ret
        exact ⟨rfl, hw⟩
      · rw [if_neg hg]
        go_enter Tryz.func134, Tryz.ntmps134
        go_wp2
        go_ret
        refine ⟨rfl, ?_⟩
        have h2 := tags_set h HS.out
        refine shut_tags (g := g) (bm := bm) HR.out ?_
        rw [List.length_set]
        exact h2
    · rw [if_pos hz]
      have hb : (l[k].1 != 0) = true := by simpa using hz
      generalize l[k].1 = x at k1 hb
      go_enter Tryz.func134, Tryz.ntmps134
      go_wp2
      go_ret
      exact ⟨rfl, hw⟩
  · have e : Tags.raise l i = (2, l) := by unfold Tags.raise; rw [if_pos (by omega)]
    rw [e]
    by_cases h1 : 0 ≤ i
    · have h2 : ¬ i < l.length := by omega
      clear h0
      go_enter Tryz.func134, Tryz.ntmps134
      go_wp2
      go_ret
      exact ⟨rfl, hw⟩
    · clear h0
      go_enter Tryz.func134, Tryz.ntmps134
      go_wp2
      go_ret
      exact ⟨rfl, hw⟩

end Go.Proofs.YtipkgamiejenaaaGreat

/- Contracts of package tags: New, Of. -/
namespace Go.Proofs.YtipkgamiejenaaaGreat
open Go Go.RowKit Go.MapKept
set_option maxRecDepth 100000
set_option linter.unusedVariables false

/-- The places at which a number stands. -/
def ofTo (L : List Int) (o : Int) (k : Nat) : List Int := ((List.range k).filter fun i => L.getD i 0 == o).map Int.ofNat
def ofs (L : List Int) (o : Int) : List Int := if 0 < o then ofTo L o L.length else []
theorem madeCells_two (z : Value) (m : Nat) : madeCells #[z, z] m = Array.replicate m z := by
  apply Array.ext
  · simp [size_madeCells]
  · intro i h1 h2
    rcases Nat.mod_two_eq_zero_or_one i with h | h <;> simp [madeCells, h]
theorem tagArr_replicate (n : Nat) : tagArr (List.replicate n (0, 0)) = Array.replicate (n * 2) (.int .i64 0) := by
  induction n with
  | zero => rfl
  | succ n ih =>
    have h := congrArg Array.toList ih
    apply Array.ext'
    simp only [tagArr, Array.toList_replicate] at h ⊢
    rw [List.replicate_succ, List.flatMap_cons, h, show (n + 1) * 2 = n * 2 + 1 + 1 by omega, List.replicate_succ, List.replicate_succ]
    rfl
theorem ManyOk.new (n : Nat) : ManyOk (List.replicate n (0, 0)) [] := by
  refine ⟨fun o => ?_, by simp [alKeys], fun t ht => by rw [List.eq_of_mem_replicate ht]; exact Int.le_refl _⟩
  have : cnt (List.replicate n (0, 0)) o = 0 := by
    unfold cnt
    split
    · rename_i ho
      rw [List.filter_replicate, if_neg (by simp; omega)]
      rfl
    · rfl
  rw [this, if_pos rfl]
  rfl

theorem Tryz.infoTag : (Tryz.prog.info? 215).map (fun i => (i.zero, i.size, i.bytes)) = some (some (.agg #[.int .i64 0, .int .i64 0]), 2, 16) := by kernel_rfl

theorem tags_New (w : World) (n : Int) (F : List HProp) (hn0 : 0 ≤ n) (hn : n ≤ 1048576) (hw : holds w F) :
    Calls Tryz.prog 65 #[.int .i64 n] w fun e w' => ∃ v, e = .returned v ∧ holds w' (tagsAt v (List.replicate n.toNat (0, 0)) :: F) := by
  obtain ⟨n, rfl⟩ := Int.eq_ofNat_of_zero_le hn0
  rw [Int.toNat_natCast]
  obtain ⟨i0, hi, hz0, hz1, hz2⟩ := info_parts Tryz.infoTag
  have hm := fun w (hw : holds w F) => run_make_sl (P := Tryz.prog) (t := 198) Tryz.underlying198 hi hz0 hz1 hw .i64 .i64 (x := n) (c := n) (by omega) (by omega) (by rw [hz2]; omega) (by omega)
  have hm1 := (hm w hw).1
  have hmm := @run_makeMap Tryz.prog
  have hc : madeCells (Value.agg #[.int .i64 0, .int .i64 0]).cells (n * 2) = tagArr (List.replicate n (0, 0)) := by
    rw [tagArr_replicate, ← madeCells_two]
    congr 1
  simp only [Int.toNat_natCast, hc] at hm1
  clear hm hi hz0 hz1 hz2 hc
  go_enter Tryz.func65, Tryz.ntmps65
  go_wp2
  go_ret
  have h1 := ((hw.alloc (.cells (tagArr (List.replicate n (0, 0))) 215 (0, 0))).alloc (.map #[] 0)).mkMap (enc := (.int .i64 : Int → Value)) (m := []) rfl (stamped_empty 0)
  have h2 := (h1.alloc (.cells #[.slice (some ⟨w.heap.size, 0, none⟩) n n, .map (some (w.heap.size + 1))] 200 (0, 0))).order [0, 2, 1]
  simp only [World.size_alloc] at h2
  refine ⟨_, rfl, shut_tags (g := w.heap.size) (bm := w.heap.size + 1) (ManyOk.new n) ?_⟩
  rw [List.length_replicate]
  exact h2

end Go.Proofs.YtipkgamiejenaaaGreat

/- Package store: what lies in memory. -/
namespace Go.Proofs.YtipkgamiejenaaaGreat
open Go Go.RowKit Go.MapKept
set_option linter.unusedVariables false
set_option linter.unusedSimpArgs false
set_option maxRecDepth 100000
theorem eraseIdx_perm {α : Type _} : ∀ (l : List α) (i : Nat) (h : i < l.length), (l[i] :: l.eraseIdx i).Perm l
  | a :: l, 0, _ => .refl _
  | a :: l, i + 1, h => by
    have ih := eraseIdx_perm l i (by simpa using h)
    simp only [List.getElem_cons_succ, List.eraseIdx_cons_succ]
    exact (List.Perm.swap _ _ _).trans (ih.cons a)
  | [], i, h => by simp at h
/-- Pieces, numbered. -/
def bigF (n : Nat) (f : Nat → HProp) : HProp := sep ((List.range n).map f)
theorem bigF.take {w : World} {n i : Nat} {f : Nat → HProp} {F : List HProp} (hi : i < n) (h : holds w (bigF n f :: F)) : holds w (f i :: sep (((List.range n).map f).eraseIdx i) :: F) := by
  have h1 := (holds_sep.1 h).pick i (A := f i) (by rw [List.getElem?_append_left (by simpa using hi)]; simp [hi])
  rw [List.eraseIdx_append_of_lt_length (by simpa using hi)] at h1
  exact ((holds_sep (l := ((List.range n).map f).eraseIdx i) (m := f i :: F)).2 (h1.perm List.perm_middle.symm)).order [1, 0]
theorem bigF.put {w : World} {n i : Nat} {f f' : Nat → HProp} {F : List HProp} (hi : i < n) (hf : ∀ j, j < n → j ≠ i → f' j = f j) (h : holds w (f' i :: sep (((List.range n).map f).eraseIdx i) :: F)) : holds w (bigF n f' :: F) := by
  have e : ((List.range n).map f).eraseIdx i = ((List.range n).map f').eraseIdx i := by
    apply List.ext_getElem
    · simp [List.length_eraseIdx]
    · intro j h1 h2
      simp only [List.length_eraseIdx, List.length_map, List.length_range, hi, if_true] at h1
      rw [List.getElem_eraseIdx, List.getElem_eraseIdx]
      split
      · simp only [List.getElem_map, List.getElem_range]; exact (hf _ (by omega) (by omega)).symm
      · simp only [List.getElem_map, List.getElem_range]; exact (hf _ (by omega) (by omega)).symm
  rw [e] at h
  have h1 : holds w (f' i :: (((List.range n).map f').eraseIdx i ++ F)) := (holds_sep.1 (h.order [1, 0])).perm List.perm_middle
  refine holds_sep.2 (h1.perm ?_)
  have h2 : (f' i :: ((List.range n).map f').eraseIdx i).Perm ((List.range n).map f') := by
    have h3 : ((List.range n).map f')[i]'(by simpa using hi) = f' i := by simp
    have := eraseIdx_perm ((List.range n).map f') i (by simpa using hi)
    rw [h3] at this; exact this
  exact h2.append_right F
@[reducible] def pV (o : Option Nat) : Value := .pointer (o.map fun b => ⟨b, 0, none⟩)
/-- What a chunk has: whether its bytes are there, the lock, the phase, the bytes, the wiping. -/
structure CellV where
  d : Int
  l : Int
  ph : Int
  bp : Option Nat
  wp : Option Nat
@[reducible] def encCell (c : CellV) : List Value := [.int .u32 c.d, .int .i32 c.l, .int .u32 0, .int .i64 c.ph, pV c.bp, pV c.wp]
instance : Enc encCell 6 := ⟨fun _ => rfl, fun c => by simp [encCell, Value.oneCell', pV], by omega⟩
def cell0 : CellV := ⟨0, 0, 0, none, none⟩
def bytesO (o : Option Nat) (sz : Nat) (tx : List UInt8) : HProp := match o with
  | some b => bytesP b sz tx
  | none => fun _ => ∀ y ∈ tx, y = 0
def wipeO (o p : Option Nat) (x : Int) : HProp := match o with
  | some wb => blk wb (.cells #[pV p, .int .i64 x] 262 (0, 0))
  | none => nilP
structure CellV.Ok (v : CellV) (c : ChunkM) : Prop where
  l : v.l = 0
  ph : v.ph = c.phase
  d : v.d = if v.bp.isSome then 1 else 0
  bp : c.phase ≠ 0 → v.bp.isSome = true
  wp : v.wp.isSome = true ↔ c.phase = 3
def chunkP (sz : Nat) (c : ChunkM) (tx : List UInt8) (x : Int) (v : CellV) : HProp := fun f => v.Ok c ∧ sep [bytesO v.bp sz tx, wipeO v.wp v.bp x] f
theorem chunkP.open {w : World} {sz : Nat} {c : ChunkM} {tx : List UInt8} {x : Int} {v : CellV} {F : List HProp} (h : holds w (chunkP sz c tx x v :: F)) : v.Ok c ∧ holds w (bytesO v.bp sz tx :: wipeO v.wp v.bp x :: F) := by
  obtain ⟨e, h⟩ := holds.open_pure h
  exact ⟨e, holds_sep.1 h⟩
theorem chunkP.shut {w : World} {sz : Nat} {c : ChunkM} {tx : List UInt8} {x : Int} {v : CellV} {F : List HProp} (e : v.Ok c) (h : holds w (bytesO v.bp sz tx :: wipeO v.wp v.bp x :: F)) : holds w (chunkP sz c tx x v :: F) :=
  (holds_sep (l := [bytesO v.bp sz tx, wipeO v.wp v.bp x]).2 h).mono fun f hf => ⟨e, hf⟩
def chunkF (t : St.S) (vs : List CellV) (i : Nat) : HProp := chunkP t.size (t.c i) (t.x i) (t.w i) (vs.getD i cell0)
structure StoM where
  tb : Nat
  fb : Nat
  cb : Nat
  kb : Nat
  vs : List CellV
/-- A store. -/
def storeP (sb : Nat) (t : St.S) : HProp := fun f => ∃ q : StoM, q.vs.length = t.ch.length ∧ sep [blk sb (.cells #[.pointer (some ⟨q.tb, 0, none⟩), .pointer (some ⟨q.fb, 0, none⟩), .slice (some ⟨q.cb, 0, none⟩) t.ch.length t.ch.length, .int .i64 (t.size : Nat), .int .i64 (St.cntP t.ch 0), .int .i64 (St.cntP t.ch 1), .int .i64 (St.cntP t.ch 2), .int .i64 (St.cntP t.ch 3), .pointer (some ⟨q.kb, 0, none⟩)] 123 (0, 0)), tagsAt (.pointer (some ⟨q.tb, 0, none⟩)) (t.ch.map fun c => (c.owner, c.gen)), freeP (.pointer (some ⟨q.fb, 0, none⟩)) t.ch.length t.stack, owns 148 encCell 6 (.slice (some ⟨q.cb, 0, none⟩) t.ch.length t.ch.length) q.vs, bigF t.ch.length (chunkF t q.vs), bookP (.pointer (some ⟨q.kb, 0, none⟩)) 4 t.ev] f
theorem storeP.open {w : World} {sb : Nat} {t : St.S} {F : List HProp} (h : holds w (storeP sb t :: F)) : ∃ q : StoM, q.vs.length = t.ch.length ∧ holds w (blk sb (.cells #[.pointer (some ⟨q.tb, 0, none⟩), .pointer (some ⟨q.fb, 0, none⟩), .slice (some ⟨q.cb, 0, none⟩) t.ch.length t.ch.length, .int .i64 (t.size : Nat), .int .i64 (St.cntP t.ch 0), .int .i64 (St.cntP t.ch 1), .int .i64 (St.cntP t.ch 2), .int .i64 (St.cntP t.ch 3), .pointer (some ⟨q.kb, 0, none⟩)] 123 (0, 0)) :: tagsAt (.pointer (some ⟨q.tb, 0, none⟩)) (t.ch.map fun c => (c.owner, c.gen)) :: freeP (.pointer (some ⟨q.fb, 0, none⟩)) t.ch.length t.stack :: owns 148 encCell 6 (.slice (some ⟨q.cb, 0, none⟩) t.ch.length t.ch.length) q.vs :: bigF t.ch.length (chunkF t q.vs) :: bookP (.pointer (some ⟨q.kb, 0, none⟩)) 4 t.ev :: F) := by
  obtain ⟨q, h⟩ := holds.open_ex h
  obtain ⟨e, h⟩ := holds.open_pure h
  exact ⟨q, e, holds_sep.1 h⟩
theorem storeP.shut {w : World} {sb : Nat} {t : St.S} {F : List HProp} (q : StoM) (e : q.vs.length = t.ch.length) (h : holds w (blk sb (.cells #[.pointer (some ⟨q.tb, 0, none⟩), .pointer (some ⟨q.fb, 0, none⟩), .slice (some ⟨q.cb, 0, none⟩) t.ch.length t.ch.length, .int .i64 (t.size : Nat), .int .i64 (St.cntP t.ch 0), .int .i64 (St.cntP t.ch 1), .int .i64 (St.cntP t.ch 2), .int .i64 (St.cntP t.ch 3), .pointer (some ⟨q.kb, 0, none⟩)] 123 (0, 0)) :: tagsAt (.pointer (some ⟨q.tb, 0, none⟩)) (t.ch.map fun c => (c.owner, c.gen)) :: freeP (.pointer (some ⟨q.fb, 0, none⟩)) t.ch.length t.stack :: owns 148 encCell 6 (.slice (some ⟨q.cb, 0, none⟩) t.ch.length t.ch.length) q.vs :: bigF t.ch.length (chunkF t q.vs) :: bookP (.pointer (some ⟨q.kb, 0, none⟩)) 4 t.ev :: F)) : holds w (storeP sb t :: F) :=
  (holds_sep (l := [blk sb (.cells #[.pointer (some ⟨q.tb, 0, none⟩), .pointer (some ⟨q.fb, 0, none⟩), .slice (some ⟨q.cb, 0, none⟩) t.ch.length t.ch.length, .int .i64 (t.size : Nat), .int .i64 (St.cntP t.ch 0), .int .i64 (St.cntP t.ch 1), .int .i64 (St.cntP t.ch 2), .int .i64 (St.cntP t.ch 3), .pointer (some ⟨q.kb, 0, none⟩)] 123 (0, 0)), tagsAt (.pointer (some ⟨q.tb, 0, none⟩)) (t.ch.map fun c => (c.owner, c.gen)), freeP (.pointer (some ⟨q.fb, 0, none⟩)) t.ch.length t.stack, owns 148 encCell 6 (.slice (some ⟨q.cb, 0, none⟩) t.ch.length t.ch.length) q.vs, bigF t.ch.length (chunkF t q.vs), bookP (.pointer (some ⟨q.kb, 0, none⟩)) 4 t.ev]).2 h).mono fun f hf => ⟨q, e, hf⟩
end Go.Proofs.YtipkgamiejenaaaGreat

/- Package store: find, and lead. -/
namespace Go.Proofs.YtipkgamiejenaaaGreat
open Go Go.RowKit Go.MapKept
set_option linter.unusedVariables false
set_option linter.unusedSimpArgs false
set_option maxRecDepth 100000
set_option maxHeartbeats 2000000
theorem phase_step (p : Nat) (hp : p < 4) (w : World) (F : List HProp) (hw : holds w F) :
    Ct Tryz.prog 152 #[.int .i64 (p : Nat), .int .i64 ((p + 1 : Nat) : Int)] w fun r w' => r = .returned (.tuple #[.int .i64 (((p + 1) % 4 : Nat) : Int), .int .i64 0]) ∧ holds w' F := by
  have h := phase_Next p (p + 1) hp ⟨by omega, by omega⟩ w F hw
  rw [if_pos rfl, if_pos rfl] at h
  exact h
theorem phase_stop (p e : Nat) (hp : p < 4) (he : 1 ≤ e ∧ e ≤ 4) (hne : p + 1 ≠ e) (w : World) (F : List HProp) (hw : holds w F) :
    Ct Tryz.prog 152 #[.int .i64 (p : Nat), .int .i64 (e : Nat)] w fun r w' => r = .returned (.tuple #[.int .i64 0, .int .i64 18]) ∧ holds w' F := by
  have h := phase_Next p e hp he w F hw
  rw [if_neg hne, if_neg hne] at h
  exact h
section
variable (sb n sz : Nat) (q : StoM) (m0 m1 m2 m3 : Int)
theorem store_is (w : World) (F : List HProp) [SeesBlk F sb #[.pointer (some ⟨q.tb, 0, none⟩), .pointer (some ⟨q.fb, 0, none⟩), .slice (some ⟨q.cb, 0, none⟩) n n, .int .i64 (sz : Nat), .int .i64 m0, .int .i64 m1, .int .i64 m2, .int .i64 m3, .pointer (some ⟨q.kb, 0, none⟩)]] (hw : holds w F) :
    Ct Tryz.prog 78 #[.pointer (some ⟨sb, 0, none⟩)] w fun e w' => e = .returned (.bool true) ∧ holds w' F := by
  refine Ct.go (args := [.pointer (some ⟨sb, 0, none⟩)]) Tryz.func78 rfl rfl rfl hw ?_
  repeat' (first | refine stp ?_ | (refine stpB ?_; intro _) | (refine spl ?_ ?_ <;> intro hc <;> ((try simp only [decide_eq_true_eq, decide_eq_false_iff_not, Bool.not_true, Bool.not_false, ne_eq, Classical.not_not, Int.not_lt, Int.not_le] at hc); (try (exfalso; first | omega | exact hc trivial | exact hc rfl)))))
  refine GE.resOne rfl (by (repeat (first | apply Res.nil | (apply Res.tmp; rfl) | (refine Res.cellA rfl rfl rfl ?_) | (refine Res.cell1 rfl rfl ?_)))) (fun w h => ?_); exact ⟨rfl, h.sub⟩
theorem store_find (vs : List CellV) (hv : vs.length = n) (i : Nat) (hi : i < n) (w : World) (F : List HProp) [SeesBlk F sb #[.pointer (some ⟨q.tb, 0, none⟩), .pointer (some ⟨q.fb, 0, none⟩), .slice (some ⟨q.cb, 0, none⟩) n n, .int .i64 (sz : Nat), .int .i64 m0, .int .i64 m1, .int .i64 m2, .int .i64 m3, .pointer (some ⟨q.kb, 0, none⟩)]] [Reads F (.slice (some ⟨q.cb, 0, none⟩) n n) encCell 6 vs] (hw : holds w F) :
    Ct Tryz.prog 98 #[.pointer (some ⟨sb, 0, none⟩), .int .i64 (i : Nat)] w fun e w' => e = .returned (.tuple #[.pointer (some ⟨rowB (.slice (some ⟨q.cb, 0, none⟩) n n), rowO (.slice (some ⟨q.cb, 0, none⟩) n n) + i * 6, none⟩), .int .i64 0]) ∧ holds w' F := by
  refine Ct.go (args := [.pointer (some ⟨sb, 0, none⟩), .int .i64 (i : Nat)]) Tryz.func98 rfl rfl rfl hw ?_
  repeat' (first | (first | first | (apply GL.isCall; refine GL.call1 rfl rfl (fun w h => store_is sb n sz q m0 m1 m2 m3 w _ h) ?_) | (apply GD.isAny; refine GD.call rfl rfl (fun w F' h => store_is sb n sz q m0 m1 m2 m3 w _ h) ?_) | (apply GL.isAny; refine GL.run (by apply Runs.isIndexA; exact Runs.indexAddr (k := i) rfl rfl rfl rfl (by omega)) rfl ?_)) | first | refine stp ?_ | (refine stpB ?_; intro _) | (refine spl ?_ ?_ <;> intro hc <;> ((try simp only [decide_eq_true_eq, decide_eq_false_iff_not, Bool.not_true, Bool.not_false, ne_eq, Classical.not_not, Int.not_lt, Int.not_le] at hc); (try (exfalso; first | omega | exact hc trivial | exact hc rfl)))))
  all_goals (first | (exfalso; omega) | (exfalso; simp at hc; done) | (refine GE.resMany rfl (by (repeat (first | apply Res.nil | (apply Res.tmp; rfl) | (refine Res.cellA rfl rfl rfl ?_) | (refine Res.cell1 rfl rfl ?_)))) (fun w h => ?_); exact ⟨rfl, h⟩))
theorem store_findN (vs : List CellV) (hv : vs.length = n) (i : Int) (hi : i < 0 ∨ (n : Int) ≤ i) (w : World) (F : List HProp) [SeesBlk F sb #[.pointer (some ⟨q.tb, 0, none⟩), .pointer (some ⟨q.fb, 0, none⟩), .slice (some ⟨q.cb, 0, none⟩) n n, .int .i64 (sz : Nat), .int .i64 m0, .int .i64 m1, .int .i64 m2, .int .i64 m3, .pointer (some ⟨q.kb, 0, none⟩)]] [Reads F (.slice (some ⟨q.cb, 0, none⟩) n n) encCell 6 vs] (hw : holds w F) :
    Ct Tryz.prog 98 #[.pointer (some ⟨sb, 0, none⟩), .int .i64 i] w fun e w' => e = .returned (.tuple #[.pointer none, .int .i64 2]) ∧ holds w' F := by
  refine Ct.go (args := [.pointer (some ⟨sb, 0, none⟩), .int .i64 i]) Tryz.func98 rfl rfl rfl hw ?_
  repeat' (first | (first | (apply GL.isCall; refine GL.call1 rfl rfl (fun w h => store_is sb n sz q m0 m1 m2 m3 w _ h) ?_) | (apply GD.isAny; refine GD.call rfl rfl (fun w F' h => store_is sb n sz q m0 m1 m2 m3 w _ h) ?_)) | first | refine stp ?_ | (refine stpB ?_; intro _) | (refine spl ?_ ?_ <;> intro hc <;> ((try simp only [decide_eq_true_eq, decide_eq_false_iff_not, Bool.not_true, Bool.not_false, ne_eq, Classical.not_not, Int.not_lt, Int.not_le] at hc); (try (exfalso; first | omega | exact hc trivial | exact hc rfl)))))
  all_goals (first | (exfalso; omega) | (exfalso; simp at hc; done) | (refine GE.resMany rfl (by (repeat (first | apply Res.nil | (apply Res.tmp; rfl) | (refine Res.cellA rfl rfl rfl ?_) | (refine Res.cell1 rfl rfl ?_)))) (fun w h => ?_); exact ⟨rfl, h⟩))
theorem store_leadN (vs : List CellV) (ev : List Int) (i p e : Nat) (hi : i < vs.length) (hp : p < 4) (he : 1 ≤ e ∧ e ≤ 4) (hne : p + 1 ≠ e) (hph : (vs[i]).ph = p) (w : World) (F : List HProp) [Reads F (.slice (some ⟨q.cb, 0, none⟩) n n) encCell 6 vs] (hw : holds w F) :
    Ct Tryz.prog 86 #[.pointer (some ⟨sb, 0, none⟩), .pointer (some ⟨rowB (.slice (some ⟨q.cb, 0, none⟩) n n), rowO (.slice (some ⟨q.cb, 0, none⟩) n n) + i * 6, none⟩), .int .i64 (e : Nat)] w fun r w' => r = .returned (.int .i64 18) ∧ holds w' F := by
  refine Ct.go (args := [.pointer (some ⟨sb, 0, none⟩), .pointer (some ⟨rowB (.slice (some ⟨q.cb, 0, none⟩) n n), rowO (.slice (some ⟨q.cb, 0, none⟩) n n) + i * 6, none⟩), .int .i64 (e : Nat)]) Tryz.func86 rfl rfl rfl hw ?_
  repeat' (first | (first | (rw [hph]) | first | (apply GL.isCall; refine GL.call1 rfl rfl (fun w h => phase_stop p e hp he hne w _ h) ?_) | (apply GD.isAny; refine GD.call rfl rfl (fun w F' h => phase_stop p e hp he hne w _ h) ?_)) | first | refine stp ?_ | (refine stpB ?_; intro _) | (refine spl ?_ ?_ <;> intro hc <;> ((try simp only [decide_eq_true_eq, decide_eq_false_iff_not, Bool.not_true, Bool.not_false, ne_eq, Classical.not_not, Int.not_lt, Int.not_le] at hc); (try (exfalso; first | omega | exact hc trivial | exact hc rfl)))))
  all_goals (first | (exfalso; simp at hc; done) | (refine GE.resOne rfl (by (repeat (first | apply Res.nil | (apply Res.tmp; rfl) | (refine Res.cellA rfl rfl rfl ?_) | (refine Res.cell1 rfl rfl ?_)))) (fun w h => ?_); exact ⟨rfl, h.sub⟩))
theorem store_lead (vs : List CellV) (ev : List Int) (hev : ev.length = 4) (i p : Nat) (hi : i < vs.length) (hp : p < 4) (hph : (vs[i]).ph = p) (n0 n1 n2 n3 : Int) (hN : [n0, n1, n2, n3] = ([m0, m1, m2, m3].set p ([m0, m1, m2, m3].getD p 0 - 1)).set ((p + 1) % 4) ([m0, m1, m2, m3].getD ((p + 1) % 4) 0 + 1))
    (hb : ∀ m ∈ [m0, m1, m2, m3], 0 ≤ m ∧ m ≤ 1099511627776) (he0 : 0 ≤ ev.getD p 0) (he1 : ev.getD p 0 ≤ 1099511627776) (w : World) (F : List HProp) (hw : holds w (blk sb (.cells #[.pointer (some ⟨q.tb, 0, none⟩), .pointer (some ⟨q.fb, 0, none⟩), .slice (some ⟨q.cb, 0, none⟩) n n, .int .i64 (sz : Nat), .int .i64 m0, .int .i64 m1, .int .i64 m2, .int .i64 m3, .pointer (some ⟨q.kb, 0, none⟩)] 123 (0, 0)) :: owns 148 encCell 6 (.slice (some ⟨q.cb, 0, none⟩) n n) vs :: bookP (.pointer (some ⟨q.kb, 0, none⟩)) 4 ev :: F)) :
    Ct Tryz.prog 86 #[.pointer (some ⟨sb, 0, none⟩), .pointer (some ⟨rowB (.slice (some ⟨q.cb, 0, none⟩) n n), rowO (.slice (some ⟨q.cb, 0, none⟩) n n) + i * 6, none⟩), .int .i64 ((p + 1 : Nat) : Int)] w fun r w' => r = .returned (.int .i64 0) ∧ holds w' (blk sb (.cells #[.pointer (some ⟨q.tb, 0, none⟩), .pointer (some ⟨q.fb, 0, none⟩), .slice (some ⟨q.cb, 0, none⟩) n n, .int .i64 (sz : Nat), .int .i64 n0, .int .i64 n1, .int .i64 n2, .int .i64 n3, .pointer (some ⟨q.kb, 0, none⟩)] 123 (0, 0)) :: owns 148 encCell 6 (.slice (some ⟨q.cb, 0, none⟩) n n) (vs.set i { vs[i] with ph := (((p + 1) % 4 : Nat) : Int) }) :: bookP (.pointer (some ⟨q.kb, 0, none⟩)) 4 (ev.set p (ev.getD p 0 + 1)) :: F) := by
  have hb0 := hb m0 (by simp)
  have hb1 := hb m1 (by simp)
  have hb2 := hb m2 (by simp)
  have hb3 := hb m3 (by simp)
  have hA := fun w (F : List HProp) h => count_Add (.pointer (some ⟨q.kb, 0, none⟩)) 4 (by omega) ev hev p hp 1 (by omega) he0 (by omega) w F h
  have hS := fun w (F : List HProp) h => phase_step p hp w F h
  have hc4 : p = 0 ∨ p = 1 ∨ p = 2 ∨ p = 3 := by omega
  rcases hc4 with rfl | rfl | rfl | rfl
  · obtain ⟨d0, d1, d2, d3⟩ : n0 = m0 - 1 ∧ n1 = m1 + 1 ∧ n2 = m2 ∧ n3 = m3 := by simpa using hN
    rw [d0, d1, d2, d3]
    refine Ct.go (args := [.pointer (some ⟨sb, 0, none⟩), .pointer (some ⟨rowB (.slice (some ⟨q.cb, 0, none⟩) n n), rowO (.slice (some ⟨q.cb, 0, none⟩) n n) + i * 6, none⟩), .int .i64 ((0 + 1 : Nat) : Int)]) Tryz.func86 rfl rfl rfl hw ?_
    repeat' (first | (first | (rw [hph]) | (apply GL.isCall; refine GL.call1 (vs := [.int .i64 ((0 : Nat) : Int), .int .i64 ((0 + 1 : Nat) : Int)]) rfl rfl (fun w h => hS w _ h) ?_) | (refine G.isRegion 4 ?_; refine G.drawTail 13 (by kernel_rfl) (by simp only [List.take_succ_cons, List.take_zero]; rfl) (by simp only [List.drop_succ_cons, List.drop_zero]; rfl) (by kernel_rfl) ?_) | (refine G.isRegion 5 ?_; refine G.drawTail 10 (by kernel_rfl) (by simp only [List.take_succ_cons, List.take_zero]; rfl) (by simp only [List.drop_succ_cons, List.drop_zero]; rfl) (by kernel_rfl) ?_) | (refine G.isRegion 6 ?_; refine G.imp (F' := blk sb (.cells #[.pointer (some ⟨q.tb, 0, none⟩), .pointer (some ⟨q.fb, 0, none⟩), .slice (some ⟨q.cb, 0, none⟩) n n, .int .i64 (sz : Nat), .int .i64 (m0 - 1), .int .i64 (m1 + 1), .int .i64 (m2), .int .i64 (m3), .pointer (some ⟨q.kb, 0, none⟩)] 123 (0, 0)) :: owns 148 encCell 6 (.slice (some ⟨q.cb, 0, none⟩) n n) vs :: bookP (.pointer (some ⟨q.kb, 0, none⟩)) 4 ev :: F) ?_ (fun w h => h); apply G.region) | (apply GL.isStore; refine GL.storeElem (f := 3) ({ vs[i] with ph := (((0 + 1) % 4 : Nat) : Int) }) rfl rfl hi rfl rfl rfl rfl ?_) | (apply GL.isCall; refine GL.call1 (vs := [.pointer (some ⟨q.kb, 0, none⟩), .int .i64 ((0 : Nat) : Int), .int .i64 1]) rfl rfl (fun w h => hA w (blk sb (.cells #[.pointer (some ⟨q.tb, 0, none⟩), .pointer (some ⟨q.fb, 0, none⟩), .slice (some ⟨q.cb, 0, none⟩) n n, .int .i64 (sz : Nat), .int .i64 (m0 - 1), .int .i64 (m1 + 1), .int .i64 (m2), .int .i64 (m3), .pointer (some ⟨q.kb, 0, none⟩)] 123 (0, 0)) :: owns 148 encCell 6 (.slice (some ⟨q.cb, 0, none⟩) n n) (vs.set i { vs[i] with ph := (((0 + 1) % 4 : Nat) : Int) }) :: F) h.sub) ?_)) | first | refine stp ?_ | (refine stpB ?_; intro _) | (refine spl ?_ ?_ <;> intro hc <;> ((try simp only [decide_eq_true_eq, decide_eq_false_iff_not, Bool.not_true, Bool.not_false, ne_eq, Classical.not_not, Int.not_lt, Int.not_le] at hc); (try (exfalso; first | omega | exact hc trivial | exact hc rfl)))))
    all_goals (first | (exfalso; simp at hc; done) | (refine GE.resOne rfl (by (repeat (first | apply Res.nil | (apply Res.tmp; rfl) | (refine Res.cellA rfl rfl rfl ?_) | (refine Res.cell1 rfl rfl ?_)))) (fun w h => ?_); exact ⟨rfl, h.sub⟩))
  · obtain ⟨d0, d1, d2, d3⟩ : n0 = m0 ∧ n1 = m1 - 1 ∧ n2 = m2 + 1 ∧ n3 = m3 := by simpa using hN
    rw [d0, d1, d2, d3]
    refine Ct.go (args := [.pointer (some ⟨sb, 0, none⟩), .pointer (some ⟨rowB (.slice (some ⟨q.cb, 0, none⟩) n n), rowO (.slice (some ⟨q.cb, 0, none⟩) n n) + i * 6, none⟩), .int .i64 ((1 + 1 : Nat) : Int)]) Tryz.func86 rfl rfl rfl hw ?_
    repeat' (first | (first | (rw [hph]) | (apply GL.isCall; refine GL.call1 (vs := [.int .i64 ((1 : Nat) : Int), .int .i64 ((1 + 1 : Nat) : Int)]) rfl rfl (fun w h => hS w _ h) ?_) | (refine G.isRegion 4 ?_; refine G.drawTail 13 (by kernel_rfl) (by simp only [List.take_succ_cons, List.take_zero]; rfl) (by simp only [List.drop_succ_cons, List.drop_zero]; rfl) (by kernel_rfl) ?_) | (refine G.isRegion 5 ?_; refine G.drawTail 10 (by kernel_rfl) (by simp only [List.take_succ_cons, List.take_zero]; rfl) (by simp only [List.drop_succ_cons, List.drop_zero]; rfl) (by kernel_rfl) ?_) | (refine G.isRegion 6 ?_; refine G.imp (F' := blk sb (.cells #[.pointer (some ⟨q.tb, 0, none⟩), .pointer (some ⟨q.fb, 0, none⟩), .slice (some ⟨q.cb, 0, none⟩) n n, .int .i64 (sz : Nat), .int .i64 (m0), .int .i64 (m1 - 1), .int .i64 (m2 + 1), .int .i64 (m3), .pointer (some ⟨q.kb, 0, none⟩)] 123 (0, 0)) :: owns 148 encCell 6 (.slice (some ⟨q.cb, 0, none⟩) n n) vs :: bookP (.pointer (some ⟨q.kb, 0, none⟩)) 4 ev :: F) ?_ (fun w h => h); apply G.region) | (apply GL.isStore; refine GL.storeElem (f := 3) ({ vs[i] with ph := (((1 + 1) % 4 : Nat) : Int) }) rfl rfl hi rfl rfl rfl rfl ?_) | (apply GL.isCall; refine GL.call1 (vs := [.pointer (some ⟨q.kb, 0, none⟩), .int .i64 ((1 : Nat) : Int), .int .i64 1]) rfl rfl (fun w h => hA w (blk sb (.cells #[.pointer (some ⟨q.tb, 0, none⟩), .pointer (some ⟨q.fb, 0, none⟩), .slice (some ⟨q.cb, 0, none⟩) n n, .int .i64 (sz : Nat), .int .i64 (m0), .int .i64 (m1 - 1), .int .i64 (m2 + 1), .int .i64 (m3), .pointer (some ⟨q.kb, 0, none⟩)] 123 (0, 0)) :: owns 148 encCell 6 (.slice (some ⟨q.cb, 0, none⟩) n n) (vs.set i { vs[i] with ph := (((1 + 1) % 4 : Nat) : Int) }) :: F) h.sub) ?_)) | first | refine stp ?_ | (refine stpB ?_; intro _) | (refine spl ?_ ?_ <;> intro hc <;> ((try simp only [decide_eq_true_eq, decide_eq_false_iff_not, Bool.not_true, Bool.not_false, ne_eq, Classical.not_not, Int.not_lt, Int.not_le] at hc); (try (exfalso; first | omega | exact hc trivial | exact hc rfl)))))
    all_goals (first | (exfalso; simp at hc; done) | (refine GE.resOne rfl (by (repeat (first | apply Res.nil | (apply Res.tmp; rfl) | (refine Res.cellA rfl rfl rfl ?_) | (refine Res.cell1 rfl rfl ?_)))) (fun w h => ?_); exact ⟨rfl, h.sub⟩))
  · obtain ⟨d0, d1, d2, d3⟩ : n0 = m0 ∧ n1 = m1 ∧ n2 = m2 - 1 ∧ n3 = m3 + 1 := by simpa using hN
    rw [d0, d1, d2, d3]
    refine Ct.go (args := [.pointer (some ⟨sb, 0, none⟩), .pointer (some ⟨rowB (.slice (some ⟨q.cb, 0, none⟩) n n), rowO (.slice (some ⟨q.cb, 0, none⟩) n n) + i * 6, none⟩), .int .i64 ((2 + 1 : Nat) : Int)]) Tryz.func86 rfl rfl rfl hw ?_
    repeat' (first | (first | (rw [hph]) | (apply GL.isCall; refine GL.call1 (vs := [.int .i64 ((2 : Nat) : Int), .int .i64 ((2 + 1 : Nat) : Int)]) rfl rfl (fun w h => hS w _ h) ?_) | (refine G.isRegion 4 ?_; refine G.drawTail 13 (by kernel_rfl) (by simp only [List.take_succ_cons, List.take_zero]; rfl) (by simp only [List.drop_succ_cons, List.drop_zero]; rfl) (by kernel_rfl) ?_) | (refine G.isRegion 5 ?_; refine G.drawTail 10 (by kernel_rfl) (by simp only [List.take_succ_cons, List.take_zero]; rfl) (by simp only [List.drop_succ_cons, List.drop_zero]; rfl) (by kernel_rfl) ?_) | (refine G.isRegion 6 ?_; refine G.imp (F' := blk sb (.cells #[.pointer (some ⟨q.tb, 0, none⟩), .pointer (some ⟨q.fb, 0, none⟩), .slice (some ⟨q.cb, 0, none⟩) n n, .int .i64 (sz : Nat), .int .i64 (m0), .int .i64 (m1), .int .i64 (m2 - 1), .int .i64 (m3 + 1), .pointer (some ⟨q.kb, 0, none⟩)] 123 (0, 0)) :: owns 148 encCell 6 (.slice (some ⟨q.cb, 0, none⟩) n n) vs :: bookP (.pointer (some ⟨q.kb, 0, none⟩)) 4 ev :: F) ?_ (fun w h => h); apply G.region) | (apply GL.isStore; refine GL.storeElem (f := 3) ({ vs[i] with ph := (((2 + 1) % 4 : Nat) : Int) }) rfl rfl hi rfl rfl rfl rfl ?_) | (apply GL.isCall; refine GL.call1 (vs := [.pointer (some ⟨q.kb, 0, none⟩), .int .i64 ((2 : Nat) : Int), .int .i64 1]) rfl rfl (fun w h => hA w (blk sb (.cells #[.pointer (some ⟨q.tb, 0, none⟩), .pointer (some ⟨q.fb, 0, none⟩), .slice (some ⟨q.cb, 0, none⟩) n n, .int .i64 (sz : Nat), .int .i64 (m0), .int .i64 (m1), .int .i64 (m2 - 1), .int .i64 (m3 + 1), .pointer (some ⟨q.kb, 0, none⟩)] 123 (0, 0)) :: owns 148 encCell 6 (.slice (some ⟨q.cb, 0, none⟩) n n) (vs.set i { vs[i] with ph := (((2 + 1) % 4 : Nat) : Int) }) :: F) h.sub) ?_)) | first | refine stp ?_ | (refine stpB ?_; intro _) | (refine spl ?_ ?_ <;> intro hc <;> ((try simp only [decide_eq_true_eq, decide_eq_false_iff_not, Bool.not_true, Bool.not_false, ne_eq, Classical.not_not, Int.not_lt, Int.not_le] at hc); (try (exfalso; first | omega | exact hc trivial | exact hc rfl)))))
    all_goals (first | (exfalso; simp at hc; done) | (refine GE.resOne rfl (by (repeat (first | apply Res.nil | (apply Res.tmp; rfl) | (refine Res.cellA rfl rfl rfl ?_) | (refine Res.cell1 rfl rfl ?_)))) (fun w h => ?_); exact ⟨rfl, h.sub⟩))
  · obtain ⟨d0, d1, d2, d3⟩ : n0 = m0 + 1 ∧ n1 = m1 ∧ n2 = m2 ∧ n3 = m3 - 1 := by simpa using hN
    rw [d0, d1, d2, d3]
    refine Ct.go (args := [.pointer (some ⟨sb, 0, none⟩), .pointer (some ⟨rowB (.slice (some ⟨q.cb, 0, none⟩) n n), rowO (.slice (some ⟨q.cb, 0, none⟩) n n) + i * 6, none⟩), .int .i64 ((3 + 1 : Nat) : Int)]) Tryz.func86 rfl rfl rfl hw ?_
    repeat' (first | (first | (rw [hph]) | (apply GL.isCall; refine GL.call1 (vs := [.int .i64 ((3 : Nat) : Int), .int .i64 ((3 + 1 : Nat) : Int)]) rfl rfl (fun w h => hS w _ h) ?_) | (refine G.isRegion 4 ?_; refine G.drawTail 13 (by kernel_rfl) (by simp only [List.take_succ_cons, List.take_zero]; rfl) (by simp only [List.drop_succ_cons, List.drop_zero]; rfl) (by kernel_rfl) ?_) | (refine G.isRegion 5 ?_; refine G.drawTail 10 (by kernel_rfl) (by simp only [List.take_succ_cons, List.take_zero]; rfl) (by simp only [List.drop_succ_cons, List.drop_zero]; rfl) (by kernel_rfl) ?_) | (refine G.isRegion 6 ?_; refine G.imp (F' := blk sb (.cells #[.pointer (some ⟨q.tb, 0, none⟩), .pointer (some ⟨q.fb, 0, none⟩), .slice (some ⟨q.cb, 0, none⟩) n n, .int .i64 (sz : Nat), .int .i64 (m0 + 1), .int .i64 (m1), .int .i64 (m2), .int .i64 (m3 - 1), .pointer (some ⟨q.kb, 0, none⟩)] 123 (0, 0)) :: owns 148 encCell 6 (.slice (some ⟨q.cb, 0, none⟩) n n) vs :: bookP (.pointer (some ⟨q.kb, 0, none⟩)) 4 ev :: F) ?_ (fun w h => h); apply G.region) | (apply GL.isStore; refine GL.storeElem (f := 3) ({ vs[i] with ph := (((3 + 1) % 4 : Nat) : Int) }) rfl rfl hi rfl rfl rfl rfl ?_) | (apply GL.isCall; refine GL.call1 (vs := [.pointer (some ⟨q.kb, 0, none⟩), .int .i64 ((3 : Nat) : Int), .int .i64 1]) rfl rfl (fun w h => hA w (blk sb (.cells #[.pointer (some ⟨q.tb, 0, none⟩), .pointer (some ⟨q.fb, 0, none⟩), .slice (some ⟨q.cb, 0, none⟩) n n, .int .i64 (sz : Nat), .int .i64 (m0 + 1), .int .i64 (m1), .int .i64 (m2), .int .i64 (m3 - 1), .pointer (some ⟨q.kb, 0, none⟩)] 123 (0, 0)) :: owns 148 encCell 6 (.slice (some ⟨q.cb, 0, none⟩) n n) (vs.set i { vs[i] with ph := (((3 + 1) % 4 : Nat) : Int) }) :: F) h.sub) ?_)) | first | refine stp ?_ | (refine stpB ?_; intro _) | (refine spl ?_ ?_ <;> intro hc <;> ((try simp only [decide_eq_true_eq, decide_eq_false_iff_not, Bool.not_true, Bool.not_false, ne_eq, Classical.not_not, Int.not_lt, Int.not_le] at hc); (try (exfalso; first | omega | exact hc trivial | exact hc rfl)))))
    all_goals (first | (exfalso; simp at hc; done) | (refine GE.resOne rfl (by (repeat (first | apply Res.nil | (apply Res.tmp; rfl) | (refine Res.cellA rfl rfl rfl ?_) | (refine Res.cell1 rfl rfl ?_)))) (fun w h => ?_); exact ⟨rfl, h.sub⟩))
end
end Go.Proofs.YtipkgamiejenaaaGreat
