/- Contracts of package tags. -/
import Derived.Test.YtfkpcmlajdmnfaaInts
import Derived.WalkSpells
namespace Go.Proofs.Ytfkpcmlajdmnfaa
open Go Go.RowKit Go.MapKept
set_option maxRecDepth 100000
set_option linter.unusedVariables false

def tagCells (t : Int × Int) : List Value := [.int .i64 t.1, .int .i64 t.2]
def tagArr (l : List (Int × Int)) : Array Value := (l.flatMap tagCells).toArray
theorem tagArr_at : ∀ (l : List (Int × Int)) (i : Nat) (hi : i < l.length), (tagArr l)[i * 2]? = some (.int .i64 l[i].1) ∧ (tagArr l)[i * 2 + 1]? = some (.int .i64 l[i].2)
  | t :: l, 0, _ => by simp [tagArr, tagCells]
  | t :: l, i + 1, hi => by
    have ih := tagArr_at l i (by simpa using hi)
    have e : ∀ j, (tagArr (t :: l))[(i + 1) * 2 + j]? = (tagArr l)[i * 2 + j]? := fun j => by
      simp only [tagArr, List.flatMap_cons, List.getElem?_toArray]
      rw [List.getElem?_append_right (by simp [tagCells]; omega)]
      congr 1
      simp [tagCells]; omega
    have e0 := e 0
    simp only [Nat.add_zero] at e0
    simp only [List.getElem_cons_succ, e0, e 1]
    exact ih
  | [], i, hi => by simp at hi
theorem tagArr_set1 : ∀ (l : List (Int × Int)) (i : Nat) (hi : i < l.length) (x : Int), (tagArr l).setIfInBounds (i * 2) (.int .i64 x) = tagArr (l.set i (x, l[i].2))
  | t :: l, 0, _, x => by simp [tagArr, tagCells]
  | t :: l, i + 1, hi, x => by
    have ih := tagArr_set1 l i (by simpa using hi) x
    have h1 := congrArg Array.toList ih
    apply Array.ext'
    simp only [tagArr, Array.toList_setIfInBounds, List.flatMap_cons, List.set_cons_succ, List.getElem_cons_succ] at h1 ⊢
    rw [List.set_append_right _ _ (by simp [tagCells]; omega), ← h1]
    congr 2
    simp [tagCells]; omega
  | [], i, hi, x => by simp at hi
theorem tagArr_set2 : ∀ (l : List (Int × Int)) (i : Nat) (hi : i < l.length) (x : Int), (tagArr l).setIfInBounds (i * 2 + 1) (.int .i64 x) = tagArr (l.set i (l[i].1, x))
  | t :: l, 0, _, x => by simp [tagArr, tagCells]
  | t :: l, i + 1, hi, x => by
    have ih := tagArr_set2 l i (by simpa using hi) x
    have h1 := congrArg Array.toList ih
    apply Array.ext'
    simp only [tagArr, Array.toList_setIfInBounds, List.flatMap_cons, List.set_cons_succ, List.getElem_cons_succ] at h1 ⊢
    rw [List.set_append_right _ _ (by simp [tagCells]; omega), ← h1]
    congr 2
    simp [tagCells]; omega
  | [], i, hi, x => by simp at hi
theorem tagArr_size (l : List (Int × Int)) : (tagArr l).size = l.length * 2 := by
  induction l with
  | nil => rfl
  | cons t l ih => simp only [tagArr, List.size_toArray, List.flatMap_cons, List.length_append, List.length_cons] at ih ⊢; rw [ih]; simp [tagCells]; omega

/-- How many chunks an owner has. -/
def cnt (l : List (Int × Int)) (o : Int) : Nat := if 0 < o then (l.filter fun t => t.1 == o).length else 0
theorem cnt_le (l : List (Int × Int)) (o : Int) : cnt l o ≤ l.length := by
  unfold cnt; split
  · exact List.length_filter_le _ _
  · omega
theorem filter_set (p : Int × Int → Bool) : ∀ (l : List (Int × Int)) (i : Nat) (hi : i < l.length) (t : Int × Int), ((l.set i t).filter p).length + (if p l[i] then 1 else 0) = (l.filter p).length + (if p t then 1 else 0)
  | [], i, hi, t => by simp at hi
  | u :: l, 0, _, t => by simp only [List.set_cons_zero, List.filter_cons, List.getElem_cons_zero]; split <;> split <;> simp <;> omega
  | u :: l, i + 1, hi, t => by
    have ih := filter_set p l i (by simpa using hi) t
    simp only [List.set_cons_succ, List.filter_cons, List.getElem_cons_succ]
    split
    · simp only [List.length_cons]; omega
    · exact ih
theorem cnt_set (l : List (Int × Int)) (i : Nat) (hi : i < l.length) (t : Int × Int) (o : Int) (ho : 0 < o) : cnt (l.set i t) o + (if l[i].1 = o then 1 else 0) = cnt l o + (if t.1 = o then 1 else 0) := by
  have := filter_set (fun t => t.1 == o) l i hi t
  simp only [cnt, ho, if_true]
  simpa using this

/-- The map tells how many each owner has. -/
structure ManyOk (l : List (Int × Int)) (m : List (Int × Int)) : Prop where
  get : ∀ o, alGet m o = if cnt l o = 0 then none else some ((cnt l o : Nat) : Int)
  nodup : (alKeys m).Nodup
  own : ∀ t ∈ l, 0 ≤ t.1
theorem set_own {l : List (Int × Int)} (h : ∀ t ∈ l, 0 ≤ t.1) (k : Nat) (t : Int × Int) (ht : 0 ≤ t.1) : ∀ u ∈ l.set k t, 0 ≤ u.1 := fun u hu => by
  rcases List.mem_or_eq_of_mem_set hu with h1 | h1
  · exact h u h1
  · rw [h1]; exact ht
theorem ManyOk.take {l m : List (Int × Int)} (h : ManyOk l m) (k : Nat) (hk : k < l.length) (h0 : l[k].1 = 0) (o : Int) (ho : 0 < o) : ManyOk (l.set k (o, l[k].2)) (alSet m o ((cnt l o : Nat) + 1)) := by
  refine ⟨fun x => ?_, alKeys_set_nodup _ _ _ h.nodup, set_own h.own _ _ (by simp; omega)⟩
  rw [alGet_set, h.get]
  by_cases hx : 0 < x
  · have hc := cnt_set l k hk (o, l[k].2) x hx
    rw [if_neg (show ¬ l[k].1 = x by omega)] at hc
    by_cases e : x = o
    · subst e
      simp only [if_true] at hc
      rw [if_pos rfl, if_neg (by omega)]
      congr 1; omega
    · rw [if_neg (fun h => e h.symm)] at hc
      simp only [Nat.add_zero] at hc
      rw [if_neg e, hc]
  · have e1 : ∀ l : List (Int × Int), cnt l x = 0 := fun l => by simp [cnt, hx]
    rw [e1, e1, if_neg (show ¬ x = o by omega)]
theorem ManyOk.leave {l m : List (Int × Int)} (h : ManyOk l m) (k : Nat) (hk : k < l.length) (h0 : 0 < l[k].1) : 0 < cnt l l[k].1 ∧
    ((cnt l l[k].1 = 1 → ManyOk (l.set k (0, l[k].2)) (alDel (alSet m l[k].1 ((cnt l l[k].1 : Nat) - 1)) l[k].1)) ∧
     (cnt l l[k].1 ≠ 1 → ManyOk (l.set k (0, l[k].2)) (alSet m l[k].1 ((cnt l l[k].1 : Nat) - 1)))) := by
  have hpos : 0 < cnt l l[k].1 := by
    have := cnt_set l k hk (0, l[k].2) l[k].1 h0
    simp only [if_true] at this
    rw [if_neg (show ¬ (0 : Int) = l[k].1 by omega)] at this
    omega
  have key : ∀ x, cnt (l.set k (0, l[k].2)) x = if x = l[k].1 then cnt l x - 1 else cnt l x := fun x => by
    by_cases hx : 0 < x
    · have hc := cnt_set l k hk (0, l[k].2) x hx
      rw [if_neg (show ¬ (0 : Int) = x by omega)] at hc
      by_cases e : x = l[k].1
      · rw [if_pos e.symm] at hc; rw [if_pos e]; omega
      · rw [if_neg (fun h => e h.symm)] at hc; rw [if_neg e]; omega
    · have e1 : ∀ l : List (Int × Int), cnt l x = 0 := fun l => by simp [cnt, hx]
      rw [e1, e1, if_neg (show ¬ x = l[k].1 by omega)]
  refine ⟨hpos, fun h1 => ⟨fun x => ?_, alKeys_del_nodup _ _ (alKeys_set_nodup _ _ _ h.nodup), set_own h.own _ _ (Int.le_refl _)⟩, fun h1 => ⟨fun x => ?_, alKeys_set_nodup _ _ _ h.nodup, set_own h.own _ _ (Int.le_refl _)⟩⟩
  · rw [alGet_del _ _ _ (alKeys_set_nodup _ _ _ h.nodup), alGet_set, h.get, key]
    by_cases e : x = l[k].1
    · rw [if_pos e, if_pos e, if_pos (by rw [e]; omega)]
    · rw [if_neg e, if_neg e, if_neg e]
  · rw [alGet_set, h.get, key]
    by_cases e : x = l[k].1
    · rw [if_pos e, if_pos e, e, if_neg (by omega)]
      congr 1; omega
    · rw [if_neg e, if_neg e]
theorem ManyOk.raise {l m : List (Int × Int)} (h : ManyOk l m) (k : Nat) (hk : k < l.length) (g : Int) : ManyOk (l.set k (l[k].1, g)) m := by
  refine ⟨fun x => ?_, h.nodup, set_own h.own _ _ (h.own l[k] (List.getElem_mem hk))⟩
  rw [h.get]
  by_cases hx : 0 < x
  · have hc := cnt_set l k hk (l[k].1, g) x hx
    have : cnt (l.set k (l[k].1, g)) x = cnt l x := Nat.add_right_cancel hc
    rw [this]
  · have e1 : ∀ l : List (Int × Int), cnt l x = 0 := fun l => by simp [cnt, hx]
    rw [e1, e1]
theorem ManyOk.getD {l m : List (Int × Int)} (h : ManyOk l m) (o : Int) : (alGet m o).getD 0 = ((cnt l o : Nat) : Int) := by
  rw [h.get]; by_cases hz : cnt l o = 0 <;> simp [hz]

def tagsAt (v : Value) (l : List (Int × Int)) : HProp := fun f => ∃ b g bm m, (v = .pointer (some ⟨b, 0, none⟩) ∧ ManyOk l m) ∧
  sep [blk b (.cells #[.slice (some ⟨g, 0, none⟩) l.length l.length, .map (some bm)] 71 (0, 0)), blk g (.cells (tagArr l) 128 (0, 0)), imap (.int .i64) bm m] f

theorem open_tags {w : World} {F : List HProp} {v : Value} {l : List (Int × Int)} (h : holds w (tagsAt v l :: F)) : ∃ b g bm m, v = .pointer (some ⟨b, 0, none⟩) ∧ ManyOk l m ∧
    holds w (blk b (.cells #[.slice (some ⟨g, 0, none⟩) l.length l.length, .map (some bm)] 71 (0, 0)) :: blk g (.cells (tagArr l) 128 (0, 0)) :: imap (.int .i64) bm m :: F) := by
  obtain ⟨b, h⟩ := h.open_ex
  obtain ⟨g, h⟩ := h.open_ex
  obtain ⟨bm, h⟩ := h.open_ex
  obtain ⟨m, h⟩ := h.open_ex
  obtain ⟨⟨h1, h2⟩, h⟩ := h.open_pure
  exact ⟨b, g, bm, m, h1, h2, holds_sep.1 h⟩
theorem shut_tags {w : World} {F : List HProp} {b g bm : Nat} {m l : List (Int × Int)} (hm : ManyOk l m)
    (h : holds w (blk b (.cells #[.slice (some ⟨g, 0, none⟩) l.length l.length, .map (some bm)] 71 (0, 0)) :: blk g (.cells (tagArr l) 128 (0, 0)) :: imap (.int .i64) bm m :: F)) :
    holds w (tagsAt (.pointer (some ⟨b, 0, none⟩)) l :: F) :=
  (holds_sep (l := [_, _, _]).2 h).mono fun _ hf => ⟨b, g, bm, m, ⟨rfl, hm⟩, hf⟩

theorem tags_set {w : World} {b g j : Nat} {C : Obj} {T : TypeId} {A A' : Array Value} {M : HProp} {F : List HProp} {val : Value} (h : holds w (blk b C :: blk g (.cells A T (0, 0)) :: M :: F)) (e : A.setIfInBounds j val = A') :
    holds (w.setCell ⟨g, j, none⟩ val) (blk b C :: blk g (.cells A' T (0, 0)) :: M :: F) := by
  have h2 := ((h.pick 1).setCell j val).order [1, 0, 2]
  rw [e] at h2
  exact h2

/-! ### What only reads -/
theorem tags_Owner (w : World) (v : Value) (l : List (Int × Int)) (i : Int) (F : List HProp) (hl : l.length ≤ 1048576) (hw : holds w (tagsAt v l :: F)) :
    Calls Try.prog 43 #[v, .int .i64 i] w fun e w' => e = .returned (.int .i64 (if 0 ≤ i ∧ i < l.length then (l.getD i.toNat (0, 0)).1 else 0)) ∧ holds w' (tagsAt v l :: F) := by
  obtain ⟨b, g, bm, m, rfl, hm, h⟩ := open_tags hw
  have c0 := cellAt h.get_blk 0
  simp at c0
  by_cases h0 : 0 ≤ i
  · by_cases h1 : i < l.length
    · rw [if_pos ⟨h0, h1⟩]
      obtain ⟨k, rfl⟩ := Int.eq_ofNat_of_zero_le h0
      have hk : k < l.length := by omega
      obtain ⟨c1, c2⟩ := tagArr_at l k hk
      rw [← cellAt (h.pick 1).get_blk] at c1 c2
      have e : (l.getD (k : Int).toNat (0, 0)).1 = l[k].1 := by simp [hk]
      rw [e]
      generalize l[k].1 = x at c1
      clear e c2
      go_enter Try.func43, Try.ntmps43
      go_wp2
      go_ret
      exact ⟨rfl, hw⟩
    · rw [if_neg (fun h => h1 h.2)]
      go_enter Try.func43, Try.ntmps43
      go_wp2
      go_ret
      exact ⟨rfl, hw⟩
  · rw [if_neg (fun h => h0 h.1)]
    go_enter Try.func43, Try.ntmps43
    go_wp2
    go_ret
    exact ⟨rfl, hw⟩

theorem tags_Gen (w : World) (v : Value) (l : List (Int × Int)) (i : Int) (F : List HProp) (hl : l.length ≤ 1048576) (hw : holds w (tagsAt v l :: F)) :
    Calls Try.prog 44 #[v, .int .i64 i] w fun e w' => e = .returned (.int .i64 (if 0 ≤ i ∧ i < l.length then (l.getD i.toNat (0, 0)).2 else -1)) ∧ holds w' (tagsAt v l :: F) := by
  obtain ⟨b, g, bm, m, rfl, hm, h⟩ := open_tags hw
  have c0 := cellAt h.get_blk 0
  simp at c0
  by_cases h0 : 0 ≤ i
  · by_cases h1 : i < l.length
    · rw [if_pos ⟨h0, h1⟩]
      obtain ⟨k, rfl⟩ := Int.eq_ofNat_of_zero_le h0
      have hk : k < l.length := by omega
      obtain ⟨c1, c2⟩ := tagArr_at l k hk
      rw [← cellAt (h.pick 1).get_blk] at c1 c2
      have e : (l.getD (k : Int).toNat (0, 0)).2 = l[k].2 := by simp [hk]
      rw [e]
      generalize l[k].2 = x at c2
      clear e c1
      go_enter Try.func44, Try.ntmps44
      go_wp2
      go_ret
      exact ⟨rfl, hw⟩
    · rw [if_neg (fun h => h1 h.2)]
      go_enter Try.func44, Try.ntmps44
      go_wp2
      go_ret
      exact ⟨rfl, hw⟩
  · rw [if_neg (fun h => h0 h.1)]
    go_enter Try.func44, Try.ntmps44
    go_wp2
    go_ret
    exact ⟨rfl, hw⟩

theorem tags_Count (w : World) (v : Value) (l : List (Int × Int)) (o : Int) (F : List HProp) (hw : holds w (tagsAt v l :: F)) :
    Calls Try.prog 45 #[v, .int .i64 o] w fun e w' => e = .returned (.int .i64 (cnt l o : Nat)) ∧ holds w' (tagsAt v l :: F) := by
  obtain ⟨b, g, bm, m, rfl, hm, h⟩ := open_tags hw
  have c1 := cellAt h.get_blk 1
  simp at c1
  have hlk := run_lookup_sl (P := Try.prog) (t := 69) (z := (0 : Int)) Try.underlying69 Try.underlying3 (by kernel_rfl) (h.pick 2) o false
  rw [hm.getD] at hlk
  simp only [Bool.false_eq_true, if_false] at hlk
  go_enter Try.func45, Try.ntmps45
  go_wp2
  go_ret
  exact ⟨rfl, hw⟩

/-! ### What writes -/
def Tags.own (l : List (Int × Int)) (i o : Int) : Int × List (Int × Int) :=
  if i < 0 ∨ l.length ≤ i ∨ o < 1 then (2, l) else if (l.getD i.toNat (0, 0)).1 ≠ 0 then (19, l) else (0, l.set i.toNat (o, (l.getD i.toNat (0, 0)).2))
def Tags.leave (l : List (Int × Int)) (i : Int) : Int × List (Int × Int) :=
  if i < 0 ∨ l.length ≤ i then (2, l) else if (l.getD i.toNat (0, 0)).1 = 0 then (20, l) else (0, l.set i.toNat (0, (l.getD i.toNat (0, 0)).2))
def Tags.raise (l : List (Int × Int)) (i : Int) : Int × List (Int × Int) :=
  if i < 0 ∨ l.length ≤ i then (2, l) else if (l.getD i.toNat (0, 0)).1 ≠ 0 then (19, l) else if 1048575 ≤ (l.getD i.toNat (0, 0)).2 then (6, l) else (0, l.set i.toNat ((l.getD i.toNat (0, 0)).1, (l.getD i.toNat (0, 0)).2 + 1))

theorem tags_Own (w : World) (v : Value) (l : List (Int × Int)) (i o : Int) (F : List HProp) (hl : l.length ≤ 1048576) (hw : holds w (tagsAt v l :: F)) :
    Calls Try.prog 38 #[v, .int .i64 i, .int .i64 o] w fun e w' => e = .returned (.int .i64 (Tags.own l i o).1) ∧ holds w' (tagsAt v (Tags.own l i o).2 :: F) := by
  obtain ⟨b, g, bm, m, rfl, hm, h⟩ := open_tags hw
  have c0 := cellAt h.get_blk 0
  have c1 := cellAt h.get_blk 1
  simp at c0 c1
  have qT : ∀ (w : World) (r : Option Nat), (binOp .eql 69 (.map r) (.map none)).run Try.prog w = .ok (.bool r.isNone) w := fun w r => run_eql_map_nil w _ _ _ r Try.underlying69
  have HM := Lib.hid hm
  clear hm
  by_cases h0 : 0 ≤ i
  · by_cases h1 : i < l.length
    · obtain ⟨k, rfl⟩ := Int.eq_ofNat_of_zero_le h0
      have hk : k < l.length := by omega
      by_cases ho : o < 1
      · have e : Tags.own l k o = (2, l) := by simp [Tags.own, ho]
        rw [e]
        go_enter Try.func38, Try.ntmps38
        go_wp2
        go_ret
        exact ⟨rfl, hw⟩
      · obtain ⟨k1, k2⟩ := tagArr_at l k hk
        rw [← cellAt (h.pick 1).get_blk] at k1 k2
        have hf := frozen_of_row w g (k * 2) _ _ (h.pick 1).get_blk
        have hset := tagArr_set1 l k hk o
        have e : Tags.own l k o = if l[k].1 ≠ 0 then (19, l) else (0, l.set k (o, l[k].2)) := by
          unfold Tags.own; rw [if_neg (by omega)]; simp [hk]
        have hown : l[k].1 = 0 → ManyOk (l.set k (o, l[k].2)) (alSet m o ((cnt l o : Nat) + 1)) := fun h0 => HM.out.take k hk h0 o (by omega)
        rw [e]
        have HS := Lib.hid hset
        have HO := Lib.hid hown
        clear e hset hown k2
        by_cases hz : l[k].1 = 0
        · rw [hz] at k1
          have HO2 := Lib.hid (HO.out hz)
          rw [if_neg (by simpa using hz)]
          have hg := HM.out.getD o
          have hcl := cnt_le l o
          clear hz HO
          have h2 := tags_set h HS.out
          have d1 := cellAt h2.get_blk 1
          have hm2 := h2.pick 2
          simp at d1
          have hlk := run_lookup_sl (P := Try.prog) (t := 69) (z := (0 : Int)) Try.underlying69 Try.underlying3 (by kernel_rfl) (h2.pick 2) o false
          simp only [Bool.false_eq_true, if_false] at hlk
          rw [hg] at hlk
          clear hg
          go_enter Try.func38, Try.ntmps38
          go_wp2_with (first
            | (at_mapUpdate; refine wpList_mapUpdate_sl rfl rfl _ _ _ _ rfl Try.underlying69 Try.underlying3 rfl _ (((cnt l o : Nat) : Int) + 1) rfl rfl hm2 ?_; clear hlk d1; intro w3 h3)
            | go_in)
          go_ret
          refine ⟨rfl, ?_⟩
          have h4 := h3.order [1, 2, 0]
          refine shut_tags (g := g) (bm := bm) HO2.out ?_
          rw [List.length_set]
          exact h4
        · rw [if_pos hz]
          have hb : (l[k].1 != 0) = true := by simpa using hz
          generalize l[k].1 = x at k1 hb
          go_enter Try.func38, Try.ntmps38
          go_wp2
          go_ret
          exact ⟨rfl, hw⟩
    · have e : Tags.own l i o = (2, l) := by unfold Tags.own; rw [if_pos (by omega)]
      rw [e]
      go_enter Try.func38, Try.ntmps38
      go_wp2
      go_ret
      exact ⟨rfl, hw⟩
  · have e : Tags.own l i o = (2, l) := by unfold Tags.own; rw [if_pos (by omega)]
    rw [e]
    go_enter Try.func38, Try.ntmps38
    go_wp2
    go_ret
    exact ⟨rfl, hw⟩

end Go.Proofs.Ytfkpcmlajdmnfaa
