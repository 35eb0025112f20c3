/- Contracts of package tags: New, Of. -/
import Derived.Test.YtfkpcmlajdmnfaaTagsB
namespace Go.Proofs.Ytfkpcmlajdmnfaa
open Go Go.RowKit Go.MapKept
set_option maxRecDepth 100000
set_option linter.unusedVariables false

/-- The places at which a number stands. -/
def ofTo (L : List Int) (o : Int) (k : Nat) : List Int := ((List.range k).filter fun i => L.getD i 0 == o).map Int.ofNat
def ofs (L : List Int) (o : Int) : List Int := if 0 < o then ofTo L o L.length else []
theorem ofTo_succ (L : List Int) (o : Int) (k : Nat) (hk : k < L.length) : ofTo L o (k + 1) = ofTo L o k ++ (if L[k] = o then [(k : Int)] else []) := by
  unfold ofTo
  rw [List.range_succ, List.filter_append, List.map_append]
  congr 1
  by_cases h : L[k] = o
  · simp [hk, h]
  · simp [hk, h]
theorem ofTo_length_le (L : List Int) (o : Int) (k : Nat) : (ofTo L o k).length ≤ k := by
  unfold ofTo
  rw [List.length_map]
  have := List.length_filter_le (fun i => L.getD i 0 == o) (List.range k)
  simpa using this
theorem ofs_length_le (L : List Int) (o : Int) : (ofs L o).length ≤ L.length := by
  unfold ofs; split
  · exact ofTo_length_le _ _ _
  · simp
theorem ofTo_cnt (l : List (Int × Int)) (o : Int) : ∀ k, k ≤ l.length → (ofTo (l.map (·.1)) o k).length = ((l.take k).filter fun t => t.1 == o).length
  | 0, _ => by simp [ofTo]
  | k + 1, hk => by
    have ih := ofTo_cnt l o k (by omega)
    rw [ofTo_succ _ _ _ (by rw [List.length_map]; omega), List.length_append, ih, List.take_succ_eq_append_getElem (by omega), List.filter_append, List.length_append]
    congr 1
    by_cases h : (l[k]'(by omega)).1 = o <;> simp [h]
theorem ofs_cnt (l : List (Int × Int)) (o : Int) : (ofs (l.map (·.1)) o).length = cnt l o := by
  unfold ofs cnt
  split
  · rw [ofTo_cnt _ _ _ (by simp), List.length_map, List.take_length]
  · rfl

theorem madeCells_two (z : Value) (m : Nat) : madeCells #[z, z] m = Array.replicate m z := by
  apply Array.ext
  · simp [size_madeCells]
  · intro i h1 h2
    rcases Nat.mod_two_eq_zero_or_one i with h | h <;> simp [madeCells, h]
theorem tagArr_replicate (n : Nat) : tagArr (List.replicate n (0, 0)) = Array.replicate (n * 2) (.int .i64 0) := by
  induction n with
  | zero => rfl
  | succ n ih =>
    have h := congrArg Array.toList ih
    apply Array.ext'
    simp only [tagArr, Array.toList_replicate] at h ⊢
    rw [List.replicate_succ, List.flatMap_cons, h, show (n + 1) * 2 = n * 2 + 1 + 1 by omega, List.replicate_succ, List.replicate_succ]
    rfl
theorem ManyOk.new (n : Nat) : ManyOk (List.replicate n (0, 0)) [] := by
  refine ⟨fun o => ?_, by simp [alKeys], fun t ht => by rw [List.eq_of_mem_replicate ht]; exact Int.le_refl _⟩
  have : cnt (List.replicate n (0, 0)) o = 0 := by
    unfold cnt
    split
    · rename_i ho
      rw [List.filter_replicate, if_neg (by simp; omega)]
      rfl
    · rfl
  rw [this, if_pos rfl]
  rfl

theorem Try.infoTag : (Try.prog.info? 128).map (fun i => (i.zero, i.size, i.bytes)) = some (some (.agg #[.int .i64 0, .int .i64 0]), 2, 16) := by kernel_rfl

theorem tags_New_no (w : World) (n : Int) (F : List HProp) (hn : n < 0 ∨ 1048576 < n) (hw : holds w F) :
    Calls Try.prog 35 #[.int .i64 n] w fun e w' => e = .returned (.pointer none) ∧ holds w' F := by
  rcases hn with hn | hn
  · go_enter Try.func35, Try.ntmps35
    go_wp2
    go_ret
    exact ⟨rfl, hw⟩
  · have h0 : ¬ n < 0 := by omega
    go_enter Try.func35, Try.ntmps35
    go_wp2
    go_ret
    exact ⟨rfl, hw⟩

theorem tags_New (w : World) (n : Int) (F : List HProp) (hn0 : 0 ≤ n) (hn : n ≤ 1048576) (hw : holds w F) :
    Calls Try.prog 35 #[.int .i64 n] w fun e w' => ∃ v, e = .returned v ∧ holds w' (tagsAt v (List.replicate n.toNat (0, 0)) :: F) := by
  obtain ⟨n, rfl⟩ := Int.eq_ofNat_of_zero_le hn0
  rw [Int.toNat_natCast]
  obtain ⟨i0, hi, hz0, hz1, hz2⟩ := info_parts Try.infoTag
  have hm := fun w (hw : holds w F) => run_make_sl (P := Try.prog) (t := 68) Try.underlying68 hi hz0 hz1 hw .i64 .i64 (x := n) (c := n) (by omega) (by omega) (by rw [hz2]; omega) (by omega)
  have hm1 := (hm w hw).1
  have hmm := @run_makeMap Try.prog
  have hc : madeCells (Value.agg #[.int .i64 0, .int .i64 0]).cells (n * 2) = tagArr (List.replicate n (0, 0)) := by
    rw [tagArr_replicate, ← madeCells_two]
    congr 1
  simp only [Int.toNat_natCast, hc] at hm1
  clear hm hi hz0 hz1 hz2 hc
  go_enter Try.func35, Try.ntmps35
  go_wp2
  go_ret
  have h1 := ((hw.alloc (.cells (tagArr (List.replicate n (0, 0))) 128 (0, 0))).alloc (.map #[] 0)).mkMap (enc := (.int .i64 : Int → Value)) (m := []) rfl (stamped_empty 0)
  have h2 := (h1.alloc (.cells #[.slice (some ⟨w.heap.size, 0, none⟩) n n, .map (some (w.heap.size + 1))] 71 (0, 0))).order [0, 2, 1]
  simp only [World.size_alloc] at h2
  refine ⟨_, rfl, shut_tags (g := w.heap.size) (bm := w.heap.size + 1) (ManyOk.new n) ?_⟩
  rw [List.length_replicate]
  exact h2

theorem tags_Of (w : World) (v : Value) (l : List (Int × Int)) (o : Int) (F : List HProp) (hl : l.length ≤ 1048576) (hw : holds w (tagsAt v l :: F)) :
    Calls Try.prog 47 #[v, .int .i64 o] w fun e w' => ∃ v', e = .returned v' ∧ holds w' (ownInts v' (ofs (l.map (·.1)) o) :: tagsAt v l :: F) := by
  obtain ⟨b, g, bm, m, rfl, hm, h⟩ := open_tags hw
  have hc := tags_Count w _ l o F hw
  have hcl := cnt_le l o
  by_cases h0 : cnt l o = 0
  · have he : ofs (l.map (·.1)) o = [] := List.eq_nil_of_length_eq_zero (by rw [ofs_cnt, h0])
    rw [he]
    rw [h0] at hc
    clear h hm he h0 hcl
    go_enter Try.func47, Try.ntmps47
    go_wp2_with fail
    refine hc.mono ?_
    rintro e w1 ⟨rfl, h1⟩
    go_wp2_with fail
    go_ret
    exact ⟨_, rfl, holds_ownRow_nil h1 _ _⟩
  · have ho : 0 < o := by
      by_cases ho : 0 < o
      · exact ho
      · exact absurd (by simp [cnt, ho]) h0
    have he : ofs (l.map (·.1)) o = ofTo (l.map (·.1)) o l.length := by unfold ofs; rw [if_pos ho, List.length_map]
    rw [he]
    have hpos : 0 < cnt l o := by omega
    generalize cnt l o = c at hc hcl hpos
    have hb : ((c : Int) == 0) = false := by simp; omega
    clear h he h0
    go_enter Try.func47, Try.ntmps47
    go_wp2_with fail
    refine hc.mono ?_
    rintro e w1 ⟨rfl, hw1⟩
    obtain ⟨b1, g1, bm1, m1, hv, hm1, h1⟩ := open_tags hw1
    cases hv
    have c0 := cellAt h1.get_blk 0
    simp at c0
    have HM := Lib.hid hm1
    clear hm1 hc hw hm
    go_wp2_with fail
    go_loopw [5, 17] (fun out i wr => ∃ k : Nat, k ≤ l.length ∧ i = .int .i64 k ∧ holds wr (ownInts out (ofTo (l.map (·.1)) o k) :: blk b (.cells #[.slice (some ⟨g1, 0, none⟩) l.length l.length, .map (some bm1)] 71 (0, 0)) :: blk g1 (.cells (tagArr l) 128 (0, 0)) :: imap (.int .i64) bm1 m1 :: F)) (fun _ i _ => l.length - (intOf i).toNat)
    case atStart => exact ⟨0, Nat.zero_le _, rfl, holds_ownRow_nil h1 _ _⟩
    case round =>
      obtain ⟨k, hk, rfl, h2⟩ := hrel
      clear c0 h1
      by_cases hlt : k < l.length
      · obtain ⟨k1, k2⟩ := tagArr_at l k hlt
        rw [← cellAt (h2.pick 2).get_blk] at k1 k2
        have hs := ofTo_succ (l.map (·.1)) o k (by simpa using hlt)
        have hle := ofTo_length_le (l.map (·.1)) o k
        rw [List.getElem_map] at hs
        generalize ofTo (l.map (·.1)) o k = q at hs hle h2
        generalize l[k].1 = x at k1 hs
        generalize l[k].2 = y at k2
        by_cases hx : x = o
        · subst hx
          rw [if_pos rfl] at hs
          have HS := Lib.hid hs
          clear hs
          go_wp2_with (at_builtin; (refine wpList_appendInt (y := k) rfl _ _ rfl rfl ((h2.alloc _).tail.alloc _).tail rfl (by simp) (by omega) ?_); clear k1 k2; intro v4 w4 h4)
          go_roundw
          case rel => exact ⟨k + 1, by omega, by go_num, by rw [HS.out]; exact h4⟩
          case measure => simp [intOf]; omega
        · have hb2 : (x == o) = false := by simpa using hx
          rw [if_neg hx, List.append_nil] at hs
          have HS := Lib.hid hs
          clear hs
          go_wp2_with fail
          go_roundw
          case rel => exact ⟨k + 1, by omega, by go_num, by rw [HS.out]; exact (h2.alloc _).tail⟩
          case measure => simp [intOf]; omega
      · have hkl : k = l.length := by omega
        subst hkl
        go_wp2_with fail
        go_ret
        exact ⟨_, rfl, (shut_tags (g := g1) (bm := bm1) HM.out (h2.order [1, 2, 3, 0])).pick 1⟩

end Go.Proofs.Ytfkpcmlajdmnfaa
