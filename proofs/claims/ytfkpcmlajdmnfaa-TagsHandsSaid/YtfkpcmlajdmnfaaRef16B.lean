/- Contracts of the reference of chapter 16: New, Own, Leave, Raise, Of. -/
import Derived.Test.YtfkpcmlajdmnfaaRef16
import Derived.Test.YtfkpcmlajdmnfaaTagsC
import Derived.Deep.RegionHeld3
import Derived.BigRegion
namespace Go.Proofs.Ytfkpcmlajdmnfaa
open Go Go.RowKit Go.MapKept
set_option maxRecDepth 100000
set_option linter.unusedVariables false

theorem Try.info16 : (Try.prog.info? 55).map (fun i => (i.zero, i.size, i.bytes)) = some (some (.agg #[.slice none 0 0, .slice none 0 0]), 2, 48) := by kernel_rfl

theorem ref16_Of (w : World) (vo vg : Value) (L : List Int) (o : Int) (F : List HProp) (hl : L.length ≤ 1048576) (hw : holds w (roInts vo L :: F)) :
    Calls Try.prog 46 #[.agg #[vo, vg], .int .i64 o] w fun e w' => ∃ v', e = .returned v' ∧ holds w' (ownInts v' (ofs L o) :: roInts vo L :: F) := by
  obtain ⟨a, cap, rfl, hcap⟩ := roInts_form hw
  have h1 := hw.alloc (.cells #[.slice a L.length cap, vg] 55 (0, 0))
  by_cases ho : 0 < o
  · have he : ofs L o = ofTo L o L.length := by unfold ofs; rw [if_pos ho]
    rw [he]
    clear he
    go_enter Try.func46, Try.ntmps46
    go_wp2_with fail
    go_loopw [5, 6] (fun out i wr => ∃ k : Nat, k ≤ L.length ∧ i = .int .i64 k ∧ holds wr (ownInts out (ofTo L o k) :: blk w.heap.size (.cells #[.slice a L.length cap, vg] 55 (0, 0)) :: roInts (.slice a L.length cap) L :: F)) (fun _ i _ => L.length - (intOf i).toNat)
    case atStart => exact ⟨0, Nat.zero_le _, rfl, holds_ownRow_nil h1 _ _⟩
    case round =>
      obtain ⟨k, hk, rfl, h2⟩ := hrel
      clear h1 hw
      have c0 := cellAt (h2.pick 1).get_blk 0
      simp at c0
      by_cases hlt : k < L.length
      · obtain ⟨g, off, cap2, hv, _, hcs⟩ := (h2.pick 2).roIntAt (by omega)
        cases hv
        have k1 := hcs k hlt
        have hs := ofTo_succ L o k hlt
        have hle := ofTo_length_le L o k
        generalize ofTo L o k = q at hs hle h2
        generalize L[k] = x at k1 hs
        clear hcs
        by_cases hx : x = o
        · subst hx
          rw [if_pos rfl] at hs
          have HS := Lib.hid hs
          clear hs
          go_wp2_with (at_builtin; (refine wpList_appendInt (y := k) rfl _ _ rfl rfl (h2.alloc _).tail rfl (by simp) (by omega) ?_); clear k1 c0; intro v4 w4 h4)
          go_roundw
          case rel => exact ⟨k + 1, by omega, by go_num, by rw [HS.out]; exact h4⟩
          case measure => simp [intOf]; omega
        · have hb2 : (x == o) = false := by simpa using hx
          rw [if_neg hx, List.append_nil] at hs
          have HS := Lib.hid hs
          clear hs
          go_wp2_with fail
          go_roundw
          case rel => exact ⟨k + 1, by omega, by go_num, by rw [HS.out]; exact h2⟩
          case measure => simp [intOf]; omega
      · have hkl : k = L.length := by omega
        subst hkl
        go_wp2_with fail
        go_ret
        exact ⟨_, rfl, (h2.pick 1).tail⟩
  · have he : ofs L o = [] := by unfold ofs; rw [if_neg ho]
    rw [he]
    clear he
    go_enter Try.func46, Try.ntmps46
    go_wp2_with fail
    have c0 := cellAt h1.get_blk 0
    simp at c0
    go_loopw [5, 6] (fun out i wr => out = .slice none 0 0 ∧ i = .int .i64 0 ∧ wr = w.alloc (.cells #[.slice a L.length cap, vg] 55 (0, 0))) (fun _ i _ => 0)
    case atStart => exact ⟨rfl, rfl, rfl⟩
    case round =>
      obtain ⟨rfl, rfl, rfl⟩ := hrel
      by_cases hlt : 0 < L.length
      · go_wp2_with fail
        go_ret
        exact ⟨_, rfl, holds_ownRow_nil h1.tail _ _⟩
      · go_wp2_with fail
        go_ret
        exact ⟨_, rfl, holds_ownRow_nil h1.tail _ _⟩


theorem results_cell_row_tmp {P : Program} {fn : Func} {p u : Tmp} {ty : TypeId} (h : fn.results = #[.cell p ty, .tmp u]) (tmps : Array Value) (w : World) (g : Nat) (t : TypeId) (cs : Array Value) (fr : Nat × Nat) (d : TypeDesc) (e : Value)
    (hp : tmps.getD p undef = .pointer (some ⟨g, 0, none⟩)) (he : tmps.getD u undef = e) (hg : w.heap[g]? = some (.cells cs t fr))
    (hu : P.underlying ty = some d) (hd : (match d with | .struct _ | .array _ _ => true | _ => false) = true) (hi : (P.info? ty).map (·.size) = some cs.size) :
    (results fn tmps).run P w = .ok (.tuple #[.agg cs, e]) w := by
  have hp' : tmps[p]?.getD undef = .pointer (some ⟨g, 0, none⟩) := by simpa using hp
  have he' : tmps[u]?.getD undef = e := by simpa using he
  simp [results, h, hp', he', asAddr, run_loadVar_row w g t ty cs fr d hg hu hd hi]
theorem Try.size16 : (Try.prog.info? 55).map (·.size) = some 2 := by kernel_rfl

theorem store2 {w : World} {n : Nat} {T : TypeId} {x0 y0 : Value} {F : List HProp} (h : holds w (blk n (.cells #[x0, y0] T (0, 0)) :: F)) (x y : Value) :
    holds ((w.setCell ⟨n, 0, none⟩ x).setCell ⟨n, 1, none⟩ y) (blk n (.cells #[x, y] T (0, 0)) :: F) := (h.setCell 0 x).setCell 1 y
theorem map_set1 (l : List (Int × Int)) (k : Nat) (hk : k < l.length) (x : Int) : (l.set k (x, l[k].2)).map (·.1) = (l.map (·.1)).set k x ∧ (l.set k (x, l[k].2)).map (·.2) = l.map (·.2) := by
  refine ⟨List.map_set, ?_⟩
  rw [List.map_set]
  have h : (l.map (·.2)).set k ((l.map (·.2))[k]'(by rw [List.length_map]; exact hk)) = l.map (·.2) := List.set_getElem_self _
  rw [List.getElem_map] at h
  exact h
theorem map_set2 (l : List (Int × Int)) (k : Nat) (hk : k < l.length) (x : Int) : (l.set k (l[k].1, x)).map (·.1) = l.map (·.1) ∧ (l.set k (l[k].1, x)).map (·.2) = (l.map (·.2)).set k x := by
  refine ⟨?_, List.map_set⟩
  rw [List.map_set]
  have h : (l.map (·.1)).set k ((l.map (·.1))[k]'(by rw [List.length_map]; exact hk)) = l.map (·.1) := List.set_getElem_self _
  rw [List.getElem_map] at h
  exact h

theorem ref16_Own (w : World) (vo vg : Value) (l : List (Int × Int)) (i o : Int) (F : List HProp) (hl : l.length ≤ 1048576) (hown : ∀ t ∈ l, 0 ≤ t.1) (hw : holds w (roInts vo (l.map (·.1)) :: roInts vg (l.map (·.2)) :: F)) :
    Calls Try.prog 37 #[.agg #[vo, vg], .int .i64 i, .int .i64 o] w fun e w' => ∃ vo' vg', e = .returned (.tuple #[.agg #[vo', vg'], .int .i64 (Tags.own l i o).1]) ∧ holds w' (roInts vo' ((Tags.own l i o).2.map (·.1)) :: roInts vg' ((Tags.own l i o).2.map (·.2)) :: F) := by
  obtain ⟨a, cap, rfl, hcap⟩ := roInts_form hw
  obtain ⟨a', cap', rfl, hcap'⟩ := roInts_form (hw.pick 1)
  rw [List.length_map] at hcap hcap'
  simp only [List.length_map]
  have hw0 : holds w (roInts (.slice a l.length cap) (l.map (·.1)) :: roInts (.slice a' l.length cap') (l.map (·.2)) :: F) := by simpa using hw
  have hb := (hw0.alloc (.cells #[.slice a l.length cap, .slice a' l.length cap'] 55 (0, 0))).alloc (.cells #[.slice a l.length cap, .slice a' l.length cap'] 55 (0, 0))
  rw [World.size_alloc] at hb
  have hz0 := (hw0.alloc (.cells #[.slice a l.length cap, .slice a' l.length cap'] 55 (0, 0))).alloc (.cells #[.slice none 0 0, .slice none 0 0] 55 (0, 0))
  rw [World.size_alloc] at hz0
  clear hw
  by_cases h0 : 0 ≤ i
  · by_cases h1 : i < l.length
    · obtain ⟨k, rfl⟩ := Int.eq_ofNat_of_zero_le h0
      have hk : k < l.length := by omega
      by_cases ho : o < 1
      · have e : Tags.own l k o = (2, l) := by simp [Tags.own, ho]
        rw [e]
        go_enter Try.func37, Try.ntmps37
        go_wp2
        refine bodyPost_ret (v := .tuple #[.agg #[.slice a l.length cap, .slice a' l.length cap'], .int .i64 2]) ?_ rfl ⟨_, _, rfl, hb.tail.tail⟩
        exact results_cell_row_tmp Try.results37 _ _ (w.heap.size + 1) _ _ _ _ _ rfl rfl hb.get_blk Try.underlying55 rfl Try.size16
      · have e : Tags.own l k o = if l[k].1 ≠ 0 then (19, l) else (0, l.set k (o, l[k].2)) := by
          unfold Tags.own; rw [if_neg (by omega)]; simp [hk]
        obtain ⟨g, off, cap2, hv, _, hcs⟩ := (hz0.pick 2).roIntAt (by rw [List.length_map]; omega)
        rw [List.length_map] at hv
        cases hv
        have k1 := hcs k (by rw [List.length_map]; exact hk)
        rw [List.getElem_map] at k1
        have hp := hown l[k] (List.getElem_mem hk)
        rw [e]
        clear hcs e hown
        by_cases hz : l[k].1 = 0
        · rw [if_neg (by simpa using hz)]
          dsimp only
          rw [(map_set1 l k hk o).1, (map_set1 l k hk o).2]
          rw [hz] at k1
          clear hz hp
          go_enter Try.func37, Try.ntmps37
          go_wp2_with fail
          have h2 := hz0
          clear k1 hb hw0 hz0
          generalize (w.alloc _).alloc _ = w1 at h2 ⊢
          generalize w.heap.size = n at h2 ⊢
          have c0 := cellAt (h2.pick 1).get_blk 0
          have c1 := cellAt (h2.pick 1).get_blk 1
          simp at c0 c1
          go_region_held3 (fun w' => w'.cell? ⟨n, 0, none⟩ = some (.slice (some ⟨g, off, none⟩) l.length cap) ∧ w'.cell? ⟨n, 1, none⟩ = some (.slice a' l.length cap')) (first | exact ⟨c0, c1⟩ | exact ⟨d0, d1⟩ | exact ⟨q0, q1⟩) ((go_simp; go_at_call 87; refine (ref16_Put _ _ (l.map (·.1)) k o _ (by rw [List.length_map]; omega) (by omega) (by rw [List.length_map]; omega) (h2.drew.pick 2)).mono ?_; rintro e w3 ⟨v', rfl, h3⟩; rw [Int.toNat_natCast] at h3; obtain ⟨av, cv, rfl, hcv⟩ := roInts_form h3; rw [List.length_set, List.length_map] at h3; have d0 := cellAt (h3.pick 3).get_blk 0; have d1 := cellAt (h3.pick 3).get_blk 1; have e0 := cellAt (h3.pick 2).get_blk 0; have e1 := cellAt (h3.pick 2).get_blk 1; have f0 := frozen_of_row w3 (n + 1) 0 _ _ (h3.pick 2).get_blk; have f1 := frozen_of_row w3 (n + 1) 1 _ _ (h3.pick 2).get_blk; have hq := store2 (h3.pick 2) (.slice av l.length cv) (.slice a' l.length cap'); have q0 := cellAt (hq.pick 3).get_blk 0; have q1 := cellAt (hq.pick 3).get_blk 1; simp at d0 d1 e0 e1))
          go_wp2
          refine bodyPost_ret (v := .tuple #[.agg #[.slice av l.length cv, .slice a' l.length cap'], .int .i64 0]) ?_ rfl ⟨_, _, rfl, ?_⟩
          · exact results_cell_row_tmp Try.results37 _ _ (n + 1) _ _ _ _ _ rfl rfl hq.get_blk Try.underlying55 rfl Try.size16
          · exact (hq.order [0, 2, 3, 1, 4]).tail.tail.tail
        · rw [if_pos hz]
          have hb3 : (0 < l[k].1) := by omega
          generalize l[k].1 = x at k1 hb3
          go_enter Try.func37, Try.ntmps37
          go_wp2
          refine bodyPost_ret (v := .tuple #[.agg #[.slice (some ⟨g, off, none⟩) l.length cap, .slice a' l.length cap'], .int .i64 19]) ?_ rfl ⟨_, _, rfl, hb.tail.tail⟩
          exact results_cell_row_tmp Try.results37 _ _ (w.heap.size + 1) _ _ _ _ _ rfl rfl hb.get_blk Try.underlying55 rfl Try.size16
    · have e : Tags.own l i o = (2, l) := by unfold Tags.own; rw [if_pos (by omega)]
      rw [e]
      go_enter Try.func37, Try.ntmps37
      go_wp2
      refine bodyPost_ret (v := .tuple #[.agg #[.slice a l.length cap, .slice a' l.length cap'], .int .i64 2]) ?_ rfl ⟨_, _, rfl, hb.tail.tail⟩
      exact results_cell_row_tmp Try.results37 _ _ (w.heap.size + 1) _ _ _ _ _ rfl rfl hb.get_blk Try.underlying55 rfl Try.size16
  · have e : Tags.own l i o = (2, l) := by unfold Tags.own; rw [if_pos (by omega)]
    rw [e]
    go_enter Try.func37, Try.ntmps37
    go_wp2
    refine bodyPost_ret (v := .tuple #[.agg #[.slice a l.length cap, .slice a' l.length cap'], .int .i64 2]) ?_ rfl ⟨_, _, rfl, hb.tail.tail⟩
    exact results_cell_row_tmp Try.results37 _ _ (w.heap.size + 1) _ _ _ _ _ rfl rfl hb.get_blk Try.underlying55 rfl Try.size16

theorem ref16_Leave (w : World) (vo vg : Value) (l : List (Int × Int)) (i : Int) (F : List HProp) (hl : l.length ≤ 1048576) (hown : ∀ t ∈ l, 0 ≤ t.1) (hw : holds w (roInts vo (l.map (·.1)) :: roInts vg (l.map (·.2)) :: F)) :
    Calls Try.prog 39 #[.agg #[vo, vg], .int .i64 i] w fun e w' => ∃ vo' vg', e = .returned (.tuple #[.agg #[vo', vg'], .int .i64 (Tags.leave l i).1]) ∧ holds w' (roInts vo' ((Tags.leave l i).2.map (·.1)) :: roInts vg' ((Tags.leave l i).2.map (·.2)) :: F) := by
  obtain ⟨a, cap, rfl, hcap⟩ := roInts_form hw
  obtain ⟨a', cap', rfl, hcap'⟩ := roInts_form (hw.pick 1)
  rw [List.length_map] at hcap hcap'
  simp only [List.length_map]
  have hw0 : holds w (roInts (.slice a l.length cap) (l.map (·.1)) :: roInts (.slice a' l.length cap') (l.map (·.2)) :: F) := by simpa using hw
  have hb := (hw0.alloc (.cells #[.slice a l.length cap, .slice a' l.length cap'] 55 (0, 0))).alloc (.cells #[.slice a l.length cap, .slice a' l.length cap'] 55 (0, 0))
  rw [World.size_alloc] at hb
  have hz0 := (hw0.alloc (.cells #[.slice a l.length cap, .slice a' l.length cap'] 55 (0, 0))).alloc (.cells #[.slice none 0 0, .slice none 0 0] 55 (0, 0))
  rw [World.size_alloc] at hz0
  clear hw
  by_cases h0 : 0 ≤ i
  · by_cases h1 : i < l.length
    · obtain ⟨k, rfl⟩ := Int.eq_ofNat_of_zero_le h0
      have hk : k < l.length := by omega
      · have e : Tags.leave l k = if l[k].1 = 0 then (20, l) else (0, l.set k (0, l[k].2)) := by
          unfold Tags.leave; rw [if_neg (by omega)]; simp [hk]
        obtain ⟨g, off, cap2, hv, _, hcs⟩ := (hz0.pick 2).roIntAt (by rw [List.length_map]; omega)
        rw [List.length_map] at hv
        cases hv
        have k1 := hcs k (by rw [List.length_map]; exact hk)
        rw [List.getElem_map] at k1
        have hp := hown l[k] (List.getElem_mem hk)
        rw [e]
        clear hcs e hown
        by_cases hz : l[k].1 = 0
        · rw [if_pos hz]
          rw [hz] at k1
          clear hz hp
          go_enter Try.func39, Try.ntmps39
          go_wp2
          refine bodyPost_ret (v := .tuple #[.agg #[.slice (some ⟨g, off, none⟩) l.length cap, .slice a' l.length cap'], .int .i64 20]) ?_ rfl ⟨_, _, rfl, hb.tail.tail⟩
          exact results_cell_row_tmp Try.results39 _ _ (w.heap.size + 1) _ _ _ _ _ rfl rfl hb.get_blk Try.underlying55 rfl Try.size16
        · rw [if_neg hz]
          dsimp only
          rw [(map_set1 l k hk 0).1, (map_set1 l k hk 0).2]
          have hb3 : (l[k].1 == 0) = false := by simpa using hz
          generalize l[k].1 = x at k1 hb3
          clear hz hp
          go_enter Try.func39, Try.ntmps39
          go_wp2_with fail
          have h2 := hz0
          clear k1 hb hw0 hz0
          generalize (w.alloc _).alloc _ = w1 at h2 ⊢
          generalize w.heap.size = n at h2 ⊢
          have c0 := cellAt (h2.pick 1).get_blk 0
          have c1 := cellAt (h2.pick 1).get_blk 1
          simp at c0 c1
          go_region_held3 (fun w' => w'.cell? ⟨n, 0, none⟩ = some (.slice (some ⟨g, off, none⟩) l.length cap) ∧ w'.cell? ⟨n, 1, none⟩ = some (.slice a' l.length cap')) (first | exact ⟨c0, c1⟩ | exact ⟨d0, d1⟩ | exact ⟨q0, q1⟩) ((go_simp; go_at_call 87; refine (ref16_Put _ _ (l.map (·.1)) k 0 _ (by rw [List.length_map]; omega) (by omega) (by rw [List.length_map]; omega) (h2.drew.pick 2)).mono ?_; rintro e w3 ⟨v', rfl, h3⟩; rw [Int.toNat_natCast] at h3; obtain ⟨av, cv, rfl, hcv⟩ := roInts_form h3; rw [List.length_set, List.length_map] at h3; have d0 := cellAt (h3.pick 3).get_blk 0; have d1 := cellAt (h3.pick 3).get_blk 1; have e0 := cellAt (h3.pick 2).get_blk 0; have e1 := cellAt (h3.pick 2).get_blk 1; have f0 := frozen_of_row w3 (n + 1) 0 _ _ (h3.pick 2).get_blk; have f1 := frozen_of_row w3 (n + 1) 1 _ _ (h3.pick 2).get_blk; have hq := store2 (h3.pick 2) (.slice av l.length cv) (.slice a' l.length cap'); have q0 := cellAt (hq.pick 3).get_blk 0; have q1 := cellAt (hq.pick 3).get_blk 1; simp at d0 d1 e0 e1))
          go_wp2
          refine bodyPost_ret (v := .tuple #[.agg #[.slice av l.length cv, .slice a' l.length cap'], .int .i64 0]) ?_ rfl ⟨_, _, rfl, ?_⟩
          · exact results_cell_row_tmp Try.results39 _ _ (n + 1) _ _ _ _ _ rfl rfl hq.get_blk Try.underlying55 rfl Try.size16
          · exact (hq.order [0, 2, 3, 1, 4]).tail.tail.tail
    · have e : Tags.leave l i = (2, l) := by unfold Tags.leave; rw [if_pos (by omega)]
      rw [e]
      go_enter Try.func39, Try.ntmps39
      go_wp2
      refine bodyPost_ret (v := .tuple #[.agg #[.slice a l.length cap, .slice a' l.length cap'], .int .i64 2]) ?_ rfl ⟨_, _, rfl, hb.tail.tail⟩
      exact results_cell_row_tmp Try.results39 _ _ (w.heap.size + 1) _ _ _ _ _ rfl rfl hb.get_blk Try.underlying55 rfl Try.size16
  · have e : Tags.leave l i = (2, l) := by unfold Tags.leave; rw [if_pos (by omega)]
    rw [e]
    go_enter Try.func39, Try.ntmps39
    go_wp2
    refine bodyPost_ret (v := .tuple #[.agg #[.slice a l.length cap, .slice a' l.length cap'], .int .i64 2]) ?_ rfl ⟨_, _, rfl, hb.tail.tail⟩
    exact results_cell_row_tmp Try.results39 _ _ (w.heap.size + 1) _ _ _ _ _ rfl rfl hb.get_blk Try.underlying55 rfl Try.size16

theorem ref16_New (w : World) (n : Int) (F : List HProp) (hn0 : 0 ≤ n) (hn : n ≤ 1048576) (hw : holds w F) :
    Calls Try.prog 36 #[.int .i64 n] w fun e w' => ∃ vo vg, e = .returned (.agg #[vo, vg]) ∧ holds w' (roInts vo (List.replicate n.toNat 0) :: roInts vg (List.replicate n.toNat 0) :: F) := by
  obtain ⟨n, rfl⟩ := Int.eq_ofNat_of_zero_le hn0
  rw [Int.toNat_natCast]
  obtain ⟨i0, hi, hz0, hz1, hz2⟩ := info_parts Try.infoInt
  have hm1 : ∀ w : World, (Instr.makeSlice 30 (.int .i64 n) (.int .i64 n)).run Try.prog w = .ok (.slice (some ⟨w.heap.size, 0, none⟩) n n) (w.alloc (.cells (madeCells #[.int .i64 0] n) 3)) := fun w => by
    have h := (run_make_sl (w := w) (l := []) (P := Try.prog) (t := 30) Try.underlying30 hi hz0 hz1 (holds.start w).tail .i64 .i64 (x := n) (c := n) (by omega) (by omega) (by rw [hz2]; omega) (by omega)).1
    have e : (Value.int .i64 0).cells = #[.int .i64 0] := rfl
    simpa [e] using h
  clear hi hz0 hz1 hz2
  go_enter Try.func36, Try.ntmps36
  go_wp2
  go_region
  all_goals go_wp2
  · have q := (((hw.alloc (.cells #[.slice (some ⟨w.heap.size + 1, 0, none⟩) n n, .slice (some ⟨w.heap.size + 1 + 1, 0, none⟩) n n] 55 (0, 0))).madeInts n (by unfold maxLen; omega)).madeInts n (by unfold maxLen; omega)).drew
    simp only [World.size_alloc] at q
    refine bodyPost_ret (v := .agg #[.slice (some ⟨w.heap.size + 1, 0, none⟩) n n, .slice (some ⟨w.heap.size + 1 + 1, 0, none⟩) n n]) ?_ rfl ⟨_, _, rfl, ?_⟩
    · exact results_cell_row Try.results36 _ _ w.heap.size _ _ _ _ rfl (q.pick 2).get_blk Try.underlying55 rfl Try.size16
    · have r := (((q.order [1, 0, 2]).shareInts.pick 1).shareInts).order [1, 0, 2]
      exact (r.pick 2).tail
  · have q := (((hw.alloc (.cells #[.slice (some ⟨w.heap.size + 1 + 1, 0, none⟩) n n, .slice (some ⟨w.heap.size + 1, 0, none⟩) n n] 55 (0, 0))).madeInts n (by unfold maxLen; omega)).madeInts n (by unfold maxLen; omega)).drew
    simp only [World.size_alloc] at q
    refine bodyPost_ret (v := .agg #[.slice (some ⟨w.heap.size + 1 + 1, 0, none⟩) n n, .slice (some ⟨w.heap.size + 1, 0, none⟩) n n]) ?_ rfl ⟨_, _, rfl, ?_⟩
    · exact results_cell_row Try.results36 _ _ w.heap.size _ _ _ _ rfl (q.pick 2).get_blk Try.underlying55 rfl Try.size16
    · have r := ((q.shareInts.pick 1).shareInts).order [1, 0, 2]
      exact (r.pick 2).tail

end Go.Proofs.Ytfkpcmlajdmnfaa
