/- Contracts of the reference of chapter 16: Raise. -/
import Derived.Test.YtfkpcmlajdmnfaaRef16B
namespace Go.Proofs.Ytfkpcmlajdmnfaa
open Go Go.RowKit Go.MapKept
set_option maxRecDepth 100000
set_option linter.unusedVariables false

theorem roCell {w : World} {F : List HProp} {g off n cap : Nat} {l : List Int} (h : holds w (roInts (.slice (some ⟨g, off, none⟩) n cap) l :: F)) (k : Nat) (hk : k < l.length) (y : Int) (hy : l[k] = y) : w.cell? ⟨g, off + k, none⟩ = some (.int .i64 y) := by
  obtain ⟨g', off', cap', hv, _, hcs⟩ := h.roIntAt (by omega)
  cases hv
  rw [hcs k hk, hy]

theorem ref16_Raise (w : World) (vo vg : Value) (l : List (Int × Int)) (i : Int) (F : List HProp) (hl : l.length ≤ 1048576) (hown : ∀ t ∈ l, 0 ≤ t.1) (hgen : ∀ t ∈ l, 0 ≤ t.2 ∧ t.2 ≤ 1048575) (hw : holds w (roInts vo (l.map (·.1)) :: roInts vg (l.map (·.2)) :: F)) :
    Calls Try.prog 41 #[.agg #[vo, vg], .int .i64 i] w fun e w' => ∃ vo' vg', e = .returned (.tuple #[.agg #[vo', vg'], .int .i64 (Tags.raise l i).1]) ∧ holds w' (roInts vo' ((Tags.raise l i).2.map (·.1)) :: roInts vg' ((Tags.raise l i).2.map (·.2)) :: F) := by
  obtain ⟨a, cap, rfl, hcap⟩ := roInts_form hw
  obtain ⟨a', cap', rfl, hcap'⟩ := roInts_form (hw.pick 1)
  rw [List.length_map] at hcap hcap'
  simp only [List.length_map]
  have hw0 : holds w (roInts (.slice a l.length cap) (l.map (·.1)) :: roInts (.slice a' l.length cap') (l.map (·.2)) :: F) := by simpa using hw
  have hb := (hw0.alloc (.cells #[.slice a l.length cap, .slice a' l.length cap'] 55 (0, 0))).alloc (.cells #[.slice a l.length cap, .slice a' l.length cap'] 55 (0, 0))
  rw [World.size_alloc] at hb
  have hz0 := (hw0.alloc (.cells #[.slice a l.length cap, .slice a' l.length cap'] 55 (0, 0))).alloc (.cells #[.slice none 0 0, .slice none 0 0] 55 (0, 0))
  rw [World.size_alloc] at hz0
  clear hw
  by_cases h0 : 0 ≤ i
  · by_cases h1 : i < l.length
    · obtain ⟨k, rfl⟩ := Int.eq_ofNat_of_zero_le h0
      have hk : k < l.length := by omega
      · have e : Tags.raise l k = if l[k].1 ≠ 0 then (19, l) else if 1048575 ≤ l[k].2 then (6, l) else (0, l.set k (l[k].1, l[k].2 + 1)) := by
          unfold Tags.raise; rw [if_neg (by omega)]; simp [hk]
        obtain ⟨g, off, cap2, hv, _, hcs⟩ := (hz0.pick 2).roIntAt (by rw [List.length_map]; omega)
        rw [List.length_map] at hv
        cases hv
        have k1 := hcs k (by rw [List.length_map]; exact hk)
        rw [List.getElem_map] at k1
        obtain ⟨g', off', cap2', hv', _, hcs'⟩ := (hz0.pick 3).roIntAt (by rw [List.length_map]; omega)
        rw [List.length_map] at hv'
        cases hv'
        have k2 := hcs' k (by rw [List.length_map]; exact hk)
        rw [List.getElem_map] at k2
        have hp := hown l[k] (List.getElem_mem hk)
        have hgb := hgen l[k] (List.getElem_mem hk)
        rw [e]
        clear hcs hcs' e hown hgen
        by_cases hz : l[k].1 = 0
        · rw [if_neg (by simpa using hz)]
          by_cases hg : 1048575 ≤ l[k].2
          · rw [if_pos hg]
            rw [hz] at k1
            generalize l[k].2 = y at k2 hg hgb
            clear hz hp
            go_enter Try.func41, Try.ntmps41
            go_wp2
            refine bodyPost_ret (v := .tuple #[.agg #[.slice (some ⟨g, off, none⟩) l.length cap, .slice (some ⟨g', off', none⟩) l.length cap'], .int .i64 6]) ?_ rfl ⟨_, _, rfl, hb.tail.tail⟩
            exact results_cell_row_tmp Try.results41 _ _ (w.heap.size + 1) _ _ _ _ _ rfl rfl hb.get_blk Try.underlying55 rfl Try.size16
          · rw [if_neg hg]
            dsimp only
            rw [(map_set2 l k hk _).1, (map_set2 l k hk _).2]
            rw [hz] at k1
            obtain ⟨y, hy⟩ : ∃ y, l[k].2 = y := ⟨_, rfl⟩
            rw [hy] at k2 hg hgb ⊢
            have HY := Lib.hid hy
            clear hy
            have hwr : IntKind.i64.wrap (y + 1) = y + 1 := IntWalk.i64_in _ (by omega)
            clear hz hp
            go_enter Try.func41, Try.ntmps41
            go_wp2_with fail
            have h2 := hz0
            have k3 := k2
            clear k1 hb hw0 hz0
            generalize (w.alloc _).alloc _ = w1 at h2 k2 k3 ⊢
            generalize w.heap.size = n at h2 ⊢
            have c0 := cellAt (h2.pick 1).get_blk 0
            have c1 := cellAt (h2.pick 1).get_blk 1
            simp at c0 c1
            go_region_held3 (fun w' => w'.cell? ⟨n, 0, none⟩ = some (.slice (some ⟨g, off, none⟩) l.length cap) ∧ w'.cell? ⟨n, 1, none⟩ = some (.slice (some ⟨g', off', none⟩) l.length cap') ∧ w'.cell? ⟨g', off' + k, none⟩ = some (.int .i64 y)) (first | exact ⟨c0, c1, k2⟩ | exact ⟨d0, d1, d2⟩ | exact ⟨q0, q1, q2⟩) ((go_simp; go_at_call 87; refine (ref16_Put _ _ (l.map (·.2)) k (y + 1) _ (by rw [List.length_map]; omega) (by omega) (by rw [List.length_map]; omega) (h2.drew.pick 3)).mono ?_; rintro e w3 ⟨v', rfl, h3⟩; rw [Int.toNat_natCast] at h3; obtain ⟨av, cv, rfl, hcv⟩ := roInts_form h3; rw [List.length_set, List.length_map] at h3; have d0 := cellAt (h3.pick 3).get_blk 0; have d1 := cellAt (h3.pick 3).get_blk 1; have d2 := roCell (h3.pick 1) k (by rw [List.length_map]; exact hk) y (by rw [List.getElem_map]; exact HY.out); have e0 := cellAt (h3.pick 2).get_blk 0; have e1 := cellAt (h3.pick 2).get_blk 1; have f0 := frozen_of_row w3 (n + 1) 0 _ _ (h3.pick 2).get_blk; have f1 := frozen_of_row w3 (n + 1) 1 _ _ (h3.pick 2).get_blk; have hq := store2 (h3.pick 2) (.slice (some ⟨g, off, none⟩) l.length cap) (.slice av l.length cv); have q0 := cellAt (hq.pick 3).get_blk 0; have q1 := cellAt (hq.pick 3).get_blk 1; have q2 := roCell (hq.pick 2) k (by rw [List.length_map]; exact hk) y (by rw [List.getElem_map]; exact HY.out); simp at d0 d1 e0 e1))
            go_wp2
            refine bodyPost_ret (v := .tuple #[.agg #[.slice (some ⟨g, off, none⟩) l.length cap, .slice av l.length cv], .int .i64 0]) ?_ rfl ⟨_, _, rfl, ?_⟩
            · exact results_cell_row_tmp Try.results41 _ _ (n + 1) _ _ _ _ _ rfl rfl hq.get_blk Try.underlying55 rfl Try.size16
            · exact (hq.order [0, 2, 3, 4, 1]).tail.tail.tail
        · rw [if_pos hz]
          have hb3 : (0 < l[k].1) := by omega
          generalize l[k].1 = x at k1 hb3
          go_enter Try.func41, Try.ntmps41
          go_wp2
          refine bodyPost_ret (v := .tuple #[.agg #[.slice (some ⟨g, off, none⟩) l.length cap, .slice (some ⟨g', off', none⟩) l.length cap'], .int .i64 19]) ?_ rfl ⟨_, _, rfl, hb.tail.tail⟩
          exact results_cell_row_tmp Try.results41 _ _ (w.heap.size + 1) _ _ _ _ _ rfl rfl hb.get_blk Try.underlying55 rfl Try.size16
    · have e : Tags.raise l i = (2, l) := by unfold Tags.raise; rw [if_pos (by omega)]
      rw [e]
      go_enter Try.func41, Try.ntmps41
      go_wp2
      refine bodyPost_ret (v := .tuple #[.agg #[.slice a l.length cap, .slice a' l.length cap'], .int .i64 2]) ?_ rfl ⟨_, _, rfl, hb.tail.tail⟩
      exact results_cell_row_tmp Try.results41 _ _ (w.heap.size + 1) _ _ _ _ _ rfl rfl hb.get_blk Try.underlying55 rfl Try.size16
  · have e : Tags.raise l i = (2, l) := by unfold Tags.raise; rw [if_pos (by omega)]
    rw [e]
    go_enter Try.func41, Try.ntmps41
    go_wp2
    refine bodyPost_ret (v := .tuple #[.agg #[.slice a l.length cap, .slice a' l.length cap'], .int .i64 2]) ?_ rfl ⟨_, _, rfl, hb.tail.tail⟩
    exact results_cell_row_tmp Try.results41 _ _ (w.heap.size + 1) _ _ _ _ _ rfl rfl hb.get_blk Try.underlying55 rfl Try.size16

end Go.Proofs.Ytfkpcmlajdmnfaa
