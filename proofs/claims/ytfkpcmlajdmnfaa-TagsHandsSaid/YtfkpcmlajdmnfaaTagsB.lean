/- Contracts of package tags: Leave, Raise, New. -/
import Derived.Test.YtfkpcmlajdmnfaaTags
import Derived.StillTailTactics
import Derived.IntWalk
namespace Go.Proofs.Ytfkpcmlajdmnfaa
open Go Go.RowKit Go.MapKept
set_option maxRecDepth 100000
set_option linter.unusedVariables false

theorem tags_Leave (w : World) (v : Value) (l : List (Int × Int)) (i : Int) (F : List HProp) (hl : l.length ≤ 1048576) (hw : holds w (tagsAt v l :: F)) :
    Calls Try.prog 40 #[v, .int .i64 i] w fun e w' => e = .returned (.int .i64 (Tags.leave l i).1) ∧ holds w' (tagsAt v (Tags.leave l i).2 :: F) := by
  obtain ⟨b, g, bm, m, rfl, hm, h⟩ := open_tags hw
  have c0 := cellAt h.get_blk 0
  have c1 := cellAt h.get_blk 1
  simp at c0 c1
  have qT : ∀ (w : World) (r : Option Nat), (binOp .eql 69 (.map r) (.map none)).run Try.prog w = .ok (.bool r.isNone) w := fun w r => run_eql_map_nil w _ _ _ r Try.underlying69
  have HM := Lib.hid hm
  clear hm
  by_cases h0 : 0 ≤ i ∧ i < l.length
  · obtain ⟨k, rfl⟩ := Int.eq_ofNat_of_zero_le h0.1
    have hk : k < l.length := by omega
    obtain ⟨k1, k2⟩ := tagArr_at l k hk
    rw [← cellAt (h.pick 1).get_blk] at k1 k2
    have hf := frozen_of_row w g (k * 2) _ _ (h.pick 1).get_blk
    have hset := tagArr_set1 l k hk 0
    have hkk : ∀ w' : World, w'.heap[g]? = some (.cells (tagArr l) 128 (0, 0)) → w'.cell? ⟨g, k * 2, none⟩ = some (.int .i64 l[k].1) := fun w' hw' => by rw [cellAt hw']; exact (tagArr_at l k hk).1
    have e : Tags.leave l k = if l[k].1 = 0 then (20, l) else (0, l.set k (0, l[k].2)) := by unfold Tags.leave; rw [if_neg (by omega)]; simp [hk]
    have hlv : 0 < l[k].1 → _ := fun hp => HM.out.leave k hk hp
    have hpos := HM.out.own l[k] (List.getElem_mem hk)
    have hg := HM.out.getD l[k].1
    have hcl := cnt_le l l[k].1
    rw [e]
    have HS := Lib.hid hset
    have HL := Lib.hid hlv
    have HK := Lib.hid hkk
    clear e hset hlv k2 h0 hkk
    by_cases hz : l[k].1 = 0
    · rw [if_pos hz]
      rw [hz] at k1
      clear hz hpos hg hcl
      go_enter Try.func40, Try.ntmps40
      go_wp2
      go_ret
      exact ⟨rfl, hw⟩
    · rw [if_neg hz]
      have hb : (l[k].1 == 0) = false := by simpa using hz
      obtain ⟨hc1, hone, hmore⟩ := HL.out (by omega)
      have HONE := Lib.hid hone
      have HMORE := Lib.hid hmore
      clear hone hmore HL hz
      generalize l[k].1 = x at k1 hb hg hcl hpos hc1 HONE HMORE HK
      generalize cnt l x = c at hg hcl hc1 HONE HMORE
      have hlk := run_lookup_sl (P := Try.prog) (t := 69) (z := (0 : Int)) Try.underlying69 Try.underlying3 (by kernel_rfl) (h.drew.pick 2) x false
      simp only [Bool.false_eq_true, if_false] at hlk
      rw [hg] at hlk
      clear hg
      have hm2 := h.drew.pick 2
      go_enter Try.func40, Try.ntmps40
      by_cases hone : c = 1
      · subst hone
        have HO := Lib.hid (HONE.out rfl)
        clear HONE HMORE
        go_wp2
        go_still_tail 10, (by kernel_rfl)
        change wpList _ _ _ _ _ w.drew
        refine wpList_mapUpdate_sl rfl rfl _ _ _ _ rfl Try.underlying69 Try.underlying3 rfl _ (0 : Int) rfl rfl hm2 ?_
        clear hlk c0 c1 k1 hf hm2
        intro w3 h3
        have d1 := cellAt (h3.pick 1).get_blk 1
        simp at d1
        have k1 := HK.out w3 (h3.pick 2).get_blk
        have hlk2 := run_lookup_sl (P := Try.prog) (t := 69) (z := (0 : Int)) Try.underlying69 Try.underlying3 (by kernel_rfl) h3 x false
        rw [alGet_set, if_pos rfl] at hlk2
        simp only [Bool.false_eq_true, if_false, Option.getD_some] at hlk2
        have hlk3 := run_lookup_sl (P := Try.prog) (t := 69) (z := (0 : Int)) Try.underlying69 Try.underlying3 (by kernel_rfl) h3.drew x false
        rw [alGet_set, if_pos rfl] at hlk3
        simp only [Bool.false_eq_true, if_false, Option.getD_some] at hlk3
        go_wp2
        go_still_tail 9, (by kernel_rfl)
        change wpList _ _ _ _ _ w3.drew
        have h4 := h3.drew
        clear hlk2 hlk3 d1 k1
        generalize w3.drew = w4 at h4 ⊢
        have d1 := cellAt (h4.pick 1).get_blk 1
        simp at d1
        have k1 := HK.out _ (h4.pick 2).get_blk
        have hf := frozen_of_row _ g (k * 2) _ _ (h4.pick 2).get_blk
        go_wp2
        have hm4 := h4.drew
        go_still_tail 8, (by kernel_rfl)
        change wpList _ _ _ _ _ w4.drew
        refine wpList_delete_sl rfl rfl _ _ _ rfl Try.underlying69 Try.underlying3 rfl _ rfl hm4 ?_
        clear d1 k1 hf
        intro w5 h5
        have hf := frozen_of_row w5 g (k * 2) _ _ (h5.pick 2).get_blk
        have k1 := HK.out _ (h5.pick 2).get_blk
        go_wp2
        go_ret
        exact ⟨rfl, by
          have h6 := tags_set (h5.order [1, 2, 0]) HS.out
          refine shut_tags (g := g) (bm := bm) HO.out ?_
          rw [List.length_set]
          exact h6⟩
      · have HO := Lib.hid (HMORE.out hone)
        have hne : ((c : Int) - 1 == 0) = false := by simp; omega
        have hwr : IntKind.i64.wrap ((c : Int) - 1) = (c : Int) - 1 := IntWalk.i64_in _ (by omega)
        clear HONE HMORE
        go_wp2
        go_still_tail 10, (by kernel_rfl)
        change wpList _ _ _ _ _ w.drew
        refine wpList_mapUpdate_sl rfl rfl _ _ _ _ rfl Try.underlying69 Try.underlying3 rfl _ ((c : Nat) - 1 : Int) rfl rfl hm2 ?_
        clear hlk c0 c1 k1 hf hm2
        intro w3 h3
        have d1 := cellAt (h3.pick 1).get_blk 1
        simp at d1
        have k1 := HK.out w3 (h3.pick 2).get_blk
        have hlk2 := run_lookup_sl (P := Try.prog) (t := 69) (z := (0 : Int)) Try.underlying69 Try.underlying3 (by kernel_rfl) h3 x false
        rw [alGet_set, if_pos rfl] at hlk2
        simp only [Bool.false_eq_true, if_false, Option.getD_some] at hlk2
        have hlk3 := run_lookup_sl (P := Try.prog) (t := 69) (z := (0 : Int)) Try.underlying69 Try.underlying3 (by kernel_rfl) h3.drew x false
        rw [alGet_set, if_pos rfl] at hlk3
        simp only [Bool.false_eq_true, if_false, Option.getD_some] at hlk3
        go_wp2
        go_still_tail 9, (by kernel_rfl)
        change wpList _ _ _ _ _ w3.drew
        have h4 := h3.drew
        clear hlk2 hlk3 d1 k1
        generalize w3.drew = w4 at h4 ⊢
        have d1 := cellAt (h4.pick 1).get_blk 1
        simp at d1
        have k1 := HK.out _ (h4.pick 2).get_blk
        have hf := frozen_of_row _ g (k * 2) _ _ (h4.pick 2).get_blk
        go_wp2
        go_ret
        exact ⟨rfl, by
          have h6 := tags_set (h4.order [1, 2, 0]) HS.out
          refine shut_tags (g := g) (bm := bm) HO.out ?_
          rw [List.length_set]
          exact h6⟩
  · have e : Tags.leave l i = (2, l) := by unfold Tags.leave; rw [if_pos (by omega)]
    rw [e]
    by_cases h1 : 0 ≤ i
    · have h2 : ¬ i < l.length := by omega
      clear h0
      go_enter Try.func40, Try.ntmps40
      go_wp2
      go_ret
      exact ⟨rfl, hw⟩
    · clear h0
      go_enter Try.func40, Try.ntmps40
      go_wp2
      go_ret
      exact ⟨rfl, hw⟩

theorem tags_Raise (w : World) (v : Value) (l : List (Int × Int)) (i : Int) (F : List HProp) (hl : l.length ≤ 1048576) (hgen : ∀ t ∈ l, 0 ≤ t.2 ∧ t.2 ≤ 1048575) (hw : holds w (tagsAt v l :: F)) :
    Calls Try.prog 42 #[v, .int .i64 i] w fun e w' => e = .returned (.int .i64 (Tags.raise l i).1) ∧ holds w' (tagsAt v (Tags.raise l i).2 :: F) := by
  obtain ⟨b, g, bm, m, rfl, hm, h⟩ := open_tags hw
  have c0 := cellAt h.get_blk 0
  have c1 := cellAt h.get_blk 1
  simp at c0 c1
  have qT : ∀ (w : World) (r : Option Nat), (binOp .eql 69 (.map r) (.map none)).run Try.prog w = .ok (.bool r.isNone) w := fun w r => run_eql_map_nil w _ _ _ r Try.underlying69
  have HM := Lib.hid hm
  clear hm
  by_cases h0 : 0 ≤ i ∧ i < l.length
  · obtain ⟨k, rfl⟩ := Int.eq_ofNat_of_zero_le h0.1
    have hk : k < l.length := by omega
    obtain ⟨k1, k2⟩ := tagArr_at l k hk
    rw [← cellAt (h.pick 1).get_blk] at k1 k2
    have hf := frozen_of_row w g (k * 2 + 1) _ _ (h.pick 1).get_blk
    have hset := tagArr_set2 l k hk (l[k].2 + 1)
    have e : Tags.raise l k = if l[k].1 ≠ 0 then (19, l) else if 1048575 ≤ l[k].2 then (6, l) else (0, l.set k (l[k].1, l[k].2 + 1)) := by unfold Tags.raise; rw [if_neg (by omega)]; simp [hk]
    have hr := HM.out.raise k hk (l[k].2 + 1)
    have hgb := hgen l[k] (List.getElem_mem hk)
    rw [e]
    have HS := Lib.hid hset
    have HR := Lib.hid hr
    clear e hset hr h0 hgen
    by_cases hz : l[k].1 = 0
    · rw [if_neg (by simpa using hz)]
      rw [hz] at k1 HS HR
      rw [hz]
      clear hz
      by_cases hg : 1048575 ≤ l[k].2
      · rw [if_pos hg]
        go_enter Try.func42, Try.ntmps42
        go_wp2
        go_ret
        exact ⟨rfl, hw⟩
      · rw [if_neg hg]
        go_enter Try.func42, Try.ntmps42
        go_wp2
        go_ret
        refine ⟨rfl, ?_⟩
        have h2 := tags_set h HS.out
        refine shut_tags (g := g) (bm := bm) HR.out ?_
        rw [List.length_set]
        exact h2
    · rw [if_pos hz]
      have hb : (l[k].1 != 0) = true := by simpa using hz
      generalize l[k].1 = x at k1 hb
      go_enter Try.func42, Try.ntmps42
      go_wp2
      go_ret
      exact ⟨rfl, hw⟩
  · have e : Tags.raise l i = (2, l) := by unfold Tags.raise; rw [if_pos (by omega)]
    rw [e]
    by_cases h1 : 0 ≤ i
    · have h2 : ¬ i < l.length := by omega
      clear h0
      go_enter Try.func42, Try.ntmps42
      go_wp2
      go_ret
      exact ⟨rfl, hw⟩
    · clear h0
      go_enter Try.func42, Try.ntmps42
      go_wp2
      go_ret
      exact ⟨rfl, hw⟩

end Go.Proofs.Ytfkpcmlajdmnfaa
