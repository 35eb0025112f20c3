/- The reference of chapter 6 does what slots do: one state, said twice. -/
import Derived.Test.YtfiggkbclldccaaGreatRef06E
import Derived.Test.YtfiggkbclldccaaGreatSlotsC
import Derived.Test.YtfiggkbclldccaaGreatAscend
namespace Go.Proofs.YtfiggkbclldccaaGreat
open Go Go.RowKit Go.MapKept
set_option maxRecDepth 100000
set_option linter.unusedVariables false
set_option linter.unusedSimpArgs false

def openBools (s : SlotsM) : List Bool := (List.range s.gens.length).map fun (i : Nat) => (alGet s.opn (i : Int)).getD false
theorem ob_len (s : SlotsM) : (openBools s).length = s.gens.length := by simp [openBools]
theorem ob_get (s : SlotsM) (i : Nat) (h : i < (openBools s).length) : (openBools s)[i] = (alGet s.opn (i : Int)).getD false := by simp [openBools]
theorem ob_getD (s : SlotsM) (hok : s.ok) (i : Nat) : (openBools s).getD i false = (alGet s.opn (i : Int)).getD false := by
  by_cases h : i < (openBools s).length
  · rw [List.getD_eq_getElem?_getD, List.getElem?_eq_getElem h, Option.getD_some, ob_get]
  · rw [List.getD_eq_getElem?_getD, List.getElem?_eq_none (by omega), Option.getD_none]
    cases hg : alGet s.opn (i : Int) with
    | none => rfl
    | some b => have := (hok.opn _ _ hg).2; rw [ob_len] at h; omega
theorem ob_right {s : SlotsM} (hok : s.ok) (p g : Int) : sRight (openBools s) s.gens p g = s.right p g := by
  unfold sRight SlotsM.right
  rw [ob_len]
  by_cases h : 0 ≤ p ∧ p < s.gens.length
  · obtain ⟨n, rfl⟩ := Int.eq_ofNat_of_zero_le h.1
    rw [decide_eq_true h, Bool.true_and, Int.toNat_natCast, ob_getD s hok]
  · rw [decide_eq_false h, Bool.false_and]
    cases hg : alGet s.opn p with
    | none => rfl
    | some b => exact absurd (hok.opn _ _ hg) h
theorem ob_set {s s' : SlotsM} (p : Nat) (x : Bool) (hl : s'.gens.length = s.gens.length) (h : ∀ q : Int, 0 ≤ q → (alGet s'.opn q).getD false = if q = p then x else (alGet s.opn q).getD false) : openBools s' = (openBools s).set p x := by
  apply List.ext_getElem
  · simp [ob_len, hl]
  · intro i h1 h2
    rw [ob_get, h i (by omega), List.getElem_set, ob_get]
    by_cases e : i = p
    · subst e; simp
    · rw [if_neg (by omega), if_neg (by omega)]
theorem ob_close {s : SlotsM} (hok : s.ok) (p : Nat) : openBools (s.closeAt p) = (openBools s).set p false := by
  refine ob_set p false (by simp [SlotsM.closeAt]) fun q hq => ?_
  simp only [SlotsM.closeAt]
  rw [alGet_del _ _ _ hok.nodup]
  by_cases e : q = (p : Int)
  · rw [if_pos e, if_pos e]; rfl
  · rw [if_neg e, if_neg e]
theorem ob_open {s s' : SlotsM} (p : Nat) (hg : s'.gens = s.gens) (ho : s'.opn = alSet s.opn (p : Int) true) : openBools s' = (openBools s).set p true := by
  refine ob_set p true (by rw [hg]) fun q hq => ?_
  rw [ho, alGet_set]
  by_cases e : q = (p : Int)
  · rw [if_pos e, if_pos e]; rfl
  · rw [if_neg e, if_neg e]
theorem openTo_rises (O : List Bool) (k : Nat) : (openTo O k).Pairwise (· < ·) := by
  unfold openTo
  rw [List.pairwise_map]
  refine List.Pairwise.filter _ ?_
  exact (List.pairwise_lt_range).imp fun h => by omega
theorem openTo_ob {s : SlotsM} {k : Nat} (h : s.Good k) : openTo (openBools s) (openBools s).length = sortInts (alKeys s.opn) := by
  refine rising_eq _ _ (openTo_rises _ _) (sortInts_rises h.ok.nodup) fun x => ?_
  rw [mem_sortInts]
  unfold openTo
  simp only [List.mem_map, List.mem_filter, List.mem_range]
  constructor
  · rintro ⟨i, ⟨hi, hb⟩, rfl⟩
    rw [ob_getD s h.ok] at hb
    cases hg : alGet s.opn (i : Int) with
    | none => rw [hg] at hb; simp at hb
    | some b => exact alGet_mem hg
  · intro hx
    obtain ⟨b, hb⟩ := alGet_of_mem hx
    have hr := h.ok.opn _ _ hb
    obtain ⟨n, rfl⟩ := Int.eq_ofNat_of_zero_le hr.1
    refine ⟨n, ⟨by rw [ob_len]; omega, ?_⟩, rfl⟩
    rw [ob_getD s h.ok, hb]
    exact h.val _ _ hb
theorem alKeys_len {β : Type} (m : List (Int × β)) : (alKeys m).length = m.length := by simp [alKeys]
theorem ob_opens {s : SlotsM} {k : Nat} (h : s.Good k) : (openTo (openBools s) (openBools s).length).length = s.opn.length := by
  rw [openTo_ob h, sortInts, List.length_mergeSort, alKeys_len]

theorem rs_Right (w : World) (vo vg vc : Value) (s : SlotsM) (p g : Int) (F : List HProp) (hok : s.ok) (hw : holds w (roBools vo (openBools s) :: roInts vg s.gens :: roInts vc s.closed :: F)) :
    Calls Tryz.prog 250 #[.agg #[vo, vg, vc, .int .i64 s.fresh], .int .i64 p, .int .i64 g] w fun e w' => e = .returned (.bool (s.right p g)) ∧ holds w' (roBools vo (openBools s) :: roInts vg s.gens :: roInts vc s.closed :: F) := by
  obtain ⟨a4, c4, rfl, _⟩ := roInts_form (hw.pick 2)
  have := ref06_Right w vo vg a4 s.closed.length c4 (openBools s) s.gens s.fresh p g _ (by rw [ob_len]; exact hok.size) (ob_len s) hw
  rw [ob_right hok] at this
  exact this

theorem rs_Close (w : World) (vo vg vc : Value) (s : SlotsM) (k : Nat) (p g : Int) (F : List HProp) (hg : s.Good k) (hk : k ≤ 1000) (hw : holds w (roBools vo (openBools s) :: roInts vg s.gens :: roInts vc s.closed :: F)) :
    Calls Tryz.prog 188 #[.agg #[vo, vg, vc, .int .i64 s.fresh], .int .i64 p, .int .i64 g] w fun e w' => ∃ vo' vg' vc', e = .returned (.tuple #[.agg #[vo', vg', vc', .int .i64 (if s.right p g then s.closeAt p else s).fresh], .bool (s.right p g)]) ∧ holds w' (roBools vo' (openBools (if s.right p g then s.closeAt p else s)) :: roInts vg' (if s.right p g then s.closeAt p else s).gens :: roInts vc' (if s.right p g then s.closeAt p else s).closed :: F) := by
  cases hr : s.right p g with
  | false =>
    simp only [Bool.false_eq_true, if_false]
    obtain ⟨a4, c4, rfl, _⟩ := roInts_form (hw.pick 2)
    exact (ref06_Close_no w vo vg a4 s.closed.length c4 (openBools s) s.gens s.fresh p g _ (by rw [ob_len]; exact hg.ok.size) (ob_len s) (by rw [ob_right hg.ok]; exact hr) hw).mono fun e w' ⟨he, h⟩ => ⟨_, _, _, he, h⟩
  | true =>
    simp only [if_true]
    obtain ⟨_, h0, h1, h2⟩ := SlotsM.right_open hg.ok hr
    obtain ⟨n, rfl⟩ := Int.eq_ofNat_of_zero_le h0
    have hgl : 0 ≤ g ∧ g ≤ 1000000000 := by
      have hm : s.gens.getD n 0 ∈ s.gens := by rw [List.getD_eq_getElem?_getD, List.getElem?_eq_getElem (by omega)]; simp
      have := hg.gens _ hm
      rw [Int.toNat_natCast] at h2
      rw [h2] at this
      omega
    have hcl := hg.clen
    refine (ref06_Close_yes w vo vg vc (openBools s) s.gens s.closed s.fresh n g _ (by rw [ob_len]; exact hg.ok.size) (ob_len s) (by omega) (by rw [ob_len]; omega) hgl (by rw [ob_right hg.ok]; exact hr) hw).mono ?_
    rintro e w' ⟨vo', vg', vc', rfl, h⟩
    refine ⟨vo', vg', vc', rfl, ?_⟩
    rw [ob_close hg.ok]
    simp only [SlotsM.closeAt]
    rw [h2, Int.toNat_natCast]
    exact h

theorem rs_Open (w : World) (vo vg vc : Value) (s : SlotsM) (k : Nat) (F : List HProp) (hg : s.Good k) (hk : k ≤ 1000) (hw : holds w (roBools vo (openBools s) :: roInts vg s.gens :: roInts vc s.closed :: F)) :
    Calls Tryz.prog 179 #[.agg #[vo, vg, vc, .int .i64 s.fresh]] w fun e w' => ∃ vo' vg' vc', e = .returned (.tuple #[.agg #[vo', vg', vc', .int .i64 s.opened.fresh], .int .i64 s.told.1, .int .i64 s.told.2.1, .bool s.told.2.2]) ∧ holds w' (roBools vo' (openBools s.opened) :: roInts vg' s.opened.gens :: roInts vc' s.opened.closed :: F) := by
  have hO : (openBools s).length ≤ 1048576 := by rw [ob_len]; exact hg.ok.size
  have hcl := hg.clen
  have hfr := hg.ok.fresh
  by_cases hc : s.closed.length > 0
  · obtain ⟨p, hp⟩ : ∃ p, s.closed.getD (s.closed.length - 1) 0 = p := ⟨_, rfl⟩
    obtain ⟨C, hC⟩ : ∃ C, s.closed.take (s.closed.length - 1) = C := ⟨_, rfl⟩
    have hpk : s.pick = some (p, { s with closed := C }) := by unfold SlotsM.pick; rw [if_pos hc, hp, hC]
    have e1 : s.told = (p, s.gens.getD p.toNat 0, true) := by unfold SlotsM.told; rw [hpk]
    have e2 : s.opened = { s with closed := C, opn := alSet s.opn p true } := by unfold SlotsM.opened; rw [hpk]
    obtain ⟨_, h0, h1, _, _⟩ := SlotsM.pick_ok hg.ok hpk
    obtain ⟨n, rfl⟩ := Int.eq_ofNat_of_zero_le h0
    have hs : s.closed = C ++ [(n : Int)] := by
      have hne : s.closed ≠ [] := by intro h; rw [h] at hc; simp at hc
      rw [← hC, ← List.dropLast_eq_take, ← hp, List.getD_eq_getElem?_getD, List.getElem?_eq_getElem (by omega), Option.getD_some]
      have := (List.dropLast_concat_getLast hne).symm
      rw [List.getLast_eq_getElem] at this
      exact this
    rw [hs] at hw
    simp only at h1
    have hCl : C.length ≤ 1048576 := by rw [← hC, List.length_take]; omega
    refine (ref06_Open_closed w vo vg vc (openBools s) s.gens C s.fresh n F hO (ob_len s) hCl (by rw [ob_len]; omega) hw).mono ?_
    rintro e w' ⟨vo', vg', vc', rfl, h⟩
    rw [e1, e2]
    refine ⟨vo', vg', vc', rfl, ?_⟩
    rw [ob_open (s := s) (s' := { s with closed := C, opn := alSet s.opn n true }) n rfl rfl]
    exact h
  · have hc0 : s.closed = [] := List.eq_nil_of_length_eq_zero (by omega)
    rw [hc0] at hw
    by_cases hf : s.fresh < s.gens.length
    · obtain ⟨n, hn⟩ := Int.eq_ofNat_of_zero_le hfr.1
      have hpk : s.pick = some ((n : Int), { s with fresh := (n : Int) + 1 }) := by unfold SlotsM.pick; rw [if_neg hc, if_pos hf, hn]
      have e1 : s.told = ((n : Int), s.gens.getD n 0, true) := by unfold SlotsM.told; rw [hpk]; rfl
      have e2 : s.opened = { s with fresh := (n : Int) + 1, opn := alSet s.opn n true } := by unfold SlotsM.opened; rw [hpk]
      rw [hn]
      refine (ref06_Open_fresh w vo vg vc (openBools s) s.gens n F hO (ob_len s) (by rw [ob_len]; omega) hw).mono ?_
      rintro e w' ⟨vo', vg', vc', rfl, h⟩
      rw [e1, e2]
      refine ⟨vo', vg', vc', rfl, ?_⟩
      rw [ob_open (s := s) (s' := { s with fresh := (n : Int) + 1, opn := alSet s.opn n true }) n rfl rfl]
      simp only [hc0]
      exact h
    · have hpk : s.pick = none := by unfold SlotsM.pick; rw [if_neg hc, if_neg hf]
      have e1 : s.told = (0, 0, false) := by unfold SlotsM.told; rw [hpk]
      have e2 : s.opened = s := by unfold SlotsM.opened; rw [hpk]
      refine (ref06_Open_full w vo vg vc (openBools s) s.gens s.fresh F hO (by rw [ob_len]; omega) hw).mono ?_
      rintro e w' ⟨vo', vg', vc', rfl, h⟩
      rw [e1, e2]
      refine ⟨vo', vg', vc', rfl, ?_⟩
      rw [hc0]
      exact h

theorem rs_Places (w : World) (vo vg vc : Value) (s : SlotsM) (k : Nat) (F : List HProp) (hg : s.Good k) (hw : holds w (roBools vo (openBools s) :: roInts vg s.gens :: roInts vc s.closed :: F)) :
    Calls Tryz.prog 101 #[.agg #[vo, vg, vc, .int .i64 s.fresh]] w fun e w' => ∃ a c, e = .returned (.slice a s.opn.length c) ∧ holds w' (roInts (.slice a s.opn.length c) (sortInts (alKeys s.opn)) :: roBools vo (openBools s) :: roInts vg s.gens :: roInts vc s.closed :: F) := by
  obtain ⟨a2, c2, rfl, _⟩ := roInts_form (hw.pick 1)
  obtain ⟨a4, c4, rfl, _⟩ := roInts_form (hw.pick 2)
  have := ref06_Places w vo vo a4 s.closed.length c4 (openBools s) s.fresh _ a2 s.gens.length c2 (by rw [ob_len]; exact hg.ok.size) hw
  rw [ob_opens hg, openTo_ob hg] at this
  exact this
end Go.Proofs.YtfiggkbclldccaaGreat
