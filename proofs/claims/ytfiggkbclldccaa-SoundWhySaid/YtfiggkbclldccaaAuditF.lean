/- Contracts of the reference of chapter 20: Sound, Many. -/
import Derived.Test.YtfiggkbclldccaaAuditE
namespace Go.Proofs.Ytfiggkbclldccaa
open Go Go.RowKit Go.MapKept
set_option maxRecDepth 100000

theorem Audit.refSound_false {l : List ChunkM} {q : List Int} (k : Nat) (hk : k < l.length) (h : Audit.refAt q k l[k] = false) : Audit.refSound l q = false := by
  have : (List.range l.length).all (Audit.refRow l q) = false := by
    rw [List.all_eq_false]
    exact ⟨k, List.mem_range.2 hk, by unfold Audit.refRow; rw [List.getElem?_eq_getElem hk]; simp [h]⟩
  simp only [Audit.refSound, this, Bool.false_and]
theorem Audit.refSound_all {l : List ChunkM} {q : List Int} (h : ∀ j (hj : j < l.length), Audit.refAt q j l[j] = true) : Audit.refSound l q = q.all fun x => decide (0 ≤ x) && decide (x < l.length) := by
  have : (List.range l.length).all (Audit.refRow l q) = true := by
    rw [List.all_eq_true]
    intro i hi
    have hi' := List.mem_range.1 hi
    unfold Audit.refRow
    rw [List.getElem?_eq_getElem hi']
    exact h i hi'
  simp only [Audit.refSound, this, Bool.true_and]

theorem ref20_Sound (v vw : Value) (l : List ChunkM) (q : List Int) (w : World) (F : List HProp) (hl : l.length ≤ 1000000) (hq : q.length ≤ 1000000) (hw : holds w (roChunks v l :: roInts vw q :: F)) :
    Calls Try.prog 35 #[v, vw] w fun e w' => e = .returned (.bool (Audit.refSound l q)) ∧ holds w' (roChunks v l :: roInts vw q :: F) := by
  obtain ⟨r, hr⟩ : ∃ r, Audit.refSound l q = r := ⟨_, rfl⟩
  rw [hr]
  obtain ⟨a, cap, rfl, hcap⟩ := roChunks_form hw
  obtain ⟨a', cap', rfl, hcap'⟩ := roInts_form (hw.pick 1)
  have HR := Lib.hid hr
  clear hr
  go_enter Try.func35, Try.ntmps35
  go_wp2_with fail
  go_loopw [5] (fun i wr => ∃ k : Nat, k ≤ l.length ∧ i = .int .i64 k ∧ (∀ j (h : j < k) (hj : j < l.length), Audit.refAt q j l[j] = true) ∧ holds wr (roChunks (.slice a l.length cap) l :: roInts (.slice a' q.length cap') q :: F)) (fun i _ => l.length - (intOf i).toNat)
  case atStart => exact ⟨0, Nat.zero_le _, rfl, fun j h => by omega, hw⟩
  case round =>
    obtain ⟨k, hk, rfl, hall, h2⟩ := hrel
    have HA := Lib.hid hall
    clear hall
    by_cases hlt : k < l.length
    · obtain ⟨g, off, cap2, hv, _, hcs⟩ := h2.chunkAt (by omega)
      cases hv
      go_wp2_with fail
      refine (ref20_times _ q _ _ _ (by omega) (h2.order [1, 0])).mono ?_
      rintro e w1 ⟨rfl, h3⟩
      replace h3 := h3.order [1, 0]
      obtain ⟨g, off, cap2, hv, _, hcs⟩ := h3.chunkAt (by omega)
      cases hv
      obtain ⟨c0, c1, c2⟩ := hcs k hlt
      clear hcs
      have hfalse := @Audit.refSound_false l q k hlt
      have ho := fun w F hw => ref20_One l[k] w F hw
      have hle : q.count (k : Int) ≤ q.length := List.count_le_length
      have hat : Audit.refAt q k l[k] = (Audit.one l[k] && !(l[k].phase == 2 && q.count (k : Int) != 1) && !(l[k].phase != 2 && q.count (k : Int) != 0)) := rfl
      obtain ⟨c, hc⟩ : ∃ c, l[k] = c := ⟨_, rfl⟩
      rw [hc] at hat c0 c1 c2
      rw [hc] at ho
      rw [hc] at hfalse
      have HC := Lib.hid hc
      clear hc
      generalize q.count (k : Int) = n at hat hle
      generalize hone : Audit.one c = o at ho hat
      have HO := Lib.hid ho
      have HF := Lib.hid hfalse
      have HAT := Lib.hid hat
      clear ho hfalse hat hone
      obtain ⟨p, ow, ge⟩ := c
      simp only at c0 c1 c2 HAT
      cases o with
      | false =>
        go_wp2_with fail
        refine (HO.out _ _ h3).mono ?_
        rintro e w2 ⟨rfl, h4⟩
        go_wp2_with fail
        go_ret
        exact ⟨by rw [← HR.out, HF.out (by rw [HAT.out]; simp)]; rfl, h4⟩
      | true =>
        go_wp2_with fail
        refine (HO.out _ _ h3).mono ?_
        rintro e w2 ⟨rfl, h4⟩
        obtain ⟨g', off', cap3, hv, _, hcs⟩ := h4.chunkAt (by omega)
        cases hv
        obtain ⟨d0, _, _⟩ := hcs k hlt
        rw [HC.out] at d0
        simp only at d0
        clear hcs c0 c1 c2 h3
        by_cases hp : p = 2
        · subst hp
          by_cases hn : n = 1
          · subst hn
            go_wp2_with fail
            go_roundw
            case rel =>
              refine ⟨k + 1, by omega, by go_num, fun j h hj => ?_, h4⟩
              by_cases hjk : j = k
              · subst hjk; rw [HC.out, HAT.out]; rfl
              · exact HA.out j (by omega) hj
            case measure => simp [intOf]; omega
          · have hb : ((n : Int) != 1) = true := by simp; omega
            go_wp2_with fail
            go_ret
            exact ⟨by rw [← HR.out, HF.out (by rw [HAT.out]; simp [hn])]; rfl, h4⟩
        · have hpb : (p == 2) = false := by simpa using hp
          have hpb2 : (p != 2) = true := by simpa using hp
          by_cases hn : n = 0
          · subst hn
            go_wp2_with fail
            go_roundw
            case rel =>
              refine ⟨k + 1, by omega, by go_num, fun j h hj => ?_, h4⟩
              by_cases hjk : j = k
              · subst hjk; rw [HC.out, HAT.out]; simp [hp]
              · exact HA.out j (by omega) hj
            case measure => simp [intOf]; omega
          · have hb : ((n : Int) != 0) = true := by simp; omega
            go_wp2_with fail
            go_ret
            exact ⟨by rw [← HR.out, HF.out (by rw [HAT.out]; simp [hn, hp])]; rfl, h4⟩
    · have hkk : k = l.length := by omega
      have hfin := Audit.refSound_all (q := q) (fun j hj => HA.out j (by omega) hj)
      have HF := Lib.hid hfin
      clear hfin
      go_wp2_with fail
      go_loopw [7] (fun i wr2 => ∃ m : Nat, m ≤ q.length ∧ i = .int .i64 m ∧ (∀ x ∈ q.take m, 0 ≤ x ∧ x < l.length) ∧ holds wr2 (roChunks (.slice a l.length cap) l :: roInts (.slice a' q.length cap') q :: F)) (fun i _ => q.length - (intOf i).toNat)
      case atStart => exact ⟨0, Nat.zero_le _, rfl, by simp, h2⟩
      case round =>
        obtain ⟨m, hm, rfl, hall, h3⟩ := hrel
        have HB := Lib.hid hall
        clear hall
        by_cases hlm : m < q.length
        · obtain ⟨g, off, cap2, hv, _, hcs⟩ := (h3.pick 1).roIntAt (by omega)
          cases hv
          have c0 := hcs m hlm
          have ht := List.take_succ_eq_append_getElem hlm
          obtain ⟨x, hx⟩ : ∃ x, q[m] = x := ⟨_, rfl⟩
          rw [hx] at c0 ht
          have hmem : x ∈ q := by rw [← hx]; exact List.getElem_mem hlm
          have HT := Lib.hid ht
          have HM := Lib.hid hmem
          clear hcs hx ht hmem
          by_cases hx0 : x < 0
          · go_wp2_with fail
            go_ret
            refine ⟨?_, h3⟩
            rw [← HR.out, HF.out]
            have : (q.all fun x => decide (0 ≤ x) && decide (x < l.length)) = false := by
              rw [List.all_eq_false]
              exact ⟨x, HM.out, by simp; omega⟩
            rw [this]; rfl
          · by_cases hx1 : x < l.length
            · go_wp2_with fail
              go_roundw
              case rel =>
                refine ⟨m + 1, by omega, by go_num, fun y hy => ?_, h3⟩
                rw [HT.out, List.mem_append] at hy
                rcases hy with hy | hy
                · exact HB.out y hy
                · simp at hy; omega
              case measure => simp [intOf]; omega
            · go_wp2_with fail
              go_ret
              refine ⟨?_, h3⟩
              rw [← HR.out, HF.out]
              have : (q.all fun x => decide (0 ≤ x) && decide (x < l.length)) = false := by
                rw [List.all_eq_false]
                exact ⟨x, HM.out, by simp; omega⟩
              rw [this]; rfl
        · have hqm : q.take m = q := List.take_of_length_le (by omega)
          go_wp2_with fail
          go_ret
          refine ⟨?_, h3⟩
          rw [← HR.out, HF.out]
          have hb := HB.out
          rw [hqm] at hb
          have : (q.all fun x => decide (0 ≤ x) && decide (x < l.length)) = true := by
            rw [List.all_eq_true]
            intro x hx
            have := hb x hx
            simp; omega
          rw [this]; rfl

end Go.Proofs.Ytfiggkbclldccaa
