/- Contracts of package copyholdbase. -/
import Derived.Test.YtfiggkbclldccaaSepD
namespace Go.Proofs.Ytfiggkbclldccaa
open Go Go.RowKit Go.MapKept
set_option maxRecDepth 100000

theorem eq_of_all {a b : List Int} (hl : a.length = b.length) (h : ∀ i (h1 : i < a.length) (h2 : i < b.length), a[i] = b[i]) : a = b := List.ext_getElem hl h

theorem base_SameInts (w : World) (va vb : Value) (a b : List Int) (F : List HProp) (ha : a.length ≤ 1000000000) (hw : holds w (roInts va a :: roInts vb b :: F)) :
    Calls Try.prog 13 #[va, vb] w fun e w' => e = .returned (.bool (decide (a = b))) ∧ holds w' (roInts va a :: roInts vb b :: F) := by
  obtain ⟨r, hr⟩ : ∃ r, decide (a = b) = r := ⟨_, rfl⟩
  rw [hr]
  have HR := Lib.hid hr
  clear hr
  obtain ⟨pa, ca, rfl, hca⟩ := roInts_form hw
  obtain ⟨pb, cb, rfl, hcb⟩ := roInts_form (hw.pick 1)
  by_cases hl : a.length = b.length
  · have hlb : ((a.length : Int) != b.length) = false := by rw [hl]; simp
    have HL := Lib.hid hl
    go_enter Try.func13, Try.ntmps13
    clear hl
    go_wp2_with fail
    go_loopw [5] (fun i wr => ∃ k : Nat, k ≤ a.length ∧ i = .int .i64 k ∧ (∀ i (h : i < k) (h1 : i < a.length) (h2 : i < b.length), a[i] = b[i]) ∧ holds wr (roInts (.slice pa a.length ca) a :: roInts (.slice pb b.length cb) b :: F)) (fun i _ => a.length - (intOf i).toNat)
    case atStart => exact ⟨0, Nat.zero_le _, rfl, fun i h => by omega, hw⟩
    case round =>
      obtain ⟨k, hk, rfl, hall, h2⟩ := hrel
      have HA := Lib.hid hall
      clear hall
      by_cases hlt : k < a.length
      · have hltb : k < b.length := by rw [← HL.out]; exact hlt
        obtain ⟨ga, oa, c1, hv, _, ca1⟩ := h2.roIntAt (by omega)
        cases hv
        obtain ⟨gb, ob, c2, hv, _, cb1⟩ := (h2.pick 1).roIntAt (by omega)
        cases hv
        have x1 := ca1 k hlt
        have x2 := cb1 k hltb
        clear ca1 cb1
        obtain ⟨x, hx⟩ : ∃ x, a[k] = x := ⟨_, rfl⟩
        obtain ⟨y, hy⟩ : ∃ y, b[k] = y := ⟨_, rfl⟩
        rw [hx] at x1
        rw [hy] at x2
        have HX := Lib.hid hx
        have HY := Lib.hid hy
        clear hx hy
        by_cases hxy : x = y
        · subst hxy
          go_wp2_with fail
          go_quiet (fail)
          go_wp2_with fail
          go_roundw
          case rel =>
            refine ⟨k + 1, by omega, by go_num, fun i h h1 h3 => ?_, h2.drewN _⟩
            by_cases hik : i = k
            · subst hik; exact HX.out.trans HY.out.symm
            · exact HA.out i (by omega) h1 h3
          case measure => simp [intOf]; omega
        · have hb : (x != y) = true := by simpa using hxy
          go_wp2_with fail
          go_quiet (fail)
          go_wp2_with fail
          go_ret
          refine ⟨?_, h2.drewN _⟩
          rw [← HR.out]
          have : ¬ a = b := fun e => by
            have h3 := HX.out
            have h4 := HY.out
            subst e
            exact hxy (h3.symm.trans h4)
          simp [this]
      · have hkk : k = a.length := by omega
        go_wp2_with fail
        go_ret
        refine ⟨?_, h2⟩
        rw [← HR.out]
        have : a = b := eq_of_all HL.out fun i h1 h3 => HA.out i (by omega) h1 h3
        simp [this]
  · have hlb : ((a.length : Int) != b.length) = true := by simp; omega
    have HL := Lib.hid hl
    clear hl
    go_enter Try.func13, Try.ntmps13
    go_wp2_with fail
    go_ret
    refine ⟨?_, hw⟩
    rw [← HR.out]
    have : ¬ a = b := fun e => HL.out (by rw [e])
    simp [this]

end Go.Proofs.Ytfiggkbclldccaa
