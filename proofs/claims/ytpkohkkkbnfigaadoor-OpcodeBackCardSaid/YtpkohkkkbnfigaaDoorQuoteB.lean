/- Contract of quote.Text; the example. -/
import Derived.Test.YtpkohkkkbnfigaaDoorQuoteR
import Derived.Test.YtpkohkkkbnfigaaDoorBuilder
import Derived.StillTailTactics
namespace Go.Proofs.YtpkohkkkbnfigaaDoor
open Go Go.RowKit Go.MapKept
set_option maxRecDepth 100000
set_option linter.unusedVariables false
attribute [local go_sem] exactUpon looseUpon

theorem and15 (c : UInt8) : Go.bits BinOp.and IntKind.u8 (c.toNat : Int) 15 = ((c.toNat % 16 : Nat) : Int) := by
  refine u8_all (p := fun c => Go.bits BinOp.and IntKind.u8 (c.toNat : Int) 15 = ((c.toNat % 16 : Nat) : Int)) ?_ c
  decide +kernel
set_option maxHeartbeats 1000000 in
theorem quote_Text (w : World) (l : List UInt8) (hl : l.length ≤ 1000000) (F : List HProp) (hw : holds w F) :
    Calls Tryd.prog 63 #[.string (bs l)] w fun e w' => e = .returned (.string (bs (quoted l))) ∧ holds w' F := by
  have q3 := bs_size l
  have h0 := ownB_nil (hw.alloc (.cells #[.pointer none, .slice none 0 0] 110 (0, 0)))
  have h0 : holds (w.alloc (.cells #[.pointer none, .slice none 0 0] 110)) (bld w.heap.size none (.slice none 0 0) :: ownB (.slice none 0 0) [] :: F) := h0.order [1, 0]
  go_enter Tryd.func63, Tryd.ntmps63
  go_wp2_with fail
  generalize w.alloc (.cells #[.pointer none, .slice none 0 0] 110) = w0 at h0 ⊢
  generalize w.heap.size = b at h0 ⊢
  refine (bld_WriteByte _ b _ _ [] 34 F (.inl rfl) (by simp) h0).mono ?_
  rintro e w1 ⟨rfl, v1, h1⟩
  go_wp2_with fail
  go_loopw [9] (fun i wr => ∃ (k : Nat) (v : Value), k ≤ l.length ∧ i = .int .i64 k ∧ holds wr (bld b (some ⟨b, 0, none⟩) v :: ownB v (34 :: (l.take k).flatMap one) :: F)) (fun i _ => l.length - (intOf i).toNat)
  case atStart => exact ⟨0, v1, Nat.zero_le _, rfl, h1⟩
  case round =>
    obtain ⟨k, v, hk, rfl, h2⟩ := hrel
    have hol := ones_le (l.take k)
    rw [List.length_take] at hol
    by_cases hlt : k < l.length
    · have hft := flatMap_take hlt
      have h1l := one_le l[k]
      obtain ⟨c, hc⟩ : ∃ c, l[k] = c := ⟨_, rfl⟩
      rw [hc] at hft h1l
      have x1 : ∀ h, (bs l)[k]'h = c := fun h => by rw [bs_at]; exact hc
      clear hc
      generalize (l.take k).flatMap one = t at hft hol h2
      have HF := Lib.hid hft
      clear hft
      by_cases c34 : c = 34
      · subst c34
        go_wp2_with fail
        refine (bld_WriteByte _ b _ _ _ 92 F (.inr rfl) (by simp only [List.length_cons]; omega) h2).mono ?_
        rintro e w3 ⟨rfl, v3, h3⟩
        go_wp2_with fail
        refine (bld_WriteByte _ b _ _ _ 34 F (.inr rfl) (by simp only [List.length_cons, List.length_append, List.length_nil]; omega) h3).mono ?_
        rintro e w4 ⟨rfl, v4, h4⟩
        go_wp2_with fail
        go_roundw
        case rel => exact ⟨k + 1, v4, by omega, by go_num, by rw [HF.out]; simpa [one] using h4⟩
        case measure => simp [intOf]; omega
      · have m1 : ((c.toNat : Int) == 34) = false := neq_u8 (n := 34) (by omega) c34
        by_cases c92 : c = 92
        · subst c92
          go_wp2_with fail
          refine (bld_WriteByte _ b _ _ _ 92 F (.inr rfl) (by simp only [List.length_cons]; omega) h2).mono ?_
          rintro e w3 ⟨rfl, v3, h3⟩
          go_wp2_with fail
          refine (bld_WriteByte _ b _ _ _ 92 F (.inr rfl) (by simp only [List.length_cons, List.length_append, List.length_nil]; omega) h3).mono ?_
          rintro e w4 ⟨rfl, v4, h4⟩
          go_wp2_with fail
          go_roundw
          case rel => exact ⟨k + 1, v4, by omega, by go_num, by rw [HF.out]; simpa [one] using h4⟩
          case measure => simp [intOf]; omega
        · have m2 : ((c.toNat : Int) == 92) = false := neq_u8 (n := 92) (by omega) c92
          by_cases h3 : 32 ≤ c ∧ c ≤ 126
          · have e1 : one c = [c] := by unfold one; rw [if_neg (by simp [c34, c92]), if_pos h3]
            have g1 : (32 : Int) ≤ c.toNat := by have := le_nat.1 h3.1; simp at this; omega
            have g2 : (c.toNat : Int) ≤ 126 := by have := le_nat.1 h3.2; simp at this; omega
            have E1 := Lib.hid e1
            clear c34 c92 h3 e1
            go_wp2_with fail
            refine (bld_WriteByte _ b _ _ _ c F (.inr rfl) (by simp only [List.length_cons]; omega) h2).mono ?_
            rintro e w3 ⟨rfl, v3, h3⟩
            go_wp2_with fail
            go_roundw
            case rel => exact ⟨k + 1, v3, by omega, by go_num, by rw [HF.out, E1.out]; simpa using h3⟩
            case measure => simp [intOf]; omega
          · have e1 : one c = [92, 120, hexd (c.toNat / 16), hexd (c.toNat % 16)] := by unfold one; rw [if_neg (by simp [c34, c92]), if_neg h3]
            have hc := c.toNat_lt
            have hno : ¬ (32 ≤ c.toNat ∧ c.toNat ≤ 126) := fun h => h3 ⟨le_nat.2 h.1, le_nat.2 h.2⟩
            have E1 := Lib.hid e1
            clear c34 c92 h3 e1
            have k1 : c.toNat / 16 < 16 := by omega
            have k2 : c.toNat % 16 < 16 := by omega
            have w1 : (c.toNat : Int) / 16 = ((c.toNat / 16 : Nat) : Int) := by omega
            have y1 := hexAt _ k1
            have y2 := hexAt _ k2
            have q1 := fun w => convLd w #[.int .u8 (hexd (c.toNat / 16)).toNat, .int .u8 (hexd (c.toNat % 16)).toNat] 2 [hexd (c.toNat / 16), hexd (c.toNat % 16)] rfl rfl
            generalize hexd (c.toNat / 16) = x at y1 E1 q1
            generalize hexd (c.toNat % 16) = y at y2 E1 q1
            generalize c.toNat / 16 = m at k1 w1 y1
            have w2 := and15 c
            generalize c.toNat % 16 = r at k2 w2 y2
            have i1 : (m : Int) < 16 := by omega
            have i2 : (r : Int) < 16 := by omega
            by_cases hh : (32 : Int) ≤ c.toNat
            · have hh2 : decide ((c.toNat : Int) ≤ 126) = false := decide_eq_false fun h => hno ⟨by omega, by omega⟩
              clear hno
              go_wp2_with fail
              go_still_tail 6, (by kernel_rfl)
              have sz : ¬ 9223372036854775807 < (bs [92, 120]).size + (bs [x, y]).size := fitS (by simp)
              have q2 := convL wr.drew #[.int .u8 x.toNat, .int .u8 y.toNat] 2 [x, y] rfl rfl
              change wpList _ _ _ _ _ wr.drew
              have h3 := (h2.drew.alloc (.cells #[.int .u8 (x.toNat : Int), .int .u8 (y.toNat : Int)] 5 (0, 0))).tail
              have ap := bs_append
              rw [show (Value.string { data := #[92, 120] }) = Value.string (bs [92, 120]) from rfl]
              go_wp2_with fail
              refine (bld_WriteString _ b _ _ _ [92, 120, x, y] F (.inr rfl) (by simp only [List.length_cons, List.length_nil]; omega) h3).mono ?_
              rintro e w4 ⟨rfl, v4, h4⟩
              go_wp2_with fail
              go_roundw
              case rel => exact ⟨k + 1, v4, by omega, by go_num, by rw [HF.out, E1.out]; simpa using h4⟩
              case measure => simp [intOf]; omega
            · have hh2 : decide ((32 : Int) ≤ c.toNat) = false := decide_eq_false hh
              clear hno hh
              go_wp2_with fail
              go_still_tail 6, (by kernel_rfl)
              have sz : ¬ 9223372036854775807 < (bs [92, 120]).size + (bs [x, y]).size := fitS (by simp)
              have q2 := convL wr.drew #[.int .u8 x.toNat, .int .u8 y.toNat] 2 [x, y] rfl rfl
              change wpList _ _ _ _ _ wr.drew
              have h3 := (h2.drew.alloc (.cells #[.int .u8 (x.toNat : Int), .int .u8 (y.toNat : Int)] 5 (0, 0))).tail
              have ap := bs_append
              rw [show (Value.string { data := #[92, 120] }) = Value.string (bs [92, 120]) from rfl]
              go_wp2_with fail
              refine (bld_WriteString _ b _ _ _ [92, 120, x, y] F (.inr rfl) (by simp only [List.length_cons, List.length_nil]; omega) h3).mono ?_
              rintro e w4 ⟨rfl, v4, h4⟩
              go_wp2_with fail
              go_roundw
              case rel => exact ⟨k + 1, v4, by omega, by go_num, by rw [HF.out, E1.out]; simpa using h4⟩
              case measure => simp [intOf]; omega
    · have hkl : k = l.length := by omega
      subst hkl
      rw [List.take_length] at hol h2
      rw [Nat.min_self] at hol
      go_wp2_with fail
      refine (bld_WriteByte _ b _ _ _ 34 F (.inr rfl) (by simp only [List.length_cons]; omega) h2).mono ?_
      rintro e w3 ⟨rfl, v3, h3⟩
      go_wp2_with fail
      refine (bld_String _ b _ _ _ F (by simp) (by simp only [List.length_cons, List.length_append, List.length_nil]; omega) h3).mono ?_
      rintro e w4 ⟨rfl, h4⟩
      go_wp2_with fail
      go_ret
      exact ⟨rfl, h4⟩
end Go.Proofs.YtpkohkkkbnfigaaDoor
