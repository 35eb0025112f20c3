/- Contracts of the reference of chapter 12. -/
import Derived.Test.YtpkohkkkbnfigaaDoorQuoteY
namespace Go.Proofs.YtpkohkkkbnfigaaDoor
open Go Go.RowKit Go.MapKept
set_option maxRecDepth 100000
set_option linter.unusedVariables false

theorem hexAt (n : Nat) (h : n < ByteArray.size ⟨#[48, 49, 50, 51, 52, 53, 54, 55, 56, 57, 97, 98, 99, 100, 101, 102]⟩) : (ByteArray.mk #[48, 49, 50, 51, 52, 53, 54, 55, 56, 57, 97, 98, 99, 100, 101, 102])[n] = hexd n := by
  have h' : n < hexL.length := h
  unfold hexd
  rw [List.getD_eq_getElem?_getD, List.getElem?_eq_getElem h']
  rfl
theorem ref12_one (w : World) (c : UInt8) (F : List HProp) (hw : holds w F) :
    Calls Tryd.prog 98 #[u8v c] w fun e w' => e = .returned (.string (bs (one c))) ∧ holds w' F := by
  unfold u8v
  by_cases h1 : c = 34
  · subst h1
    have q1 := convL w #[.int .u8 92, .int .u8 34] 2 [92, 34] rfl rfl
    go_enter Tryd.func98, Tryd.ntmps98
    go_wp2
    go_ret
    exact ⟨rfl, (hw.alloc _).tail⟩
  · by_cases h2 : c = 92
    · subst h2
      have q1 := convL w #[.int .u8 92, .int .u8 92] 2 [92, 92] rfl rfl
      go_enter Tryd.func98, Tryd.ntmps98
      go_wp2
      go_ret
      exact ⟨rfl, (hw.alloc _).tail⟩
    · have n1 : ((c.toNat : Int) == 34) = false := by
        have : c.toNat ≠ 34 := fun e => h1 (UInt8.toNat.inj e)
        simp; omega
      have n2 : ((c.toNat : Int) == 92) = false := by
        have : c.toNat ≠ 92 := fun e => h2 (UInt8.toNat.inj e)
        simp; omega
      by_cases h3 : 32 ≤ c ∧ c ≤ 126
      · have e1 : one c = [c] := by unfold one; rw [if_neg (by simp [h1, h2]), if_pos h3]
        rw [e1]
        have q1 := convL w #[.int .u8 c.toNat] 1 [c] rfl rfl
        have g1 : (32 : Int) ≤ c.toNat := by have := UInt8.le_iff_toNat_le.1 h3.1; simp at this; omega
        have g2 : (c.toNat : Int) ≤ 126 := by have := UInt8.le_iff_toNat_le.1 h3.2; simp at this; omega
        clear h1 h2 h3 e1
        go_enter Tryd.func98, Tryd.ntmps98
        go_wp2
        go_ret
        exact ⟨rfl, (hw.alloc _).tail⟩
      · have e1 : one c = [92, 120, hexd (c.toNat / 16), hexd (c.toNat % 16)] := by unfold one; rw [if_neg (by simp [h1, h2]), if_neg h3]
        rw [e1]
        have hc := c.toNat_lt
        have k1 : c.toNat / 16 < 16 := by omega
        have k2 : c.toNat % 16 < 16 := by omega
        have w1 : IntKind.u8.wrap ((c.toNat : Int) / 16) = ((c.toNat / 16 : Nat) : Int) := by rw [show (c.toNat : Int) / 16 = ((c.toNat / 16 : Nat) : Int) from by omega]; exact IntWalk.u8_in _ (by omega)
        have w2 : (c.toNat : Int) % 16 = ((c.toNat % 16 : Nat) : Int) := by omega
        have g1 : (decide ((32 : Int) ≤ c.toNat) && decide ((c.toNat : Int) ≤ 126)) = false := by
          rw [Bool.and_eq_false_iff]
          by_cases hh : 32 ≤ c.toNat
          · right
            refine decide_eq_false fun h => h3 ⟨UInt8.le_iff_toNat_le.2 (by simpa using hh), UInt8.le_iff_toNat_le.2 (by simp; omega)⟩
          · left; simp; omega
        have q1 := fun w => convLd w #[.int .u8 92, .int .u8 120, .int .u8 (hexd (c.toNat / 16)).toNat, .int .u8 (hexd (c.toNat % 16)).toNat] 4 [92, 120, hexd (c.toNat / 16), hexd (c.toNat % 16)] rfl rfl
        have x1 := hexAt _ k1
        have x2 := hexAt _ k2
        generalize hexd (c.toNat / 16) = a at x1 q1
        generalize hexd (c.toNat % 16) = b at x2 q1
        generalize c.toNat / 16 = m at k1 w1 x1
        generalize c.toNat % 16 = r at k2 w2 x2
        have k1 : (m : Int) < 16 := by omega
        have k2 : (r : Int) < 16 := by omega
        by_cases hh : (32 : Int) ≤ c.toNat
        · have hh2 : decide ((c.toNat : Int) ≤ 126) = false := by simpa [hh] using g1
          clear h1 h2 h3 e1 g1
          go_enter Tryd.func98, Tryd.ntmps98
          go_wp2
          go_region
          go_wp2
          go_ret
          exact ⟨rfl, (hw.alloc _).tail⟩
        · clear h1 h2 h3 e1 g1
          go_enter Tryd.func98, Tryd.ntmps98
          go_wp2
          go_region
          go_wp2
          go_ret
          exact ⟨rfl, (hw.alloc _).tail⟩

theorem flatMap_take {l : List UInt8} {k : Nat} (h : k < l.length) : (l.take (k + 1)).flatMap one = (l.take k).flatMap one ++ one l[k] := by
  rw [List.take_succ_eq_append_getElem h, List.flatMap_append]
  simp
theorem one_le (c : UInt8) : (one c).length ≤ 4 := by
  unfold one
  split
  · simp
  · split <;> simp
theorem ones_le : ∀ l : List UInt8, (l.flatMap one).length ≤ 4 * l.length
  | [] => by simp
  | c :: l => by
    have := ones_le l
    have := one_le c
    simp only [List.flatMap_cons, List.length_append, List.length_cons]
    omega
/-- Two strings are not too long to be put together. -/
theorem fitS {a b : List UInt8} (h : a.length + b.length ≤ 1000000000) : ¬ 9223372036854775807 < (bs a).size + (bs b).size := by
  rw [bs_size, bs_size]; omega
theorem ref12_Text (w : World) (l : List UInt8) (hl : l.length ≤ 1000000) (F : List HProp) (hw : holds w F) :
    Calls Tryd.prog 64 #[.string (bs l)] w fun e w' => e = .returned (.string (bs (quoted l))) ∧ holds w' F := by
  have q1 := fun w => convL w #[.int .u8 34] 1 [34] rfl rfl
  have ap := bs_append
  have q3 := bs_size l
  go_enter Tryd.func64, Tryd.ntmps64
  go_wp2_with fail
  go_loopw [3, 4] (fun o i wr => ∃ (k : Nat), k ≤ l.length ∧ i = .int .i64 k ∧ o = .string (bs (34 :: (l.take k).flatMap one)) ∧ holds wr F) (fun _ i _ => l.length - (intOf i).toNat)
  case atStart => exact ⟨0, Nat.zero_le _, rfl, rfl, (hw.alloc _).tail⟩
  case round =>
    obtain ⟨k, hk, rfl, rfl, h2⟩ := hrel
    have hol := ones_le (l.take k)
    rw [List.length_take] at hol
    by_cases hlt : k < l.length
    · have hft := flatMap_take hlt
      have h1l := one_le l[k]
      obtain ⟨c, hc⟩ : ∃ c, l[k] = c := ⟨_, rfl⟩
      rw [hc] at hft h1l
      have x1 : ∀ h, (bs l)[k]'h = c := fun h => by rw [bs_at]; exact hc
      clear hc
      generalize (l.take k).flatMap one = t at hft hol ⊢
      have HF := Lib.hid hft
      have sz : ¬ 9223372036854775807 < (bs (34 :: t)).size + (bs (one c)).size := fitS (by simp; omega)
      clear hft
      go_wp2_with fail
      refine (ref12_one _ c F h2).mono ?_
      rintro e w3 ⟨rfl, h3⟩
      go_wp2_with fail
      go_roundw
      case rel => exact ⟨k + 1, by omega, by go_num, by rw [HF.out], h3⟩
      case measure => simp [intOf]; omega
    · have hkl : k = l.length := by omega
      subst hkl
      rw [List.take_length] at hol ⊢
      rw [Nat.min_self] at hol
      have sz : ¬ 9223372036854775807 < (bs (34 :: l.flatMap one)).size + (bs [34]).size := fitS (by simp only [List.length_cons, List.length_nil]; omega)
      go_wp2_with fail
      go_ret
      exact ⟨rfl, (h2.alloc _).tail⟩

theorem extract_bs (l : List UInt8) (i j : Nat) : (bs l).extract i j = bs ((l.drop i).take (j - i)) := by
  apply ByteArray.ext
  simp [bs, ByteArray.data_extract, List.extract_eq_take_drop]
theorem pre_take {p r : List UInt8} (h : p.length ≤ r.length) : p <+: r ↔ r.take p.length = p := by
  constructor
  · rintro ⟨t, rfl⟩; simp
  · intro e; exact ⟨r.drop p.length, by rw [← e]; simp [List.length_take, Nat.min_eq_left h]⟩

theorem ref12_Read_yes (w : World) (l : List UInt8) (s : Nat) (F : List HProp) (hl : l.length ≤ 1000000) (h1 : s < l.length) (hq : l[s] = 34) (hw : holds w F) :
    Calls Tryd.prog 101 #[.string (bs l), .int .i64 (s : Nat)] w fun e w' => e = .returned (readV ((rd (l.drop (s + 1))).map fun p => (p.1, s + 1 + p.2))) ∧ holds w' F := by
  have q3 := bs_size l
  have x1 : ∀ h, (bs l)[s]'h = 34 := fun h => by rw [bs_at]; exact hq
  have k1 : IntKind.i64.wrap ((s : Int) + 1) = ((s + 1 : Nat) : Int) := IntWalk.i64_in _ (by omega)
  have hcont : Cont l ((rd (l.drop (s + 1))).map fun p => (p.1, s + 1 + p.2)) (s + 1) [] := by
    unfold Cont
    simp
  generalize (rd (l.drop (s + 1))).map (fun p => (p.1, s + 1 + p.2)) = res at hcont ⊢
  have HC := Lib.hid hcont
  have d0 : decide ((s : Int) < 0) = false := by simp
  have d1 : decide (l.length ≤ s) = false := by simp; omega
  have i1 : s + 1 ≤ l.length := by omega
  generalize s + 1 = s1 at k1 HC i1
  clear hcont hq
  go_enter Tryd.func101, Tryd.ntmps101
  go_wp2_with fail
  go_loopw [7, 8] (fun o i wr => ∃ (k : Nat) (out : List UInt8), k ≤ l.length ∧ out.length ≤ k ∧ i = .int .i64 k ∧ o = .string (bs out) ∧ Cont l res k out ∧ holds wr F) (fun _ i _ => l.length - (intOf i).toNat)
  case atStart => exact ⟨s1, [], i1, by simp, rfl, rfl, HC.out, hw⟩
  case round =>
    obtain ⟨k, out, hk, hok, rfl, rfl, hc1, h2⟩ := hrel
    have HC1 := Lib.hid hc1
    clear hc1 HC x1 k1
    have ap := bs_append
    by_cases hlt : k < l.length
    · obtain ⟨c, hc⟩ : ∃ c, l[k] = c := ⟨_, rfl⟩
      have x1 : ∀ h, (bs l)[k]'h = c := fun h => by rw [bs_at]; exact hc
      by_cases hc34 : c = 34
      · have HR := Lib.hid (HC1.out.done hlt (hc.trans hc34))
        have m1 : ((c.toNat : Int) == 34) = true := by rw [hc34]; rfl
        have k1 : IntKind.i64.wrap ((k : Int) + 1) = (k : Int) + 1 := IntWalk.i64_in _ (by omega)
        clear hc hc34
        go_wp2_with fail
        go_ret3
        exact ⟨by rw [HR.out]; rfl, h2⟩
      · have m1 : ((c.toNat : Int) == 34) = false := neq_u8 (n := 34) (by omega) hc34
        have HNQ := Lib.hid (show l[k] ≠ 34 from by rw [hc]; exact hc34)
        clear hc hc34
        go_wp2_with fail
        go_loopw [7, 8, 10] (fun o i j wr => ∃ (n : Nat), n ≤ 256 ∧ j = .int .i64 n ∧ ((o = .string (bs out) ∧ i = .int .i64 k ∧ ∀ m : Nat, m < n → ¬ one (UInt8.ofNat m) <+: l.drop k) ∨ (∃ (x : UInt8) (z : Nat), dec (l.drop k) = some (x, z) ∧ o = .string (bs (out ++ [x])) ∧ i = .int .i64 (k + z : Nat))) ∧ holds wr F) (fun _ _ j _ => 256 - (intOf j).toNat)
        case atStart => exact ⟨0, by omega, rfl, .inl ⟨rfl, rfl, fun m h => by omega⟩, h2⟩
        case round =>
          obtain ⟨n, hn, rfl, hcase, h3⟩ := hrel
          clear h2
          rcases hcase with ⟨rfl, rfl, hall⟩ | ⟨x, z, hd, rfl, rfl⟩
          · have HA := Lib.hid hall
            clear hall
            by_cases hn2 : n < 256
            · have hnb : (n : Int) < 256 := by omega
              have wc : IntKind.u8.wrap (n : Int) = (((UInt8.ofNat n).toNat : Nat) : Int) := by
                rw [UInt8.toNat_ofNat', Nat.mod_eq_of_lt (by omega)]
                exact IntWalk.u8_in _ (by omega)
              have hnx : ∀ m : Nat, m < n + 1 → m ≠ n → ¬ one (UInt8.ofNat m) <+: l.drop k := fun m h h' => HA.out m (by omega)
              have hxx : ∀ m : Nat, m < n + 1 → one (UInt8.ofNat m) <+: l.drop k → m = n := fun m h h' => by
                by_cases hm : m = n
                · exact hm
                · exact absurd h' (hnx m h hm)
              have HX := Lib.hid hxx
              have HN2 := Lib.hid hn2
              obtain ⟨x, hx⟩ : ∃ x, UInt8.ofNat n = x := ⟨_, rfl⟩
              rw [hx] at wc
              have HXE := Lib.hid hx
              clear hx hnx hxx hn2
              have hp4 := one_le x
              have q4 := bs_size (one x)
              have ws : IntKind.i64.wrap ((l.length : Int) - (k : Int)) = ((l.length - k : Nat) : Int) := by
                rw [show (l.length : Int) - (k : Int) = ((l.length - k : Nat) : Int) from by omega]
                exact IntWalk.i64_in _ (by omega)
              have wk : IntKind.i64.wrap ((k : Int) + ((one x).length : Int)) = ((k + (one x).length : Nat) : Int) := IntWalk.i64_in _ (by omega)
              by_cases hfit : (one x).length ≤ l.length - k
              · have ex := extract_bs l k (k + (one x).length)
                rw [Nat.add_sub_cancel_left] at ex
                have hpt := pre_take (p := one x) (r := l.drop k) (by rw [List.length_drop]; exact hfit)
                have hsl : k + (one x).length ≤ l.length := by omega
                by_cases hm : one x <+: l.drop k
                · have he := hpt.1 hm
                  rw [he] at ex
                  have HD := Lib.hid (dec_one hm)
                  have q5 := fun w => convL w #[.int .u8 (x.toNat : Int)] 1 [x] rfl rfl
                  have sz : ¬ 9223372036854775807 < (bs out).size + (bs [x]).size := fitS (by simp; omega)
                  clear hm he hpt
                  have hk0 : k ≤ k + (one x).length := by omega
                  generalize hpl : one x = p at *
                  have HPL := Lib.hid hpl
                  clear hpl
                  generalize hkm : k + p.length = km at *
                  have HKM := Lib.hid hkm
                  clear hkm
                  go_wp2_with fail
                  refine (ref12_one _ x F h3).mono ?_
                  rintro e w3 ⟨rfl, h4⟩
                  rw [HPL.out]
                  go_wp2_with fail
                  go_roundw
                  case rel =>
                    refine ⟨n + 1, by have := HN2.out; omega, by go_num, .inr ⟨x, p.length, HD.out, rfl, by rw [HKM.out]⟩, (h4.alloc _).tail⟩
                  case measure => have := HN2.out; simp [intOf]; omega
                · have hne : (l.drop k).take (one x).length ≠ one x := fun e => hm (hpt.2 e)
                  have be : ((l.drop k).take (one x).length == one x) = false := beq_eq_false_iff_ne.2 hne
                  have tl := bs_toList
                  generalize (l.drop k).take (one x).length = y at ex be
                  have hk0 : k ≤ k + (one x).length := by omega
                  have HM := Lib.hid hm
                  clear hm hne hpt
                  generalize hpl : one x = p at *
                  have HPL := Lib.hid hpl
                  clear hpl
                  generalize hkm : k + p.length = km at *
                  have HKM := Lib.hid hkm
                  clear hkm
                  go_wp2_with fail
                  refine (ref12_one _ x F h3).mono ?_
                  rintro e w3 ⟨rfl, h4⟩
                  rw [HPL.out]
                  go_wp2_with fail
                  go_roundw
                  case rel =>
                    refine ⟨n + 1, by have := HN2.out; omega, by go_num, .inl ⟨rfl, rfl, fun m hm1 hm2 => ?_⟩, h4⟩
                    have := HX.out m hm1 hm2
                    subst this
                    rw [HXE.out, HPL.out] at hm2
                    exact HM.out hm2
                  case measure => have := HN2.out; simp [intOf]; omega
              · have hm : ¬ one x <+: l.drop k := fun h => by
                  have := h.length_le
                  rw [List.length_drop] at this
                  omega
                have HM := Lib.hid hm
                clear hm
                have hfit2 : decide ((one x).length ≤ l.length - k) = false := decide_eq_false hfit
                generalize hpl : one x = p at *
                have HPL := Lib.hid hpl
                clear hpl
                go_wp2_with fail
                refine (ref12_one _ x F h3).mono ?_
                rintro e w3 ⟨rfl, h4⟩
                rw [HPL.out]
                go_wp2_with fail
                go_roundw
                case rel =>
                  refine ⟨n + 1, by have := HN2.out; omega, by go_num, .inl ⟨rfl, rfl, fun m hm1 hm2 => ?_⟩, h4⟩
                  have := HX.out m hm1 hm2
                  subst this
                  rw [HXE.out, HPL.out] at hm2
                  exact HM.out hm2
                case measure => have := HN2.out; simp [intOf]; omega
            · have hn3 : n = 256 := by omega
              subst hn3
              have HD := Lib.hid (show dec (l.drop k) = none from by
                cases hd : dec (l.drop k) with
                | none => rfl
                | some p =>
                  obtain ⟨x, z⟩ := p
                  have h5 := (dec_some hd).1
                  have h6 := HA.out x.toNat x.toNat_lt
                  rw [UInt8.ofNat_toNat] at h6
                  exact absurd h5 h6)
              have HR := Lib.hid (HC1.out.no hlt HNQ.out HD.out)
              clear hn hn2
              go_wp2_with fail
              go_ret3
              exact ⟨by rw [HR.out]; rfl, h3⟩
          · obtain ⟨hc3, hkz, hz0⟩ := HC1.out.next hd
            have HC3 := Lib.hid hc3
            have hne : ((k + z : Nat) : Int) ≠ (k : Int) := by omega
            have m2 : (((k + z : Nat) : Int) == (k : Int)) = false := by simpa using hne
            clear hc3 hd hne
            generalize hkm : k + z = km at *
            have HKM := Lib.hid hkm
            clear hkm
            by_cases hn2 : n < 256
            · have hnb : (n : Int) < 256 := by omega
              go_wp2_with fail
              go_roundw
              case rel => exact ⟨km, out ++ [x], hkz, by have := HKM.out; simp; omega, rfl, rfl, HC3.out, h3⟩
              case measure => have := HKM.out; simp [intOf]; omega
            · have hn3 : n = 256 := by omega
              subst hn3
              go_wp2_with fail
              go_roundw
              case rel => exact ⟨km, out ++ [x], hkz, by have := HKM.out; simp; omega, rfl, rfl, HC3.out, h3⟩
              case measure => have := HKM.out; simp [intOf]; omega
    · have HR := Lib.hid (HC1.out.over (by omega))
      go_wp2_with fail
      go_ret3
      exact ⟨by rw [HR.out]; rfl, h2⟩

theorem ref12_Read_no (w : World) (l : List UInt8) (at_ : Int) (F : List HProp) (hl : l.length ≤ 1000000) (hn : ¬ (0 ≤ at_ ∧ at_ < l.length ∧ l[at_.toNat]? = some 34)) (hw : holds w F) :
    Calls Tryd.prog 101 #[.string (bs l), .int .i64 at_] w fun e w' => e = .returned (readV none) ∧ holds w' F := by
  have q3 := bs_size l
  by_cases h0 : at_ < 0
  · clear hn
    go_enter Tryd.func101, Tryd.ntmps101
    go_wp2_with fail
    go_ret3
    exact ⟨rfl, hw⟩
  · obtain ⟨k, rfl⟩ := Int.eq_ofNat_of_zero_le (show 0 ≤ at_ by omega)
    have d0 : decide ((k : Int) < 0) = false := by simp
    by_cases h1 : k < l.length
    · obtain ⟨c, hc⟩ : ∃ c, l[k] = c := ⟨_, rfl⟩
      have x1 : ∀ h, (bs l)[k]'h = c := fun h => by rw [bs_at]; exact hc
      have hne : c ≠ 34 := fun e => hn ⟨by omega, by omega, by rw [Int.toNat_natCast, List.getElem?_eq_getElem h1, hc, e]⟩
      have m1 : ((c.toNat : Int) != 34) = true := by
        have := neq_u8 (n := 34) (by omega) hne
        simpa using this
      clear hn hne hc h0
      go_enter Tryd.func101, Tryd.ntmps101
      go_wp2_with fail
      go_ret3
      exact ⟨rfl, hw⟩
    · clear hn h0
      go_enter Tryd.func101, Tryd.ntmps101
      go_wp2_with fail
      go_ret3
      exact ⟨rfl, hw⟩
theorem ref12_Read (w : World) (l : List UInt8) (at_ : Int) (F : List HProp) (hl : l.length ≤ 1000000) (hw : holds w F) :
    Calls Tryd.prog 101 #[.string (bs l), .int .i64 at_] w fun e w' => e = .returned (readV (readAt l at_)) ∧ holds w' F := by
  unfold readAt
  by_cases h : 0 ≤ at_ ∧ at_ < l.length ∧ l[at_.toNat]? = some 34
  · rw [if_pos h]
    obtain ⟨h0, h1, h2⟩ := h
    obtain ⟨s, rfl⟩ := Int.eq_ofNat_of_zero_le h0
    rw [Int.toNat_natCast] at h2 ⊢
    have hs : s < l.length := by omega
    rw [List.getElem?_eq_getElem hs] at h2
    exact ref12_Read_yes w l s F hl hs (Option.some.inj h2) hw
  · rw [if_neg h]
    exact ref12_Read_no w l at_ F hl h hw
theorem ref12_Whole (w : World) (l : List UInt8) (F : List HProp) (hl : l.length ≤ 1000000) (hw : holds w F) :
    Calls Tryd.prog 71 #[.string (bs l)] w fun e w' => e = .returned (wholeV (wholeOf l)) ∧ holds w' F := by
  have q3 := bs_size l
  have H1 := Lib.hid (ref12_Read w l 0 F hl hw)
  obtain ⟨r, hr⟩ : ∃ r, wholeOf l = r := ⟨_, rfl⟩
  rw [hr]
  unfold wholeOf at hr
  generalize readAt l 0 = q at H1 hr
  have HR := Lib.hid hr
  clear hr
  go_enter Tryd.func71, Tryd.ntmps71
  go_wp2_with fail
  refine H1.out.mono ?_
  rintro e w1 ⟨rfl, h1⟩
  clear H1
  cases q with
  | none =>
    have hr := HR.out
    simp at hr
    subst hr
    unfold readV
    go_wp2_with fail
    go_ret2
    exact ⟨rfl, h1⟩
  | some p =>
    obtain ⟨o, e⟩ := p
    unfold readV
    by_cases he : e = l.length
    · have hr := HR.out
      simp [he] at hr
      subst hr he
      go_wp2_with fail
      go_ret2
      exact ⟨rfl, h1⟩
    · have hr := HR.out
      simp [he] at hr
      subst hr
      have d1 : ((e : Int) != (l.length : Int)) = true := by simp; omega
      clear he
      go_wp2_with fail
      go_ret2
      exact ⟨rfl, h1⟩
end Go.Proofs.YtpkohkkkbnfigaaDoor
