/- Contracts of package quote: Read, Whole. -/
import Derived.Test.YtpkohkkkbnfigaaDoorQuoteX
namespace Go.Proofs.YtpkohkkkbnfigaaDoor
open Go Go.RowKit Go.MapKept
set_option maxRecDepth 100000
set_option linter.unusedVariables false
attribute [local go_sem] exactUpon looseUpon

def readV : Option (List UInt8 × Nat) → Value
  | none => .tuple #[.string (bs []), .int .i64 0, .bool false]
  | some (o, e) => .tuple #[.string (bs o), .int .i64 (e : Nat), .bool true]
def posAt (b : Nat) (w : World) : Nat := (intOf ((w.cell? ⟨b, 1, none⟩).getD undef)).toNat
theorem posAt_is {w : World} {F : List HProp} {b : Nat} {l : List UInt8} {k : Nat} {v : Value} {d : Bool} (h : holds w (rdr b l k v d :: F)) : posAt b w = k := by
  unfold posAt
  rw [(rdr_cells h).2.1]
  simp [intOf]

theorem quote_Read_no (w : World) (l : List UInt8) (at_ : Int) (F : List HProp) (hl : l.length ≤ 1000000) (hn : ¬ (0 ≤ at_ ∧ at_ < l.length ∧ l[at_.toNat]? = some 34)) (hw : holds w F) :
    Calls Tryd.prog 100 #[.string (bs l), .int .i64 at_] w fun e w' => e = .returned (readV none) ∧ holds w' F := by
  have q3 := bs_size l
  by_cases h0 : at_ < 0
  · clear hn
    go_enter Tryd.func100, Tryd.ntmps100
    go_wp2_with fail
    go_ret3
    exact ⟨rfl, hw⟩
  · obtain ⟨k, rfl⟩ := Int.eq_ofNat_of_zero_le (show 0 ≤ at_ by omega)
    have d0 : decide ((k : Int) < 0) = false := by simp
    by_cases h1 : k < l.length
    · obtain ⟨c, hc⟩ : ∃ c, l[k] = c := ⟨_, rfl⟩
      have x1 : ∀ h, (bs l)[k]'h = c := fun h => by rw [bs_at]; exact hc
      have hne : c ≠ 34 := fun e => hn ⟨by omega, by omega, by rw [Int.toNat_natCast, List.getElem?_eq_getElem h1, hc, e]⟩
      have m1 : ((c.toNat : Int) != 34) = true := by
        have := neq_u8 (n := 34) (by omega) hne
        simpa using this
      clear hn hne hc h0
      go_enter Tryd.func100, Tryd.ntmps100
      go_wp2_with fail
      go_ret3
      exact ⟨rfl, hw⟩
    · clear hn h0
      go_enter Tryd.func100, Tryd.ntmps100
      go_wp2_with fail
      go_ret3
      exact ⟨rfl, hw⟩

theorem quote_Read_yes (w : World) (l : List UInt8) (s : Nat) (F : List HProp) (hl : l.length ≤ 1000000) (h1 : s < l.length) (hq : l[s] = 34) (hw : holds w F) :
    Calls Tryd.prog 100 #[.string (bs l), .int .i64 (s : Nat)] w fun e w' => e = .returned (readV ((rd (l.drop (s + 1))).map fun p => (p.1, s + 1 + p.2))) ∧ holds w' F := by
  have q3 := bs_size l
  have x1 : ∀ h, (bs l)[s]'h = 34 := fun h => by rw [bs_at]; exact hq
  have k1 : IntKind.i64.wrap ((s : Int) + 1) = (s : Int) + 1 := IntWalk.i64_in _ (by omega)
  have h0 := hw.alloc (.cells #[.string (bs l), .int .i64 ((s : Int) + 1), .slice none 0 0, .bool false] 146 (0, 0))
  have hB : holds (w.alloc (.cells #[.string (bs l), .int .i64 ((s : Int) + 1), .slice none 0 0, .bool false] 146)) (rdr w.heap.size l (s + 1 : Nat) (.slice none 0 0) false :: ownB (.slice none 0 0) [] :: F) := (ownB_nil h0).order [1, 0]
  have d0 : decide ((s : Int) < 0) = false := by simp
  have d1 : decide (l.length ≤ s) = false := by simp; omega
  have hcont : Cont l ((rd (l.drop (s + 1))).map fun p => (p.1, s + 1 + p.2)) (s + 1) [] := by
    unfold Cont
    simp
  generalize (rd (l.drop (s + 1))).map (fun p => (p.1, s + 1 + p.2)) = res at hcont ⊢
  have HC := Lib.hid hcont
  clear hcont h0 hq
  go_enter Tryd.func100, Tryd.ntmps100
  go_wp2_with fail
  generalize w.alloc (.cells #[.string (bs l), .int .i64 ((s : Int) + 1), .slice none 0 0, .bool false] 146) = w0 at hB ⊢
  generalize w.heap.size = b at hB ⊢
  go_loopw [4] (fun _ wr => ∃ (k : Nat) (v : Value) (out : List UInt8) (d : Bool), k ≤ l.length ∧ out.length ≤ k ∧ (d = false → Cont l res k out) ∧ (d = true → res = some (out, k)) ∧ holds wr (rdr b l k v d :: ownB v out :: F)) (fun _ wr => l.length + 1 - posAt b wr)
  case atStart => exact ⟨s + 1, _, [], false, by omega, by simp, fun _ => HC.out, by simp, hB⟩
  case round =>
    obtain ⟨k, v, out, d, hk, hok, hc1, hc2, h2⟩ := hrel
    have HC1 := Lib.hid hc1
    have HC2 := Lib.hid hc2
    have HP := Lib.hid (posAt_is h2)
    clear hc1 hc2 hB HC k1 x1
    obtain ⟨c0, c1, c2, c3⟩ := rdr_cells h2
    cases d with
    | true =>
      obtain ⟨av, cv, rfl⟩ := ownB_form (h2.pick 1)
      have HSE := Lib.hid (fun w (h : holds w (rdr b l k (.slice av out.length cv) true :: ownB (.slice av out.length cv) out :: F)) => (⟨(rdr_cells h).1, (rdr_cells h).2.1, (rdr_cells h).2.2.1, (rdr_cells h).2.2.2, conv_ownB (h.pick 1)⟩ : _ ∧ _ ∧ _ ∧ _ ∧ _))
      have HR := Lib.hid (HC2.out rfl)
      go_wp2_with fail
      clear c0 c1 c2 c3
      have HE := Lib.hid (fun w (h : holds w (rdr b l k (.slice av out.length cv) true :: ownB (.slice av out.length cv) out :: F)) => (show holds w F from h.sel 2 []))
      generalize (rdr b l k (.slice av out.length cv) true :: ownB (.slice av out.length cv) out :: F : List HProp) = BB at h2 HSE HE
      refine wp_region_loose (fun k => match k with  | _ => none) BB (by kernel_rfl) (by kernel_rfl) h2 ?_
      iterate 12
        refine loose_exact rfl (fun K hK => ?_)
        go_simp
        first
          | (intro w hw
             obtain ⟨c0, c1, c2, c3, cv1⟩ := HSE.out _ hw
             go_simp
             refine hK _ ?_
             clear hK K c0 c1 c2 c3 cv1 hw w)
          | (intro w hw
             refine hK _ ?_
             clear hK K hw w)
          | (refine hK _ ?_; clear hK K)
      refine loose_nil ?_
      clear h2
      intro wq h2
      go_wp2_with fail
      go_ret3
      exact ⟨by rw [HR.out]; rfl, HE.out _ h2⟩
    | false =>
      by_cases hend : ∃ hk : k < l.length, l[k] = 34
      · obtain ⟨hk, hq⟩ := hend
        have HR := Lib.hid ((HC1.out rfl).done hk hq)
        have HQ := Lib.hid hq
        clear hq
        go_wp2_with fail
        refine (step_end _ _ l k v out F hl (by omega) hk HQ.out h2).mono ?_
        rintro e w3 ⟨rfl, h3⟩
        have HP3 := Lib.hid (posAt_is h3)
        go_wp2_with fail
        go_roundw
        case rel => exact ⟨k + 1, v, out, true, by omega, by omega, by simp, fun _ => HR.out, h3⟩
        case measure => rw [HP.out, HP3.out]; omega
      · cases hd : dec (l.drop k) with
        | none =>
          have hno : ∀ hk : k < l.length, l[k] ≠ 34 ∧ dec (l.drop k) = none := fun hk => ⟨fun e => hend ⟨hk, e⟩, hd⟩
          have HR := Lib.hid (show res = none from by
            by_cases hk' : k < l.length
            · exact (HC1.out rfl).no hk' (fun e => hend ⟨hk', e⟩) hd
            · exact (HC1.out rfl).over (by omega))
          have HNO := Lib.hid hno
          clear hno hend hd
          go_wp2_with fail
          refine (step_no _ _ l k v out F hl (by omega) HNO.out h2).mono ?_
          rintro e w3 ⟨rfl, h3⟩
          go_wp2_with fail
          go_ret3
          exact ⟨by rw [HR.out]; rfl, h3⟩
        | some p =>
          obtain ⟨x, n⟩ := p
          obtain ⟨hc3, hkn, hn0⟩ := (HC1.out rfl).next hd
          have HC3 := Lib.hid hc3
          have HD := Lib.hid hd
          have hk' : k < l.length := by omega
          clear hc3 hd hend
          go_wp2_with fail
          refine (step_yes _ _ l k v out F hl (by omega) hk' x n HD.out h2).mono ?_
          rintro e w3 ⟨rfl, v3, h3⟩
          have HP3 := Lib.hid (posAt_is h3)
          go_wp2_with fail
          go_roundw
          case rel => exact ⟨k + n, v3, out ++ [x], false, by omega, by simp; omega, fun _ => HC3.out, by simp, h3⟩
          case measure => rw [HP.out, HP3.out]; omega

theorem quote_Read (w : World) (l : List UInt8) (at_ : Int) (F : List HProp) (hl : l.length ≤ 1000000) (hw : holds w F) :
    Calls Tryd.prog 100 #[.string (bs l), .int .i64 at_] w fun e w' => e = .returned (readV (readAt l at_)) ∧ holds w' F := by
  unfold readAt
  by_cases h : 0 ≤ at_ ∧ at_ < l.length ∧ l[at_.toNat]? = some 34
  · rw [if_pos h]
    obtain ⟨h0, h1, h2⟩ := h
    obtain ⟨s, rfl⟩ := Int.eq_ofNat_of_zero_le h0
    rw [Int.toNat_natCast] at h2 ⊢
    have hs : s < l.length := by omega
    rw [List.getElem?_eq_getElem hs] at h2
    exact quote_Read_yes w l s F hl hs (Option.some.inj h2) hw
  · rw [if_neg h]
    exact quote_Read_no w l at_ F hl h hw

/-- The whole text read. -/
def wholeOf (l : List UInt8) : Option (List UInt8) := (readAt l 0).bind fun p => if p.2 = l.length then some p.1 else none
def wholeV : Option (List UInt8) → Value
  | none => .tuple #[.string (bs []), .bool false]
  | some o => .tuple #[.string (bs o), .bool true]
theorem quote_Whole (w : World) (l : List UInt8) (F : List HProp) (hl : l.length ≤ 1000000) (hw : holds w F) :
    Calls Tryd.prog 69 #[.string (bs l)] w fun e w' => e = .returned (wholeV (wholeOf l)) ∧ holds w' F := by
  have q3 := bs_size l
  have H1 := Lib.hid (quote_Read w l 0 F hl hw)
  obtain ⟨r, hr⟩ : ∃ r, wholeOf l = r := ⟨_, rfl⟩
  rw [hr]
  unfold wholeOf at hr
  generalize readAt l 0 = q at H1 hr
  have HR := Lib.hid hr
  clear hr
  go_enter Tryd.func69, Tryd.ntmps69
  go_wp2_with fail
  refine H1.out.mono ?_
  rintro e w1 ⟨rfl, h1⟩
  clear H1
  cases q with
  | none =>
    have hr := HR.out
    simp at hr
    subst hr
    unfold readV
    go_wp2_with fail
    go_ret2
    exact ⟨rfl, h1⟩
  | some p =>
    obtain ⟨o, e⟩ := p
    unfold readV
    by_cases he : e = l.length
    · have hr := HR.out
      simp [he] at hr
      subst hr he
      go_wp2_with fail
      go_ret2
      exact ⟨rfl, h1⟩
    · have hr := HR.out
      simp [he] at hr
      subst hr
      have d1 : ((e : Int) != (l.length : Int)) = true := by simp; omega
      clear he
      go_wp2_with fail
      go_ret2
      exact ⟨rfl, h1⟩
end Go.Proofs.YtpkohkkkbnfigaaDoor
