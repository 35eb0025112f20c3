/- The law AccountsFull. -/
import Derived.Test.YtdcekeclemgkcaaLaw27
import Derived.Test.YtdcekeclemgkcaaMembD
import Derived.Test.YtdcekeclemgkcaaNoAccs
import Derived.Test.YtdcekeclemgkcaaFirsts
import Derived.Test.YtdcekeclemgkcaaArgs
namespace Go.Proofs.Ytdcekeclemgkcaa
open Go Go.RowKit Go.MapKept
set_option maxRecDepth 100000
set_option linter.unusedVariables false
set_option maxHeartbeats 2000000
attribute [local go_sem] exactUpon looseUpon

def roB (v : Value) (l : List Int) : HProp := roRow 1 v l.length (l.map (.int .u8))
theorem holds.roBAt {w : World} {F : List HProp} {v : Value} {l : List Int} (hw : holds w (roB v l :: F)) (h0 : 0 < l.length) :
    ∃ g off cap, v = .slice (some ⟨g, off, none⟩) l.length cap ∧ ∀ (i : Nat) (hi : i < l.length), w.cell? ⟨g, off + i, none⟩ = some (.int .u8 l[i]) := by
  obtain ⟨b, off, cap, h1, h2, h3⟩ := (holds.roReads hw).cells (by omega)
  refine ⟨b, off, cap, h1, fun i hi => ?_⟩
  rw [h3 i (by omega)]
  simp [hi]
theorem roB_form {w : World} {F : List HProp} {v : Value} {l : List Int} (h : holds w (roB v l :: F)) : ∃ a cap, v = .slice a l.length cap ∧ l.length ≤ cap := (holds.roReads h).form

def stA (c : Int) (i : Nat) : List AcM := (List.range 64).map fun j => if j < i then ⟨c, 0, 0⟩ else ac0
theorem stA_len (c : Int) (i : Nat) : (stA c i).length = 64 := by simp [stA]
theorem stA_zero (c : Int) : stA c 0 = List.replicate 64 ac0 := by
  apply List.ext_getElem
  · simp [stA]
  · intro i h1 h2
    simp only [stA, List.getElem_map, List.getElem_range, List.getElem_replicate]
    rfl
theorem stA_set (c : Int) (i : Nat) (hi : i < 64) : (stA c i).set i ⟨c, 0, 0⟩ = stA c (i + 1) := by
  apply List.ext_getElem
  · simp [stA]
  · intro j h1 h2
    rw [List.getElem_set]
    simp only [stA, List.getElem_map, List.getElem_range]
    by_cases h : i = j
    · rw [if_pos h, if_pos (by omega)]
    · rw [if_neg h]
      by_cases h3 : j < i
      · rw [if_pos h3, if_pos (by omega)]
      · rw [if_neg h3, if_neg (by omega)]
theorem new27_right {c : Int} (h0 : 1 ≤ c) (h1 : c ≤ 256) : Acct.new c = (⟨c, 0, 0⟩, 0) := by
  unfold Acct.new
  rw [if_pos ((Acct.right_iff _).2 ⟨by simp; omega, by simp; omega, by simp, by simp, by simp; omega⟩)]
theorem open_firsts {c : Int} (h0 : 1 ≤ c) (h1 : c ≤ 256) (i : Nat) (hi : i < 64) : Accs.open ⟨SlotsM.firsts 64 i, stA c i⟩ c = (⟨SlotsM.firsts 64 (i + 1), stA c (i + 1)⟩, (i : Int), 0, 0) := by
  obtain ⟨h2, h3⟩ := SlotsM.firsts_pick 64 i hi
  unfold Accs.open
  rw [new27_right h0 h1]
  simp only [h2, h3, Int.toNat_natCast, stA_set c i hi]
  simp
theorem open_full {c : Int} (h0 : 1 ≤ c) (h1 : c ≤ 256) : Accs.open ⟨SlotsM.firsts 64 64, stA c 64⟩ c = (⟨SlotsM.firsts 64 64, stA c 64⟩, 0, 0, 10) := by
  obtain ⟨h2, h3⟩ := SlotsM.firsts_full 64
  unfold Accs.open
  rw [new27_right h0 h1]
  simp [h2]
theorem firsts_zero : SlotsM.firsts 64 0 = SlotsM.new 64 := rfl
theorem okF {c : Int} (h0 : 1 ≤ c) (h1 : c ≤ 256) : ∀ i, i ≤ 64 → (AccsM.mk (SlotsM.firsts 64 i) (stA c i)).Ok 0
  | 0, _ => by rw [firsts_zero, stA_zero]; exact AccsM.Ok.new
  | i + 1, hi => by
    have := ((okF h0 h1 i (by omega)).open c).1
    rw [open_firsts h0 h1 i (by omega)] at this
    exact this
theorem sortInts_asc27 {l : List Int} (h : l.Pairwise fun a b => a < b) : sortInts l = l := by
  unfold sortInts
  exact List.mergeSort_of_pairwise (h.imp fun hab => by simp; omega)
def memb (A : List AcM) : List (Int × AcM) := (List.range 64).map fun (k : Nat) => ((k : Int), A.getD k ac0)
theorem memb_len (A : List AcM) : (memb A).length = 64 := by simp [memb]
theorem memb_at (A : List AcM) (k : Nat) (h : k < (memb A).length) : (memb A)[k] = ((k : Int), A.getD k ac0) := by simp [memb]
theorem members_firsts (A : List AcM) : (AccsM.mk (SlotsM.firsts 64 64) A).members = memb A := by
  have h : (AccsM.mk (SlotsM.firsts 64 64) A).ids = (List.range 64).map fun (k : Nat) => (k : Int) := by
    unfold AccsM.ids
    have e : alKeys (SlotsM.firsts 64 64).opn = (List.range 64).map fun (k : Nat) => (k : Int) := by
      simp only [SlotsM.firsts, alKeys, List.map_map]
      rfl
    simp only [e]
    apply sortInts_asc27
    rw [List.pairwise_map]
    exact List.pairwise_lt_range.imp fun h => by omega
  unfold AccsM.members memb
  rw [h, List.map_map]
  apply List.map_congr_left
  intro k _
  simp
theorem act_other (t : AccsM) (c p g n : Int) (h0 : 0 ≤ p) (k : Nat) (hk : (k : Int) ≠ p) : (Accs.act t c p g n).1.A.getD k ac0 = t.A.getD k ac0 := by
  unfold Accs.act
  split
  · rfl
  · split
    · rfl
    · split
      · rfl
      · simp only [List.getD_eq_getElem?_getD]
        rw [List.getElem?_set_ne (by omega)]

theorem law_AccountsFull (cl : Int) (c0 : 0 ≤ cl) (c1 : cl ≤ 255) (va : Value) (l : List Int) (hwf : ∀ a ∈ l, (Lit.int .u8 a).wf = true) (m0 : l.length ≤ maxLen) (w : World) (F : List HProp) (hw : holds w (roB va l :: F)) :
    Calls Try.prog 9 #[.int .u8 cl, va] w fun e w' => e = .returned (.bool true) ∧ holds w' F := by
  obtain ⟨a, cap, rfl, hcap⟩ := roB_form hw
  by_cases h60 : 60 < l.length
  · go_enter Try.func9, Try.ntmps9
    go_wp2_with fail
    refine (law27_works _ _ hw.tail).mono ?_
    rintro e w2 ⟨rfl, h2⟩
    go_wp2_with fail
    go_ret
    exact ⟨rfl, h2⟩
  have wrl : IntKind.i64.wrap cl = cl := IntWalk.i64_in _ (by omega)
  obtain ⟨c, hc⟩ : ∃ c, 1 + cl = c := ⟨_, rfl⟩
  have cc0 : 1 ≤ c := by omega
  have cc1 : c ≤ 256 := by omega
  have wrc : IntKind.i64.wrap (1 + cl) = c := by rw [hc]; exact IntWalk.i64_in _ (by omega)
  have HU := Lib.hid (fun a ha => bounds_u8 (hwf a ha))
  clear hc hwf
  have O1 := Lib.hid (show ∀ w v (i : Nat), i < 64 → ∀ F, holds w (accsAt v ⟨SlotsM.firsts 64 i, stA c i⟩ :: F) → Calls Try.prog 44 #[v, .int .i64 c] w fun e w' => e = .returned (.tuple #[.int .i64 i, .int .i64 0, .int .i64 0]) ∧ holds w' (accsAt v ⟨SlotsM.firsts 64 (i + 1), stA c (i + 1)⟩ :: F) from fun w v i hi F h => by
    have ho := okF cc0 cc1 i (by omega)
    have := accs_Open w v _ 0 c F ho.good ho.len h
    rw [open_firsts cc0 cc1 i hi] at this
    exact this)
  have O2 := Lib.hid (show ∀ w v F, holds w (accsAt v ⟨SlotsM.firsts 64 64, stA c 64⟩ :: F) → Calls Try.prog 44 #[v, .int .i64 c] w fun e w' => e = .returned (.tuple #[.int .i64 0, .int .i64 0, .int .i64 10]) ∧ holds w' (accsAt v ⟨SlotsM.firsts 64 64, stA c 64⟩ :: F) from fun w v F h => by
    have ho := okF cc0 cc1 64 (by omega)
    have := accs_Open w v _ 0 c F ho.good ho.len h
    rw [open_full cc0 cc1] at this
    exact this)
  have O3 := Lib.hid (show ∀ A, (AccsM.mk (SlotsM.firsts 64 64) A).Ok 0 → ∀ w v F, holds w (accsAt v ⟨SlotsM.firsts 64 64, A⟩ :: F) → Calls Try.prog 54 #[v] w fun e w' => ∃ a c, e = .returned (.slice a 64 c) ∧ holds w' (roMb (.slice a 64 c) (memb A) :: accsAt v ⟨SlotsM.firsts 64 64, A⟩ :: F) from fun A ho w v F h => by
    have := accs_Members w v _ 0 F ho (by simp [SlotsM.firsts]) h
    rw [members_firsts, memb_len] at this
    exact this)
  have O4 := Lib.hid (okF cc0 cc1 64 (by omega))
  go_enter Try.func9, Try.ntmps9
  go_wp2_with fail
  refine (accs_New _ _ hw).mono ?_
  rintro e w1 ⟨v, rfl, h1⟩
  obtain ⟨b, rfl⟩ : ∃ b, v = .pointer (some ⟨b, 0, none⟩) := by obtain ⟨b, _, _, _, e, _⟩ := open_accs h1; exact ⟨b, e⟩
  rw [← firsts_zero, ← stA_zero c] at h1
  clear hw
  go_wp2_with fail
  go_loopw [7] (fun i wr => ∃ k : Nat, k ≤ 64 ∧ i = .int .i64 k ∧ holds wr (accsAt (.pointer (some ⟨b, 0, none⟩)) ⟨SlotsM.firsts 64 k, stA c k⟩ :: roB (.slice a l.length cap) l :: F)) (fun i _ => 64 - (intOf i).toNat)
  case atStart => exact ⟨0, by omega, rfl, h1⟩
  case round =>
    obtain ⟨k, hk, rfl, h2⟩ := hrel
    clear h1
    by_cases hlt : k < 64
    · go_wp2_with fail
      refine (O1.out _ _ k hlt _ h2).mono ?_
      rintro e w3 ⟨rfl, h3⟩
      go_wp2_with fail
      go_roundw
      case rel => exact ⟨k + 1, by omega, by go_num, h3⟩
      case measure => simp [intOf]; omega
    · obtain rfl : k = 64 := by omega
      clear O1 hlt
      go_wp2_with fail
      refine (O2.out _ _ _ h2).mono ?_
      rintro e w3 ⟨rfl, h3⟩
      clear O2 h2
      go_wp2_with fail
      go_loopw [14] (fun i wr => ∃ (j : Nat) (A : List AcM), j ≤ l.length ∧ i = .int .i64 j ∧ (AccsM.mk (SlotsM.firsts 64 64) A).Ok 0 ∧ holds wr (accsAt (.pointer (some ⟨b, 0, none⟩)) ⟨SlotsM.firsts 64 64, A⟩ :: roB (.slice a l.length cap) l :: F)) (fun i _ => l.length - (intOf i).toNat)
      case atStart => exact ⟨0, stA c 64, by omega, rfl, O4.out, h3⟩
      case round =>
        obtain ⟨j, A, hj, rfl, hok, h4⟩ := hrel
        clear h3 O4
        by_cases hjl : j < l.length
        · obtain ⟨ga, oa, ca, hv, hcell⟩ := (h4.pick 1).roBAt (by omega)
          cases hv
          have k0 := hcell j hjl
          have hub := HU.out l[j] (List.getElem_mem hjl)
          clear hcell
          generalize l[j] = u at k0 hub
          have hp0 : 0 ≤ u.tmod 64 := Int.tmod_nonneg _ hub.1
          have hp1 : u.tmod 64 ≤ 63 := by have := Int.tmod_lt_of_pos u (show (0 : Int) < 64 by omega); omega
          have hq0 : 0 ≤ (j : Int).tmod 4 := Int.tmod_nonneg _ (by omega)
          have hq1 : (j : Int).tmod 4 ≤ 3 := by have := Int.tmod_lt_of_pos (j : Int) (show (0 : Int) < 4 by omega); omega
          have hr0 : 0 ≤ (j : Int).tmod 3 := Int.tmod_nonneg _ (by omega)
          have hr1 : (j : Int).tmod 3 ≤ 2 := by have := Int.tmod_lt_of_pos (j : Int) (show (0 : Int) < 3 by omega); omega
          generalize hp : u.tmod 64 = p at hp0 hp1
          generalize hq : (j : Int).tmod 4 = q at hq0 hq1
          generalize hr : (j : Int).tmod 3 = r at hr0 hr1
          have wru : IntKind.i64.wrap u = u := IntWalk.i64_in _ (by omega)
          have wrp : IntKind.i64.wrap p = p := IntWalk.i64_in _ (by omega)
          have wrq : IntKind.i64.wrap q = q := IntWalk.i64_in _ (by omega)
          have wrr : IntKind.i64.wrap r = r := IntWalk.i64_in _ (by omega)
          have wrq1 : IntKind.i64.wrap (1 + q) = 1 + q := IntWalk.i64_in _ (by omega)
          have wrr1 : IntKind.i64.wrap (1 + r) = 1 + r := IntWalk.i64_in _ (by omega)
          have hM1 := Lib.hid (O3.out A hok)
          have hD := Lib.hid (fun w v F h => accs_Do w v ⟨SlotsM.firsts 64 64, A⟩ 0 (1 + q) p 0 (1 + r) F hok (by omega) h)
          have hsm := fun k hk => act_other ⟨SlotsM.firsts 64 64, A⟩ (1 + q) p 0 (1 + r) hp0 k hk
          have hok2 := hok.act (1 + q) p 0 (1 + r)
          generalize Accs.act ⟨SlotsM.firsts 64 64, A⟩ (1 + q) p 0 (1 + r) = res at hD hsm hok2
          obtain ⟨⟨s2, A2⟩, er⟩ := res
          obtain ⟨hok2, hs2⟩ := hok2
          simp only at hs2 hsm hD hok2
          subst hs2
          have hM2 := Lib.hid (O3.out A2 hok2)
          have HOK2 := Lib.hid hok2
          have HSM := Lib.hid hsm
          clear hok hok2 hsm
          go_wp2_with fail
          refine (hM1.out _ _ _ h4).mono ?_
          rintro e5 w5 ⟨aW, cW, rfl, h5⟩
          have h6 : holds w5 (accsAt (.pointer (some ⟨b, 0, none⟩)) ⟨SlotsM.firsts 64 64, A⟩ :: roMb (.slice aW 64 cW) (memb A) :: roB (.slice (some ⟨ga, oa, none⟩) l.length cap) l :: F) := h5.order [1, 0]
          clear h4 h5 k0
          go_wp2_with fail
          refine (hD.out _ _ _ h6).mono ?_
          rintro e7 w7 ⟨rfl, h7⟩
          go_wp2_with fail
          refine (hM2.out _ _ _ h7).mono ?_
          rintro e8 w8 ⟨aN, cN, rfl, h8⟩
          have h9 : holds w8 (roMb (.slice aW 64 cW) (memb A) :: roMb (.slice aN 64 cN) (memb A2) :: accsAt (.pointer (some ⟨b, 0, none⟩)) ⟨SlotsM.firsts 64 64, A2⟩ :: roB (.slice (some ⟨ga, oa, none⟩) l.length cap) l :: F) := h8.order [2, 0, 1]
          clear h6 h7 h8 hM1 hM2 hD
          go_wp2_with fail
          go_loopw [18] (fun i wr => ∃ k : Nat, k ≤ 64 ∧ i = .int .i64 k ∧ holds wr (roMb (.slice aW 64 cW) (memb A) :: roMb (.slice aN 64 cN) (memb A2) :: accsAt (.pointer (some ⟨b, 0, none⟩)) ⟨SlotsM.firsts 64 64, A2⟩ :: roB (.slice (some ⟨ga, oa, none⟩) l.length cap) l :: F)) (fun i _ => 64 - (intOf i).toNat)
          case atStart => exact ⟨0, by omega, rfl, h9⟩
          case round =>
            obtain ⟨k, hk, rfl, h2⟩ := hrel
            clear h9
            by_cases hkl : k < 64
            · obtain ⟨gw, ow, cw, hv, _, hcw⟩ := h2.roMbAt (by rw [memb_len]; omega)
              rw [memb_len] at hv
              cases hv
              obtain ⟨gn, on, cn, hv, _, hcn⟩ := (h2.pick 1).roMbAt (by rw [memb_len]; omega)
              rw [memb_len] at hv
              cases hv
              have hwk := hcw k (by rw [memb_len]; omega)
              have hnk := hcn k (by rw [memb_len]; omega)
              rw [memb_at] at hwk hnk
              obtain ⟨k0, k1, k2, k3⟩ := hwk
              obtain ⟨j0, j1, j2, j3⟩ := hnk
              simp only at k0 k1 k2 k3 j0 j1 j2 j3
              clear hcw hcn
              by_cases hkp : (k : Int) = p
              · have d1 : ((k : Int) != p) = false := by simpa using hkp
                clear hkp k0 k1 k2 k3 j1 j2 j3
                go_wp2_with fail
                go_quiet (fail)
                go_wp2_with fail
                go_roundw
                case rel => exact ⟨k + 1, by omega, by go_num, h2.drewN _⟩
                case measure => simp [intOf]; omega
              · have d1 : ((k : Int) != p) = true := by simpa using hkp
                rw [HSM.out k hkp] at j1 j2 j3
                generalize A.getD k ac0 = x at k1 k2 k3 j1 j2 j3
                have heq := eqMb_run (k : Int) x
                unfold mbCells at heq
                simp only at heq
                clear hkp
                go_wp2_with fail
                go_quiet (fail)
                go_wp2_with fail
                go_roundw
                case rel => exact ⟨k + 1, by omega, by go_num, h2.drewN _⟩
                case measure => simp [intOf]; omega
            · obtain rfl : k = 64 := by omega
              go_wp2_with fail
              go_roundw
              case rel => exact ⟨j + 1, A2, by omega, by go_num, HOK2.out, h2.sel 4 [2, 3]⟩
              case measure => simp [intOf]; omega
        · obtain rfl : j = l.length := by omega
          have h5 : holds _ (blk wr.heap.size (.cells #[.pointer none, .map none] 99 (0, 0)) :: F) := (h4.alloc (.cells #[.pointer none, .map none] 99 (0, 0))).sel 3 [0]
          have hn : ∀ F, NoAccs (.pointer none) F := fun F => .inl rfl
          have hz : NoAccs (.pointer (some ⟨wr.heap.size, 0, none⟩)) (blk wr.heap.size (.cells #[.pointer none, .map none] 99 (0, 0)) :: F) := .inr ⟨_, rfl, fun w h => cellAt h.get_blk 1⟩
          have HN := Lib.hid hn
          have HZ := Lib.hid hz
          clear hn hz h4 hjl
          go_wp2_with fail
          refine (noaccs_Open _ _ _ _ (HN.out _) h5).mono ?_
          rintro e6 w6 ⟨rfl, h6⟩
          go_wp2_with fail
          refine (noaccs_Get _ _ _ _ _ HZ.out h6).mono ?_
          rintro e7 w7 ⟨rfl, h7⟩
          unfold acR acV
          have h8 := (h7.alloc (.cells (acCells ac0) 86 (0, 0))).tail
          unfold acCells ac0 at *
          clear h5 h6 h7
          go_wp2_with fail
          refine (noaccs_Close _ _ _ _ _ (HN.out _) h8).mono ?_
          rintro e9 w9 ⟨rfl, h9⟩
          go_wp2_with fail
          refine (noaccs_Do _ _ _ _ _ _ _ HZ.out h9).mono ?_
          rintro e10 w10 ⟨rfl, h10⟩
          go_wp2_with fail
          refine (noaccs_Do _ _ _ _ _ _ _ (HN.out _) h10).mono ?_
          rintro e11 w11 ⟨rfl, h11⟩
          go_wp2_with fail
          refine (noaccs_Members _ _ _ (HN.out _) h11).mono ?_
          rintro e12 w12 ⟨rfl, h12⟩
          go_wp2_with fail
          refine (noaccs_Members _ _ _ HZ.out h12).mono ?_
          rintro e13 w13 ⟨rfl, h13⟩
          go_wp2_with fail
          refine (noaccs_Held _ _ _ (HN.out _) h13).mono ?_
          rintro e14 w14 ⟨rfl, h14⟩
          go_wp2_with fail
          refine (noaccs_Held _ _ _ HZ.out h14).mono ?_
          rintro e15 w15 ⟨rfl, h15⟩
          go_wp2_with fail
          refine (law27_works _ _ h15).mono ?_
          rintro e16 w16 ⟨rfl, h16⟩
          go_wp2_with fail
          go_ret
          exact ⟨rfl, h16.tail⟩
end Go.Proofs.Ytdcekeclemgkcaa
