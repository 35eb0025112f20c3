/- The law SlotsOnce. -/
import Derived.Test.YtfkpcmlajdmnfaaWorks06
import Derived.Test.YtfkpcmlajdmnfaaLaw21C
import Derived.Deep.RegionHeld3
namespace Go.Proofs.Ytfkpcmlajdmnfaa
open Go Go.RowKit Go.MapKept
set_option maxRecDepth 100000
set_option linter.unusedVariables false
attribute [local go_sem] exactUpon looseUpon

theorem holds.intCell {w : World} {F : List HProp} {a : Option Addr} {n c : Nat} {l : List Int} (h : holds w (ownInts (.slice a n c) l :: F)) (g : Nat) (ha : a = some ⟨g, 0, none⟩) (i : Nat) (hi : i < l.length) : w.cell? ⟨g, i, none⟩ = some (.int .i64 l[i]) := by
  obtain ⟨g', cap, hv, _, _, h1, _⟩ := h.intAt i hi
  subst ha
  cases hv
  exact h1
theorem holds.intBlk {w : World} {F : List HProp} {a : Option Addr} {n c : Nat} {l : List Int} (h : holds w (ownInts (.slice a n c) l :: F)) (h0 : 0 < l.length) : ∃ g, a = some ⟨g, 0, none⟩ := by
  obtain ⟨g', cap, hv, _⟩ := h.intAt 0 h0
  exact ⟨g', by injection hv⟩

set_option maxHeartbeats 8000000 in
theorem law_SlotsOnce (n : Int) (n0 : 0 ≤ n) (n1 : n ≤ 255) (va : Value) (l : List Int) (hwf : ∀ a ∈ l, (Lit.int .u8 a).wf = true) (m0 : l.length ≤ maxLen) (w : World) (F : List HProp) (hw : holds w (roU8s va l :: F)) :
    Calls Try.prog 14 #[.int .u8 n, va] w fun e w' => e = .returned (.bool true) ∧ holds w' F := by
  obtain ⟨a, cap, rfl, hcap⟩ := roU8s_form hw
  unfold maxLen at m0
  have hu : u8Ok l := fun a ha => bounds_u8 (hwf a ha)
  have HU := Lib.hid hu
  clear hwf hu
  by_cases h100 : l.length ≤ 100
  · have hd : decide ((100 : Int) < l.length) = false := by simp; omega
    have G1 := Lib.hid (slots_New w n _ n0 (by omega) hw)
    have hconv : IntKind.i64.wrap n = n := IntWalk.i64_in _ (by omega)
    have hg0 := SlotsM.Good.new n.toNat (by omega)
    go_enter Try.func14, Try.ntmps14
    go_wp2_with fail
    refine G1.out.mono ?_
    rintro e w1 ⟨v, rfl, h1⟩
    obtain ⟨b, rfl⟩ : ∃ b, v = .pointer (some ⟨b, 0, none⟩) := by obtain ⟨b, _, _, _, e, _⟩ := open_slots h1; exact ⟨b, e⟩
    generalize SlotsM.new n.toNat = s0 at h1 hg0
    have h2 : holds w1 (_ :: _ :: _ :: _ :: F) := (holds_ownRow_nil (holds_ownRow_nil h1 3 1) 3 1).sel 3 [2, 0, 1]
    go_wp2_with fail
    clear hconv G1
    go_loopw [6, 7, 8] (fun s6 s7 i wr => ∃ (k : Nat) (s : SlotsM) (P G : List Int), k ≤ l.length ∧ i = .int .i64 k ∧ s.Good k ∧ P.length = G.length ∧ P.length ≤ k ∧ Once s P G ∧ holds wr (slotsAt (.pointer (some ⟨b, 0, none⟩)) s :: ownInts s6 P :: ownInts s7 G :: roU8s (.slice a l.length cap) l :: F)) (fun _ _ i _ => l.length - (intOf i).toNat)
    case atStart => exact ⟨0, s0, [], [], Nat.zero_le _, rfl, hg0, rfl, Nat.le_refl _, fun k h => by simp at h, h2⟩
    case round =>
      obtain ⟨k, s, P, G, hk, rfl, hgd, hPG, hPk, honce, h3⟩ := hrel
      clear h1 h2 hg0
      have HPG := Lib.hid hPG
      have hPG1 : P.length ≤ G.length := by omega
      have hPG2 : G.length ≤ P.length := by omega
      clear hPG
      obtain ⟨a6, c6, rfl⟩ := ownInts_form (h3.pick 1)
      obtain ⟨a7, c7, rfl⟩ := ownInts_form (h3.pick 2)
      by_cases hlt : k < l.length
      · obtain ⟨ga, offa, capa, hva, _, hcs⟩ := (h3.pick 3).u8At (by omega)
        cases hva
        have hx := HU.out _ (List.getElem_mem hlt)
        have CK := Lib.hid (fun (w : World) (G : List HProp) (h : holds w (roU8s (.slice (some ⟨ga, offa, none⟩) l.length cap) l :: G)) => (show w.cell? ⟨ga, offa + k, none⟩ = some (.int .u8 l[k]) from by
          obtain ⟨_, _, _, hva, _, hcs⟩ := h.u8At (by omega)
          cases hva
          exact hcs k hlt))
        clear hcs
        generalize l[k] = x at hx CK
        have c1 := CK.out wr _ (h3.sel 4 [3])
        have hmod : Int.tmod x 3 = ((x.toNat % 3 : Nat) : Int) := by
          rw [Int.natCast_emod, Int.toNat_of_nonneg hx.1]; exact Int.tmod_eq_emod_of_nonneg hx.1
        have hm3 : x.toNat % 3 < 3 := Nat.mod_lt _ (by omega)
        have hw8 : IntKind.u8.wrap ((x.toNat % 3 : Nat) : Int) = ((x.toNat % 3 : Nat) : Int) := IntWalk.u8_in _ (by omega)
        generalize x.toNat % 3 = m at hmod hm3 hw8
        have HGD := Lib.hid hgd
        have HON := Lib.hid honce
        clear honce
        have hok := hgd.ok
        by_cases hm : 0 < m
        · have hm1 : (0 : Int) < m := by omega
          obtain ⟨⟨p, g, ok⟩, ht⟩ : ∃ t, s.told = t := ⟨_, rfl⟩
          have o := slots_Open wr _ s _ hok h3
          rw [ht] at o
          have O := Lib.hid o
          have HT := Lib.hid ht
          clear o ht hgd hok
          cases ok with
          | false =>
            go_wp2_with fail
            refine O.out.mono ?_
            rintro e w4 ⟨rfl, h4⟩
            clear O c1
            go_wp2_with fail
            go_loopw [12] (fun i wr => i = .int .i64 0 ∧ holds wr (slotsAt (.pointer (some ⟨b, 0, none⟩)) s.opened :: ownInts (.slice a6 P.length c6) P :: ownInts (.slice a7 G.length c7) G :: roU8s (.slice (some ⟨ga, offa, none⟩) l.length cap) l :: F)) (fun i _ => 0)
            case atStart => exact ⟨rfl, h4⟩
            case round =>
              obtain ⟨rfl, h5⟩ := hrel
              go_wp2_with fail
              go_roundw
              case rel =>
                refine ⟨k + 1, s.opened, P, G, by omega, by go_num, HGD.out.opens.2.up, HPG.out, by omega, HON.out.open_no HGD.out (by rw [HT.out]), h5⟩
              case measure => simp [intOf]; omega
          | true =>
            go_wp2_with fail
            refine O.out.mono ?_
            rintro e w4 ⟨rfl, h4⟩
            clear O c1
            go_wp2_with fail
            go_loopw [12] (fun i wr => ∃ j : Nat, j ≤ P.length ∧ i = .int .i64 j ∧ holds wr (slotsAt (.pointer (some ⟨b, 0, none⟩)) s.opened :: ownInts (.slice a6 P.length c6) P :: ownInts (.slice a7 G.length c7) G :: roU8s (.slice (some ⟨ga, offa, none⟩) l.length cap) l :: F)) (fun i _ => P.length - (intOf i).toNat)
            case atStart => exact ⟨0, Nat.zero_le _, rfl, h4⟩
            case round =>
              obtain ⟨j, hj, rfl, h5⟩ := hrel
              clear h4
              by_cases hjl : j < P.length
              · obtain ⟨g6, rfl⟩ := (h5.pick 1).intBlk (by omega)
                obtain ⟨g7, rfl⟩ := (h5.pick 2).intBlk (by omega)
                have d1 := (h5.pick 1).intCell g6 rfl j hjl
                have d2 := (h5.pick 2).intCell g7 rfl j (by omega)
                have hne := HON.out.new_ne HGD.out (by rw [HT.out]) j hjl (by omega)
                rw [HT.out] at hne
                dsimp only at hne
                generalize P[j] = y at d1 hne
                generalize G[j]'(by omega) = z at d2 hne
                by_cases hy : y = p
                · have hz : (z == g) = false := beq_false_of_ne fun e => hne ⟨hy, e⟩
                  have hy' : (y == p) = true := by simp [hy]
                  clear hne hy
                  go_wp2_with fail
                  go_roundw
                  case rel => exact ⟨j + 1, by omega, by go_num, h5⟩
                  case measure => simp [intOf]; omega
                · have hy' : (y == p) = false := by simpa using hy
                  clear hne hy
                  go_wp2_with fail
                  go_roundw
                  case rel => exact ⟨j + 1, by omega, by go_num, h5⟩
                  case measure => simp [intOf]; omega
              · have hjl2 : j = P.length := by omega
                subst hjl2
                have h6 : holds _ (ownInts (.slice a6 P.length c6) P :: slotsAt (.pointer (some ⟨b, 0, none⟩)) s.opened :: ownInts (.slice a7 G.length c7) G :: roU8s (.slice (some ⟨ga, offa, none⟩) l.length cap) l :: F) := h5.sel 4 [1, 0, 2, 3]
                clear h5
                go_wp2_with (first
                  | (at_builtin; refine wpList_appendInt (l := P) (y := p) rfl _ _ rfl rfl ((h6.alloc (.cells #[.int .i64 p] 3)).order [1, 0]) rfl (cellAt (h6.alloc (.cells #[.int .i64 p] 3)).get_blk 0) (by omega) ?_; intro v7 w7 h7; have h8 : holds w7 (ownInts (.slice a7 G.length c7) G :: ownInts v7 (P ++ [p]) :: slotsAt (.pointer (some ⟨b, 0, none⟩)) s.opened :: roU8s (.slice (some ⟨ga, offa, none⟩) l.length cap) l :: F) := holds.sel (l := ownInts v7 (P ++ [p]) :: blk _ (.cells #[.int .i64 p] 3) :: slotsAt (.pointer (some ⟨b, 0, none⟩)) s.opened :: ownInts (.slice a7 G.length c7) G :: roU8s (.slice (some ⟨ga, offa, none⟩) l.length cap) l :: F) h7 5 [3, 0, 2, 4]; clear h6 h7)
                  | (at_builtin; refine wpList_appendInt (l := G) (y := g) rfl _ _ rfl rfl ((h8.alloc (.cells #[.int .i64 g] 3)).order [1, 0]) rfl (cellAt (h8.alloc (.cells #[.int .i64 g] 3)).get_blk 0) (by omega) ?_; intro v9 w9 h9; have h10 : holds w9 (slotsAt (.pointer (some ⟨b, 0, none⟩)) s.opened :: ownInts v7 (P ++ [p]) :: ownInts v9 (G ++ [g]) :: roU8s (.slice (some ⟨ga, offa, none⟩) l.length cap) l :: F) := holds.sel (l := ownInts v9 (G ++ [g]) :: blk _ (.cells #[.int .i64 g] 3) :: ownInts v7 (P ++ [p]) :: slotsAt (.pointer (some ⟨b, 0, none⟩)) s.opened :: roU8s (.slice (some ⟨ga, offa, none⟩) l.length cap) l :: F) h9 5 [3, 2, 0, 4]; clear h8 h9))
                go_roundw
                case rel =>
                  refine ⟨k + 1, s.opened, P ++ [p], G ++ [g], by omega, by go_num, HGD.out.opens.2.up, by simp [HPG.out], by simp; omega, ?_, h10⟩
                  have := HON.out.open_yes HPG.out HGD.out (by rw [HT.out])
                  rw [HT.out] at this
                  exact this
                case measure => simp [intOf]; omega
        · have hm1 : m = 0 := by omega
          subst hm1
          by_cases hP0 : P.length = 0
          · have hPz : decide ((0 : Int) < P.length) = false := decide_eq_false (by omega)
            go_wp2_with fail
            go_roundw
            case rel => exact ⟨k + 1, s, P, G, by omega, by go_num, HGD.out.up, HPG.out, by omega, HON.out, h3⟩
            case measure => simp [intOf]; omega
          · have hPp : (0 : Int) < P.length := by omega
            have hjm : x.toNat % P.length < P.length := Nat.mod_lt _ (by omega)
            have hmod2 : Int.tmod x P.length = ((x.toNat % P.length : Nat) : Int) := by
              rw [Int.natCast_emod, Int.toNat_of_nonneg hx.1]; exact Int.tmod_eq_emod_of_nonneg hx.1
            generalize x.toNat % P.length = j at hmod2 hjm
            have hjg : j < G.length := by omega
            have hconv : IntKind.i64.wrap x = x := IntWalk.i64_in _ (by omega)
            have hconv2 : IntKind.i64.wrap (j : Int) = (j : Int) := IntWalk.i64_in _ (by omega)
            have hqz : ((P.length : Int) == 0) = false := beq_false_of_ne (by omega)
            obtain ⟨g6, rfl⟩ := (h3.pick 1).intBlk (by omega)
            obtain ⟨g7, rfl⟩ := (h3.pick 2).intBlk (by omega)
            obtain ⟨p, hp⟩ : ∃ p, P[j] = p := ⟨_, rfl⟩
            obtain ⟨g, hg⟩ : ∃ g, G[j]'(by omega) = g := ⟨_, rfl⟩
            obtain ⟨was, hwas⟩ : ∃ r, s.right p g = r := ⟨_, rfl⟩
            have hcl := HGD.out.clen
            have HSE := Lib.hid (fun (w : World) (A : HProp) (h : holds w (A :: ownInts (.slice (some ⟨g6, 0, none⟩) P.length c6) P :: ownInts (.slice (some ⟨g7, 0, none⟩) G.length c7) G :: roU8s (.slice (some ⟨ga, offa, none⟩) l.length cap) l :: F)) => (show w.cell? ⟨g6, j, none⟩ = some (.int .i64 p) ∧ w.cell? ⟨g7, j, none⟩ = some (.int .i64 g) from ⟨by rw [← hp]; exact (h.pick 1).intCell g6 rfl j hjm, by rw [← hg]; exact (h.pick 2).intCell g7 rfl j (by omega)⟩))
            have HR := Lib.hid (show ∀ w F', holds w ((slotsAt (.pointer (some ⟨b, 0, none⟩)) s :: ownInts (.slice (some ⟨g6, 0, none⟩) P.length c6) P :: ownInts (.slice (some ⟨g7, 0, none⟩) G.length c7) G :: roU8s (.slice (some ⟨ga, offa, none⟩) l.length cap) l :: F) ++ F') → Calls Try.prog 69 #[.pointer (some ⟨b, 0, none⟩), .int .i64 p, .int .i64 g] w fun e w' => e = Ending.returned (.bool was) ∧ holds w' ((slotsAt (.pointer (some ⟨b, 0, none⟩)) s :: ownInts (.slice (some ⟨g6, 0, none⟩) P.length c6) P :: ownInts (.slice (some ⟨g7, 0, none⟩) G.length c7) G :: roU8s (.slice (some ⟨ga, offa, none⟩) l.length cap) l :: F) ++ F') from fun w F' h => by rw [← hwas]; exact slots_Right w _ s p g _ hok h)
            obtain ⟨s2, hs2, hg2, ho2, hr2⟩ : ∃ s2, s2 = (if s.right p g then s.closeAt p else s) ∧ s2.Good (k + 1) ∧ Once s2 P G ∧ s2.right p g = false := by
              refine ⟨_, rfl, ?_⟩
              by_cases hr : s.right p g = true
              · rw [if_pos hr]; exact ⟨HGD.out.close hr, HON.out.close HGD.out hr, SlotsM.right_closed HGD.out hr⟩
              · rw [if_neg hr]; exact ⟨HGD.out.up, HON.out, by simpa using hr⟩
            have HC := Lib.hid (show ∀ w, holds w (slotsAt (.pointer (some ⟨b, 0, none⟩)) s :: ownInts (.slice (some ⟨g6, 0, none⟩) P.length c6) P :: ownInts (.slice (some ⟨g7, 0, none⟩) G.length c7) G :: roU8s (.slice (some ⟨ga, offa, none⟩) l.length cap) l :: F) → Calls Try.prog 72 #[.pointer (some ⟨b, 0, none⟩), .int .i64 p, .int .i64 g] w fun e w' => e = Ending.returned (.bool was) ∧ holds w' (slotsAt (.pointer (some ⟨b, 0, none⟩)) s2 :: ownInts (.slice (some ⟨g6, 0, none⟩) P.length c6) P :: ownInts (.slice (some ⟨g7, 0, none⟩) G.length c7) G :: roU8s (.slice (some ⟨ga, offa, none⟩) l.length cap) l :: F) from fun w h => by rw [← hwas, hs2]; exact slots_Close w _ s p g _ hok (by omega) (fun y hy => by have := HGD.out.gens y hy; omega) h)
            have HR2 := Lib.hid (show ∀ w, holds w (slotsAt (.pointer (some ⟨b, 0, none⟩)) s2 :: ownInts (.slice (some ⟨g6, 0, none⟩) P.length c6) P :: ownInts (.slice (some ⟨g7, 0, none⟩) G.length c7) G :: roU8s (.slice (some ⟨ga, offa, none⟩) l.length cap) l :: F) → Calls Try.prog 69 #[.pointer (some ⟨b, 0, none⟩), .int .i64 p, .int .i64 g] w fun e w' => e = Ending.returned (.bool false) ∧ holds w' (slotsAt (.pointer (some ⟨b, 0, none⟩)) s2 :: ownInts (.slice (some ⟨g6, 0, none⟩) P.length c6) P :: ownInts (.slice (some ⟨g7, 0, none⟩) G.length c7) G :: roU8s (.slice (some ⟨ga, offa, none⟩) l.length cap) l :: F) from fun w h => by rw [← hr2]; exact slots_Right w _ s2 p g _ hg2.ok h)
            have HG2 := Lib.hid (And.intro hg2 ho2)
            clear hs2 hg2 ho2 hr2 hwas hp hg hgd hok
            have d0 := HSE.out _ _ h3
            obtain ⟨d1, d2⟩ := d0
            go_wp2_with fail
            clear d1 d2 c1 hmod2 hconv2
            refine wp_region_loose (fun k => match k with | 9 => some ⟨fun u => u = .bool was, fun _ => []⟩ | _ => none) (slotsAt (.pointer (some ⟨b, 0, none⟩)) s :: ownInts (.slice (some ⟨g6, 0, none⟩) P.length c6) P :: ownInts (.slice (some ⟨g7, 0, none⟩) G.length c7) G :: roU8s (.slice (some ⟨ga, offa, none⟩) l.length cap) l :: F) (by kernel_rfl) (by kernel_rfl) h3 ?_
            iterate 9
              refine loose_exact rfl (fun K hK => ?_)
              go_simp
              first
                | (refine hK _ ?_; clear hK K)
                | (intro w hw
                   obtain ⟨d1, d2⟩ := HSE.out _ _ hw
                   go_simp
                   refine hK _ ?_
                   clear hK K d1 d2 hw w)
            refine loose_call (k := 9) rfl (by go_simp) (fun w F hw => ?_) (fun u hu => ?_)
            · go_simp
              go_at_call 69
              exact (HR.out _ _ hw).mono fun e w' ⟨he, hh⟩ => ⟨_, he, rfl, hh⟩
            obtain rfl := hu
            iterate 1
              refine loose_exact rfl (fun K hK => ?_)
              go_simp
              first
                | (refine hK _ ?_; clear hK K)
                | (intro w hw
                   obtain ⟨d1, d2⟩ := HSE.out _ _ hw
                   go_simp
                   refine hK _ ?_
                   clear hK K d1 d2 hw w)
            refine loose_nil ?_
            clear h3
            intro wq h3
            have hc := h3.drew
            go_wp2_with fail
            go_region_held3 (fun w' => w'.cell? ⟨g6, j, none⟩ = some (.int .i64 p) ∧ w'.cell? ⟨g7, j, none⟩ = some (.int .i64 g)) (exact HSE.out _ _ hc) (first
              | (go_simp; go_at_call 72; refine (HC.out _ hc).mono ?_; rintro e wx ⟨rfl, hc⟩)
              | (go_simp; go_at_call 69; refine (HR2.out _ hc).mono ?_; rintro e wx ⟨rfl, hc⟩))
            all_goals
              go_wp2_with fail
              go_roundw
              case rel => exact ⟨k + 1, s2, P, G, by omega, by go_num, HG2.out.1, HPG.out, by omega, HG2.out.2, hc⟩
              case measure => simp [intOf]; omega
      · have hkl : k = l.length := by omega
        subst hkl
        have h4 : holds wr F := h3.sel 4 []
        have h5 : holds _ (zslot wr.heap.size :: F) := h4.alloc (.cells #[.slice none 0 0, .map none, .slice none 0 0, .int .i64 0] 111 (0, 0))
        clear h3 h4 HU hlt hk
        go_wp2_with fail
        refine (nslots_Open _ _ h5).mono ?_
        rintro e w1 ⟨rfl, h1⟩
        go_wp2_with fail
        refine (zslots_Open _ _ _ h1).mono ?_
        rintro e w2 ⟨rfl, h2⟩
        go_wp2_with fail
        refine (nslots_Right _ 0 0 _ h2).mono ?_
        rintro e w3 ⟨rfl, h3⟩
        go_wp2_with fail
        refine (zslots_Right _ _ _ h3).mono ?_
        rintro e w4 ⟨rfl, h4⟩
        go_wp2_with fail
        refine (nslots_Close _ 0 0 _ h4).mono ?_
        rintro e w5 ⟨rfl, h5⟩
        go_wp2_with fail
        refine (zslots_Close _ _ _ h5).mono ?_
        rintro e w6 ⟨rfl, h6⟩
        go_wp2_with fail
        refine (nslots_Gen _ 0 _ h6).mono ?_
        rintro e w7 ⟨rfl, h7⟩
        go_wp2_with fail
        refine (zslots_Gen _ _ _ h7).mono ?_
        rintro e w8 ⟨rfl, h8⟩
        go_wp2_with fail
        refine (nslots_Len _ _ h8).mono ?_
        rintro e w9 ⟨rfl, h9⟩
        go_wp2_with fail
        refine (zslots_Len _ _ _ h9).mono ?_
        rintro e w10 ⟨rfl, h10⟩
        go_wp2_with fail
        refine (nslots_Places _ _ h10).mono ?_
        rintro e w11 ⟨rfl, h11⟩
        go_wp2_with fail
        refine (zslots_Places _ _ _ h11).mono ?_
        rintro e w12 ⟨rfl, h12⟩
        go_wp2_with fail
        refine (law06_works _ _ h12.tail).mono ?_
        rintro e w13 ⟨rfl, h13⟩
        go_wp2_with fail
        go_ret
        exact ⟨rfl, h13⟩
  · have h101 : decide ((100 : Int) < l.length) = true := by simp; omega
    go_enter Try.func14, Try.ntmps14
    go_wp2_with fail
    refine (law06_works _ _ hw.tail).mono ?_
    rintro e w2 ⟨rfl, h2⟩
    go_wp2_with fail
    go_ret
    exact ⟨rfl, h2⟩
end Go.Proofs.Ytfkpcmlajdmnfaa
