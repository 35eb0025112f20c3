/- The law TagsEach. -/
import Derived.Test.YtfkpcmlajdmnfaaLaw16E
namespace Go.Proofs.Ytfkpcmlajdmnfaa
open Go Go.RowKit Go.MapKept
set_option maxRecDepth 100000
set_option linter.unusedVariables false

theorem TagsOk.own' {m : List (Int × Int)} {n k : Nat} (h : TagsOk m n k) (c o : Int) : TagsOk (Tags.own m c o).2 n (k + 1) := by
  have := h.act ⟨0, c, o⟩
  simpa [Tags.act] using this
theorem TagsOk.leave' {m : List (Int × Int)} {n k : Nat} (h : TagsOk m n k) (c : Int) : TagsOk (Tags.leave m c).2 n (k + 1) := by
  have := h.act ⟨1, c, 0⟩
  simpa [Tags.act] using this
theorem TagsOk.raise' {m : List (Int × Int)} {n k : Nat} (h : TagsOk m n k) (c : Int) : TagsOk (Tags.raise m c).2 n (k + 1) := by
  have := h.act ⟨2, c, 0⟩
  simpa [Tags.act] using this

theorem own_is {m : List (Int × Int)} {c : Nat} {o : Int} (hc : c < m.length) (ho : 0 < o) : Tags.own m c o = if (m.getD c (0, 0)).1 ≠ 0 then (19, m) else (0, m.set c (o, (m.getD c (0, 0)).2)) := by
  unfold Tags.own
  rw [if_neg (by omega), Int.toNat_natCast]
theorem leave_is {m : List (Int × Int)} {c : Nat} (hc : c < m.length) (ho : (m.getD c (0, 0)).1 ≠ 0) : Tags.leave m c = (0, m.set c (0, (m.getD c (0, 0)).2)) := by
  unfold Tags.leave
  rw [if_neg (by omega), Int.toNat_natCast, if_neg ho]
theorem raise_is {m : List (Int × Int)} {c : Nat} (hc : c < m.length) (ho : (m.getD c (0, 0)).1 = 0) (hg : (m.getD c (0, 0)).2 < 1048575) : Tags.raise m c = (0, m.set c (0, (m.getD c (0, 0)).2 + 1)) := by
  unfold Tags.raise
  rw [if_neg (by omega), Int.toNat_natCast, if_neg (by simpa using ho), if_neg (by omega), ho]
theorem getD_set_self {m : List (Int × Int)} {c : Nat} (hc : c < m.length) (t : Int × Int) : (m.set c t).getD c (0, 0) = t := by
  rw [List.getD_eq_getElem?_getD, List.getElem?_set_self hc]; rfl

theorem tags_len (w : World) (v : Value) (l : List (Int × Int)) (o : Int) (F : List HProp) (hl : l.length ≤ 1048576) (hw : holds w (tagsAt v l :: F)) :
    Calls Try.prog 47 #[v, .int .i64 o] w fun e w' => ∃ a c, e = .returned (.slice a (cnt l o) c) ∧ holds w' (tagsAt v l :: F) :=
  (tags_Of w v l o _ hl hw).mono fun e w' ⟨v', he, h2⟩ => by
    obtain ⟨a, c, rfl, _⟩ := roInts_form h2.shareInts
    rw [ofs_cnt] at he
    exact ⟨a, c, he, h2.tail⟩

set_option maxHeartbeats 8000000 in
theorem law_TagsEach (va : Value) (l : List Int) (hwf : ∀ a ∈ l, (Lit.int .u8 a).wf = true) (m0 : l.length ≤ maxLen) (w : World) (F : List HProp) (hw : holds w (roU8s va l :: F)) :
    Calls Try.prog 7 #[va] w fun e w' => e = .returned (.bool true) ∧ holds w' F := by
  obtain ⟨a, cap, rfl, hcap⟩ := roU8s_form hw
  unfold maxLen at m0
  have hu : u8Ok l := fun a ha => bounds_u8 (hwf a ha)
  have HU := Lib.hid hu
  clear hwf hu
  by_cases h100 : l.length ≤ 100
  · have hd : decide ((100 : Int) < l.length) = false := by simp; omega
    have G1 := Lib.hid (tags_New w 8 _ (by omega) (by omega) hw)
    have hm0 := TagsOk.new 8
    go_enter Try.func7, Try.ntmps7
    go_wp2_with fail
    refine G1.out.mono ?_
    rintro e w1 ⟨v, rfl, h1⟩
    rw [show (8 : Int).toNat = 8 from rfl] at h1
    generalize List.replicate 8 ((0 : Int), (0 : Int)) = m1 at h1 hm0
    go_wp2_with fail
    go_loopw [4] (fun i wr => ∃ (k : Nat) (m : List (Int × Int)), k ≤ l.length ∧ i = .int .i64 k ∧ TagsOk m 8 (3 * k) ∧ holds wr (tagsAt v m :: roU8s (.slice a l.length cap) l :: F)) (fun i _ => l.length - (intOf i).toNat)
    case atStart => exact ⟨0, m1, Nat.zero_le _, rfl, hm0, h1⟩
    case round =>
      obtain ⟨k, m, hk, rfl, hm, h3⟩ := hrel
      clear h1 hm0 G1
      by_cases hlt : k < l.length
      · obtain ⟨ga, offa, capa, hva, _, hcs⟩ := (h3.pick 1).u8At (by omega)
        cases hva
        have c1 := hcs k hlt
        have hx := HU.out _ (List.getElem_mem hlt)
        have CK := Lib.hid (fun (w : World) (G : List HProp) (h : holds w (roU8s (.slice (some ⟨ga, offa, none⟩) l.length cap) l :: G)) => (show w.cell? ⟨ga, offa + k, none⟩ = some (.int .u8 l[k]) from by
          obtain ⟨_, _, _, hva, _, hcs⟩ := h.u8At (by omega)
          cases hva
          exact hcs k hlt))
        clear hcs
        generalize l[k] = x at c1 hx CK
        obtain ⟨x, rfl⟩ := Int.eq_ofNat_of_zero_le hx.1
        have hx255 : x ≤ 255 := by omega
        have e1 : IntKind.i64.wrap (x : Int) = (x : Int) := IntWalk.i64_in _ (by omega)
        have e2 : Int.tmod (x : Int) 8 = ((x % 8 : Nat) : Int) := by rw [Int.natCast_emod]; exact Int.tmod_eq_emod_of_nonneg (by omega)
        have e3 : Int.tdiv (x : Int) 8 = ((x / 8 : Nat) : Int) := by rw [Int.natCast_ediv]; exact Int.tdiv_eq_ediv_of_nonneg (by omega)
        have e4 : Int.tmod ((x / 8 : Nat) : Int) 3 = ((x / 8 % 3 : Nat) : Int) := by rw [Int.natCast_emod (x / 8)]; exact Int.tmod_eq_emod_of_nonneg (by omega)
        have hc8 : x % 8 < 8 := Nat.mod_lt _ (by omega)
        have ho3 : x / 8 % 3 < 3 := Nat.mod_lt _ (by omega)
        have hq : x / 8 ≤ 255 := by omega
        generalize x % 8 = c at e2 hc8
        generalize x / 8 = q at e3 e4 ho3 hq
        generalize q % 3 = r at e4 ho3
        have e5 : IntKind.i64.wrap (c : Int) = (c : Int) := IntWalk.i64_in _ (by omega)
        have e6 : IntKind.i64.wrap (q : Int) = (q : Int) := IntWalk.i64_in _ (by omega)
        have e7 : IntKind.i64.wrap (r : Int) = (r : Int) := IntWalk.i64_in _ (by omega)
        have e8 : IntKind.i64.wrap (1 + (r : Int)) = 1 + (r : Int) := IntWalk.i64_in _ (by omega)
        have hcm : c < m.length := by rw [hm.len]; exact hc8
        obtain ⟨⟨was, gen⟩, hwg⟩ : ∃ t, m.getD c (0, 0) = t := ⟨_, rfl⟩
        have hgen : 0 ≤ gen ∧ gen ≤ (3 * k : Nat) := by
          have := (hm.at c).2
          rw [hwg] at this
          exact this
        have hlm : m.length ≤ 1048576 := by rw [hm.len]; omega
        have o1 := fun w h => tags_Owner w v m c (roU8s (.slice (some ⟨ga, offa, none⟩) l.length cap) l :: F) hlm h
        have o2 := fun w h => tags_Gen w v m c (roU8s (.slice (some ⟨ga, offa, none⟩) l.length cap) l :: F) hlm h
        simp only [if_pos (show 0 ≤ (c : Int) ∧ (c : Int) < m.length from by omega), Int.toNat_natCast, hwg] at o1 o2
        obtain ⟨er, m2, hm2, hl2, hown, hgd2, hTo⟩ : ∃ er m2, Tags.own m c (1 + (r : Int)) = (er, m2) ∧ m2.length = 8 ∧ ((er == 0) = (was == 0)) ∧ (∃ w2, w2 ≠ 0 ∧ m2.getD c (0, 0) = (w2, gen)) ∧ TagsOk m2 8 (3 * k + 1) := by
          refine ⟨(Tags.own m c (1 + (r : Int))).1, (Tags.own m c (1 + (r : Int))).2, rfl, (hm.own' c (1 + r)).len, ?_, ?_, hm.own' c (1 + r)⟩
          · rw [own_is hcm (by omega), hwg]
            by_cases hw0 : was = 0
            · simp [hw0]
            · rw [if_pos hw0]; simp [hw0]
          · rw [own_is hcm (by omega), hwg]
            by_cases hw0 : was = 0
            · rw [if_neg (by simpa using hw0)]; exact ⟨1 + r, by omega, getD_set_self hcm _⟩
            · rw [if_pos hw0]; exact ⟨was, hw0, hwg⟩
        obtain ⟨w2, hw2, hgd2⟩ := hgd2
        have o3 := fun w h => tags_Own w v m c (1 + (r : Int)) (roU8s (.slice (some ⟨ga, offa, none⟩) l.length cap) l :: F) hlm h
        rw [hm2] at o3
        have o4 := fun w h => tags_Gen w v m2 c (roU8s (.slice (some ⟨ga, offa, none⟩) l.length cap) l :: F) (by omega) h
        simp only [if_pos (show 0 ≤ (c : Int) ∧ (c : Int) < m2.length from by omega), Int.toNat_natCast, hgd2] at o4
        have O1 := Lib.hid o1
        have O2 := Lib.hid o2
        have O3 := Lib.hid o3
        have O4 := Lib.hid o4
        have HL2 := Lib.hid hl2
        have HG2 := Lib.hid hgd2
        clear o1 o2 o3 o4 hm2 hgd2 hwg hcm hlm hm hl2
        go_wp2_with fail
        go_quiet (fail)
        have h3 := h3.drewN nq
        go_wp2_with fail
        refine (O1.out _ h3).mono ?_
        rintro e w4 ⟨rfl, h4⟩
        go_wp2_with fail
        refine (O2.out _ h4).mono ?_
        rintro e w5 ⟨rfl, h5⟩
        go_wp2_with fail
        refine (O3.out _ h5).mono ?_
        rintro e w6 ⟨rfl, h6⟩
        obtain ⟨bb, hb1, hb2⟩ : ∃ bb, (er == 0) = bb ∧ (was == 0) = bb := ⟨_, hown, rfl⟩
        have hneq : (bb != bb) = false := by simp
        clear hown
        go_wp2_with fail
        refine (O4.out _ h6).mono ?_
        rintro e w7 ⟨rfl, h7⟩
        have c2 := CK.out w7 _ h7.tail
        clear O1 O2 O3 O4 c1 e1 e2 e3 e4 e5 e6 e7 e8 hneq hb1 hb2
        have hl8 : m2.length ≤ 1048576 := by rw [HL2.out]; omega
        by_cases hbig : (127 : Int) < x
        · obtain ⟨m4, hm3, hm4, hTo4⟩ : ∃ m4, Tags.leave m2 c = (0, m2.set c (0, gen)) ∧ Tags.raise (m2.set c (0, gen)) c = (0, m4) ∧ (TagsOk m4 8 (3 * (k + 1)) ∧ m4.length = 8 ∧ m4.getD c (0, 0) = (0, gen + 1) ∧ TagsOk (m2.set c (0, gen)) 8 (3 * k + 2)) := by
            have hc2 : c < m2.length := by rw [HL2.out]; exact hc8
            have e1 : Tags.leave m2 c = (0, m2.set c (0, gen)) := by rw [leave_is hc2 (by rw [HG2.out]; exact hw2), HG2.out]
            have e2 : Tags.raise (m2.set c (0, gen)) c = (0, (m2.set c (0, gen)).set c (0, gen + 1)) := by
              rw [raise_is (by simpa using hc2) (by rw [getD_set_self hc2]) (by rw [getD_set_self hc2]; dsimp only; omega), getD_set_self hc2]
            have t1 := hTo.leave' c
            rw [e1] at t1
            have t2 := t1.raise' c
            rw [e2] at t2
            exact ⟨_, e1, e2, t2, t2.len, getD_set_self (by simpa using hc2) _, t1⟩
          obtain ⟨hT4, hl4, hg4, hT3⟩ := hTo4
          have p1 := fun w h => tags_Leave w v m2 c (roU8s (.slice (some ⟨ga, offa, none⟩) l.length cap) l :: F) hl8 h
          rw [hm3] at p1
          have p2 := fun w h => tags_Raise w v (m2.set c (0, gen)) c (roU8s (.slice (some ⟨ga, offa, none⟩) l.length cap) l :: F) (by simpa using hl8) (fun t ht => by have := hT3.gen t ht; omega) h
          rw [hm4] at p2
          have p3 := fun w h => tags_Gen w v m4 c (roU8s (.slice (some ⟨ga, offa, none⟩) l.length cap) l :: F) (by omega) h
          simp only [if_pos (show 0 ≤ (c : Int) ∧ (c : Int) < m4.length from by omega), Int.toNat_natCast, hg4] at p3
          have P1 := Lib.hid p1
          have P2 := Lib.hid p2
          have P3 := Lib.hid p3
          have e9 : IntKind.i64.wrap (gen + 1) = gen + 1 := IntWalk.i64_in _ (by omega)
          have hl48 : m4.length ≤ 1048576 := by omega
          have HL4 := Lib.hid hl4
          clear p1 p2 p3 hm3 hm4 hg4 hT3 hl4
          go_wp2_with fail
          refine (P1.out _ h7).mono ?_
          rintro e w8 ⟨rfl, h8⟩
          go_wp2_with fail
          refine (P2.out _ h8).mono ?_
          rintro e w9 ⟨rfl, h9⟩
          go_wp2_with fail
          refine (P3.out _ h9).mono ?_
          rintro e w10 ⟨rfl, h10⟩
          clear P1 P2 P3 c2 e9 h3 h4 h5 h6 h7 h8 h9
          have b1 := cnt_le m4 1
          have b2 := cnt_le m4 2
          have b3 := cnt_le m4 3
          have f1 : IntKind.i64.wrap ((cnt m4 1 : Int) + (cnt m4 2 : Int)) = (cnt m4 1 : Int) + (cnt m4 2 : Int) := IntWalk.i64_in _ (by omega)
          have f2 : IntKind.i64.wrap ((cnt m4 1 : Int) + (cnt m4 2 : Int) + (cnt m4 3 : Int)) = (cnt m4 1 : Int) + (cnt m4 2 : Int) + (cnt m4 3 : Int) := IntWalk.i64_in _ (by omega)
          have C1 := Lib.hid (fun w h => tags_Count w v m4 1 (roU8s (.slice (some ⟨ga, offa, none⟩) l.length cap) l :: F) h)
          have C2 := Lib.hid (fun w h => tags_Count w v m4 2 (roU8s (.slice (some ⟨ga, offa, none⟩) l.length cap) l :: F) h)
          have C3 := Lib.hid (fun w h => tags_Count w v m4 3 (roU8s (.slice (some ⟨ga, offa, none⟩) l.length cap) l :: F) h)
          have D1 := Lib.hid (fun w h => tags_len w v m4 1 (roU8s (.slice (some ⟨ga, offa, none⟩) l.length cap) l :: F) hl48 h)
          have D2 := Lib.hid (fun w h => tags_len w v m4 2 (roU8s (.slice (some ⟨ga, offa, none⟩) l.length cap) l :: F) hl48 h)
          have D3 := Lib.hid (fun w h => tags_len w v m4 3 (roU8s (.slice (some ⟨ga, offa, none⟩) l.length cap) l :: F) hl48 h)
          generalize cnt m4 1 = n1 at f1 f2 C1 D1
          generalize cnt m4 2 = n2 at f1 f2 C2 D2
          generalize cnt m4 3 = n3 at f2 C3 D3
          go_wp2_with fail
          refine (C1.out _ h10).mono ?_
          rintro e w11 ⟨rfl, h11⟩
          go_wp2_with fail
          refine (C2.out _ h11).mono ?_
          rintro e w12 ⟨rfl, h12⟩
          go_wp2_with fail
          refine (C3.out _ h12).mono ?_
          rintro e w13 ⟨rfl, h13⟩
          go_wp2_with fail
          refine (D1.out _ h13).mono ?_
          rintro e w14 ⟨_, _, rfl, h14⟩
          go_wp2_with fail
          refine (D2.out _ h14).mono ?_
          rintro e w15 ⟨_, _, rfl, h15⟩
          go_wp2_with fail
          refine (D3.out _ h15).mono ?_
          rintro e w16 ⟨_, _, rfl, h16⟩
          go_wp2_with fail
          go_roundw
          case rel => exact ⟨k + 1, m4, by omega, by go_num, hT4, h16⟩
          case measure => simp [intOf]; omega
        · have hbig2 : decide ((127 : Int) < x) = false := decide_eq_false hbig
          have hT4 : TagsOk m2 8 (3 * (k + 1)) := hTo.up.up
          have hl48 := hl8
          have h10 := h7
          clear hbig
          have b1 := cnt_le m2 1
          have b2 := cnt_le m2 2
          have b3 := cnt_le m2 3
          have f1 : IntKind.i64.wrap ((cnt m2 1 : Int) + (cnt m2 2 : Int)) = (cnt m2 1 : Int) + (cnt m2 2 : Int) := IntWalk.i64_in _ (by omega)
          have f2 : IntKind.i64.wrap ((cnt m2 1 : Int) + (cnt m2 2 : Int) + (cnt m2 3 : Int)) = (cnt m2 1 : Int) + (cnt m2 2 : Int) + (cnt m2 3 : Int) := IntWalk.i64_in _ (by omega)
          have C1 := Lib.hid (fun w h => tags_Count w v m2 1 (roU8s (.slice (some ⟨ga, offa, none⟩) l.length cap) l :: F) h)
          have C2 := Lib.hid (fun w h => tags_Count w v m2 2 (roU8s (.slice (some ⟨ga, offa, none⟩) l.length cap) l :: F) h)
          have C3 := Lib.hid (fun w h => tags_Count w v m2 3 (roU8s (.slice (some ⟨ga, offa, none⟩) l.length cap) l :: F) h)
          have D1 := Lib.hid (fun w h => tags_len w v m2 1 (roU8s (.slice (some ⟨ga, offa, none⟩) l.length cap) l :: F) hl48 h)
          have D2 := Lib.hid (fun w h => tags_len w v m2 2 (roU8s (.slice (some ⟨ga, offa, none⟩) l.length cap) l :: F) hl48 h)
          have D3 := Lib.hid (fun w h => tags_len w v m2 3 (roU8s (.slice (some ⟨ga, offa, none⟩) l.length cap) l :: F) hl48 h)
          generalize cnt m2 1 = n1 at f1 f2 C1 D1
          generalize cnt m2 2 = n2 at f1 f2 C2 D2
          generalize cnt m2 3 = n3 at f2 C3 D3
          go_wp2_with fail
          refine (C1.out _ h10).mono ?_
          rintro e w11 ⟨rfl, h11⟩
          go_wp2_with fail
          refine (C2.out _ h11).mono ?_
          rintro e w12 ⟨rfl, h12⟩
          go_wp2_with fail
          refine (C3.out _ h12).mono ?_
          rintro e w13 ⟨rfl, h13⟩
          go_wp2_with fail
          refine (D1.out _ h13).mono ?_
          rintro e w14 ⟨_, _, rfl, h14⟩
          go_wp2_with fail
          refine (D2.out _ h14).mono ?_
          rintro e w15 ⟨_, _, rfl, h15⟩
          go_wp2_with fail
          refine (D3.out _ h15).mono ?_
          rintro e w16 ⟨_, _, rfl, h16⟩
          go_wp2_with fail
          go_roundw
          case rel => exact ⟨k + 1, m2, by omega, by go_num, hT4, h16⟩
          case measure => simp [intOf]; omega
      · have hkl : k = l.length := by omega
        subst hkl
        have h4 : holds wr F := h3.sel 2 []
        have h5 : holds _ (ztag wr.heap.size :: F) := h4.alloc (.cells #[.slice none 0 0, .map none] 71 (0, 0))
        clear h3 h4 HU hlt hk hm
        go_wp2_with fail
        refine (ntags_Own _ 0 1 _ h5).mono ?_
        rintro e w1 ⟨rfl, h1⟩
        go_wp2_with fail
        refine (ztags_Leave _ _ _ h1).mono ?_
        rintro e w2 ⟨rfl, h2⟩
        go_wp2_with fail
        refine (ntags_Raise _ 0 _ h2).mono ?_
        rintro e w3 ⟨rfl, h3⟩
        go_wp2_with fail
        refine (ntags_Owner _ 0 _ h3).mono ?_
        rintro e w4 ⟨rfl, h4⟩
        go_wp2_with fail
        refine (ztags_Owner _ _ _ h4).mono ?_
        rintro e w5 ⟨rfl, h5⟩
        go_wp2_with fail
        refine (ntags_Count _ 1 _ h5).mono ?_
        rintro e w6 ⟨rfl, h6⟩
        go_wp2_with fail
        refine (ztags_Count _ _ _ h6).mono ?_
        rintro e w7 ⟨rfl, h7⟩
        go_wp2_with fail
        refine (ntags_Gen _ 0 _ h7).mono ?_
        rintro e w8 ⟨rfl, h8⟩
        go_wp2_with fail
        refine (ztags_Gen _ _ _ h8).mono ?_
        rintro e w9 ⟨rfl, h9⟩
        go_wp2_with fail
        refine (ntags_Of _ 1 _ h9).mono ?_
        rintro e w10 ⟨rfl, h10⟩
        go_wp2_with fail
        refine (ztags_Of _ _ _ h10).mono ?_
        rintro e w11 ⟨rfl, h11⟩
        go_wp2_with fail
        refine (law16_works _ _ h11.tail).mono ?_
        rintro e w12 ⟨rfl, h12⟩
        go_wp2_with fail
        go_ret
        exact ⟨rfl, h12⟩
  · have h101 : decide ((100 : Int) < l.length) = true := by simp; omega
    go_enter Try.func7, Try.ntmps7
    go_wp2_with fail
    refine (law16_works _ _ hw.tail).mono ?_
    rintro e w2 ⟨rfl, h2⟩
    go_wp2_with fail
    go_ret
    exact ⟨rfl, h2⟩
end Go.Proofs.Ytfkpcmlajdmnfaa
