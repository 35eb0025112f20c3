/- The law TagsHands. -/
import Derived.Test.YtfkpcmlajdmnfaaLaw16F
import Derived.Test.YtfkpcmlajdmnfaaRef16D
import Derived.Test.YtfkpcmlajdmnfaaArgsHands
import Derived.Test.YtfkpcmlajdmnfaaMore
namespace Go.Proofs.Ytfkpcmlajdmnfaa
open Go Go.RowKit Go.MapKept
set_option maxRecDepth 100000
set_option linter.unusedVariables false
set_option linter.unusedSimpArgs false
attribute [local go_sem] exactUpon looseUpon

structure HOk (m : List (Int × Int)) : Prop where
  len : m.length = 12
  own : ∀ t ∈ m, 0 ≤ t.1
  wf : ∀ t ∈ m, (Lit.int .i64 t.1).wf = true
theorem HOk.set {m : List (Int × Int)} (h : HOk m) (i : Nat) (t : Int × Int) (h1 : 0 ≤ t.1) (h2 : (Lit.int .i64 t.1).wf = true) : HOk (m.set i t) :=
  ⟨by rw [List.length_set]; exact h.len, set_own h.own _ _ h1, fun u hu => by
    rcases List.mem_or_eq_of_mem_set hu with h3 | h3
    · exact h.wf u h3
    · rw [h3]; exact h2⟩
theorem HOk.own_ {m : List (Int × Int)} (h : HOk m) (c o : Int) (ho : (Lit.int .i64 o).wf = true) : HOk (Tags.own m c o).2 := by
  unfold Tags.own
  split
  · exact h
  · split
    · exact h
    · exact h.set _ _ (by dsimp only; omega) ho
theorem handOn_wf (to : Int) (h0 : (Lit.int .i64 to).wf = true) (is : List Int) : ∀ l : List (Int × Int), (∀ t ∈ l, (Lit.int .i64 t.1).wf = true) → ∀ t ∈ handOn to l is, (Lit.int .i64 t.1).wf = true := by
  induction is with
  | nil => exact fun l h => h
  | cons i is ih =>
    intro l h
    refine ih _ fun t ht => ?_
    rcases List.mem_or_eq_of_mem_set ht with h3 | h3
    · exact h t h3
    · rw [h3]; exact h0
theorem HOk.hand {m : List (Int × Int)} (h : HOk m) (fr to : Int) (h0 : (Lit.int .i64 to).wf = true) : HOk (handM m fr to) := by
  refine ⟨by rw [handM_len]; exact h.len, handM_own h.own fr to, fun t ht => ?_⟩
  unfold handM at ht
  split at ht
  · exact h.wf t ht
  · exact handOn_wf to h0 _ _ h.wf t ht
theorem HOk.new : HOk (List.replicate 12 (0, 0)) := ⟨by simp, fun t ht => by rw [List.eq_of_mem_replicate ht]; simp, fun t ht => by rw [List.eq_of_mem_replicate ht]; rfl⟩

/-- Both say the same owners. -/
structure OwnersFns (v vo vg : Value) (P : List HProp) (O : List Int) : Prop where
  t : ∀ (w : World) (F : List HProp), holds w (P ++ F) → Calls Try.prog 81 #[v] w fun e w' => ∃ a c, e = .returned (.slice a O.length c) ∧ holds w' (roInts (.slice a O.length c) O :: (P ++ F))
  r : ∀ (w : World) (F : List HProp), holds w (P ++ F) → Calls Try.prog 82 #[.agg #[vo, vg]] w fun e w' => ∃ a c, e = .returned (.slice a O.length c) ∧ holds w' (roInts (.slice a O.length c) O :: (P ++ F))
  len : O.length ≤ 1000000000
theorem ownersFns (v vo vg : Value) (m : List (Int × Int)) (F : List HProp) (h : HOk m) : ∃ O, OwnersFns v vo vg (tagsAt v m :: roInts vo (m.map (·.1)) :: roInts vg (m.map (·.2)) :: F) O := by
  obtain ⟨O, h1, h2⟩ := owners_ex (m.map (·.1))
  refine ⟨O, fun w G hw => ?_, fun w G hw => ?_, ?_⟩
  · refine (tags_Owners w v m O _ h1 h2 h.wf (by rw [h.len]; omega) hw).mono ?_
    rintro e w' ⟨r, rfl, hh⟩
    obtain ⟨a, c, rfl, _⟩ := roInts_form hh
    exact ⟨a, c, rfl, hh⟩
  · refine (ref16_Owners w vo vg (m.map (·.1)) _ (by rw [List.length_map, h.len]; omega) (hw.pick 1)).mono ?_
    rintro e w' ⟨r, rfl, o, ⟨g1, g2⟩, hh⟩
    have : o = O := rising_eq _ _ g1 h1 fun x => by rw [g2, h2]
    subst this
    obtain ⟨a, c, rfl, _⟩ := roInts_form hh
    exact ⟨a, c, rfl, hh.order [0, 2, 1]⟩
  · have := Audit.length_le_of_sub O (m.map (·.1)) (h1.imp fun h => by omega) fun x hx => ((h2 x).1 hx).1
    rw [List.length_map, h.len] at this
    omega

def aggAt (u : Value) (i j : Nat) : Value := match u with | .tuple t => (match t.getD i undef with | .agg x => x.getD j undef | _ => undef) | _ => undef
def ptrAt (u : Value) : Nat := match u with | .pointer (some a) => a.block | _ => 0
set_option maxHeartbeats 8000000 in
theorem law_TagsHands (va : Value) (l : List Int) (hwf : ∀ a ∈ l, (Lit.int .u8 a).wf = true) (m0 : l.length ≤ maxLen) (vh : Value) (hs : List (Int × Int)) (hwf2 : ∀ c ∈ hs, pairWf c) (m1 : hs.length ≤ maxLen) (w : World) (F : List HProp) (hw : holds w (roU8s va l :: roPairs vh hs :: F)) :
    Calls Try.prog 15 #[va, vh] w fun e w' => e = .returned (.bool true) ∧ holds w' F := by
  obtain ⟨a, cap, rfl, hcap⟩ := roU8s_form hw
  obtain ⟨ah, caph, rfl, hcaph⟩ := roPairs_form (hw.pick 1)
  unfold maxLen at m0 m1
  have hu : u8Ok l := fun a ha => bounds_u8 (hwf a ha)
  have HU := Lib.hid hu
  have HW := Lib.hid hwf2
  clear hwf hu hwf2
  by_cases hbig : 60 < l.length ∨ 20 < hs.length
  · have HB := Lib.hid hbig
    clear hbig
    by_cases h60 : 60 < l.length
    · have hd : decide ((60 : Int) < l.length) = true := by simp; omega
      go_enter Try.func15, Try.ntmps15
      go_wp2_with fail
      refine (law16_works _ _ hw.tail.tail).mono ?_
      rintro e w2 ⟨rfl, h2⟩
      go_wp2_with fail
      go_ret
      exact ⟨rfl, h2⟩
    · have hd : decide ((60 : Int) < l.length) = false := by simp; omega
      have hd2 : decide ((20 : Int) < hs.length) = true := by have := HB.out; simp; omega
      go_enter Try.func15, Try.ntmps15
      go_wp2_with fail
      refine (law16_works _ _ hw.tail.tail).mono ?_
      rintro e w2 ⟨rfl, h2⟩
      go_wp2_with fail
      go_ret
      exact ⟨rfl, h2⟩
  · have hd : decide ((60 : Int) < l.length) = false := by simp; omega
    have hd2 : decide ((20 : Int) < hs.length) = false := by simp; omega
    have h60 : l.length ≤ 60 := by omega
    have h20 : hs.length ≤ 20 := by omega
    clear hbig
    have G1 := Lib.hid (fun w F hw => tags_New w 12 F (by omega) (by omega) hw)
    have G2 := Lib.hid (fun w F hw => ref16_New w 12 F (by omega) (by omega) hw)
    go_enter Try.func15, Try.ntmps15
    go_wp2_with fail
    refine (G1.out _ _ hw).mono ?_
    rintro e w1 ⟨v, rfl, h1⟩
    obtain ⟨b, g, bm, mm, rfl, _, _⟩ := open_tags h1
    go_wp2_with fail
    refine (G2.out _ _ h1).mono ?_
    rintro e w2 ⟨vo, vg, rfl, h2⟩
    obtain ⟨ao, co, rfl, _⟩ := roInts_form h2
    obtain ⟨ag, cg, rfl, _⟩ := roInts_form (h2.pick 1)
    rw [show (12 : Int).toNat = 12 from rfl] at h2 ⊢
    simp only [List.length_replicate] at h2 ⊢
    go_wp2_with fail
    have h3 := h2.alloc (.cells #[.slice ao 12 co, .slice ag 12 cg] 55 (0, 0))
    have hm0 := HOk.new
    have h4 : holds (w2.alloc (.cells #[.slice ao 12 co, .slice ag 12 cg] 55)) (tagsAt (.pointer (some ⟨b, 0, none⟩)) (List.replicate 12 (0, 0)) :: roInts (.slice ao 12 co) ((List.replicate 12 ((0 : Int), (0 : Int))).map (·.1)) :: roInts (.slice ag 12 cg) ((List.replicate 12 ((0 : Int), (0 : Int))).map (·.2)) :: blk w2.heap.size (.cells #[.slice ao 12 co, .slice ag 12 cg] 55 (0, 0)) :: roU8s (.slice a l.length cap) l :: roPairs (.slice ah hs.length caph) hs :: F) := by
      rw [show (List.replicate 12 ((0 : Int), (0 : Int))).map (·.1) = List.replicate 12 0 from by simp, show (List.replicate 12 ((0 : Int), (0 : Int))).map (·.2) = List.replicate 12 0 from by simp]
      exact h3.order [3, 1, 2, 0]
    clear h3 h2 h1 hw G1 G2
    generalize w2.heap.size = bx at h4 ⊢
    generalize (Value.pointer (some ⟨b, 0, none⟩)) = v at h4 ⊢
    generalize List.replicate 12 ((0 : Int), (0 : Int)) = m at h4 hm0
    go_loopw [7] (fun i wr => ∃ (k : Nat) (ao : Option Addr) (co : Nat) (ag : Option Addr) (cg : Nat) (m : List (Int × Int)), k ≤ l.length ∧ i = .int .i64 k ∧ HOk m ∧ holds wr (tagsAt v m :: roInts (.slice ao 12 co) (m.map (·.1)) :: roInts (.slice ag 12 cg) (m.map (·.2)) :: blk bx (.cells #[.slice ao 12 co, .slice ag 12 cg] 55 (0, 0)) :: roU8s (.slice a l.length cap) l :: roPairs (.slice ah hs.length caph) hs :: F)) (fun i _ => l.length - (intOf i).toNat)
    case atStart => exact ⟨0, _, _, _, _, m, Nat.zero_le _, rfl, hm0, h4⟩
    case round =>
      obtain ⟨k, ao, co, ag, cg, m, hk, rfl, hm, h3⟩ := hrel
      clear h4 hm0
      by_cases hlt : k < l.length
      · obtain ⟨ga, offa, capa, hva, _, hcs⟩ := (h3.pick 4).u8At (by omega)
        cases hva
        have c1 := hcs k hlt
        have hx := HU.out _ (List.getElem_mem hlt)
        have CK := Lib.hid (fun (w : World) (G : List HProp) (h : holds w (roU8s (.slice (some ⟨ga, offa, none⟩) l.length cap) l :: G)) => (show w.cell? ⟨ga, offa + k, none⟩ = some (.int .u8 l[k]) from by
          obtain ⟨_, _, _, hva, _, hcs⟩ := h.u8At (by omega)
          cases hva
          exact hcs k hlt))
        clear hcs
        generalize l[k] = x at c1 hx CK
        obtain ⟨x, rfl⟩ := Int.eq_ofNat_of_zero_le hx.1
        have hx255 : x ≤ 255 := by omega
        have e1 : IntKind.i64.wrap (x : Int) = (x : Int) := IntWalk.i64_in _ (by omega)
        have e2 : Int.tmod (x : Int) 12 = ((x % 12 : Nat) : Int) := by rw [Int.natCast_emod]; exact Int.tmod_eq_emod_of_nonneg (by omega)
        have e3 : Int.tdiv (x : Int) 12 = ((x / 12 : Nat) : Int) := by rw [Int.natCast_ediv]; exact Int.tdiv_eq_ediv_of_nonneg (by omega)
        have e4 : Int.tmod ((x / 12 : Nat) : Int) 5 = ((x / 12 % 5 : Nat) : Int) := by rw [Int.natCast_emod (x / 12)]; exact Int.tmod_eq_emod_of_nonneg (by omega)
        have hc8 : x % 12 < 12 := Nat.mod_lt _ (by omega)
        have ho3 : x / 12 % 5 < 5 := Nat.mod_lt _ (by omega)
        have hq : x / 12 ≤ 255 := by omega
        generalize x % 12 = c at e2 hc8
        generalize x / 12 = q at e3 e4 ho3 hq
        generalize q % 5 = r at e4 ho3
        have e5 : IntKind.i64.wrap (c : Int) = (c : Int) := IntWalk.i64_in _ (by omega)
        have e6 : IntKind.i64.wrap (q : Int) = (q : Int) := IntWalk.i64_in _ (by omega)
        have e7 : IntKind.i64.wrap (r : Int) = (r : Int) := IntWalk.i64_in _ (by omega)
        have e8 : IntKind.i64.wrap (1 + (r : Int)) = 1 + (r : Int) := IntWalk.i64_in _ (by omega)
        have hro : (Lit.int .i64 (1 + (r : Int))).wf = true := by simp [Lit.wf, IntKind.min, IntKind.max, IntKind.signed, IntKind.bits]; omega
        have hm2 := hm.own_ c (1 + (r : Int)) hro
        have o1 := fun w F hw => tags_Own w v m c (1 + (r : Int)) F (by rw [hm.len]; omega) hw
        have o2 := fun w vo vg F hw => ref16_Own w vo vg m c (1 + (r : Int)) F (by rw [hm.len]; omega) hm.own hw
        obtain ⟨er, m2, hr⟩ : ∃ er m2, Tags.own m c (1 + (r : Int)) = (er, m2) := ⟨_, _, rfl⟩
        rw [hr] at hm2
        simp only [hr] at o1 o2
        have O1 := Lib.hid o1
        have O2 := Lib.hid o2
        clear o1 o2 hr hm
        have h3 := h3.drew
        go_wp2_with fail
        go_still_tail 15, (by kernel_rfl)
        change wpList _ _ _ _ _ wr.drew
        go_wp2_with fail
        refine (O1.out _ _ h3).mono ?_
        rintro e w4 ⟨rfl, h4⟩
        clear O1 h3 c1
        have h4 : holds w4 (tagsAt v m2 :: roInts (.slice ao 12 co) (m.map (·.1)) :: roInts (.slice ag 12 cg) (m.map (·.2)) :: blk bx (.cells #[.slice ao 12 co, .slice ag 12 cg] 55 (0, 0)) :: roU8s (.slice (some ⟨ga, offa, none⟩) l.length cap) l :: roPairs (.slice ah hs.length caph) hs :: F) := h4
        have HSE := Lib.hid (fun w (h : holds w (tagsAt v m2 :: roInts (.slice ao 12 co) (m.map (·.1)) :: roInts (.slice ag 12 cg) (m.map (·.2)) :: blk bx (.cells #[.slice ao 12 co, .slice ag 12 cg] 55 (0, 0)) :: roU8s (.slice (some ⟨ga, offa, none⟩) l.length cap) l :: roPairs (.slice ah hs.length caph) hs :: F)) => (show w.cell? ⟨bx, 0, none⟩ = some (.slice ao 12 co) ∧ w.cell? ⟨bx, 1, none⟩ = some (.slice ag 12 cg) ∧ w.cell? ⟨ga, offa + k, none⟩ = some (.int .u8 (x : Int)) from
          ⟨cellAt (h.pick 3).get_blk 0, cellAt (h.pick 3).get_blk 1, CK.out _ _ (h.pick 4)⟩))
        go_wp2_with fail
        generalize hBB : (tagsAt v m2 :: _ : List HProp) = BB at h4 HSE
        have HBB := Lib.hid hBB
        clear hBB
        refine wp_region_tail 15 [(18, 17), (19, 18)] [] (fun k => match k with  | _ => none) BB (by kernel_rfl) (by kernel_rfl) h4 ?_
        simp only [List.take_succ_cons, List.take_zero, List.drop_succ_cons, List.drop_zero]
        iterate 15
          refine loose_exact rfl (fun K hK => ?_)
          go_simp
          first
            | (refine hK _ ?_; clear hK K)
            | (intro w hw
               obtain ⟨b0, b1, c1⟩ := HSE.out _ hw
               go_simp
               refine hK _ ?_
               clear hK K b0 b1 c1 hw w)
        refine loose_nil ?_
        clear h4
        intro wq h4
        rw [← HBB.out] at h4
        clear HBB HSE CK
        go_wp2_with fail
        refine (O2.out _ _ _ _ (h4.sel 6 [1, 2, 0, 3, 4, 5])).mono ?_
        rintro e w6 ⟨vo2, vg2, rfl, h7⟩
        clear O2 h4 e1 e2 e3 e4 e5 e6 e7 e8
        obtain ⟨ao2, co2, hvo, _⟩ := roInts_form h7
        obtain ⟨ag2, cg2, hvg, _⟩ := roInts_form (h7.pick 1)
        rw [List.length_map, hm2.len] at hvo hvg
        subst hvo hvg
        have h8 : holds w6 (blk bx _ :: _) := h7.pick 3
        have f0 := frozen_of_row w6 bx 0 _ _ h8.get_blk
        have f1 := frozen_of_row w6 bx 1 _ _ h8.get_blk
        have e0 := cellAt h8.get_blk 0
        have e1 := cellAt h8.get_blk 1
        simp at e0 e1
        have h9 := store2 h8 (.slice ao2 12 co2) (.slice ag2 12 cg2)
        go_wp2_with fail
        refine onlyN_in ?_
        go_wp2_with fail
        go_roundw
        case rel => exact ⟨k + 1, ao2, co2, ag2, cg2, m2, by omega, by go_num, hm2, h9.sel 6 [3, 1, 2, 0, 4, 5]⟩
        case measure => simp [intOf]; omega
      · have hkl : k = l.length := by omega
        subst hkl
        clear hlt hk HU
        go_wp2_with fail
        go_loopw [8] (fun i wr => ∃ (k : Nat) (ao : Option Addr) (co : Nat) (ag : Option Addr) (cg : Nat) (m : List (Int × Int)), k ≤ hs.length ∧ i = .int .i64 k ∧ HOk m ∧ holds wr (tagsAt v m :: roInts (.slice ao 12 co) (m.map (·.1)) :: roInts (.slice ag 12 cg) (m.map (·.2)) :: blk bx (.cells #[.slice ao 12 co, .slice ag 12 cg] 55 (0, 0)) :: roU8s (.slice a l.length cap) l :: roPairs (.slice ah hs.length caph) hs :: F)) (fun i _ => hs.length - (intOf i).toNat)
        case atStart => exact ⟨0, _, _, _, _, m, Nat.zero_le _, rfl, hm, h3⟩
        case round =>
          obtain ⟨k, ao, co, ag, cg, m, hk, rfl, hm, h5⟩ := hrel
          clear h3
          by_cases hlt : k < hs.length
          · obtain ⟨gp, offp, capp, hvp, _, hcs⟩ := (h5.pick 5).pairAt (by omega)
            cases hvp
            clear hcs
            have hto := (HW.out _ (List.getElem_mem hlt)).2
            have CK := Lib.hid (fun (w : World) (G : List HProp) (h : holds w (roPairs (.slice (some ⟨gp, offp, none⟩) hs.length caph) hs :: G)) => (show w.cell? ⟨gp, offp + k * 2, none⟩ = some (.int .i64 hs[k].1) ∧ w.cell? ⟨gp, offp + k * 2 + 1, none⟩ = some (.int .i64 hs[k].2) from by
              obtain ⟨_, _, _, hva, _, hcs⟩ := h.pairAt (by omega)
              cases hva
              exact hcs k hlt))
            generalize hs[k] = ft at hto CK
            obtain ⟨fr, to⟩ := ft
            dsimp only at hto CK
            have hm2 := hm.hand fr to hto
            have hml : m.length ≤ 1048576 := by rw [hm.len]; omega
            have hcn : handN m fr to ≤ 1048576 := by unfold handN; have := cnt_le m fr; split <;> omega
            have o1 := fun w F hw => tags_Hand w v m fr to F hml hw
            have o2 := fun w F hw => ref16_Hand w (.slice ao 12 co) (.slice ag 12 cg) m fr to F hml hw
            generalize handM m fr to = m2 at o1 o2 hm2
            generalize handN m fr to = nh at o1 o2 hcn
            have O1 := Lib.hid o1
            have HH := Lib.hid (show ∀ w F', holds w ((tagsAt v m :: roInts (.slice ao 12 co) (m.map (·.1)) :: roInts (.slice ag 12 cg) (m.map (·.2)) :: blk bx (.cells #[.slice ao 12 co, .slice ag 12 cg] 55 (0, 0)) :: roU8s (.slice a l.length cap) l :: roPairs (.slice (some ⟨gp, offp, none⟩) hs.length caph) hs :: F) ++ F') → Calls Try.prog 79 #[.agg #[.slice ao 12 co, .slice ag 12 cg], .int .i64 fr, .int .i64 to] w fun e w' => ∃ a1 c1 a2 c2, e = .returned (.tuple #[.agg #[.slice a1 12 c1, .slice a2 12 c2], .int .i64 (nh : Nat)]) ∧ holds w' (roInts (.slice a1 12 c1) (m2.map (·.1)) :: roInts (.slice a2 12 c2) (m2.map (·.2)) :: ((tagsAt v m :: roInts (.slice ao 12 co) (m.map (·.1)) :: roInts (.slice ag 12 cg) (m.map (·.2)) :: blk bx (.cells #[.slice ao 12 co, .slice ag 12 cg] 55 (0, 0)) :: roU8s (.slice a l.length cap) l :: roPairs (.slice (some ⟨gp, offp, none⟩) hs.length caph) hs :: F) ++ F')) from fun w F' h => by
              have h1 : holds w (roInts (.slice ao 12 co) _ :: roInts (.slice ao 12 co) _ :: tagsAt v m :: roInts (.slice ag 12 cg) _ :: _) := (h.pick 1).dupInts
              have h2 : holds w (roInts (.slice ag 12 cg) _ :: roInts (.slice ag 12 cg) _ :: roInts (.slice ao 12 co) _ :: roInts (.slice ao 12 co) _ :: tagsAt v m :: _) := (h1.pick 3).dupInts
              have h3 : holds w (roInts (.slice ao 12 co) _ :: roInts (.slice ag 12 cg) _ :: roInts (.slice ag 12 cg) _ :: roInts (.slice ao 12 co) _ :: tagsAt v m :: _) := h2.order [2, 0, 1]
              refine (o2 _ _ h3).mono ?_
              rintro e w' ⟨vo', vg', rfl, hh⟩
              obtain ⟨a1, c1, hv1, _⟩ := roInts_form hh
              obtain ⟨a2, c2, hv2, _⟩ := roInts_form (hh.pick 1)
              rw [List.length_map, hm2.len] at hv1 hv2
              subst hv1 hv2
              exact ⟨a1, c1, a2, c2, rfl, hh.order [0, 1, 4, 3, 2]⟩)
            clear o1 o2
            have HSE := Lib.hid (fun w (h : holds w (tagsAt v m :: roInts (.slice ao 12 co) (m.map (·.1)) :: roInts (.slice ag 12 cg) (m.map (·.2)) :: blk bx (.cells #[.slice ao 12 co, .slice ag 12 cg] 55 (0, 0)) :: roU8s (.slice a l.length cap) l :: roPairs (.slice (some ⟨gp, offp, none⟩) hs.length caph) hs :: F)) => (show w.cell? ⟨bx, 0, none⟩ = some (.slice ao 12 co) ∧ w.cell? ⟨bx, 1, none⟩ = some (.slice ag 12 cg) ∧ w.cell? ⟨gp, offp + k * 2, none⟩ = some (.int .i64 fr) ∧ w.cell? ⟨gp, offp + k * 2 + 1, none⟩ = some (.int .i64 to) from
              ⟨cellAt (h.pick 3).get_blk 0, cellAt (h.pick 3).get_blk 1, (CK.out _ _ (h.pick 5)).1, (CK.out _ _ (h.pick 5)).2⟩))
            go_wp2_with fail
            generalize hBB : (tagsAt v m :: roInts (.slice ao 12 co) (m.map (·.1)) :: roInts (.slice ag 12 cg) (m.map (·.2)) :: blk bx (.cells #[.slice ao 12 co, .slice ag 12 cg] 55 (0, 0)) :: _ : List HProp) = BB at h5 HSE HH
            have HBB := Lib.hid hBB
            clear hBB
            refine wp_region_tail 16 [(16, 14)] [11, 15] (fun k => match k with | 11 => some ⟨fun u => ∃ a1 c1 a2 c2, u = .tuple #[.agg #[.slice a1 12 c1, .slice a2 12 c2], .int .i64 (nh : Nat)], fun u => [roInts (aggAt u 0 0) (m2.map (·.1)), roInts (aggAt u 0 1) (m2.map (·.2))]⟩ | 15 => some ⟨fun u => ∃ n : Nat, u = .pointer (some ⟨n, 0, none⟩), fun u => [blk (ptrAt u) (.cells #[.slice none 0 0, .slice none 0 0] 55 (0, 0))]⟩ | _ => none) BB (by kernel_rfl) (by kernel_rfl) h5 ?_
            simp only [List.take_succ_cons, List.take_zero, List.drop_succ_cons, List.drop_zero]
            iterate 11
              refine loose_exact rfl (fun K hK => ?_)
              go_simp
              first
                | (refine hK _ ?_; clear hK K)
                | (intro w hw
                   obtain ⟨b0, b1, p0, p1⟩ := HSE.out _ hw
                   go_simp
                   refine hK _ ?_
                   clear hK K b0 b1 p0 p1 hw w)
            refine loose_call (k := 11) rfl (by go_simp) (fun w F hw => ?_) (fun u hu => ?_)
            · go_simp
              go_at_call 79
              exact (HH.out _ _ hw).mono fun e w' ⟨a1, c1, a2, c2, he, hh⟩ => ⟨_, he, ⟨a1, c1, a2, c2, rfl⟩, hh⟩
            obtain ⟨a1, c1, a2, c2, rfl⟩ := hu
            iterate 3
              refine loose_exact rfl (fun K hK => ?_)
              go_simp
              first
                | (refine hK _ ?_; clear hK K)
                | (intro w hw
                   obtain ⟨b0, b1, p0, p1⟩ := HSE.out _ hw
                   go_simp
                   refine hK _ ?_
                   clear hK K b0 b1 p0 p1 hw w)
            refine loose_call (k := 15) rfl (by go_simp) (fun w F hw => ?_) (fun u hu => ?_)
            · go_simp
              exact hw.alloc _
            obtain ⟨nx, rfl⟩ := hu
            refine loose_nil ?_
            clear h5
            intro wq h5
            have h6 : holds wq (roInts (.slice a1 12 c1) (m2.map (·.1)) :: roInts (.slice a2 12 c2) (m2.map (·.2)) :: blk nx (.cells #[.slice none 0 0, .slice none 0 0] 55 (0, 0)) :: BB) := h5
            clear h5
            have h7 : holds wq (blk nx (.cells #[.slice none 0 0, .slice none 0 0] 55 (0, 0)) :: roInts (.slice a1 12 c1) (m2.map (·.1)) :: roInts (.slice a2 12 c2) (m2.map (·.2)) :: BB) := h6.pick 2
            have f0 := frozen_of_row _ nx 0 _ _ h7.get_blk
            have f1 := frozen_of_row _ nx 1 _ _ h7.get_blk
            have e0 := cellAt h7.get_blk 0
            have e1 := cellAt h7.get_blk 1
            simp only [List.getElem?_toArray, List.getElem?_cons_succ, List.getElem?_cons_zero] at e0 e1
            have h8 := store2 h7 (.slice a1 12 c1) (.slice a2 12 c2)
            clear h6 h7
            go_wp2_with fail
            refine onlyN_in ?_
            clear f0 f1 e0 e1
            generalize (wq.setCell ⟨nx, 0, none⟩ (.slice a1 12 c1)).setCell ⟨nx, 1, none⟩ (.slice a2 12 c2) = w8 at h8 ⊢
            rw [← HBB.out] at h8
            clear HBB HSE HH
            have d0 := cellAt h8.get_blk 0
            have d1 := cellAt h8.get_blk 1
            have h9 : holds w8 (blk bx (.cells #[.slice ao 12 co, .slice ag 12 cg] 55 (0, 0)) :: _) := h8.pick 6
            have f0 := frozen_of_row _ bx 0 _ _ h9.get_blk
            have f1 := frozen_of_row _ bx 1 _ _ h9.get_blk
            have e0 := cellAt h9.get_blk 0
            have e1 := cellAt h9.get_blk 1
            simp only [List.getElem?_toArray, List.getElem?_cons_succ, List.getElem?_cons_zero] at e0 e1 d0 d1
            have h10 := store2 h9 (.slice a1 12 c1) (.slice a2 12 c2)
            clear h8 h9
            go_wp2_with fail
            clear f0 f1 e0 e1 d0 d1
            generalize (w8.setCell ⟨bx, 0, none⟩ (.slice a1 12 c1)).setCell ⟨bx, 1, none⟩ (.slice a2 12 c2) = w9 at h10 ⊢
            have h11 : holds w9 (tagsAt v m :: roInts (.slice a1 12 c1) (m2.map (·.1)) :: roInts (.slice a2 12 c2) (m2.map (·.2)) :: blk bx (.cells #[.slice a1 12 c1, .slice a2 12 c2] 55 (0, 0)) :: roU8s (.slice a l.length cap) l :: roPairs (.slice (some ⟨gp, offp, none⟩) hs.length caph) hs :: F) := h10.sel 9 [4, 2, 3, 0, 7, 8]
            clear h10
            have CELLS := Lib.hid (fun w m' (h : holds w (tagsAt v m' :: roInts (.slice a1 12 c1) (m2.map (·.1)) :: roInts (.slice a2 12 c2) (m2.map (·.2)) :: blk bx (.cells #[.slice a1 12 c1, .slice a2 12 c2] 55 (0, 0)) :: roU8s (.slice a l.length cap) l :: roPairs (.slice (some ⟨gp, offp, none⟩) hs.length caph) hs :: F)) => (show w.cell? ⟨bx, 0, none⟩ = some (.slice a1 12 c1) ∧ w.cell? ⟨bx, 1, none⟩ = some (.slice a2 12 c2) ∧ w.cell? ⟨gp, offp + k * 2, none⟩ = some (.int .i64 fr) ∧ w.cell? ⟨gp, offp + k * 2 + 1, none⟩ = some (.int .i64 to) from
              ⟨cellAt (h.pick 3).get_blk 0, cellAt (h.pick 3).get_blk 1, (CK.out _ _ (h.pick 5)).1, (CK.out _ _ (h.pick 5)).2⟩))
            refine wp_region_cut2 11 12 46 (fun _ => none) _ (by kernel_rfl) rfl (by kernel_rfl) (by go_simp) (fun w => by go_simp; rfl) rfl h11 ?_
            simp only [List.take_succ_cons, List.take_zero, List.drop_succ_cons, List.drop_zero]
            iterate 11
              refine loose_exact rfl (fun K hK => ?_)
              go_simp
              first
                | (refine hK _ ?_; clear hK K)
                | (intro w hw
                   obtain ⟨b0, b1, p0, p1⟩ := CELLS.out _ _ hw
                   go_simp
                   refine hK _ ?_
                   clear hK K b0 b1 p0 p1 hw w)
            refine loose_nil ?_
            clear h11
            intro wq h11
            refine wpAny_one 11 (by kernel_rfl) rfl (by go_simp) rfl ?_
            unfold Oper.wp
            go_simp
            go_at_call 80
            refine (O1.out _ _ h11).mono ?_
            rintro e w12 ⟨rfl, h12⟩
            clear O1 h11
            have hml2 : m2.length ≤ 1048576 := by rw [hm2.len]; omega
            have hfn := tagsFns v (.slice a1 12 c1) (.slice a2 12 c2) m2 (blk bx (.cells #[.slice a1 12 c1, .slice a2 12 c2] 55 (0, 0)) :: roU8s (.slice a l.length cap) l :: roPairs (.slice (some ⟨gp, offp, none⟩) hs.length caph) hs :: F) hml2
            obtain ⟨O, hof⟩ := ownersFns v (.slice a1 12 c1) (.slice a2 12 c2) m2 (blk bx (.cells #[.slice a1 12 c1, .slice a2 12 c2] 55 (0, 0)) :: roU8s (.slice a l.length cap) l :: roPairs (.slice (some ⟨gp, offp, none⟩) hs.length caph) hs :: F) hm2
            have HSE := Lib.hid (fun w => CELLS.out w m2)
            clear CELLS
            have H1 := Lib.hid hof.t
            have H2 := Lib.hid hof.r
            have hol := hof.len
            have hlt1 := ofs_length_le (m2.map (·.1)) to
            rw [List.length_map, hm2.len] at hlt1
            have H3 := Lib.hid (hfn.of0 to)
            have H4 := Lib.hid (hfn.rof0 to)
            have H5 := Lib.hid (hfn.count fr)
            have H6 := Lib.hid (hfn.rof0 fr)
            clear hfn hof hml2
            generalize ofs (m2.map (·.1)) to = R at H3 H4 hlt1
            generalize ofs (m2.map (·.1)) fr = R2 at H5 H6
            have h12 : holds w12 (tagsAt v m2 :: roInts (.slice a1 12 c1) (m2.map (·.1)) :: roInts (.slice a2 12 c2) (m2.map (·.2)) :: blk bx (.cells #[.slice a1 12 c1, .slice a2 12 c2] 55 (0, 0)) :: roU8s (.slice a l.length cap) l :: roPairs (.slice (some ⟨gp, offp, none⟩) hs.length caph) hs :: F) := h12
            go_simp
            generalize hBB : (tagsAt v m2 :: _ : List HProp) = BB at h12 HSE H1 H2 H3 H4 H5 H6
            have HBB := Lib.hid hBB
            clear hBB
            refine wpAny_rest2 (Q := onlyN _) 13 45 _ (fun k => match k with | 16 => some ⟨fun u => ∃ (a : Option Addr) (c : Nat), u = .slice a O.length c, fun u => [roInts u O]⟩ | 18 => some ⟨fun u => ∃ (a : Option Addr) (c : Nat), u = .slice a O.length c, fun u => [roInts u O]⟩ | 19 => some ⟨fun u => u = .bool true, fun _ => []⟩ | 29 => some ⟨fun u => ∃ (a : Option Addr) (c : Nat), u = .slice a R.length c, fun u => [roInts u R]⟩ | 36 => some ⟨fun u => ∃ (a : Option Addr) (c : Nat), u = .slice a R.length c, fun u => [roInts u R]⟩ | 37 => some ⟨fun u => u = .bool true, fun _ => []⟩ | 47 => some ⟨fun u => u = .int .i64 (R2.length : Nat), fun _ => []⟩ | 54 => some ⟨fun u => ∃ (a : Option Addr) (c : Nat), u = .slice a R2.length c, fun _ => []⟩ | _ => none) BB (by kernel_rfl) h12 ?_
            simp only [List.take_succ_cons, List.take_zero, List.drop_succ_cons, List.drop_zero]
            iterate 3
              refine loose_exact rfl (fun K hK => ?_)
              go_simp
              first
                | (refine hK _ ?_; clear hK K)
                | (intro w hw
                   obtain ⟨b0, b1, p0, p1⟩ := HSE.out _ hw
                   go_simp
                   refine hK _ ?_
                   clear hK K b0 b1 p0 p1 hw w)
            refine loose_call (k := 16) rfl (by go_simp) (fun w F hw => ?_) (fun u hu => ?_)
            · go_simp
              go_at_call 81
              exact (H1.out _ _ hw).mono fun e w' ⟨a, c, he, hh⟩ => ⟨_, he, ⟨a, c, rfl⟩, hh⟩
            obtain ⟨at1, ct, rfl⟩ := hu
            iterate 1
              refine loose_exact rfl (fun K hK => ?_)
              go_simp
              first
                | (refine hK _ ?_; clear hK K)
                | (intro w hw
                   obtain ⟨b0, b1, p0, p1⟩ := HSE.out _ hw
                   go_simp
                   refine hK _ ?_
                   clear hK K b0 b1 p0 p1 hw w)
            refine loose_call (k := 18) rfl (by go_simp) (fun w F hw => ?_) (fun u hu => ?_)
            · go_simp
              go_at_call 82
              exact (H2.out _ _ hw).mono fun e w' ⟨a, c, he, hh⟩ => ⟨_, he, ⟨a, c, rfl⟩, hh⟩
            obtain ⟨ar, cr, rfl⟩ := hu
            refine loose_call_on (k := 19) ([roInts (.slice at1 O.length ct) O, roInts (.slice ar O.length cr) O]) (by rfl) rfl (by go_simp) (fun w F hw => ?_) (fun u hu => ?_)
            · go_simp
              go_at_call 30
              exact (base_SameInts _ _ _ _ _ _ hol hw).mono fun e w' ⟨he, hh⟩ => ⟨_, he, by simp, hh⟩
            obtain rfl := hu
            iterate 9
              refine loose_exact rfl (fun K hK => ?_)
              go_simp
              first
                | (refine hK _ ?_; clear hK K)
                | (intro w hw
                   obtain ⟨b0, b1, p0, p1⟩ := HSE.out _ hw
                   go_simp
                   refine hK _ ?_
                   clear hK K b0 b1 p0 p1 hw w)
            refine loose_call (k := 29) rfl (by go_simp) (fun w F hw => ?_) (fun u hu => ?_)
            · go_simp
              go_at_call 47
              exact (H3.out _ _ hw).mono fun e w' ⟨a, c, he, hh⟩ => ⟨_, he, ⟨a, c, rfl⟩, hh⟩
            obtain ⟨at2, ct2, rfl⟩ := hu
            iterate 6
              refine loose_exact rfl (fun K hK => ?_)
              go_simp
              first
                | (refine hK _ ?_; clear hK K)
                | (intro w hw
                   obtain ⟨b0, b1, p0, p1⟩ := HSE.out _ hw
                   go_simp
                   refine hK _ ?_
                   clear hK K b0 b1 p0 p1 hw w)
            refine loose_call (k := 36) rfl (by go_simp) (fun w F hw => ?_) (fun u hu => ?_)
            · go_simp
              go_at_call 46
              exact (H4.out _ _ hw).mono fun e w' ⟨a, c, he, hh⟩ => ⟨_, he, ⟨a, c, rfl⟩, hh⟩
            obtain ⟨ar2, cr2, rfl⟩ := hu
            refine loose_call_on (k := 37) ([roInts (.slice at2 R.length ct2) R, roInts (.slice ar2 R.length cr2) R]) (by rfl) rfl (by go_simp) (fun w F hw => ?_) (fun u hu => ?_)
            · go_simp
              go_at_call 30
              exact (base_SameInts _ _ _ _ _ _ (by omega) hw).mono fun e w' ⟨he, hh⟩ => ⟨_, he, by simp, hh⟩
            obtain rfl := hu
            iterate 9
              refine loose_exact rfl (fun K hK => ?_)
              go_simp
              first
                | (refine hK _ ?_; clear hK K)
                | (intro w hw
                   obtain ⟨b0, b1, p0, p1⟩ := HSE.out _ hw
                   go_simp
                   refine hK _ ?_
                   clear hK K b0 b1 p0 p1 hw w)
            refine loose_call (k := 47) rfl (by go_simp) (fun w F hw => ?_) (fun u hu => ?_)
            · go_simp
              go_at_call 45
              exact (H5.out _ _ hw).mono fun e w' ⟨he, hh⟩ => ⟨_, he, rfl, hh⟩
            obtain rfl := hu
            iterate 6
              refine loose_exact rfl (fun K hK => ?_)
              go_simp
              first
                | (refine hK _ ?_; clear hK K)
                | (intro w hw
                   obtain ⟨b0, b1, p0, p1⟩ := HSE.out _ hw
                   go_simp
                   refine hK _ ?_
                   clear hK K b0 b1 p0 p1 hw w)
            refine loose_call (k := 54) rfl (by go_simp) (fun w F hw => ?_) (fun u hu => ?_)
            · go_simp
              go_at_call 46
              exact (H6.out _ _ hw).mono fun e w' ⟨a, c, he, hh⟩ => ⟨_, he, ⟨a, c, rfl⟩, hh.tail⟩
            obtain ⟨ar3, cr3, rfl⟩ := hu
            iterate 3
              refine loose_exact rfl (fun K hK => ?_)
              go_simp
              first
                | (refine hK _ ?_; clear hK K)
                | (intro w hw
                   obtain ⟨b0, b1, p0, p1⟩ := HSE.out _ hw
                   go_simp
                   refine hK _ ?_
                   clear hK K b0 b1 p0 p1 hw w)
            refine loose_nil ?_
            clear h12
            intro wq h12
            refine onlyN_in ?_
            go_wp2_with fail
            rw [← HBB.out] at h12
            go_roundw
            case rel => exact ⟨k + 1, _, _, _, _, m2, by omega, by go_num, hm2, h12⟩
            case measure => simp [intOf]; omega
          · have hkl : k = hs.length := by omega
            subst hkl
            clear hlt hk HW
            go_wp2_with fail
            have h6 := h5.alloc (.cells #[.slice none 0 0, .map none] 71 (0, 0))
            generalize wr.heap.size = bz at h6 ⊢
            generalize wr.alloc (.cells #[.slice none 0 0, .map none] 71 (0, 0)) = w6 at h6 ⊢
            have h6 : holds w6 (tagsAt v m :: roInts (.slice ao 12 co) (m.map (·.1)) :: roInts (.slice ag 12 cg) (m.map (·.2)) :: blk bx (.cells #[.slice ao 12 co, .slice ag 12 cg] 55 (0, 0)) :: roU8s (.slice a l.length cap) l :: roPairs (.slice ah hs.length caph) hs :: ztag bz :: F) := h6.sel 7 [1, 2, 3, 4, 5, 6, 0]
            clear h5
            have hfn := tagsFns v (.slice ao 12 co) (.slice ag 12 cg) m (blk bx (.cells #[.slice ao 12 co, .slice ag 12 cg] 55 (0, 0)) :: roU8s (.slice a l.length cap) l :: roPairs (.slice ah hs.length caph) hs :: ztag bz :: F) (by rw [hm.len]; omega)
            obtain ⟨O, hof⟩ := ownersFns v (.slice ao 12 co) (.slice ag 12 cg) m (blk bx (.cells #[.slice ao 12 co, .slice ag 12 cg] 55 (0, 0)) :: roU8s (.slice a l.length cap) l :: roPairs (.slice ah hs.length caph) hs :: ztag bz :: F) hm
            have HSE := Lib.hid (fun w (h : holds w (tagsAt v m :: roInts (.slice ao 12 co) (m.map (·.1)) :: roInts (.slice ag 12 cg) (m.map (·.2)) :: blk bx (.cells #[.slice ao 12 co, .slice ag 12 cg] 55 (0, 0)) :: roU8s (.slice a l.length cap) l :: roPairs (.slice ah hs.length caph) hs :: ztag bz :: F)) => (show w.cell? ⟨bx, 0, none⟩ = some (.slice ao 12 co) ∧ w.cell? ⟨bx, 1, none⟩ = some (.slice ag 12 cg) from
              ⟨cellAt (h.pick 3).get_blk 0, cellAt (h.pick 3).get_blk 1⟩))
            have HZ := Lib.hid (show ∀ w G, holds w ((tagsAt v m :: roInts (.slice ao 12 co) (m.map (·.1)) :: roInts (.slice ag 12 cg) (m.map (·.2)) :: blk bx (.cells #[.slice ao 12 co, .slice ag 12 cg] 55 (0, 0)) :: roU8s (.slice a l.length cap) l :: roPairs (.slice ah hs.length caph) hs :: ztag bz :: F) ++ G) → Calls Try.prog 81 #[.pointer (some ⟨bz, 0, none⟩)] w fun e w' => e = .returned (.slice none 0 0) ∧ holds w' ((tagsAt v m :: roInts (.slice ao 12 co) (m.map (·.1)) :: roInts (.slice ag 12 cg) (m.map (·.2)) :: blk bx (.cells #[.slice ao 12 co, .slice ag 12 cg] 55 (0, 0)) :: roU8s (.slice a l.length cap) l :: roPairs (.slice ah hs.length caph) hs :: ztag bz :: F) ++ G) from fun w G h => (ztags_Owners w bz _ (h.sel 7 [6, 0, 1, 2, 3, 4, 5])).mono fun e w' ⟨he, hh⟩ => ⟨he, hh.sel 7 [1, 2, 3, 4, 5, 6, 0]⟩)
            have HZ2 := Lib.hid (show ∀ w G, holds w ((tagsAt v m :: roInts (.slice ao 12 co) (m.map (·.1)) :: roInts (.slice ag 12 cg) (m.map (·.2)) :: blk bx (.cells #[.slice ao 12 co, .slice ag 12 cg] 55 (0, 0)) :: roU8s (.slice a l.length cap) l :: roPairs (.slice ah hs.length caph) hs :: ztag bz :: F) ++ G) → Calls Try.prog 80 #[.pointer (some ⟨bz, 0, none⟩), .int .i64 1, .int .i64 2] w fun e w' => e = .returned (.int .i64 0) ∧ holds w' ((tagsAt v m :: roInts (.slice ao 12 co) (m.map (·.1)) :: roInts (.slice ag 12 cg) (m.map (·.2)) :: blk bx (.cells #[.slice ao 12 co, .slice ag 12 cg] 55 (0, 0)) :: roU8s (.slice a l.length cap) l :: roPairs (.slice ah hs.length caph) hs :: ztag bz :: F) ++ G) from fun w G h => (ztags_Hand w bz _ (h.sel 7 [6, 0, 1, 2, 3, 4, 5])).mono fun e w' ⟨he, hh⟩ => ⟨he, hh.sel 7 [1, 2, 3, 4, 5, 6, 0]⟩)
            have HEND := Lib.hid (fun w (h : holds w (tagsAt v m :: roInts (.slice ao 12 co) (m.map (·.1)) :: roInts (.slice ag 12 cg) (m.map (·.2)) :: blk bx (.cells #[.slice ao 12 co, .slice ag 12 cg] 55 (0, 0)) :: roU8s (.slice a l.length cap) l :: roPairs (.slice ah hs.length caph) hs :: ztag bz :: F)) => (show holds w F from h.sel 7 []))
            have H1 := Lib.hid hof.t
            have H2 := Lib.hid hof.r
            have hol := hof.len
            clear hfn hof
            generalize (tagsAt v m :: _ : List HProp) = BB at h6 HSE H1 H2 HZ HZ2 HEND
            have wz : IntKind.i64.wrap 0 = 0 := IntWalk.i64_in _ (by omega)
            refine wp_region_loose (fun k => match k with | 1 => some ⟨fun u => ∃ (a : Option Addr) (c : Nat), u = .slice a O.length c, fun u => [roInts u O]⟩ | 3 => some ⟨fun u => ∃ (a : Option Addr) (c : Nat), u = .slice a O.length c, fun u => [roInts u O]⟩ | 4 => some ⟨fun u => u = .bool true, fun _ => []⟩ | 7 => some ⟨fun u => u = .slice none 0 0, fun _ => []⟩ | 9 => some ⟨fun u => u = .slice none 0 0, fun _ => []⟩ | 16 => some ⟨fun u => u = .int .i64 0, fun _ => []⟩ | 17 => some ⟨fun u => u = .int .i64 0, fun _ => []⟩ | 22 => some ⟨fun u => u = .bool true, fun _ => []⟩ | _ => none) BB (by kernel_rfl) (by kernel_rfl) h6 ?_
            iterate 1
              refine loose_exact rfl (fun K hK => ?_)
              go_simp
              first
                | (refine hK _ ?_; clear hK K)
                | (intro w hw
                   obtain ⟨b0, b1⟩ := HSE.out _ hw
                   go_simp
                   refine hK _ ?_
                   clear hK K b0 b1 hw w)
            refine loose_call (k := 1) rfl (by go_simp) (fun w F hw => ?_) (fun u hu => ?_)
            · go_simp
              go_at_call 81
              exact (H1.out _ _ hw).mono fun e w' ⟨a, c, he, hh⟩ => ⟨_, he, ⟨a, c, rfl⟩, hh⟩
            obtain ⟨at1, ct, rfl⟩ := hu
            iterate 1
              refine loose_exact rfl (fun K hK => ?_)
              go_simp
              first
                | (refine hK _ ?_; clear hK K)
                | (intro w hw
                   obtain ⟨b0, b1⟩ := HSE.out _ hw
                   go_simp
                   refine hK _ ?_
                   clear hK K b0 b1 hw w)
            refine loose_call (k := 3) rfl (by go_simp) (fun w F hw => ?_) (fun u hu => ?_)
            · go_simp
              go_at_call 82
              exact (H2.out _ _ hw).mono fun e w' ⟨a, c, he, hh⟩ => ⟨_, he, ⟨a, c, rfl⟩, hh⟩
            obtain ⟨ar, cr, rfl⟩ := hu
            refine loose_call_on (k := 4) ([roInts (.slice at1 O.length ct) O, roInts (.slice ar O.length cr) O]) (by rfl) rfl (by go_simp) (fun w F hw => ?_) (fun u hu => ?_)
            · go_simp
              go_at_call 30
              exact (base_SameInts _ _ _ _ _ _ hol hw).mono fun e w' ⟨he, hh⟩ => ⟨_, he, by simp, hh⟩
            obtain rfl := hu
            iterate 2
              refine loose_exact rfl (fun K hK => ?_)
              go_simp
              first
                | (refine hK _ ?_; clear hK K)
                | (intro w hw
                   obtain ⟨b0, b1⟩ := HSE.out _ hw
                   go_simp
                   refine hK _ ?_
                   clear hK K b0 b1 hw w)
            refine loose_call (k := 7) rfl (by go_simp) (fun w F hw => ?_) (fun u hu => ?_)
            · go_simp
              go_at_call 81
              exact (ntags_Owners _ _ hw).mono fun e w' ⟨he, hh⟩ => ⟨_, he, rfl, hh⟩
            obtain rfl := hu
            iterate 1
              refine loose_exact rfl (fun K hK => ?_)
              go_simp
              first
                | (refine hK _ ?_; clear hK K)
                | (intro w hw
                   obtain ⟨b0, b1⟩ := HSE.out _ hw
                   go_simp
                   refine hK _ ?_
                   clear hK K b0 b1 hw w)
            refine loose_call (k := 9) rfl (by go_simp) (fun w F hw => ?_) (fun u hu => ?_)
            · go_simp
              go_at_call 81
              exact (HZ.out _ _ hw).mono fun e w' ⟨he, hh⟩ => ⟨_, he, rfl, hh⟩
            obtain rfl := hu
            iterate 6
              refine loose_exact rfl (fun K hK => ?_)
              go_simp
              first
                | (refine hK _ ?_; clear hK K)
                | (intro w hw
                   obtain ⟨b0, b1⟩ := HSE.out _ hw
                   go_simp
                   refine hK _ ?_
                   clear hK K b0 b1 hw w)
            refine loose_call (k := 16) rfl (by go_simp) (fun w F hw => ?_) (fun u hu => ?_)
            · go_simp
              go_at_call 80
              exact (ntags_Hand _ 1 2 _ hw).mono fun e w' ⟨he, hh⟩ => ⟨_, he, rfl, hh⟩
            obtain rfl := hu
            refine loose_call (k := 17) rfl (by go_simp) (fun w F hw => ?_) (fun u hu => ?_)
            · go_simp
              go_at_call 80
              exact (HZ2.out _ _ hw).mono fun e w' ⟨he, hh⟩ => ⟨_, he, rfl, hh⟩
            obtain rfl := hu
            iterate 4
              refine loose_exact rfl (fun K hK => ?_)
              go_simp
              first
                | (refine hK _ ?_; clear hK K)
                | (intro w hw
                   obtain ⟨b0, b1⟩ := HSE.out _ hw
                   go_simp
                   refine hK _ ?_
                   clear hK K b0 b1 hw w)
            refine loose_call (k := 22) rfl (by go_simp) (fun w F hw => ?_) (fun u hu => ?_)
            · go_simp
              go_at_call 34
              exact (law16_works _ _ hw).mono fun e w' ⟨he, hh⟩ => ⟨_, he, rfl, hh⟩
            obtain rfl := hu
            iterate 2
              refine loose_exact rfl (fun K hK => ?_)
              go_simp
              first
                | (refine hK _ ?_; clear hK K)
                | (intro w hw
                   obtain ⟨b0, b1⟩ := HSE.out _ hw
                   go_simp
                   refine hK _ ?_
                   clear hK K b0 b1 hw w)
            refine loose_nil ?_
            clear h6
            intro wq h6
            go_wp2_with fail
            go_ret
            exact ⟨rfl, HEND.out _ h6⟩
end Go.Proofs.Ytfkpcmlajdmnfaa
