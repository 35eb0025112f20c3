/- Contracts of package accounts: Open, Close, Do. -/
import Derived.Test.YtfiggkbclldccaaGreatAccts
import Derived.Test.YtfiggkbclldccaaGreatStrT
namespace Go.Proofs.YtfiggkbclldccaaGreat
open Go Go.RowKit Go.MapKept
set_option maxRecDepth 100000
set_option linter.unusedVariables false
set_option maxHeartbeats 1000000
attribute [local go_sem] exactUpon looseUpon

theorem AccOk.open {t : AccsM} {m : List (Int × AcM)} (h : AccOk t m) {s' : SlotsM} {p : Nat} {x : AcM} (hp : p < t.A.length) (hs : s'.opn = alSet t.s.opn (p : Int) true) (hlen : ∀ q ∈ alKeys t.s.opn, 0 ≤ q) : AccOk ⟨s', t.A.set p x⟩ (alSet m p x) := by
  refine ⟨fun q => ?_, alKeys_set_nodup _ _ _ h.nodup⟩
  rw [alGet_set, h.get]
  simp only [hs, mem_keys_set]
  by_cases hq : q = p
  · subst hq
    rw [if_pos rfl, if_pos (.inl rfl)]
    simp [hp]
  · rw [if_neg hq]
    by_cases hm : q ∈ alKeys t.s.opn
    · rw [if_pos hm, if_pos (.inr hm)]
      have := hlen q hm
      congr 1
      rw [List.getD_eq_getElem?_getD, List.getD_eq_getElem?_getD, List.getElem?_set_ne (by omega)]
    · rw [if_neg hm, if_neg (by rintro (h1 | h1) <;> contradiction)]
theorem AccOk.put {t : AccsM} {m : List (Int × AcM)} (h : AccOk t m) {p : Nat} {x : AcM} (hp : p < t.A.length) (hm : (p : Int) ∈ alKeys t.s.opn) (hlen : ∀ q ∈ alKeys t.s.opn, 0 ≤ q) : AccOk ⟨t.s, t.A.set p x⟩ (alSet m p x) := by
  refine ⟨fun q => ?_, alKeys_set_nodup _ _ _ h.nodup⟩
  rw [alGet_set, h.get]
  by_cases hq : q = p
  · subst hq
    rw [if_pos rfl, if_pos hm]
    simp [hp]
  · rw [if_neg hq]
    by_cases hm : q ∈ alKeys t.s.opn
    · rw [if_pos hm, if_pos hm]
      have := hlen q hm
      congr 1
      simp only
      rw [List.getD_eq_getElem?_getD, List.getD_eq_getElem?_getD, List.getElem?_set_ne (by omega)]
    · rw [if_neg hm, if_neg hm]
theorem AccOk.close {t : AccsM} {m : List (Int × AcM)} (h : AccOk t m) {p : Nat} (hn : (alKeys t.s.opn).Nodup) (hlen : ∀ q ∈ alKeys t.s.opn, 0 ≤ q) : AccOk ⟨t.s.closeAt p, t.A.set p ac0⟩ (alDel m p) := by
  refine ⟨fun q => ?_, alKeys_del_nodup _ _ h.nodup⟩
  rw [alGet_del _ _ _ h.nodup, h.get]
  simp only [SlotsM.closeAt, alKeys_del, hn.mem_erase_iff]
  by_cases hq : q = p
  · subst hq
    rw [if_pos rfl, if_neg (by simp)]
  · rw [if_neg hq]
    by_cases hm : q ∈ alKeys t.s.opn
    · rw [if_pos hm, if_pos ⟨hq, hm⟩]
      have := hlen q hm
      congr 1
      rw [List.getD_eq_getElem?_getD, List.getD_eq_getElem?_getD, List.getElem?_set_ne (by omega)]
    · rw [if_neg hm, if_neg (fun h => hm h.2)]
theorem keys_pos {s : SlotsM} (h : s.ok) : ∀ q ∈ alKeys s.opn, 0 ≤ q := fun q hq => by
  obtain ⟨v, hv⟩ := alGet_of_mem hq
  exact (h.opn q v hv).1
theorem keys_lt {s : SlotsM} (h : s.ok) : ∀ q ∈ alKeys s.opn, q < s.gens.length := fun q hq => by
  obtain ⟨v, hv⟩ := alGet_of_mem hq
  exact (h.opn q v hv).2

theorem accs_Open (w : World) (v : Value) (t : AccsM) (k : Nat) (claim : Int) (F : List HProp) (hgd : t.s.Good k) (hA : t.A.length = t.s.gens.length) (hw : holds w (accsAt v t :: F)) :
    Calls Tryz.prog 89 #[v, .int .i64 claim] w fun e w' => e = .returned (.tuple #[.int .i64 (Accs.open t claim).2.1, .int .i64 (Accs.open t claim).2.2.1, .int .i64 (Accs.open t claim).2.2.2]) ∧ holds w' (accsAt v (Accs.open t claim).1 :: F) := by
  have HO := Lib.hid hgd.opens.1
  have HSO := Lib.hid (fun w v F h => slots_Open w v t.s F hgd.ok h)
  have HKP := Lib.hid (keys_pos hgd.ok)
  have HNW := Lib.hid (fun w F h => account_New claim w F h)
  unfold Accs.open
  generalize Acct.new claim = r at HNW ⊢
  obtain ⟨x, e⟩ := r
  unfold acR acV acCells at HNW
  simp only at HNW ⊢
  by_cases h0 : e ≠ 0
  · rw [if_pos h0]
    have hb2 : (e != 0) = true := by simpa using h0
    clear h0 hA HO hgd HSO HKP
    go_enter Tryz.func89, Tryz.ntmps89
    go_wp2_with fail
    refine (accs_is _ _ _ _ hw).mono ?_
    rintro e1 w1 ⟨rfl, h1⟩
    go_wp2_with fail
    refine (HNW.out _ _ h1).mono ?_
    rintro e2 w2 ⟨rfl, h2⟩
    have h3 := (h2.alloc (.cells (acCells x) 162 (0, 0))).tail
    unfold acCells at h3
    go_wp2_with fail
    go_ret3
    exact ⟨rfl, h3⟩
  · rw [if_neg h0]
    obtain rfl : e = 0 := by simpa using h0
    clear h0
    cases ht : t.s.told.2.2 with
    | false =>
      rw [if_neg (by simp)]
      have HN := Lib.hid (HO.out.no ht)
      have HT := Lib.hid ht
      clear ht HO hA hgd HKP
      go_enter Tryz.func89, Tryz.ntmps89
      go_wp2_with fail
      refine (accs_is _ _ _ _ hw).mono ?_
      rintro e1 w1 ⟨rfl, h1⟩
      go_wp2_with fail
      refine (HNW.out _ _ h1).mono ?_
      rintro e2 w2 ⟨rfl, h2⟩
      have h3 := (h2.alloc (.cells (acCells x) 162 (0, 0))).tail
      unfold acCells at h3
      obtain ⟨b, b2, bm, m, rfl, hm, h4⟩ := open_accs h3
      have c0 := cellAt h4.get_blk 0
      simp at c0
      have HM := Lib.hid hm
      clear hm
      go_wp2_with fail
      refine (HSO.out _ _ _ (h4.order [1, 0])).mono ?_
      rw [HN.out, HT.out]
      rintro e3 w3 ⟨rfl, h5⟩
      clear c0
      go_wp2_with fail
      go_ret3
      exact ⟨rfl, shut_accs HM.out (h5.order [1, 0])⟩
    | true =>
      rw [if_pos rfl]
      obtain ⟨p0, p1, _, _, ho⟩ := HO.out.yes ht
      obtain ⟨p, hp⟩ := Int.eq_ofNat_of_zero_le p0
      rw [hp] at p1 ho
      have hpA : p < t.A.length := by omega
      have HAK := Lib.hid (fun m (hm : AccOk t m) => hm.open (s' := t.s.opened) (x := x) hpA ho HKP.out)
      clear p0 p1 ho HKP hA hgd HO hpA
      generalize hS : t.s.opened = s' at HSO HAK ⊢
      generalize hT : t.s.told = told at HSO hp ht ⊢
      obtain ⟨pl, gn, ok⟩ := told
      simp only at hp ht HSO ⊢
      subst hp ht
      rw [Int.toNat_natCast]
      clear hS hT
      go_enter Tryz.func89, Tryz.ntmps89
      go_wp2_with fail
      refine (accs_is _ _ _ _ hw).mono ?_
      rintro e1 w1 ⟨rfl, h1⟩
      go_wp2_with fail
      refine (HNW.out _ _ h1).mono ?_
      rintro e2 w2 ⟨rfl, h2⟩
      have h3 : holds _ (accsAt v t :: blk w2.heap.size _ :: F) := (h2.alloc (.cells (acCells x) 162 (0, 0))).order [1, 0]
      unfold acCells at h3
      obtain ⟨b, b2, bm, m, rfl, hm, h4⟩ := open_accs h3
      have c0 := cellAt h4.get_blk 0
      simp at c0
      have HM := Lib.hid (HAK.out m hm)
      clear hm HAK
      go_wp2_with fail
      refine (HSO.out _ _ _ (h4.order [1, 0])).mono ?_
      rintro e3 w3 ⟨rfl, h5⟩
      have h6 : holds w3 (imap acV bm m :: blk b (.cells #[.pointer (some ⟨b2, 0, none⟩), .map (some bm)] 172 (0, 0)) :: blk w2.heap.size (.cells #[.int .i64 x.claim, .int .i64 x.held, .int .i64 x.credits] 162 (0, 0)) :: slotsAt (.pointer (some ⟨b2, 0, none⟩)) s' :: F) := h5.order [2, 1, 3, 0]
      clear c0 h1 h2 h3 h4 h5
      have HSE := Lib.hid (show ∀ z, holds z (imap acV bm m :: blk b (.cells #[.pointer (some ⟨b2, 0, none⟩), .map (some bm)] 172 (0, 0)) :: blk w2.heap.size (.cells #[.int .i64 x.claim, .int .i64 x.held, .int .i64 x.credits] 162 (0, 0)) :: slotsAt (.pointer (some ⟨b2, 0, none⟩)) s' :: F) → z.cell? ⟨b, 1, none⟩ = some (.map (some bm)) ∧ _ from fun z h => ⟨cellAt (h.pick 1).get_blk 1, ac_cells (a := x) (h.pick 2)⟩)
      go_wp2_with fail
      refine wp_region_loose_tail 6 (fun k => match k with  | _ => none) (imap acV bm m :: blk b (.cells #[.pointer (some ⟨b2, 0, none⟩), .map (some bm)] 172 (0, 0)) :: blk w2.heap.size (.cells #[.int .i64 x.claim, .int .i64 x.held, .int .i64 x.credits] 162 (0, 0)) :: slotsAt (.pointer (some ⟨b2, 0, none⟩)) s' :: F) (by kernel_rfl) (by kernel_rfl) h6 ?_
      simp only [List.take_succ_cons, List.take_zero, List.drop_succ_cons, List.drop_zero]
      refine loose_seal ?_
      iterate 6
        refine sealed_exact rfl (fun K hK => ?_)
        go_simp
        first
          | (intro w hw
             obtain ⟨c1, k0, k1, k2, k3, k4, k5⟩ := HSE.out _ hw
             go_simp
             refine hK _ ?_
             clear hK K c1 k0 k1 k2 k3 k4 k5 hw w)
          | (intro w hw
             refine hK _ ?_
             clear hK K hw w)
          | (refine hK _ ?_; clear hK K)
      refine sealed_nil ?_
      clear h6
      intro wq h6
      go_wp2_with (at_mapUpdate; refine wpList_mapUpdate_sl (enc := acV) rfl rfl _ _ _ _ rfl Tryz.underlying170 Tryz.underlying3 rfl _ x rfl rfl h6 ?_; intro w7 h7)
      go_ret3
      exact ⟨rfl, (shut_accs HM.out (h7.order [1, 3, 0, 2])).sel 2 [0]⟩
end Go.Proofs.YtfiggkbclldccaaGreat
