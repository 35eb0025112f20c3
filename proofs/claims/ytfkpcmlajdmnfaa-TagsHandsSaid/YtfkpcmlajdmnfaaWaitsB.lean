/- What of package waits writes. -/
import Derived.Test.YtfkpcmlajdmnfaaWaits
namespace Go.Proofs.Ytfkpcmlajdmnfaa
open Go Go.RowKit Go.MapKept
set_option maxRecDepth 100000
set_option linter.unusedVariables false
attribute [local go_sem] exactUpon looseUpon

/-- What a put tells, and who waits then. -/
def Waits.put (n : Nat) (l : List Int) (i : Int) : Int × List Int :=
  if i < 0 ∨ n ≤ i then (2, l) else if i ∈ l then (19, l) else (0, l ++ [i])

theorem WaitsOk.put {n : Nat} {tn l : List Int} {fs c : Int} (h : WaitsOk n tn fs c l) {i : Nat} (hi : i < n) (hin : (i : Int) ∉ l) : WaitsOk n (tn.set i c) fs (c + 1) (l ++ [(i : Int)]) := by
  have hc := h.cnt
  refine ⟨by rw [List.length_set]; exact h.len, h.big, ?_, fun x hx => ?_, h.fs0, by simp; omega, fun j hj => ?_, fun k hk hkn => ?_⟩
  · rw [List.nodup_append]
    refine ⟨h.nodup, by simp, fun a ha b hb => ?_⟩
    simp at hb; subst hb; exact fun e => hin (e ▸ ha)
  · rcases List.mem_append.1 hx with h1 | h1
    · exact h.rng x h1
    · simp at h1; subst h1; omega
  · by_cases hjl : j < l.length
    · rw [List.getElem_append_left hjl]
      have hne : i ≠ (l[j]).toNat := fun e => hin (by
        have := h.rng _ (List.getElem_mem hjl)
        rw [show (i : Int) = l[j] by omega]; exact List.getElem_mem hjl)
      rw [List.getElem?_set_ne hne]
      exact h.at_ j hjl
    · have : j = l.length := by simp at hj; omega
      subst this
      rw [List.getElem_append_right (Nat.le_refl _)]
      simp only [Nat.sub_self, List.getElem_cons_zero, Int.toNat_natCast]
      rw [List.getElem?_set_self (by rw [h.len]; exact hi), hc]
  · have h1 : (k : Int) ∉ l := fun e => hkn (List.mem_append.2 (.inl e))
    have h2 : k ≠ i := fun e => hkn (List.mem_append.2 (.inr (by subst e; simp)))
    rw [List.getElem?_set_ne (Ne.symm h2)]
    exact h.no k hk h1
theorem WaitsOk.take {n : Nat} {tn l : List Int} {fs c x : Int} (h : WaitsOk n tn fs c (x :: l)) : WaitsOk n (tn.set x.toNat (-1)) (fs + 1) c l := by
  have hc := h.cnt
  have hx := h.rng x List.mem_cons_self
  have hnd := List.nodup_cons.1 h.nodup
  refine ⟨by rw [List.length_set]; exact h.len, h.big, hnd.2, fun y hy => h.rng y (List.mem_cons_of_mem _ hy), by have := h.fs0; omega, by simp at hc; omega, fun j hj => ?_, fun k hk hkn => ?_⟩
  · have hm := List.getElem_mem hj
    have hr := h.rng _ (List.mem_cons_of_mem _ hm)
    have hne : x.toNat ≠ (l[j]).toNat := fun e => hnd.1 (by rw [show x = l[j] by omega]; exact hm)
    rw [List.getElem?_set_ne hne]
    have := h.at_ (j + 1) (by simp; omega)
    simp only [List.getElem_cons_succ] at this
    rw [this]; congr 1; omega
  · by_cases hkx : k = x.toNat
    · rw [hkx, List.getElem?_set_self (by rw [h.len]; omega)]
    · rw [List.getElem?_set_ne (Ne.symm hkx)]
      exact h.no k hk fun hm => by
        rcases List.mem_cons.1 hm with h1 | h1
        · omega
        · exact hkn h1
theorem WaitsOk.room {n : Nat} {tn l : List Int} {fs c : Int} (h : WaitsOk n tn fs c l) {i : Nat} (hi : i < n) (hin : (i : Int) ∉ l) : l.length < n := by
  have := nodup_le n (l ++ [(i : Int)]) (h.put hi hin).nodup (h.put hi hin).rng
  simp at this; omega

theorem waits_Put (w : World) (v : Value) (n : Nat) (l : List Int) (c : Int) (i : Int) (F : List HProp) (hcb : c ≤ 1000000000000) (hw : holds w (waitsAt v n l c :: F)) :
    Calls Try.prog 53 #[v, .int .i64 i] w fun e w' => e = .returned (.int .i64 (Waits.put n l i).1) ∧ holds w' (waitsAt v n (Waits.put n l i).2 (if (Waits.put n l i).1 = 0 then c + 1 else c) :: F) := by
  obtain ⟨b, rb, a, cp, tn, fs, rfl, hm, h⟩ := open_waits hw
  have c0 := cellAt h.get_blk 0
  have c1 := cellAt h.get_blk 1
  simp at c0 c1
  have hbig := hm.big
  by_cases h0 : i < 0 ∨ n ≤ i
  · have e : Waits.put n l i = (2, l) := by unfold Waits.put; rw [if_pos h0]
    rw [e]
    dsimp only
    rw [if_neg (by decide)]
    clear e hm h
    by_cases hneg : i < 0
    · clear h0
      go_enter Try.func53, Try.ntmps53
      go_wp2_with fail
      refine (waits_is _ _ _ c0).mono ?_
      rintro e w1 ⟨rfl, rfl⟩
      go_wp2_with fail
      go_ret
      exact ⟨rfl, hw⟩
    · have h00 : (n : Int) ≤ i := by omega
      clear h0
      go_enter Try.func53, Try.ntmps53
      go_wp2_with fail
      refine (waits_is _ _ _ c0).mono ?_
      rintro e w1 ⟨rfl, rfl⟩
      go_wp2_with fail
      go_ret
      exact ⟨rfl, hw⟩
  · obtain ⟨i, rfl⟩ := Int.eq_ofNat_of_zero_le (show 0 ≤ i by omega)
    have hi : i < n := by omega
    have h00 : ¬ (i : Int) < 0 := by omega
    have h01 : ¬ (n : Int) ≤ i := by omega
    have h02 : (i : Int) < n := by omega
    have hlen := hm.len
    obtain ⟨g, cap, hv, _, _, ct, _⟩ := (h.pick 2).intAt i (by omega)
    have ha : a = some ⟨g, 0, none⟩ := by injection hv
    subst ha
    clear hv
    by_cases hin : (i : Int) ∈ l
    · have e : Waits.put n l i = (19, l) := by unfold Waits.put; rw [if_neg h0, if_pos hin]
      rw [e]
      dsimp only
      rw [if_neg (by decide)]
      obtain ⟨j, hp, hjl, ht⟩ := hm.ahead_in hin
      have hti : tn[i]'(by omega) = fs + j := by
        have := List.getElem?_eq_getElem (l := tn) (i := i) (by omega)
        rw [this] at ht; injection ht
      rw [hti] at ct
      have hfs := hm.fs0
      have hge : (0 : Int) ≤ fs + j := by omega
      generalize fs + (j : Int) = T at ct hge
      clear e hti ht hp hin hm h h0
      go_enter Try.func53, Try.ntmps53
      go_wp2_with fail
      refine (waits_is _ _ _ c0).mono ?_
      rintro e w1 ⟨rfl, rfl⟩
      go_wp2_with fail
      go_ret
      exact ⟨rfl, hw⟩
    · have e : Waits.put n l i = (0, l ++ [(i : Int)]) := by unfold Waits.put; rw [if_neg h0, if_neg hin]
      rw [e]
      dsimp only
      rw [if_pos rfl]
      have ht := hm.no i hi hin
      have hti : tn[i]'(by omega) = -1 := by
        have := List.getElem?_eq_getElem (l := tn) (i := i) (by omega)
        rw [this] at ht; injection ht
      rw [hti] at ct
      have hroom := hm.room hi hin
      have hT := hm.put hi hin
      have h1 : holds w (_ :: _ :: _ :: F) := h.sel 3 [1, 0, 2]
      have hfs := hm.fs0
      have hcc := hm.cnt
      have e1 : IntKind.i64.wrap (c + 1) = c + 1 := IntWalk.i64_in _ (by omega)
      clear e hti ht hin hm h h0 hw hcc
      go_enter Try.func53, Try.ntmps53
      go_wp2_with fail
      refine (waits_is _ _ _ c0).mono ?_
      rintro e w1 ⟨rfl, rfl⟩
      go_wp2_with fail
      refine (ring_Put _ _ _ _ _ _ hroom h1).mono ?_
      rintro e w2 ⟨rfl, h2⟩
      clear ct c0 c1
      have HSE := Lib.hid (fun w (h : holds w (ringAt (.pointer (some ⟨rb, 0, none⟩)) n (l ++ [(i : Int)]) :: blk b (.cells #[.pointer (some ⟨rb, 0, none⟩), .slice (some ⟨g, 0, none⟩) n cp, .int .i64 c, .int .i64 fs] 83 (0, 0)) :: ownInts (.slice (some ⟨g, 0, none⟩) n cp) tn :: F)) => (⟨cellAt (h.pick 1).get_blk 1, cellAt (h.pick 1).get_blk 2⟩ : w.cell? ⟨b, 1, none⟩ = some (.slice (some ⟨g, 0, none⟩) n cp) ∧ w.cell? ⟨b, 2, none⟩ = some (.int .i64 c)))
      go_wp2_with fail
      refine wp_region_loose_tail 10 (fun k => match k with  | _ => none) (ringAt (.pointer (some ⟨rb, 0, none⟩)) n (l ++ [(i : Int)]) :: blk b (.cells #[.pointer (some ⟨rb, 0, none⟩), .slice (some ⟨g, 0, none⟩) n cp, .int .i64 c, .int .i64 fs] 83 (0, 0)) :: ownInts (.slice (some ⟨g, 0, none⟩) n cp) tn :: F) (by kernel_rfl) (by kernel_rfl) h2 ?_
      simp only [List.take_succ_cons, List.take_zero, List.drop_succ_cons, List.drop_zero]
      iterate 10
        refine loose_exact rfl (fun K hK => ?_)
        go_simp
        first
          | (refine hK _ ?_; clear hK K)
          | (intro w hw
             obtain ⟨c0, c1⟩ := HSE.out _ hw
             go_simp
             refine hK _ ?_
             clear hK K c0 c1 hw w)
      refine loose_nil ?_
      clear h2
      intro wq h2
      have h3 : holds wq (ownInts (.slice (some ⟨g, 0, none⟩) n cp) tn :: ringAt (.pointer (some ⟨rb, 0, none⟩)) n (l ++ [(i : Int)]) :: blk b (.cells #[.pointer (some ⟨rb, 0, none⟩), .slice (some ⟨g, 0, none⟩) n cp, .int .i64 c, .int .i64 fs] 83 (0, 0)) :: F) := h2.sel 3 [2, 0, 1]
      clear HSE h2
      refine wpList_setInt rfl rfl _ _ rfl (i := i) rfl rfl h3 (by omega) fun w' hw' => ?_
      have h4 : holds w' (blk b (.cells #[.pointer (some ⟨rb, 0, none⟩), .slice (some ⟨g, 0, none⟩) n cp, .int .i64 c, .int .i64 fs] 83 (0, 0)) :: ringAt (.pointer (some ⟨rb, 0, none⟩)) n (l ++ [(i : Int)]) :: ownInts (.slice (some ⟨g, 0, none⟩) n cp) (tn.set i c) :: F) := hw'.sel 3 [2, 1, 0]
      have d0 := cellAt h4.get_blk 2
      have d1 := frozen_of_row w' b 2 _ _ h4.get_blk
      simp at d0
      have h5 := shut_waits hT (h4.setCell 2 (.int .i64 (c + 1)))
      clear h3 hw'
      go_wp2_with fail
      go_ret
      exact ⟨rfl, h5⟩
theorem waits_Take (w : World) (v : Value) (n : Nat) (l : List Int) (c : Int) (F : List HProp) (hcb : c ≤ 1000000000000) (hw : holds w (waitsAt v n l c :: F)) :
    Calls Try.prog 51 #[v] w fun e w' => e = .returned (.tuple #[.int .i64 (ringGet l 0).1, .int .i64 (if (ringGet l 0).2 then 0 else 20)]) ∧ holds w' (waitsAt v n (l.drop 1) c :: F) := by
  obtain ⟨b, rb, a, cp, tn, fs, rfl, hm, h⟩ := open_waits hw
  have c0 := cellAt h.get_blk 0
  simp at c0
  have h1 : holds w (_ :: _ :: _ :: F) := h.sel 3 [1, 0, 2]
  have H := Lib.hid (ring_Take _ _ _ _ _ h1)
  cases l with
  | nil =>
    have e : ringGet [] 0 = (0, false) := by simp [ringGet]
    rw [e] at H ⊢
    dsimp only at H ⊢
    clear e h h1
    go_enter Try.func51, Try.ntmps51
    go_wp2_with fail
    refine (waits_is _ _ _ c0).mono ?_
    rintro e w1 ⟨rfl, rfl⟩
    go_wp2_with fail
    refine H.out.mono ?_
    rintro e w2 ⟨rfl, h2⟩
    go_wp2_with fail
    go_ret2
    exact ⟨rfl, shut_waits hm (h2.sel 3 [1, 0, 2])⟩
  | cons x l =>
    have e : ringGet (x :: l) 0 = (x, true) := by simp [ringGet]
    rw [e] at H ⊢
    dsimp only at H ⊢
    rw [if_pos rfl]
    have hx := hm.rng x List.mem_cons_self
    obtain ⟨i, rfl⟩ := Int.eq_ofNat_of_zero_le hx.1
    have hT := hm.take
    rw [Int.toNat_natCast] at hT
    have hlen := hm.len
    obtain ⟨g, cap, hv⟩ : ∃ g cap, Value.slice a n cp = .slice (some ⟨g, 0, none⟩) tn.length cap := let ⟨g, cap, hv, _⟩ := (h.pick 2).intAt i (by omega); ⟨g, cap, hv⟩
    have ha : a = some ⟨g, 0, none⟩ := by injection hv
    subst ha
    have hi : i < n := by omega
    have hfs := hm.fs0
    have hcc := hm.cnt
    have e1 : IntKind.i64.wrap (fs + 1) = fs + 1 := IntWalk.i64_in _ (by omega)
    have hbig := hm.big
    clear e h h1 hv hm hcc hw hx
    go_enter Try.func51, Try.ntmps51
    go_wp2_with fail
    refine (waits_is _ _ _ c0).mono ?_
    rintro e w1 ⟨rfl, rfl⟩
    go_wp2_with fail
    refine H.out.mono ?_
    rintro e w2 ⟨rfl, h2⟩
    have c1 := cellAt (h2.pick 1).get_blk 1
    simp only [List.getElem?_toArray, List.getElem?_cons_succ, List.getElem?_cons_zero] at c1
    have h3 : holds w2 (ownInts (.slice (some ⟨g, 0, none⟩) n cp) tn :: ringAt (.pointer (some ⟨rb, 0, none⟩)) n l :: blk b (.cells #[.pointer (some ⟨rb, 0, none⟩), .slice (some ⟨g, 0, none⟩) n cp, .int .i64 c, .int .i64 fs] 83 (0, 0)) :: F) := h2.sel 3 [2, 0, 1]
    clear h2 H c0
    go_wp2_with (
      refine wpList_setInt rfl rfl _ _ rfl (i := i) rfl rfl h3 (by omega) fun w' hw' => ?_
      have h4 : holds w' (blk b (.cells #[.pointer (some ⟨rb, 0, none⟩), .slice (some ⟨g, 0, none⟩) n cp, .int .i64 c, .int .i64 fs] 83 (0, 0)) :: ringAt (.pointer (some ⟨rb, 0, none⟩)) n l :: ownInts (.slice (some ⟨g, 0, none⟩) n cp) (tn.set i (-1)) :: F) := hw'.sel 3 [2, 1, 0]
      have d0 := cellAt h4.get_blk 3
      have d1 := frozen_of_row w' b 3 _ _ h4.get_blk
      simp only [List.getElem?_toArray, List.getElem?_cons_succ, List.getElem?_cons_zero] at d0
      have h5 := shut_waits hT (h4.setCell 3 (.int .i64 (fs + 1)))
      clear h3 hw')
    go_ret2
    exact ⟨rfl, h5⟩
end Go.Proofs.Ytfkpcmlajdmnfaa
