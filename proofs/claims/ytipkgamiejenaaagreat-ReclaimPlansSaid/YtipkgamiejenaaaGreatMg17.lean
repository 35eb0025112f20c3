import Derived.Test.YtipkgamiejenaaaGreatMg16

import Derived.Test.YtipkgamiejenaaaGreatMg9
import Derived.Test.YtipkgamiejenaaaGreatMg15
import Derived.Test.YtipkgamiejenaaaGreatMg10
import Derived.Test.YtipkgamiejenaaaGreatMg14
import Derived.Test.YtipkgamiejenaaaGreatMg7
import Derived.Test.YtipkgamiejenaaaGreatLooseT
/- What of package waits writes. -/
namespace Go.Proofs.YtipkgamiejenaaaGreat
open Go Go.RowKit Go.MapKept
set_option maxRecDepth 100000
set_option linter.unusedVariables false
attribute [local go_sem] exactUpon looseUpon

/-- What a put tells, and who waits then. -/
def Waits.put (n : Nat) (l : List Int) (i : Int) : Int × List Int :=
  if i < 0 ∨ n ≤ i then (2, l) else if i ∈ l then (19, l) else (0, l ++ [i])

theorem WaitsOk.put {n : Nat} {tn l : List Int} {fs c : Int} (h : WaitsOk n tn fs c l) {i : Nat} (hi : i < n) (hin : (i : Int) ∉ l) : WaitsOk n (tn.set i c) fs (c + 1) (l ++ [(i : Int)]) := by
  have hc := h.cnt
  refine ⟨by rw [List.length_set]; exact h.len, h.big, ?_, fun x hx => ?_, h.fs0, by simp; omega, fun j hj => ?_, fun k hk hkn => ?_⟩
  · rw [List.nodup_append]
    refine ⟨h.nodup, by simp, fun a ha b hb => ?_⟩
    simp at hb; subst hb; exact fun e => hin (e ▸ ha)
  · rcases List.mem_append.1 hx with h1 | h1
    · exact h.rng x h1
    · simp at h1; subst h1; omega
  · by_cases hjl : j < l.length
    · rw [List.getElem_append_left hjl]
      have hne : i ≠ (l[j]).toNat := fun e => hin (by
        have := h.rng _ (List.getElem_mem hjl)
        rw [show (i : Int) = l[j] by omega]; exact List.getElem_mem hjl)
      rw [List.getElem?_set_ne hne]
      exact h.at_ j hjl
    · have : j = l.length := by simp at hj; omega
      subst this
      rw [List.getElem_append_right (Nat.le_refl _)]
      simp only [Nat.sub_self, List.getElem_cons_zero, Int.toNat_natCast]
      rw [List.getElem?_set_self (by rw [h.len]; exact hi), hc]
  · have h1 : (k : Int) ∉ l := fun e => hkn (List.mem_append.2 (.inl e))
    have h2 : k ≠ i := fun e => hkn (List.mem_append.2 (.inr (by subst e; simp)))
    rw [List.getElem?_set_ne (Ne.symm h2)]
    exact h.no k hk h1
theorem WaitsOk.take {n : Nat} {tn l : List Int} {fs c x : Int} (h : WaitsOk n tn fs c (x :: l)) : WaitsOk n (tn.set x.toNat (-1)) (fs + 1) c l := by
  have hc := h.cnt
  have hx := h.rng x List.mem_cons_self
  have hnd := List.nodup_cons.1 h.nodup
  refine ⟨by rw [List.length_set]; exact h.len, h.big, hnd.2, fun y hy => h.rng y (List.mem_cons_of_mem _ hy), by have := h.fs0; omega, by simp at hc; omega, fun j hj => ?_, fun k hk hkn => ?_⟩
  · have hm := List.getElem_mem hj
    have hr := h.rng _ (List.mem_cons_of_mem _ hm)
    have hne : x.toNat ≠ (l[j]).toNat := fun e => hnd.1 (by rw [show x = l[j] by omega]; exact hm)
    rw [List.getElem?_set_ne hne]
    have := h.at_ (j + 1) (by simp; omega)
    simp only [List.getElem_cons_succ] at this
    rw [this]; congr 1; omega
  · by_cases hkx : k = x.toNat
    · rw [hkx, List.getElem?_set_self (by rw [h.len]; omega)]
    · rw [List.getElem?_set_ne (Ne.symm hkx)]
      exact h.no k hk fun hm => by
        rcases List.mem_cons.1 hm with h1 | h1
        · omega
        · exact hkn h1
theorem WaitsOk.room {n : Nat} {tn l : List Int} {fs c : Int} (h : WaitsOk n tn fs c l) {i : Nat} (hi : i < n) (hin : (i : Int) ∉ l) : l.length < n := by
  have := nodup_le n (l ++ [(i : Int)]) (h.put hi hin).nodup (h.put hi hin).rng
  simp at this; omega

theorem waits_Put (w : World) (v : Value) (n : Nat) (l : List Int) (c : Int) (i : Int) (F : List HProp) (hcb : c ≤ 1000000000000) (hw : holds w (waitsAt v n l c :: F)) :
    Calls Tryz.prog 108 #[v, .int .i64 i] w fun e w' => e = .returned (.int .i64 (Waits.put n l i).1) ∧ holds w' (waitsAt v n (Waits.put n l i).2 (if (Waits.put n l i).1 = 0 then c + 1 else c) :: F) := by
  obtain ⟨b, rb, a, cp, tn, fs, rfl, hm, h⟩ := open_waits hw
  have c0 := cellAt h.get_blk 0
  have c1 := cellAt h.get_blk 1
  simp at c0 c1
  have hbig := hm.big
  by_cases h0 : i < 0 ∨ n ≤ i
  · have e : Waits.put n l i = (2, l) := by unfold Waits.put; rw [if_pos h0]
    rw [e]
    dsimp only
    rw [if_neg (by decide)]
    clear e hm h
    by_cases hneg : i < 0
    · clear h0
      go_enter Tryz.func108, Tryz.ntmps108
      go_wp2_with fail
      refine (waits_is _ _ _ c0).mono ?_
      rintro e w1 ⟨rfl, rfl⟩
      go_wp2_with fail
      go_ret
      exact ⟨rfl, hw⟩
    · have h00 : (n : Int) ≤ i := by omega
      clear h0
      go_enter Tryz.func108, Tryz.ntmps108
      go_wp2_with fail
      refine (waits_is _ _ _ c0).mono ?_
      rintro e w1 ⟨rfl, rfl⟩
      go_wp2_with fail
      go_ret
      exact ⟨rfl, hw⟩
  · obtain ⟨i, rfl⟩ := Int.eq_ofNat_of_zero_le (show 0 ≤ i by omega)
    have hi : i < n := by omega
    have h00 : ¬ (i : Int) < 0 := by omega
    have h01 : ¬ (n : Int) ≤ i := by omega
    have h02 : (i : Int) < n := by omega
    have hlen := hm.len
    obtain ⟨g, cap, hv, _, _, ct, _⟩ := (h.pick 2).intAt i (by omega)
    have ha : a = some ⟨g, 0, none⟩ := by injection hv
    subst ha
    clear hv
    by_cases hin : (i : Int) ∈ l
    · have e : Waits.put n l i = (19, l) := by unfold Waits.put; rw [if_neg h0, if_pos hin]
      rw [e]
      dsimp only
      rw [if_neg (by decide)]
      obtain ⟨j, hp, hjl, ht⟩ := hm.ahead_in hin
      have hti : tn[i]'(by omega) = fs + j := by
        have := List.getElem?_eq_getElem (l := tn) (i := i) (by omega)
        rw [this] at ht; injection ht
      rw [hti] at ct
      have hfs := hm.fs0
      have hge : (0 : Int) ≤ fs + j := by omega
      generalize fs + (j : Int) = T at ct hge
      clear e hti ht hp hin hm h h0
      go_enter Tryz.func108, Tryz.ntmps108
      go_wp2_with fail
      refine (waits_is _ _ _ c0).mono ?_
      rintro e w1 ⟨rfl, rfl⟩
      go_wp2_with fail
      go_ret
      exact ⟨rfl, hw⟩
    · have e : Waits.put n l i = (0, l ++ [(i : Int)]) := by unfold Waits.put; rw [if_neg h0, if_neg hin]
      rw [e]
      dsimp only
      rw [if_pos rfl]
      have ht := hm.no i hi hin
      have hti : tn[i]'(by omega) = -1 := by
        have := List.getElem?_eq_getElem (l := tn) (i := i) (by omega)
        rw [this] at ht; injection ht
      rw [hti] at ct
      have hroom := hm.room hi hin
      have hT := hm.put hi hin
      have h1 : holds w (_ :: _ :: _ :: F) := h.sel 3 [1, 0, 2]
      have hfs := hm.fs0
      have hcc := hm.cnt
      have e1 : IntKind.i64.wrap (c + 1) = c + 1 := IntWalk.i64_in _ (by omega)
      clear e hti ht hin hm h h0 hw hcc
      go_enter Tryz.func108, Tryz.ntmps108
      go_wp2_with fail
      refine (waits_is _ _ _ c0).mono ?_
      rintro e w1 ⟨rfl, rfl⟩
      go_wp2_with fail
      refine (ring_Put _ _ _ _ _ _ hroom h1).mono ?_
      rintro e w2 ⟨rfl, h2⟩
      clear ct c0 c1
      have HSE := Lib.hid (fun w (h : holds w (ringAt (.pointer (some ⟨rb, 0, none⟩)) n (l ++ [(i : Int)]) :: blk b (.cells #[.pointer (some ⟨rb, 0, none⟩), .slice (some ⟨g, 0, none⟩) n cp, .int .i64 c, .int .i64 fs] 243 (0, 0)) :: ownInts (.slice (some ⟨g, 0, none⟩) n cp) tn :: F)) => (⟨cellAt (h.pick 1).get_blk 1, cellAt (h.pick 1).get_blk 2⟩ : w.cell? ⟨b, 1, none⟩ = some (.slice (some ⟨g, 0, none⟩) n cp) ∧ w.cell? ⟨b, 2, none⟩ = some (.int .i64 c)))
      go_wp2_with fail
      refine wp_region_loose_tail 10 (fun k => match k with  | _ => none) (ringAt (.pointer (some ⟨rb, 0, none⟩)) n (l ++ [(i : Int)]) :: blk b (.cells #[.pointer (some ⟨rb, 0, none⟩), .slice (some ⟨g, 0, none⟩) n cp, .int .i64 c, .int .i64 fs] 243 (0, 0)) :: ownInts (.slice (some ⟨g, 0, none⟩) n cp) tn :: F) (by kernel_rfl) (by kernel_rfl) h2 ?_
      simp only [List.take_succ_cons, List.take_zero, List.drop_succ_cons, List.drop_zero]
      iterate 10
        refine loose_exact rfl (fun K hK => ?_)
        go_simp
        first
          | (intro w hw
             obtain ⟨c0, c1⟩ := HSE.out _ hw
             go_simp
             refine hK _ ?_
             clear hK K c0 c1 hw w)
          | (intro w hw
             refine hK _ ?_
             clear hK K hw w)
          | (refine hK _ ?_; clear hK K)
      refine loose_nil ?_
      clear h2
      intro wq h2
      have h3 : holds wq (ownInts (.slice (some ⟨g, 0, none⟩) n cp) tn :: ringAt (.pointer (some ⟨rb, 0, none⟩)) n (l ++ [(i : Int)]) :: blk b (.cells #[.pointer (some ⟨rb, 0, none⟩), .slice (some ⟨g, 0, none⟩) n cp, .int .i64 c, .int .i64 fs] 243 (0, 0)) :: F) := h2.sel 3 [2, 0, 1]
      clear HSE h2
      refine wpList_setInt rfl rfl _ _ rfl (i := i) rfl rfl h3 (by omega) fun w' hw' => ?_
      have h4 : holds w' (blk b (.cells #[.pointer (some ⟨rb, 0, none⟩), .slice (some ⟨g, 0, none⟩) n cp, .int .i64 c, .int .i64 fs] 243 (0, 0)) :: ringAt (.pointer (some ⟨rb, 0, none⟩)) n (l ++ [(i : Int)]) :: ownInts (.slice (some ⟨g, 0, none⟩) n cp) (tn.set i c) :: F) := hw'.sel 3 [2, 1, 0]
      have d0 := cellAt h4.get_blk 2
      have d1 := frozen_of_row w' b 2 _ _ h4.get_blk
      simp at d0
      have h5 := shut_waits hT (h4.setCell 2 (.int .i64 (c + 1)))
      clear h3 hw'
      go_wp2_with fail
      go_ret
      exact ⟨rfl, h5⟩
theorem waits_Take (w : World) (v : Value) (n : Nat) (l : List Int) (c : Int) (F : List HProp) (hcb : c ≤ 1000000000000) (hw : holds w (waitsAt v n l c :: F)) :
    Calls Tryz.prog 174 #[v] w fun e w' => e = .returned (.tuple #[.int .i64 (ringGet l 0).1, .int .i64 (if (ringGet l 0).2 then 0 else 20)]) ∧ holds w' (waitsAt v n (l.drop 1) c :: F) := by
  obtain ⟨b, rb, a, cp, tn, fs, rfl, hm, h⟩ := open_waits hw
  have c0 := cellAt h.get_blk 0
  simp at c0
  have h1 : holds w (_ :: _ :: _ :: F) := h.sel 3 [1, 0, 2]
  have H := Lib.hid (ring_Take _ _ _ _ _ h1)
  cases l with
  | nil =>
    have e : ringGet [] 0 = (0, false) := by simp [ringGet]
    rw [e] at H ⊢
    dsimp only at H ⊢
    clear e h h1
    go_enter Tryz.func174, Tryz.ntmps174
    go_wp2_with fail
    refine (waits_is _ _ _ c0).mono ?_
    rintro e w1 ⟨rfl, rfl⟩
    go_wp2_with fail
    refine H.out.mono ?_
    rintro e w2 ⟨rfl, h2⟩
    go_wp2_with fail
    go_ret2
    exact ⟨rfl, shut_waits hm (h2.sel 3 [1, 0, 2])⟩
  | cons x l =>
    have e : ringGet (x :: l) 0 = (x, true) := by simp [ringGet]
    rw [e] at H ⊢
    dsimp only at H ⊢
    rw [if_pos rfl]
    have hx := hm.rng x List.mem_cons_self
    obtain ⟨i, rfl⟩ := Int.eq_ofNat_of_zero_le hx.1
    have hT := hm.take
    rw [Int.toNat_natCast] at hT
    have hlen := hm.len
    obtain ⟨g, cap, hv⟩ : ∃ g cap, Value.slice a n cp = .slice (some ⟨g, 0, none⟩) tn.length cap := let ⟨g, cap, hv, _⟩ := (h.pick 2).intAt i (by omega); ⟨g, cap, hv⟩
    have ha : a = some ⟨g, 0, none⟩ := by injection hv
    subst ha
    have hi : i < n := by omega
    have hfs := hm.fs0
    have hcc := hm.cnt
    have e1 : IntKind.i64.wrap (fs + 1) = fs + 1 := IntWalk.i64_in _ (by omega)
    have hbig := hm.big
    clear e h h1 hv hm hcc hw hx
    go_enter Tryz.func174, Tryz.ntmps174
    go_wp2_with fail
    refine (waits_is _ _ _ c0).mono ?_
    rintro e w1 ⟨rfl, rfl⟩
    go_wp2_with fail
    refine H.out.mono ?_
    rintro e w2 ⟨rfl, h2⟩
    have c1 := cellAt (h2.pick 1).get_blk 1
    simp only [List.getElem?_toArray, List.getElem?_cons_succ, List.getElem?_cons_zero] at c1
    have h3 : holds w2 (ownInts (.slice (some ⟨g, 0, none⟩) n cp) tn :: ringAt (.pointer (some ⟨rb, 0, none⟩)) n l :: blk b (.cells #[.pointer (some ⟨rb, 0, none⟩), .slice (some ⟨g, 0, none⟩) n cp, .int .i64 c, .int .i64 fs] 243 (0, 0)) :: F) := h2.sel 3 [2, 0, 1]
    clear h2 H c0
    go_wp2_with (
      refine wpList_setInt rfl rfl _ _ rfl (i := i) rfl rfl h3 (by omega) fun w' hw' => ?_
      have h4 : holds w' (blk b (.cells #[.pointer (some ⟨rb, 0, none⟩), .slice (some ⟨g, 0, none⟩) n cp, .int .i64 c, .int .i64 fs] 243 (0, 0)) :: ringAt (.pointer (some ⟨rb, 0, none⟩)) n l :: ownInts (.slice (some ⟨g, 0, none⟩) n cp) (tn.set i (-1)) :: F) := hw'.sel 3 [2, 1, 0]
      have d0 := cellAt h4.get_blk 3
      have d1 := frozen_of_row w' b 3 _ _ h4.get_blk
      simp only [List.getElem?_toArray, List.getElem?_cons_succ, List.getElem?_cons_zero] at d0
      have h5 := shut_waits hT (h4.setCell 3 (.int .i64 (fs + 1)))
      clear h3 hw')
    go_ret2
    exact ⟨rfl, h5⟩
end Go.Proofs.YtipkgamiejenaaaGreat

/- The law RingOrder. -/
namespace Go.Proofs.YtipkgamiejenaaaGreat
open Go Go.RowKit Go.MapKept
set_option maxRecDepth 100000
set_option linter.unusedVariables false

end Go.Proofs.YtipkgamiejenaaaGreat

/- The making of waits; waits that New did not give; the document's answer. -/
namespace Go.Proofs.YtipkgamiejenaaaGreat
open Go Go.RowKit Go.MapKept
set_option maxRecDepth 100000
set_option linter.unusedVariables false
attribute [local go_sem] exactUpon looseUpon

theorem WaitsOk.new (n : Nat) (h : n ≤ 1048576) : WaitsOk n (List.replicate n (-1)) 0 0 [] :=
  ⟨by simp, h, by simp, by simp, by omega, by simp, fun j hj => by simp at hj, fun i hi _ => by simp [hi]⟩
theorem fill_set (n k : Nat) (h : k < n) : (List.replicate k (-1 : Int) ++ List.replicate (n - k) 0).set k (-1) = List.replicate (k + 1) (-1) ++ List.replicate (n - (k + 1)) 0 := by
  apply List.ext_getElem
  · simp; omega
  · intro i h1 h2
    simp only [List.getElem_set, List.getElem_append, List.length_replicate, List.getElem_replicate]
    repeat' split
    all_goals first | rfl | omega

theorem waits_New (w : World) (n : Nat) (F : List HProp) (hn : n ≤ 1048576) (hw : holds w F) :
    Calls Tryz.prog 103 #[.int .i64 (n : Nat)] w fun e w' => ∃ b, e = .returned (.pointer (some ⟨b, 0, none⟩)) ∧ holds w' (waitsAt (.pointer (some ⟨b, 0, none⟩)) n [] 0 :: F) := by
  have H := Lib.hid (ring_New w n F (by omega) (by omega) hw)
  obtain ⟨i0, hi, hz0, hz1, hz2⟩ := info_parts Tryz.infoInt
  have hm := fun (w : World) (G : List HProp) (hw : holds w G) => run_make_sl (P := Tryz.prog) (t := 31) Tryz.underlying31 hi hz0 hz1 hw .i64 .i64 (x := n) (c := n) (by omega) (by omega) (by rw [hz2]; omega) (by omega)
  simp only [Int.toNat_natCast, Nat.mul_one] at hm
  have HM := Lib.hid hm
  clear hm hi hz0 hz1 hz2
  go_enter Tryz.func103, Tryz.ntmps103
  go_wp2_with fail
  refine H.out.mono ?_
  rintro e w1 ⟨v, rfl, h1⟩
  rw [Int.toNat_natCast] at h1
  obtain ⟨rb, rfl⟩ : ∃ b, v = .pointer (some ⟨b, 0, none⟩) := by obtain ⟨b, _, _, _, _, e, _⟩ := open_ring h1; exact ⟨b, e⟩
  have hm1 := (HM.out w1 _ h1).1
  have h2 := h1.madeInts n (by unfold maxLen; omega)
  go_wp2_with fail
  clear hm1 HM H
  generalize w1.heap.size = g at h2 ⊢
  go_loopw [14] (fun i wr => ∃ k : Nat, k ≤ n ∧ i = .int .i64 k ∧ holds wr (ownInts (.slice (some ⟨g, 0, none⟩) n n) (List.replicate k (-1) ++ List.replicate (n - k) 0) :: ringAt (.pointer (some ⟨rb, 0, none⟩)) n [] :: F)) (fun i _ => n - (intOf i).toNat)
  case atStart => exact ⟨0, Nat.zero_le _, rfl, by simpa using h2⟩
  case round =>
    obtain ⟨k, hk, rfl, h3⟩ := hrel
    clear h1 h2
    by_cases hlt : k < n
    · go_wp2_with (
        refine wpList_setInt rfl rfl _ _ rfl (i := k) rfl rfl h3 (by simp; omega) fun w' hw' => ?_
        clear h3)
      go_roundw
      case rel => exact ⟨k + 1, by omega, by go_num, by rw [← fill_set n k hlt]; exact hw'⟩
      case measure => simp [intOf]; omega
    · have hkn : k = n := by omega
      subst hkn
      go_wp2_with fail
      go_ret
      have h4 := h3.alloc (.cells #[.pointer (some ⟨rb, 0, none⟩), .slice (some ⟨g, 0, none⟩) k k, .int .i64 0, .int .i64 0] 243 (0, 0))
      rw [Nat.sub_self, List.replicate_zero, List.append_nil] at h4
      exact ⟨_, rfl, shut_waits (WaitsOk.new k hn) (h4.sel 3 [0, 2, 1])⟩

/-! ### Waits that New did not give -/
def noLine (w : World) (v : Value) : Prop := v = .pointer none ∨ ∃ b, v = .pointer (some ⟨b, 0, none⟩) ∧ w.cell? ⟨b, 0, none⟩ = some (.pointer none) ∧ w.cell? ⟨b, 2, none⟩ = some (.int .i64 0)
/-! ### The document's answer -/
end Go.Proofs.YtipkgamiejenaaaGreat

/- Package reclaim: its resource; is, New. -/
namespace Go.Proofs.YtipkgamiejenaaaGreat
open Go Go.RowKit Go.MapKept
set_option linter.unusedVariables false
set_option linter.unusedSectionVars false
set_option linter.unusedSimpArgs false
set_option maxRecDepth 100000
set_option maxHeartbeats 2000000
namespace Rc
structure Ok (m : S) (K : Nat) : Prop where
  inv : St.Inv m.t K
  wt : Wt m.t m.line
  q : 1 ≤ m.q ∧ m.q ≤ 1048576
  low : 0 ≤ m.low ∧ m.low ≤ 1048576
  wl : m.want.length = 64
  wb : ∀ x ∈ m.want, 0 ≤ x ∧ x ≤ 9223372036854775807
  lv : ∀ x ∈ m.lv, 0 ≤ x ∧ x ≤ 1048576
  ll : m.lv.length ≤ K
  fr : 0 ≤ m.fr ∧ m.fr ≤ K
structure X where
  tb : Nat
  lb : Nat
  mb : Nat
  kb : Nat
  c : Int
  k : Nat
end Rc
def recP (rb sb : Nat) (m : Rc.S) (K : Nat) : HProp := fun f => ∃ x : Rc.X, (x.c ≤ K ∧ x.k ≤ K) ∧ sep [blk rb (.cells #[.pointer (some ⟨x.tb, 0, none⟩), .pointer (some ⟨sb, 0, none⟩), .pointer (some ⟨x.lb, 0, none⟩), .pointer (some ⟨x.mb, 0, none⟩), .pointer (some ⟨x.kb, 0, none⟩), .int .i64 m.q] 109 (0, 0)), trimP x.tb m.want, waitsAt (.pointer (some ⟨x.lb, 0, none⟩)) m.t.ch.length m.line x.c, markP x.mb m.low m.lv.getLast? x.k, bookP (.pointer (some ⟨x.kb, 0, none⟩)) 2 [(m.lv.length : Nat), m.fr]] f
theorem recP.open {w : World} {rb sb : Nat} {m : Rc.S} {K : Nat} {F : List HProp} (h : holds w (recP rb sb m K :: F)) : ∃ x : Rc.X, (x.c ≤ K ∧ x.k ≤ K) ∧ holds w (blk rb (.cells #[.pointer (some ⟨x.tb, 0, none⟩), .pointer (some ⟨sb, 0, none⟩), .pointer (some ⟨x.lb, 0, none⟩), .pointer (some ⟨x.mb, 0, none⟩), .pointer (some ⟨x.kb, 0, none⟩), .int .i64 m.q] 109 (0, 0)) :: trimP x.tb m.want :: waitsAt (.pointer (some ⟨x.lb, 0, none⟩)) m.t.ch.length m.line x.c :: markP x.mb m.low m.lv.getLast? x.k :: bookP (.pointer (some ⟨x.kb, 0, none⟩)) 2 [(m.lv.length : Nat), m.fr] :: F) := by
  obtain ⟨x, h⟩ := holds.open_ex h
  obtain ⟨e, h⟩ := holds.open_pure h
  exact ⟨x, e, holds_sep.1 h⟩
theorem recP.shut {w : World} {rb sb : Nat} {m : Rc.S} {K : Nat} {F : List HProp} (x : Rc.X) (hc : x.c ≤ K ∧ x.k ≤ K) (h : holds w (blk rb (.cells #[.pointer (some ⟨x.tb, 0, none⟩), .pointer (some ⟨sb, 0, none⟩), .pointer (some ⟨x.lb, 0, none⟩), .pointer (some ⟨x.mb, 0, none⟩), .pointer (some ⟨x.kb, 0, none⟩), .int .i64 m.q] 109 (0, 0)) :: trimP x.tb m.want :: waitsAt (.pointer (some ⟨x.lb, 0, none⟩)) m.t.ch.length m.line x.c :: markP x.mb m.low m.lv.getLast? x.k :: bookP (.pointer (some ⟨x.kb, 0, none⟩)) 2 [(m.lv.length : Nat), m.fr] :: F)) : holds w (recP rb sb m K :: F) :=
  (holds_sep (l := [_, _, _, _, _]).2 h).mono fun f hf => ⟨x, hc, hf⟩
theorem recP.more {rb sb : Nat} {m : Rc.S} {K K' : Nat} (hk : K ≤ K') {w : World} {F : List HProp} (h : holds w (recP rb sb m K :: F)) : holds w (recP rb sb m K' :: F) := h.mono fun f hf => by
  obtain ⟨x, hx, hf⟩ := hf
  exact ⟨x, by omega, hf⟩
theorem rec_is (rb a b c d e : Nat) (q : Int) (w : World) (F : List HProp) [SeesBlk F rb #[.pointer (some ⟨a, 0, none⟩), .pointer (some ⟨b, 0, none⟩), .pointer (some ⟨c, 0, none⟩), .pointer (some ⟨d, 0, none⟩), .pointer (some ⟨e, 0, none⟩), .int .i64 q]] (hw : holds w F) :
    Ct Tryz.prog 107 #[.pointer (some ⟨rb, 0, none⟩)] w fun e w' => e = .returned (.bool true) ∧ holds w' F := by
  refine Ct.go (args := [.pointer (some ⟨rb, 0, none⟩)]) Tryz.func107 rfl rfl rfl hw ?_
  repeat' (first | refine stp ?_ | (refine stpB ?_; intro _) | (refine spl ?_ ?_ <;> intro hc <;> ((try simp only [decide_eq_true_eq, decide_eq_false_iff_not, Bool.not_true, Bool.not_false, ne_eq, Classical.not_not, Int.not_lt, Int.not_le] at hc); (try (exfalso; first | omega | exact hc trivial | exact hc rfl)))))
  all_goals (first | (exfalso; simp at hc; done) | (refine GE.resOne rfl (by (repeat (first | apply Res.nil | (apply Res.tmp; rfl) | (refine Res.cellA rfl rfl rfl ?_) | (refine Res.cell1 rfl rfl ?_)))) (fun w h => ?_); exact ⟨rfl, h.sub⟩))
theorem rec_isN (w : World) (F : List HProp) (hw : holds w F) :
    Ct Tryz.prog 107 #[.pointer none] w fun e w' => e = .returned (.bool false) ∧ holds w' F := by
  refine Ct.go (args := [.pointer none]) Tryz.func107 rfl rfl rfl hw ?_
  repeat' (first | refine stp ?_ | (refine stpB ?_; intro _) | (refine spl ?_ ?_ <;> intro hc <;> ((try simp only [decide_eq_true_eq, decide_eq_false_iff_not, Bool.not_true, Bool.not_false, ne_eq, Classical.not_not, Int.not_lt, Int.not_le] at hc); (try (exfalso; first | omega | exact hc trivial | exact hc rfl)))))
  all_goals (first | (exfalso; simp at hc; done) | (refine GE.resOne rfl (by (repeat (first | apply Res.nil | (apply Res.tmp; rfl) | (refine Res.cellA rfl rfl rfl ?_) | (refine Res.cell1 rfl rfl ?_)))) (fun w h => ?_); exact ⟨rfl, h.sub⟩))
theorem rec_isZ (zb : Nat) (w : World) (F : List HProp) [SeesBlk F zb #[.pointer none, .pointer none, .pointer none, .pointer none, .pointer none, .int .i64 0]] (hw : holds w F) :
    Ct Tryz.prog 107 #[.pointer (some ⟨zb, 0, none⟩)] w fun e w' => e = .returned (.bool false) ∧ holds w' F := by
  refine Ct.go (args := [.pointer (some ⟨zb, 0, none⟩)]) Tryz.func107 rfl rfl rfl hw ?_
  repeat' (first | refine stp ?_ | (refine stpB ?_; intro _) | (refine spl ?_ ?_ <;> intro hc <;> ((try simp only [decide_eq_true_eq, decide_eq_false_iff_not, Bool.not_true, Bool.not_false, ne_eq, Classical.not_not, Int.not_lt, Int.not_le] at hc); (try (exfalso; first | omega | exact hc trivial | exact hc rfl)))))
  all_goals (first | (exfalso; simp at hc; done) | (refine GE.resOne rfl (by (repeat (first | apply Res.nil | (apply Res.tmp; rfl) | (refine Res.cellA rfl rfl rfl ?_) | (refine Res.cell1 rfl rfl ?_)))) (fun w h => ?_); exact ⟨rfl, h.sub⟩))
variable (sb : Nat) (t : St.S) (K : Nat) (hI : St.Inv t K) (hK : K ≤ 900000)
include hI hK
theorem rec_New (q low : Int) (hq : 1 ≤ q ∧ q ≤ 1048576) (hl : 0 ≤ low ∧ low ≤ 1048576) (w : World) (F : List HProp) (hw : holds w (storeP sb t :: F)) :
    Ct Tryz.prog 38 #[.pointer (some ⟨sb, 0, none⟩), .int .i64 q, .int .i64 low] w fun e w' => ∃ rb : Nat, e = .returned (.tuple #[.pointer (some ⟨rb, 0, none⟩), .int .i64 0]) ∧ holds w' (recP rb sb ⟨t, q, low, [], List.replicate 64 0, [], 0⟩ K :: storeP sb t :: F) := by
  have hz := hI.sz
  have hcp := hI.ncap
  have hS := fun w (F : List HProp) h' => store_Size sb t K hI (by omega) w F h'
  have hA := fun w (F : List HProp) h' => store_All sb t K hI (by omega) w F h'
  refine Ct.go (args := [.pointer (some ⟨sb, 0, none⟩), .int .i64 q, .int .i64 low]) Tryz.func38 rfl rfl rfl hw ?_
  repeat' (first | (first | (apply GL.isCall; refine GL.callH1 (storeP sb t) rfl rfl (fun w h => hS w _ h) ?_) | (apply GL.isCall; refine GL.callH (storeP sb t) rfl rfl (fun w h => hA w _ h) (fun u => ?_)) | (apply GL.isCall; refine GL.call rfl rfl (fun w h => trims_New w _ h) (fun tb => ?_)) | (apply GL.isCall; refine GL.call rfl rfl (fun w h => ⟨waits_New w t.ch.length _ (by omega) h⟩) (fun lb => ?_)) | (apply GL.isCall; refine GL.call rfl rfl (fun w h => water_New low (by omega) w _ h) (fun mb => ?_)) | (apply GL.isCall; refine GL.call rfl rfl (fun w h => count_New 2 (by omega) (by omega) w _ h) (fun kb => ?_)) | (apply GL.isBox; refine GL.boxA rfl rfl (fun rb => ?_))) | first | refine stp ?_ | (refine stpB ?_; intro _) | (refine spl ?_ ?_ <;> intro hc <;> ((try simp only [decide_eq_true_eq, decide_eq_false_iff_not, Bool.not_true, Bool.not_false, ne_eq, Classical.not_not, Int.not_lt, Int.not_le] at hc); (try (exfalso; first | omega | exact hc trivial | exact hc rfl)))))
  all_goals (first | (exfalso; omega) | (exfalso; simp at hc; omega) | skip)
  refine GE.resMany rfl (by (repeat (first | apply Res.nil | (apply Res.tmp; rfl) | (refine Res.cellA rfl rfl rfl ?_) | (refine Res.cell1 rfl rfl ?_)))) (fun w h => ?_)
  refine ⟨rb, rfl, recP.shut (m := ⟨t, q, low, [], List.replicate 64 0, [], 0⟩) ⟨tb, lb, mb, kb, 0, 0⟩ (by dsimp only; omega) ?_⟩
  have h1 : holds w (blk rb (.cells #[.pointer (some ⟨tb, 0, none⟩), .pointer (some ⟨sb, 0, none⟩), .pointer (some ⟨lb, 0, none⟩), .pointer (some ⟨mb, 0, none⟩), .pointer (some ⟨kb, 0, none⟩), .int .i64 q] 109 (0, 0)) :: bookP (.pointer (some ⟨kb, 0, none⟩)) 2 [0, 0] :: markP mb low none 0 :: waitsAt (.pointer (some ⟨lb, 0, none⟩)) t.ch.length [] 0 :: owns 84 encCk 3 (.slice (some ⟨u, 0, none⟩) t.ch.length t.ch.length) t.ch :: storeP sb t :: trimP tb (List.replicate 64 0) :: F) := h
  have h4 : holds w (blk rb (.cells #[.pointer (some ⟨tb, 0, none⟩), .pointer (some ⟨sb, 0, none⟩), .pointer (some ⟨lb, 0, none⟩), .pointer (some ⟨mb, 0, none⟩), .pointer (some ⟨kb, 0, none⟩), .int .i64 q] 109 (0, 0)) :: trimP tb (List.replicate 64 0) :: waitsAt (.pointer (some ⟨lb, 0, none⟩)) t.ch.length [] 0 :: markP mb low none 0 :: bookP (.pointer (some ⟨kb, 0, none⟩)) 2 [0, 0] :: storeP sb t :: F) := h1.sub
  exact h4
end Go.Proofs.YtipkgamiejenaaaGreat

/- Package reclaim: Put, Paid, what is told. -/
namespace Go.Proofs.YtipkgamiejenaaaGreat
open Go Go.RowKit Go.MapKept
set_option linter.unusedVariables false
set_option linter.unusedSectionVars false
set_option linter.unusedSimpArgs false
set_option maxRecDepth 100000
set_option maxHeartbeats 2000000
namespace Rc
def put (m : S) (i ow : Int) : S × Int := if (St.give m.t i ow).2 = 0 then ({ m with t := (St.give m.t i ow).1, line := m.line ++ [i] }, 0) else (m, (St.give m.t i ow).2)
def paid (m : S) (c n : Int) : S × Int := if c < 0 ∨ 64 ≤ c ∨ n < 0 then (m, 2) else ({ m with want := Tr.paid m.want c.toNat n }, 0)
def ahead (m : S) (i : Int) : Int := placeOf m.line i
def lack (m : S) : Int := Wm.lack m.low m.lv.getLast?
theorem give_ok {t : St.S} {i ow : Int} (h : (St.give t i ow).2 = 0) : ∃ k : Nat, i = k ∧ k < t.ch.length ∧ (t.c k).phase = 1 ∧ (St.give t i ow).1 = { t with ch := t.ch.set k ⟨2, 0, (t.c k).gen⟩, ev := St.up t.ev 1 } := by
  unfold St.give at h ⊢
  split at h
  · simp at h
  · rename_i ho
    obtain ⟨k, rfl, hk⟩ := St.out_ex ho
    split at h
    · simp at h
    · rename_i hp
      refine ⟨k, rfl, hk, by omega, ?_⟩
      rw [if_neg ho, if_neg hp]
      rfl
theorem give_no {t : St.S} {i ow : Int} (h : (St.give t i ow).2 ≠ 0) : (St.give t i ow).1 = t := by
  unfold St.give at h ⊢
  split
  · rfl
  · rename_i ho
    rw [if_neg ho] at h
    split
    · rfl
    · rename_i hp
      rw [if_neg hp] at h; exact absurd rfl h
theorem give_in {m : S} {i ow : Int} (hw : Wt m.t m.line) (h : (St.give m.t i ow).2 = 0) : (0 ≤ i ∧ i < m.t.ch.length) ∧ i ∉ m.line := by
  obtain ⟨k, rfl, hk, hp, _⟩ := give_ok h
  refine ⟨by omega, fun hi => ?_⟩
  obtain ⟨j, e, hj, hq⟩ := hw.ph _ hi
  obtain rfl : k = j := by omega
  omega
theorem Ok.more {m : S} {K K' : Nat} (hk : K ≤ K') (h : Ok m K) : Ok m K' := ⟨h.inv.mono hk, h.wt, h.q, h.low, h.wl, h.wb, h.lv, by have := h.ll; omega, by have := h.fr; omega⟩
theorem Ok.put {m : S} {K : Nat} (h : Ok m K) (i ow : Int) : Ok (put m i ow).1 (K + 1) := by
  unfold Rc.put
  split
  · rename_i h0
    obtain ⟨hin, hni⟩ := give_in h.wt h0
    have hI := h.inv.give i ow
    obtain ⟨k, rfl, hk, hp, e⟩ := give_ok h0
    refine ⟨hI, ⟨?_, fun x hx => ?_⟩, h.q, h.low, h.wl, h.wb, h.lv, by have := h.ll; dsimp only; omega, by have := h.fr; dsimp only; omega⟩
    · dsimp only
      rw [List.nodup_append]
      refine ⟨h.wt.nd, by simp, fun a ha b hb => ?_⟩
      simp at hb; subst hb
      intro e; subst e; exact hni ha
    · dsimp only at hx ⊢
      rw [e]
      rcases List.mem_append.1 hx with hx | hx
      · obtain ⟨j, rfl, hj, hq⟩ := h.wt.ph x hx
        have hjk : j ≠ k := fun e => hni (by rw [← e]; exact hx)
        refine ⟨j, rfl, by simpa using hj, ?_⟩
        unfold St.S.c at hq ⊢
        rw [Int.toNat_natCast] at hq
        rw [St.getD_set _ _ _ _ _ hk, Int.toNat_natCast, if_neg hjk]
        exact hq
      · simp at hx; subst hx
        refine ⟨k, rfl, by simpa using hk, ?_⟩
        unfold St.S.c
        rw [Int.toNat_natCast, St.getD_set _ _ _ _ _ hk, if_pos rfl]
  · exact h.more (Nat.le_succ K)
theorem Ok.paid {m : S} {K : Nat} (h : Ok m K) (c n : Int) (hn : n ≤ 9223372036854775807) : Ok (paid m c n).1 K := by
  unfold Rc.paid
  split
  · exact h
  · rename_i hc
    refine ⟨h.inv, h.wt, h.q, h.low, by simp [Tr.paid]; exact h.wl, fun x hx => ?_, h.lv, h.ll, h.fr⟩
    dsimp only [Tr.paid] at hx
    rcases List.mem_or_eq_of_mem_set hx with hx | rfl
    · exact h.wb x hx
    · have : 0 ≤ m.want.getD c.toNat 0 ∧ m.want.getD c.toNat 0 ≤ 9223372036854775807 := by
        rw [List.getD_eq_getElem?_getD, List.getElem?_eq_getElem (by rw [h.wl]; omega)]
        exact h.wb _ (List.getElem_mem _)
      omega
end Rc
variable (rb sb : Nat) (m : Rc.S) (K : Nat) (hO : Rc.Ok m K) (hK : K ≤ 900000)
include hO hK
theorem rec_Put (i ow : Int) (w : World) (F : List HProp) (hw : holds w (recP rb sb m K :: storeP sb m.t :: F)) :
    Ct Tryz.prog 40 #[.pointer (some ⟨rb, 0, none⟩), .int .i64 i, .int .i64 ow] w fun e w' => e = .returned (.int .i64 (Rc.put m i ow).2) ∧ holds w' (recP rb sb (Rc.put m i ow).1 (K + 1) :: storeP sb (Rc.put m i ow).1.t :: F) := by
  obtain ⟨x, hx, h1⟩ := recP.open hw
  have hD := fun w (F : List HProp) h' => store_Defer sb m.t K hO.inv (by omega) i ow w F h'
  unfold Rc.put
  refine Ct.go (args := [.pointer (some ⟨rb, 0, none⟩), .int .i64 i, .int .i64 ow]) Tryz.func40 rfl rfl rfl h1 ?_
  by_cases h0 : (St.give m.t i ow).2 = 0
  · obtain ⟨hin, hni⟩ := Rc.give_in hO.wt h0
    have hl : (St.give m.t i ow).1.ch.length = m.t.ch.length := by obtain ⟨k, _, _, _, e⟩ := Rc.give_ok h0; rw [e]; simp
    rw [if_pos h0]
    rw [h0] at hD
    obtain ⟨t', ht⟩ : ∃ t', t' = (St.give m.t i ow).1 := ⟨_, rfl⟩
    rw [← ht] at hD hl ⊢
    have hW := fun w (F : List HProp) h' => waits_Put w (.pointer (some ⟨x.lb, 0, none⟩)) m.t.ch.length m.line x.c i F (by omega) h'
    have hp : Waits.put m.t.ch.length m.line i = (0, m.line ++ [i]) := by unfold Waits.put; rw [if_neg (by omega), if_neg hni]
    rw [hp] at hW
    dsimp only at hW
    rw [if_pos rfl] at hW
    repeat' (first | (first | (apply GL.isCall; refine GL.call1 rfl rfl (fun w h => rec_is rb x.tb sb x.lb x.mb x.kb m.q w _ h) ?_) | (apply GL.isCall; refine GL.callH1 (storeP sb m.t) rfl rfl (fun w h => hD w _ h) ?_) | (apply GL.isCall; refine GL.callH1 (waitsAt (.pointer (some ⟨x.lb, 0, none⟩)) m.t.ch.length m.line x.c) rfl rfl (fun w h => ⟨hW w _ h⟩) ?_)) | first | refine stp ?_ | (refine stpB ?_; intro _) | (refine spl ?_ ?_ <;> intro hc <;> ((try simp only [decide_eq_true_eq, decide_eq_false_iff_not, Bool.not_true, Bool.not_false, ne_eq, Classical.not_not, Int.not_lt, Int.not_le] at hc); (try (exfalso; first | omega | exact hc trivial | exact hc rfl)))))
    all_goals (first | (exfalso; simp at hc; done) | skip)
    refine GE.resOne rfl (by (repeat (first | apply Res.nil | (apply Res.tmp; rfl) | (refine Res.cellA rfl rfl rfl ?_) | (refine Res.cell1 rfl rfl ?_)))) (fun w h => ?_)
    refine ⟨rfl, recP.shut (m := { m with t := t', line := m.line ++ [i] }) ⟨x.tb, x.lb, x.mb, x.kb, x.c + 1, x.k⟩ (by dsimp only; omega) ?_⟩
    dsimp only
    rw [hl]
    exact h.sub
  · rw [if_neg h0]
    rw [Rc.give_no h0] at hD
    obtain ⟨r, hr⟩ : ∃ r, r = (St.give m.t i ow).2 := ⟨_, rfl⟩
    rw [← hr] at hD h0 ⊢
    repeat' (first | (first | (apply GL.isCall; refine GL.call1 rfl rfl (fun w h => rec_is rb x.tb sb x.lb x.mb x.kb m.q w _ h) ?_) | (apply GL.isCall; refine GL.callH1 (storeP sb m.t) rfl rfl (fun w h => hD w _ h) ?_)) | first | refine stp ?_ | (refine stpB ?_; intro _) | (refine spl ?_ ?_ <;> intro hc <;> ((try simp only [decide_eq_true_eq, decide_eq_false_iff_not, Bool.not_true, Bool.not_false, ne_eq, Classical.not_not, Int.not_lt, Int.not_le] at hc); (try (exfalso; first | omega | exact hc trivial | exact hc rfl)))))
    all_goals (first | (exfalso; simp at hc; done) | (exfalso; omega) | (exfalso; exact h0 hc) | skip)
    refine GE.resOne rfl (by (repeat (first | apply Res.nil | (apply Res.tmp; rfl) | (refine Res.cellA rfl rfl rfl ?_) | (refine Res.cell1 rfl rfl ?_)))) (fun w h => ?_)
    exact ⟨rfl, recP.shut (m := m) x (by omega) h.sub⟩
theorem rec_Ahead (i : Int) (w : World) (F : List HProp) (hw : holds w (recP rb sb m K :: F)) :
    Ct Tryz.prog 42 #[.pointer (some ⟨rb, 0, none⟩), .int .i64 i] w fun e w' => e = .returned (.int .i64 (placeOf m.line i)) ∧ holds w' (recP rb sb m K :: F) := by
  obtain ⟨x, hx, h1⟩ := recP.open hw
  have hD := fun w (F : List HProp) h' => waits_Ahead w (.pointer (some ⟨x.lb, 0, none⟩)) m.t.ch.length m.line x.c i F (by omega) h'
  obtain ⟨r, hr⟩ : ∃ r, r = placeOf m.line i := ⟨_, rfl⟩
  rw [← hr] at hD ⊢
  refine Ct.go (args := [.pointer (some ⟨rb, 0, none⟩), .int .i64 i]) Tryz.func42 rfl rfl rfl h1 ?_
  repeat' (first | (first | (apply GL.isCall; refine GL.call1 rfl rfl (fun w h => rec_is rb x.tb sb x.lb x.mb x.kb m.q w _ h) ?_) | (apply GL.isCall; refine GL.callH1 (waitsAt (.pointer (some ⟨x.lb, 0, none⟩)) m.t.ch.length m.line x.c) rfl rfl (fun w h => ⟨hD w _ h⟩) ?_)) | first | refine stp ?_ | (refine stpB ?_; intro _) | (refine spl ?_ ?_ <;> intro hc <;> ((try simp only [decide_eq_true_eq, decide_eq_false_iff_not, Bool.not_true, Bool.not_false, ne_eq, Classical.not_not, Int.not_lt, Int.not_le] at hc); (try (exfalso; first | omega | exact hc trivial | exact hc rfl)))))
  all_goals (first | (exfalso; simp at hc; done) | skip)
  refine GE.resOne rfl (by (repeat (first | apply Res.nil | (apply Res.tmp; rfl) | (refine Res.cellA rfl rfl rfl ?_) | (refine Res.cell1 rfl rfl ?_)))) (fun w h => ?_)
  exact ⟨rfl, recP.shut (m := m) x hx h.sub⟩
theorem rec_Ticks (w : World) (F : List HProp) (hw : holds w (recP rb sb m K :: F)) :
    Ct Tryz.prog 54 #[.pointer (some ⟨rb, 0, none⟩)] w fun e w' => e = .returned (.int .i64 (m.lv.length : Nat)) ∧ holds w' (recP rb sb m K :: F) := by
  obtain ⟨x, hx, h1⟩ := recP.open hw
  have hD := fun w (F : List HProp) h' => count_Get (v := .pointer (some ⟨x.kb, 0, none⟩)) (n := 2) (l := [((m.lv.length : Nat) : Int), m.fr]) (by omega) rfl 0 (by omega) w F h'
  refine Ct.go (args := [.pointer (some ⟨rb, 0, none⟩)]) Tryz.func54 rfl rfl rfl h1 ?_
  repeat' (first | (first | (apply GL.isCall; refine GL.call1 rfl rfl (fun w h => rec_is rb x.tb sb x.lb x.mb x.kb m.q w _ h) ?_) | (apply GL.isCall; refine GL.callH1 (bookP (.pointer (some ⟨x.kb, 0, none⟩)) 2 [((m.lv.length : Nat) : Int), m.fr]) rfl rfl (fun w h => hD w _ h) ?_)) | first | refine stp ?_ | (refine stpB ?_; intro _) | (refine spl ?_ ?_ <;> intro hc <;> ((try simp only [decide_eq_true_eq, decide_eq_false_iff_not, Bool.not_true, Bool.not_false, ne_eq, Classical.not_not, Int.not_lt, Int.not_le] at hc); (try (exfalso; first | omega | exact hc trivial | exact hc rfl)))))
  all_goals (first | (exfalso; simp at hc; done) | skip)
  refine GE.resOne rfl (by (repeat (first | apply Res.nil | (apply Res.tmp; rfl) | (refine Res.cellA rfl rfl rfl ?_) | (refine Res.cell1 rfl rfl ?_)))) (fun w h => ?_)
  exact ⟨rfl, recP.shut (m := m) x hx h.sub⟩
theorem rec_Freed (w : World) (F : List HProp) (hw : holds w (recP rb sb m K :: F)) :
    Ct Tryz.prog 55 #[.pointer (some ⟨rb, 0, none⟩)] w fun e w' => e = .returned (.int .i64 m.fr) ∧ holds w' (recP rb sb m K :: F) := by
  obtain ⟨x, hx, h1⟩ := recP.open hw
  have hD := fun w (F : List HProp) h' => count_Get (v := .pointer (some ⟨x.kb, 0, none⟩)) (n := 2) (l := [((m.lv.length : Nat) : Int), m.fr]) (by omega) rfl 1 (by omega) w F h'
  refine Ct.go (args := [.pointer (some ⟨rb, 0, none⟩)]) Tryz.func55 rfl rfl rfl h1 ?_
  repeat' (first | (first | (apply GL.isCall; refine GL.call1 rfl rfl (fun w h => rec_is rb x.tb sb x.lb x.mb x.kb m.q w _ h) ?_) | (apply GL.isCall; refine GL.callH1 (bookP (.pointer (some ⟨x.kb, 0, none⟩)) 2 [((m.lv.length : Nat) : Int), m.fr]) rfl rfl (fun w h => hD w _ h) ?_)) | first | refine stp ?_ | (refine stpB ?_; intro _) | (refine spl ?_ ?_ <;> intro hc <;> ((try simp only [decide_eq_true_eq, decide_eq_false_iff_not, Bool.not_true, Bool.not_false, ne_eq, Classical.not_not, Int.not_lt, Int.not_le] at hc); (try (exfalso; first | omega | exact hc trivial | exact hc rfl)))))
  all_goals (first | (exfalso; simp at hc; done) | skip)
  refine GE.resOne rfl (by (repeat (first | apply Res.nil | (apply Res.tmp; rfl) | (refine Res.cellA rfl rfl rfl ?_) | (refine Res.cell1 rfl rfl ?_)))) (fun w h => ?_)
  exact ⟨rfl, recP.shut (m := m) x hx h.sub⟩
theorem rec_Low (w : World) (F : List HProp) (hw : holds w (recP rb sb m K :: F)) :
    Ct Tryz.prog 56 #[.pointer (some ⟨rb, 0, none⟩)] w fun e w' => e = .returned (.bool (Wm.low m.low m.lv.getLast?)) ∧ holds w' (recP rb sb m K :: F) := by
  obtain ⟨x, hx, h1⟩ := recP.open hw
  have hD := fun w (F : List HProp) h' => water_Low x.mb m.low m.lv.getLast? x.k w F h'
  obtain ⟨r, hr⟩ : ∃ r, r = Wm.low m.low m.lv.getLast? := ⟨_, rfl⟩
  rw [← hr] at hD ⊢
  refine Ct.go (args := [.pointer (some ⟨rb, 0, none⟩)]) Tryz.func56 rfl rfl rfl h1 ?_
  repeat' (first | (first | (apply GL.isCall; refine GL.call1 rfl rfl (fun w h => rec_is rb x.tb sb x.lb x.mb x.kb m.q w _ h) ?_) | (apply GL.isCall; refine GL.callH1 (markP x.mb m.low m.lv.getLast? x.k) rfl rfl (fun w h => hD w _ h) ?_)) | first | refine stp ?_ | (refine stpB ?_; intro _) | (refine spl ?_ ?_ <;> intro hc <;> ((try simp only [decide_eq_true_eq, decide_eq_false_iff_not, Bool.not_true, Bool.not_false, ne_eq, Classical.not_not, Int.not_lt, Int.not_le] at hc); (try (exfalso; first | omega | exact hc trivial | exact hc rfl)))))
  all_goals (first | (exfalso; simp at hc; done) | skip)
  refine GE.resOne rfl (by (repeat (first | apply Res.nil | (apply Res.tmp; rfl) | (refine Res.cellA rfl rfl rfl ?_) | (refine Res.cell1 rfl rfl ?_)))) (fun w h => ?_)
  exact ⟨rfl, recP.shut (m := m) x hx h.sub⟩
end Go.Proofs.YtipkgamiejenaaaGreat

/- A drawn region where one operation that only moves a value is taken ahead of all; then a head that only reads; the rest comes up in one order. -/
namespace Go.Proofs.YtipkgamiejenaaaGreat
open Go Go.RowKit Go.MapKept
set_option linter.unusedVariables false
set_option linter.unusedSectionVars false
set_option linter.unusedSimpArgs false

def seqL (md : Region.Mode) (ops : Array Oper) : List Nat → Array Bool → Bool
  | [], l => (Region.ready md ops l).isEmpty
  | i :: is, l => decide (Region.ready md ops l = [i]) && seqL md ops is (l.setIfInBounds i true)
section
variable {P : Program} {n : Nat} {ops : Array Oper} {md : Region.Mode} {F : List HProp} {Z : Act → Prop} {Q : Exit → Act → World → Prop} {env : Env} {ty : TypeId} {pos : String} {aft : Array Edge}
theorem wpAny_of_seqL {Q' : Exit → Act → World → Prop} : ∀ (l : List Oper) (is : List Nat) (listed : Array Bool) (a : Act) (w : World), (is.map fun i => ops[i]?) = l.map some → seqL md ops is listed = true → wpList P ops Q' l a w → wpAny P md ops Q' is.length listed a w
  | [], [], listed, a, w, _, hB, h => ⟨by simpa [seqL] using hB, h⟩
  | o :: l, i :: is, listed, a, w, hl, hB, h => by
    simp only [List.map_cons, List.cons.injEq] at hl
    obtain ⟨h0, hl⟩ := hl
    simp only [seqL, Bool.and_eq_true, decide_eq_true_eq] at hB
    refine ⟨fun h1 => (by rw [hB.1] at h1; cases h1), fun j hj => ?_⟩
    rw [hB.1] at hj
    have hik : j = i := by simpa using hj
    subst hik
    have hw : wpOp P ops Q' j (wpList P ops Q' l) a w := by unfold wpOp; simp only [h0]; exact h
    exact wpOp_mono (fun a' w' h' => wpAny_of_seqL l is _ a' w' hl hB.2 h') hw
  | [], _ :: _, _, _, _, hl, _, _ => by simp at hl
  | _ :: _, [], _, _, _, hl, _, _ => by simp at hl
theorem loose_congr2 {S S' : Nat → Option LSpec} {Z' : Act → Prop} (hs : bareS S) (hs' : bareS S') (hZ : ∀ a, Z a → Z' a) : ∀ (l : List Oper) (k : Nat) (a : Act), (∀ j, k ≤ j → j < k + l.length → S j = S' j) → wpLoose P ops S F Z k l a → wpLoose P ops S' F Z' k l a
  | [], k, a, _, h => hZ a h
  | o :: l, k, a, he, h => by
    unfold wpLoose at h ⊢
    have ih : ∀ a, wpLoose P ops S F Z (k + 1) l a → wpLoose P ops S' F Z' (k + 1) l a := fun a => loose_congr2 hs hs' hZ l (k + 1) a fun j hj hj2 => he j (by omega) (by simp only [List.length_cons]; omega)
    split at h
    · rename_i hw
      rw [if_pos hw]
      unfold LooseOp at h ⊢
      rw [← he k (Nat.le_refl _) (by simp)]
      cases hS : S k with
      | none =>
        rw [hS] at h
        intro w F' hh
        rw [needs_bareS hs'] at hh
        exact exactUpon_mono (h w F' (by rw [needs_bareS hs]; exact hh)) fun v _ hv => ih _ hv
      | some s =>
        rw [hS] at h
        refine ⟨fun w F' hh => ?_, fun u hu => ih _ (h.2 u hu)⟩
        rw [needs_bareS hs'] at hh ⊢
        have := h.1 w F' (by rw [needs_bareS hs]; exact hh)
        rw [needs_bareS hs] at this
        have e1 : ∀ u, lpieces S k u = lpieces S' k u := fun u => by rw [hs, hs']
        simp only [e1] at this
        exact this
    · rename_i hw
      rw [if_neg hw]
      exact ih _ h
def nthO : List Oper → Nat → Option Oper
  | [], _ => none
  | a :: l, n => bif Nat.beq n 0 then some a else nthO l (n - 1)
theorem nthO_eq : ∀ (l : List Oper) (n : Nat), nthO l n = l[n]?
  | [], n => by simp [nthO]
  | a :: l, 0 => rfl
  | a :: l, n + 1 => by
    show (bif Nat.beq (n + 1) 0 then some a else nthO l (n + 1 - 1)) = _
    rw [show Nat.beq (n + 1) 0 = false from rfl, cond_false, Nat.add_sub_cancel, nthO_eq l n]; rfl
theorem nthO_arr {l : List Oper} {o : Nat} {u : Oper} (h : nthO l o = some u) : l.toArray[o]? = some u := by rw [nthO_eq] at h; simpa using h
inductive PickIs (l : List Oper) : List Nat → List Oper → Prop where
  | nil : PickIs l [] []
  | cons {i : Nat} {o : Oper} {is : List Nat} {os : List Oper} (h : nthO l i = some o) (t : PickIs l is os) : PickIs l (i :: is) (o :: os)
theorem PickIs.eq {l : List Oper} {is : List Nat} {os : List Oper} (h : PickIs l is os) : (is.map fun i => l.toArray[i]?) = os.map some := by
  induction h with
  | nil => rfl
  | cons h t ih => rw [List.map_cons, List.map_cons, ih, nthO_arr h]
/-- A walk stands here. -/
structure GStop (p : Prop) : Prop where
  out : p
theorem G.stop {c : Code} (h : GStop (G P n c Q env F)) : G P n c Q env F := h.out
theorem G.drawAhead {id : Nat} {l l1 l2 : List Oper} {op : Op} {d : Tmp} {v : Value} (m p : Nat) (is : List Nat) (hm : P.follows .mixedOrders = true) (hp : nthO l p = some ⟨some d, op, ty, pos, aft, none⟩) (h1 : l.take m = l1) (h2 : PickIs l is l2)
    (hB : (((headB .any l.toArray m (listPre l.toArray.size [p]) && looseB l.toArray .any) && (Region.free .any l.toArray (Array.replicate l.toArray.size false) p && (Region.ready .any l.toArray (Array.replicate l.toArray.size false)).contains p && decide (l.toArray.size = m + is.length + 1))) && (Nat.ble m p && Nat.ble m l.length && seqL .any l.toArray is (listTo m 0 (listPre l.toArray.size [p])))) = true)
    (hr : Runs P n env [] op v) (hd : Nat.blt d n = true)
    (h : GD P n l.toArray F (fun a' => ∀ w', holds w' F → wpList P l.toArray (onlyN Q) l2 a' w') 0 l1 ((d, v) :: env)) : G P n (.region id l.toArray true) Q env F := .mk fun a w hf hw => by
  subst h1
  rw [Bool.and_eq_true] at hB
  obtain ⟨hB, hB2⟩ := hB
  simp only [Bool.and_eq_true] at hB2
  obtain ⟨⟨hmp, hml⟩, hsq⟩ := hB2
  have hmp : m ≤ p := Nat.le_of_ble_eq_true hmp
  have hml : m ≤ l.length := Nat.le_of_ble_eq_true hml
  obtain ⟨S, hS, h3⟩ := h.out
  let S' : Nat → Option LSpec := fun i => if i < m then S i else none
  have hS' : bareS S' := by
    intro i u
    have := hS i u
    unfold lpieces at this ⊢
    by_cases hi : i < m
    · simp only [S', hi, if_true]; exact this
    · simp only [S', hi, if_false]
  have htl : (l.take m).length = m := by simp; omega
  refine wp_region_cut2 m p is.length S' F hm (op := ⟨some d, op, ty, pos, aft, none⟩) (v := v) (nthO_arr hp) hB (by simp [Region.wanted]) (fun w => ?_) (by simp [S']; omega) hw ?_
  · exact hr a w ty pos aft none (some d) hf (holds.nil w)
  · exact loose_congr2 hS hS' (fun a' ha' w' hw' => wpAny_of_seqL l2 is _ a' w' h2.eq hsq (ha' w' hw')) _ 0 _ (fun j _ hj => by rw [htl] at hj; simp [S']; intro; omega) (h3 _ (hf.put hd v))
end
end Go.Proofs.YtipkgamiejenaaaGreat

/- Package reclaim: Waiting, When, Plan, wipe. -/
namespace Go.Proofs.YtipkgamiejenaaaGreat
open Go Go.RowKit Go.MapKept
set_option linter.unusedVariables false
set_option linter.unusedSectionVars false
set_option linter.unusedSimpArgs false
set_option maxRecDepth 100000
set_option maxHeartbeats 2000000
theorem rows_intsW (v : Value) (l : List Int) : rows encI1 1 v l = roInts v l := by unfold rows roInts ints; rw [flat_ints]
theorem waits_ListR (v : Value) (n : Nat) (l : List Int) (c : Int) (w : World) (F : List HProp) (hw : holds w (waitsAt v n l c :: F)) :
    Ct Tryz.prog 127 #[v] w fun e w' => ∃ a, e = .returned (.slice a l.length l.length) ∧ holds w' (rows encI1 1 (.slice a l.length l.length) l :: waitsAt v n l c :: F) := by
  simp only [rows_intsW]
  exact ⟨waits_List w v n l c F hw⟩
variable (rb sb : Nat) (m : Rc.S) (K : Nat) (hO : Rc.Ok m K) (hK : K ≤ 900000)
include hO hK
theorem rec_Waiting (w : World) (F : List HProp) (hw : holds w (recP rb sb m K :: F)) :
    Ct Tryz.prog 57 #[.pointer (some ⟨rb, 0, none⟩)] w fun e w' => ∃ a, e = .returned (.slice a m.line.length m.line.length) ∧ holds w' (rows encI1 1 (.slice a m.line.length m.line.length) m.line :: recP rb sb m K :: F) := by
  obtain ⟨x, hx, h1⟩ := recP.open hw
  refine Ct.go (args := [.pointer (some ⟨rb, 0, none⟩)]) Tryz.func57 rfl rfl rfl h1 ?_
  repeat' (first | (first | (apply GL.isCall; refine GL.call1 rfl rfl (fun w h => rec_is rb x.tb sb x.lb x.mb x.kb m.q w _ h) ?_) | (apply GL.isCall; refine GL.callH (waitsAt (.pointer (some ⟨x.lb, 0, none⟩)) m.t.ch.length m.line x.c) rfl rfl (fun w h => waits_ListR (.pointer (some ⟨x.lb, 0, none⟩)) m.t.ch.length m.line x.c w _ h) (fun a => ?_))) | first | refine stp ?_ | (refine stpB ?_; intro _) | (refine spl ?_ ?_ <;> intro hc <;> ((try simp only [decide_eq_true_eq, decide_eq_false_iff_not, Bool.not_true, Bool.not_false, ne_eq, Classical.not_not, Int.not_lt, Int.not_le] at hc); (try (exfalso; first | omega | exact hc trivial | exact hc rfl)))))
  all_goals (first | (exfalso; simp at hc; done) | skip)
  refine GE.resOne rfl (by (repeat (first | apply Res.nil | (apply Res.tmp; rfl) | (refine Res.cellA rfl rfl rfl ?_) | (refine Res.cell1 rfl rfl ?_)))) (fun w h => ?_)
  refine ⟨a, rfl, ?_⟩
  have h2 : holds w (blk rb (.cells #[.pointer (some ⟨x.tb, 0, none⟩), .pointer (some ⟨sb, 0, none⟩), .pointer (some ⟨x.lb, 0, none⟩), .pointer (some ⟨x.mb, 0, none⟩), .pointer (some ⟨x.kb, 0, none⟩), .int .i64 m.q] 109 (0, 0)) :: trimP x.tb m.want :: waitsAt (.pointer (some ⟨x.lb, 0, none⟩)) m.t.ch.length m.line x.c :: markP x.mb m.low m.lv.getLast? x.k :: bookP (.pointer (some ⟨x.kb, 0, none⟩)) 2 [((m.lv.length : Nat) : Int), m.fr] :: rows encI1 1 (.slice a m.line.length m.line.length) m.line :: F) := h.sub
  have h3 := recP.shut (m := m) x hx h2
  exact h3.sub
theorem rec_When (hn : m.line.length ≤ 1048576) (i : Int) (w : World) (F : List HProp) (hw : holds w (recP rb sb m K :: F)) :
    Ct Tryz.prog 58 #[.pointer (some ⟨rb, 0, none⟩), .int .i64 i] w fun e w' => e = .returned (.tuple #[.int .i64 (if placeOf m.line i < 0 then 0 else placeOf m.line i / m.q + 1), .bool (decide (0 ≤ placeOf m.line i))]) ∧ holds w' (recP rb sb m K :: F) := by
  have hq := hO.q
  have hA := fun w (F : List HProp) h' => rec_Ahead rb sb m K hO hK i w F h'
  have hpl : placeOf m.line i ≤ 1048576 := by
    unfold placeOf
    split
    · rename_i hi; have := List.idxOf_lt_length_iff.2 hi; omega
    · omega
  obtain ⟨r, hr⟩ : ∃ r, r = placeOf m.line i := ⟨_, rfl⟩
  rw [← hr] at hA hpl ⊢
  refine Ct.go (args := [.pointer (some ⟨rb, 0, none⟩), .int .i64 i]) Tryz.func58 rfl rfl rfl hw ?_
  by_cases h0 : r < 0
  · rw [if_pos h0, decide_eq_false (by omega)]
    repeat' (first | (first | (apply GL.isCall; refine GL.callH1 (recP rb sb m K) rfl rfl (fun w h => hA w _ h) ?_)) | first | refine stp ?_ | (refine stpB ?_; intro _) | (refine spl ?_ ?_ <;> intro hc <;> ((try simp only [decide_eq_true_eq, decide_eq_false_iff_not, Bool.not_true, Bool.not_false, ne_eq, Classical.not_not, Int.not_lt, Int.not_le] at hc); (try (exfalso; first | omega | exact hc trivial | exact hc rfl)))))
    all_goals (first | (exfalso; omega) | skip)
    refine GE.resMany rfl (by (repeat (first | apply Res.nil | (apply Res.tmp; rfl) | (refine Res.cellA rfl rfl rfl ?_) | (refine Res.cell1 rfl rfl ?_)))) (fun w h => ?_)
    exact ⟨rfl, h.sub⟩
  · rw [if_neg h0, decide_eq_true (by omega)]
    repeat' (first | (first | (apply GL.isCall; refine GL.callH1 (recP rb sb m K) rfl rfl (fun w h => hA w _ h) ?_) | (refine G.isRegion 4 ?_; refine G.case (F' := fun x : {x : Rc.X // x.c ≤ K ∧ x.k ≤ K} => blk rb (.cells #[.pointer (some ⟨x.1.tb, 0, none⟩), .pointer (some ⟨sb, 0, none⟩), .pointer (some ⟨x.1.lb, 0, none⟩), .pointer (some ⟨x.1.mb, 0, none⟩), .pointer (some ⟨x.1.kb, 0, none⟩), .int .i64 m.q] 109 (0, 0)) :: trimP x.1.tb m.want :: waitsAt (.pointer (some ⟨x.1.lb, 0, none⟩)) m.t.ch.length m.line x.1.c :: markP x.1.mb m.low m.lv.getLast? x.1.k :: bookP (.pointer (some ⟨x.1.kb, 0, none⟩)) 2 [((m.lv.length : Nat) : Int), m.fr] :: F) (fun x => ?_) (fun w h => by obtain ⟨x, hx, h2⟩ := recP.open h; exact ⟨⟨x, hx⟩, h2⟩); apply G.region) | (apply GL.isCall; refine GL.call1 rfl rfl (fun w h => drain_Ticks r m.q (by omega) w _ h) ?_)) | first | refine stp ?_ | (refine stpB ?_; intro _) | (refine spl ?_ ?_ <;> intro hc <;> ((try simp only [decide_eq_true_eq, decide_eq_false_iff_not, Bool.not_true, Bool.not_false, ne_eq, Classical.not_not, Int.not_lt, Int.not_le] at hc); (try (exfalso; first | omega | exact hc trivial | exact hc rfl)))))
    all_goals (first | (exfalso; omega) | skip)
    refine GE.resMany rfl (by (repeat (first | apply Res.nil | (apply Res.tmp; rfl) | (refine Res.cellA rfl rfl rfl ?_) | (refine Res.cell1 rfl rfl ?_)))) (fun w h => ?_)
    exact ⟨rfl, recP.shut (m := m) x.1 x.2 h.sub⟩
theorem rec_Plan (hn : m.line.length ≤ 1000) (w : World) (F : List HProp) (hw : holds w (recP rb sb m K :: F)) :
    Ct Tryz.prog 60 #[.pointer (some ⟨rb, 0, none⟩)] w fun e w' => ∃ v, e = .returned v ∧ holds w' (owns 3 encI1 1 v (Dr.plan (Dr.st (m.line.length : Nat) m.q).toNat (m.line.length : Nat) m.q) :: recP rb sb m K :: F) := by
  have hq := hO.q
  obtain ⟨x, hx, h1⟩ := recP.open hw
  obtain ⟨l2, hl2⟩ : ∃ l2, l2 = Dr.plan (Dr.st (m.line.length : Nat) m.q).toNat (m.line.length : Nat) m.q := ⟨_, rfl⟩
  have hP := fun w (F : List HProp) h' => drain_Plan (m.line.length : Nat) m.q (by omega) w F h'
  rw [← hl2] at hP ⊢
  refine Ct.go (args := [.pointer (some ⟨rb, 0, none⟩)]) Tryz.func60 rfl rfl rfl h1 ?_
  repeat' (first | (first | (apply GL.isCall; refine GL.call1 rfl rfl (fun w h => rec_is rb x.tb sb x.lb x.mb x.kb m.q w _ h) ?_) | (refine G.isRegion 3 ?_; refine G.drawW [⟨some 4, [], none, some 10, fun u => ∃ a, u = .slice a m.line.length m.line.length, fun u => rows encI1 1 u m.line⟩, ⟨some 10, [], none, some 16, NU, fun u => owns 3 encI1 1 u l2⟩] [] [] [0, 1] (by kernel_rfl) (by kernel_rfl) rfl trivial ?_) | (apply GW.isAny; first | refine GW.runA rfl rfl ?_ | refine GW.seeA rfl rfl ⟨⟨_, rfl, .inl rfl⟩, trivial⟩ rfl ?_) | (apply GW.isAny; refine GW.run rfl (Runs.nilCheck rfl) rfl ?_) | (apply GW.isAny; refine GW.eff rfl rfl rfl rfl rfl trivial rfl trivial (fun u hu => by obtain ⟨b, rfl⟩ := hu; rfl) (DoesW.ofEx (waitsAt (.pointer (some ⟨x.lb, 0, none⟩)) m.t.ch.length m.line x.c) (vs := [.pointer (some ⟨x.lb, 0, none⟩)]) (fun a : Option Addr => .slice a m.line.length m.line.length) rfl (fun w G h => waits_ListR (.pointer (some ⟨x.lb, 0, none⟩)) m.t.ch.length m.line x.c w _ h)) rfl (fun u hu => ?_); obtain ⟨a10, rfl⟩ := hu) | (apply GW.isAny; refine GW.run rfl (Runs.lenLit rfl) rfl ?_) | (apply GW.isAny; refine GW.eff rfl rfl rfl rfl rfl trivial rfl trivial (fun u hu => hu) (DoesW.callP (blk rb (.cells #[.pointer (some ⟨x.tb, 0, none⟩), .pointer (some ⟨sb, 0, none⟩), .pointer (some ⟨x.lb, 0, none⟩), .pointer (some ⟨x.mb, 0, none⟩), .pointer (some ⟨x.kb, 0, none⟩), .int .i64 m.q] 109 (0, 0))) (vs := [.int .i64 (m.line.length : Nat), .int .i64 m.q]) rfl (fun u w G h => owns_def h) (fun w G h => hP w _ h)) rfl (fun u hu => ?_)) | (refine GW.nilE rfl ⟨⟨_, rfl, .inr (.inr ⟨_, _, rfl, rfl, rfl⟩)⟩, ⟨_, rfl, .inr (.inr ⟨_, _, rfl, rfl, hu⟩)⟩, trivial⟩ ?_; dsimp only [List.cons_append, List.nil_append])) | first | refine stp ?_ | (refine stpB ?_; intro _) | (refine spl ?_ ?_ <;> intro hc <;> ((try simp only [decide_eq_true_eq, decide_eq_false_iff_not, Bool.not_true, Bool.not_false, ne_eq, Classical.not_not, Int.not_lt, Int.not_le] at hc); (try (exfalso; first | omega | exact hc trivial | exact hc rfl)))))
  all_goals (first | (exfalso; simp at hc; done) | skip)
  refine GE.resOne rfl (by (repeat (first | apply Res.nil | (apply Res.tmp; rfl) | (refine Res.cellA rfl rfl rfl ?_) | (refine Res.cell1 rfl rfl ?_)))) (fun w h => ?_)
  refine ⟨_, rfl, ?_⟩
  have h2 : holds w (blk rb (.cells #[.pointer (some ⟨x.tb, 0, none⟩), .pointer (some ⟨sb, 0, none⟩), .pointer (some ⟨x.lb, 0, none⟩), .pointer (some ⟨x.mb, 0, none⟩), .pointer (some ⟨x.kb, 0, none⟩), .int .i64 m.q] 109 (0, 0)) :: trimP x.tb m.want :: waitsAt (.pointer (some ⟨x.lb, 0, none⟩)) m.t.ch.length m.line x.c :: markP x.mb m.low m.lv.getLast? x.k :: bookP (.pointer (some ⟨x.kb, 0, none⟩)) 2 [((m.lv.length : Nat) : Int), m.fr] :: owns 3 encI1 1 u l2 :: F) := h.sub
  exact (recP.shut (m := m) x hx h2).sub
omit hO hK
theorem rec_wipe (t : St.S) (hI : St.Inv t K) (hK : K ≤ 900000) (a b c d : Nat) (q : Int) (k : Nat) (hk : k < t.ch.length) (hp : (t.c k).phase = 2) (w : World) (F : List HProp) [SeesBlk F rb #[.pointer (some ⟨a, 0, none⟩), .pointer (some ⟨sb, 0, none⟩), .pointer (some ⟨b, 0, none⟩), .pointer (some ⟨c, 0, none⟩), .pointer (some ⟨d, 0, none⟩), .int .i64 q]] (hw : holds w (storeP sb t :: F)) :
    Ct Tryz.prog 175 #[.pointer (some ⟨rb, 0, none⟩), .int .i64 (k : Nat)] w fun e w' => e = .returned (.int .i64 0) ∧ holds w' (storeP sb (Rc.wipe t k) :: F) := by
  have hz := hI.sz
  have hB := fun w (F : List HProp) h' => store_Begin sb t K hI (by omega) (k : Nat) w F h'
  have h1 := Rc.start_ph hk hp
  have h2 := Rc.start_w hI hk hp
  have e0 : (St.start t k).2 = 0 := by rw [Rc.start_eq hk hp]
  have hI1 := hI.start k
  have es : Rc.wipe t k = (St.step (St.start t k).1 k (St.start t k).1.size).1 := by unfold Rc.wipe; rw [St.start_size]
  have hz1 : (St.start t k).1.size = t.size := St.start_size
  have hk1 : k < (St.start t k).1.ch.length := by rw [St.start_chl]; exact hk
  rw [e0] at hB
  obtain ⟨t1, ht1⟩ : ∃ t1, t1 = (St.start t k).1 := ⟨_, rfl⟩
  rw [← ht1] at hB h1 h2 hI1 es hz1 hk1
  refine Ct.go (args := [.pointer (some ⟨rb, 0, none⟩), .int .i64 (k : Nat)]) Tryz.func175 rfl rfl rfl hw ?_
  repeat' (first | (first | (apply GL.isCall; refine GL.callH1 (storeP sb t) rfl rfl (fun w h => hB w _ h) ?_)) | first | refine stp ?_ | (refine stpB ?_; intro _) | (refine spl ?_ ?_ <;> intro hc <;> ((try simp only [decide_eq_true_eq, decide_eq_false_iff_not, Bool.not_true, Bool.not_false, ne_eq, Classical.not_not, Int.not_lt, Int.not_le] at hc); (try (exfalso; first | omega | exact hc trivial | exact hc rfl)))))
  all_goals (first | (exfalso; simp at hc; done) | skip)
  refine G.loopK [0, 1] (Nat × St.S) (fun y => []) (fun y => storeP sb y.2 :: F) (fun y => St.Inv y.2 (K + 1 + y.1) ∧ y.1 * 64 + 1 ≤ t.size ∧ y.2.size = t.size ∧ k < y.2.ch.length ∧ (y.2.c k).phase = 3 ∧ y.2.w k = y.1 * 64 ∧ (St.step y.2 k t.size).1 = Rc.wipe t k) (fun y => t.size - y.1) ((0, t1)) (⟨hI1, by dsimp only; omega, hz1, hk1, h1, by dsimp only; rw [h2]; rfl, by rw [es, hz1]⟩) (by repeat (first | exact trivial | refine And.intro rfl ?_)) (fun w h => by (try dsimp only); first | exact h | exact h.sub | ((try simp only [List.take_zero, List.drop_zero, List.map_nil, List.nil_append, List.zipIdx_nil, List.filter_nil]); exact h.sub)) ?_
  rintro ⟨j, s⟩ ⟨hIs, hj, hs, hks, hps, hws, hst⟩
  dsimp only at hIs hj hs hks hps hws hst ⊢
  have hS := fun w (F : List HProp) h' => store_Step sb s (K + 1 + j) hIs (by omega) (k : Nat) 64 w F h'
  by_cases hm : j * 64 + 64 < t.size
  · obtain ⟨e1, e2, e3⟩ := St.step_more hIs hks hps (by rw [hws, hs]; omega)
    have hI2 := hIs.step k 64
    rw [e1] at hS hI2
    rw [hs] at e3
    dsimp only at hS hI2
    obtain ⟨s2, hs2⟩ : ∃ s2, s2 = St.wiped s k 64 := ⟨_, rfl⟩
    have e4 : s2.ch = s.ch := by rw [hs2]; rfl
    have e5 : s2.size = s.size := by rw [hs2]; rfl
    rw [← hs2] at hS hI2 e2 e3
    repeat' (first | (first | (apply GL.isCall; refine GL.callH1 (storeP sb s) rfl rfl (fun w h => hS w _ h) ?_)) | first | refine stp ?_ | (refine stpB ?_; intro _) | (refine spl ?_ ?_ <;> intro hc <;> ((try simp only [decide_eq_true_eq, decide_eq_false_iff_not, Bool.not_true, Bool.not_false, ne_eq, Classical.not_not, Int.not_lt, Int.not_le] at hc); (try (exfalso; first | omega | exact hc trivial | exact hc rfl)))))
    all_goals (first | (exfalso; simp at hc; done) | skip)
    refine GE.round (j + 1, s2) ⟨by dsimp only; exact hI2, by dsimp only; omega, by dsimp only; omega, by dsimp only; rw [e4]; exact hks, by dsimp only; unfold St.S.c at hps ⊢; rw [e4]; exact hps, by dsimp only; rw [e2, hws]; omega, by dsimp only; rw [e3]; exact hst⟩ (by repeat (first | exact trivial | refine And.intro rfl ?_)) (fun w h => by (try dsimp only); exact h.sub) (by (try dsimp only); omega)
  · have e1 := St.step_fin (t := s) (i := (k : Nat)) (n := 64) (by omega) (by rw [hws, hs]; omega) (by rw [hs]; omega)
    obtain ⟨t', e2, e3⟩ := Rc.step_end hks hps s.size (by omega) (by rw [hws]; omega) (by rw [hws, hs]; omega)
    rw [e1, e2] at hS
    rw [← hs, e2] at hst
    dsimp only at hS hst
    rw [hst] at hS
    repeat' (first | (first | (apply GL.isCall; refine GL.callH1 (storeP sb s) rfl rfl (fun w h => hS w _ h) ?_)) | first | refine stp ?_ | (refine stpB ?_; intro _) | (refine spl ?_ ?_ <;> intro hc <;> ((try simp only [decide_eq_true_eq, decide_eq_false_iff_not, Bool.not_true, Bool.not_false, ne_eq, Classical.not_not, Int.not_lt, Int.not_le] at hc); (try (exfalso; first | omega | exact hc trivial | exact hc rfl)))))
    all_goals (first | (exfalso; simp at hc; done) | skip)
    refine GE.resOne rfl (by (repeat (first | apply Res.nil | (apply Res.tmp; rfl) | (refine Res.cellA rfl rfl rfl ?_) | (refine Res.cell1 rfl rfl ?_)))) (fun w h => ?_)
    exact ⟨rfl, h.sub⟩
end Go.Proofs.YtipkgamiejenaaaGreat
