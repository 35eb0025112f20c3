import Derived.Test.YtipkgamiejenaaaGreatMg14

import Derived.Test.YtipkgamiejenaaaGreatMg11
import Derived.Test.YtipkgamiejenaaaGreatTypes
/- Package store: Step. -/
namespace Go.Proofs.YtipkgamiejenaaaGreat
open Go Go.RowKit Go.MapKept
set_option linter.unusedVariables false
set_option linter.unusedSimpArgs false
set_option maxRecDepth 100000
set_option maxHeartbeats 4000000
section
variable (sb : Nat) (t : St.S) (K : Nat) (hI : St.Inv t K) (hK : K ≤ 1000000)
include hI hK
theorem store_Step (i n : Int) (w : World) (F : List HProp) (hw : holds w (storeP sb t :: F)) :
    Ct Tryz.prog 63 #[.pointer (some ⟨sb, 0, none⟩), .int .i64 i, .int .i64 n] w fun e w' => e = .returned (.tuple #[.bool (St.step t i n).2.1, .int .i64 (St.step t i n).2.2]) ∧ holds w' (storeP sb (St.step t i n).1 :: F) := by
  obtain ⟨q, hq, h1⟩ := storeP.open hw
  unfold St.step
  have hnc := hI.ncap
  refine Ct.go (args := [.pointer (some ⟨sb, 0, none⟩), .int .i64 i, .int .i64 n]) Tryz.func63 rfl rfl rfl h1 ?_
  by_cases ho : t.out i
  · rw [if_pos (.inl ho)]
    repeat' (first | (first | (apply GL.isCall; refine GL.call1 rfl rfl (fun w h => store_findN sb t.ch.length t.size q (St.cntP t.ch 0) (St.cntP t.ch 1) (St.cntP t.ch 2) (St.cntP t.ch 3) q.vs hq i ho w _ h) ?_) | (apply GD.isAny; refine GD.call rfl rfl (fun w F' h => store_findN sb t.ch.length t.size q (St.cntP t.ch 0) (St.cntP t.ch 1) (St.cntP t.ch 2) (St.cntP t.ch 3) q.vs hq i ho w _ h) ?_)) | first | refine stp ?_ | (refine stpB ?_; intro _) | (refine spl ?_ ?_ <;> intro hc <;> ((try simp only [decide_eq_true_eq, decide_eq_false_iff_not, Bool.not_true, Bool.not_false, ne_eq, Classical.not_not, Int.not_lt, Int.not_le] at hc); (try (exfalso; first | omega | exact hc trivial | exact hc rfl)))))
    all_goals (first | (exfalso; simp at hc; done) | (refine GE.resMany rfl (by (repeat (first | apply Res.nil | (apply Res.tmp; rfl) | (refine Res.cellA rfl rfl rfl ?_) | (refine Res.cell1 rfl rfl ?_)))) (fun w h => ?_); exact ⟨rfl, storeP.shut q hq h.sub⟩))
  obtain ⟨k, rfl, hk⟩ := St.out_ex ho
  have hok := cell_ok hk hq (h1.pick 4)
  have hkv : k < q.vs.length := by omega
  have hcell := hI.cell k hk
  have hc0 := t.c_eq k hk
  have hph := hok.ph
  by_cases hn : n < 1
  · rw [if_pos (.inr hn)]
    repeat' (first | (first | first | (apply GL.isCall; refine GL.call1 rfl rfl (fun w h => store_find sb t.ch.length t.size q (St.cntP t.ch 0) (St.cntP t.ch 1) (St.cntP t.ch 2) (St.cntP t.ch 3) q.vs hq k hk w _ h) ?_) | (apply GD.isAny; refine GD.call rfl rfl (fun w F' h => store_find sb t.ch.length t.size q (St.cntP t.ch 0) (St.cntP t.ch 1) (St.cntP t.ch 2) (St.cntP t.ch 3) q.vs hq k hk w _ h) ?_)) | first | refine stp ?_ | (refine stpB ?_; intro _) | (refine spl ?_ ?_ <;> intro hc <;> ((try simp only [decide_eq_true_eq, decide_eq_false_iff_not, Bool.not_true, Bool.not_false, ne_eq, Classical.not_not, Int.not_lt, Int.not_le] at hc); (try (exfalso; first | omega | exact hc trivial | exact hc rfl)))))
    all_goals (first | (exfalso; simp at hc; done) | (exfalso; omega) | (refine GE.resMany rfl (by (repeat (first | apply Res.nil | (apply Res.tmp; rfl) | (refine Res.cellA rfl rfl rfl ?_) | (refine Res.cell1 rfl rfl ?_)))) (fun w h => ?_); exact ⟨rfl, storeP.shut q hq h.sub⟩))
  rw [if_neg (fun h => h.elim ho hn)]
  by_cases hp : (t.c k).phase ≠ 3
  · rw [if_pos hp]
    repeat' (first | (first | (rw [hph]) | first | (apply GL.isCall; refine GL.call1 rfl rfl (fun w h => store_find sb t.ch.length t.size q (St.cntP t.ch 0) (St.cntP t.ch 1) (St.cntP t.ch 2) (St.cntP t.ch 3) q.vs hq k hk w _ h) ?_) | (apply GD.isAny; refine GD.call rfl rfl (fun w F' h => store_find sb t.ch.length t.size q (St.cntP t.ch 0) (St.cntP t.ch 1) (St.cntP t.ch 2) (St.cntP t.ch 3) q.vs hq k hk w _ h) ?_)) | first | refine stp ?_ | (refine stpB ?_; intro _) | (refine spl ?_ ?_ <;> intro hc <;> ((try simp only [decide_eq_true_eq, decide_eq_false_iff_not, Bool.not_true, Bool.not_false, ne_eq, Classical.not_not, Int.not_lt, Int.not_le] at hc); (try (exfalso; first | omega | exact hc trivial | exact hc rfl)))))
    all_goals (first | (exfalso; simp at hc; done) | (exfalso; omega) | (refine GE.resMany rfl (by (repeat (first | apply Res.nil | (apply Res.tmp; rfl) | (refine Res.cellA rfl rfl rfl ?_) | (refine Res.cell1 rfl rfl ?_)))) (fun w h => ?_); exact ⟨rfl, storeP.shut q hq h.sub⟩))
  rw [if_neg hp]
  obtain ⟨v, hv⟩ : ∃ v, v = q.vs[k] := ⟨_, rfl⟩
  rw [← hv] at hok hph
  have hp1 : (t.c k).phase = 3 := by omega
  obtain ⟨wb, hwb⟩ := Option.isSome_iff_exists.1 (hok.wp.2 hp1)
  obtain ⟨b, hbb⟩ := Option.isSome_iff_exists.1 (hok.bp (by omega))
  obtain ⟨d, l, ph, bp, wp⟩ := v
  dsimp only at hwb hbb hph
  subst hwb hbb
  obtain ⟨hl0, hph0, hd0, _, _⟩ := hok
  dsimp only at hl0 hph0 hd0
  have hw1 := (hcell.wip (by rw [← hc0]; exact hp1)).1
  have hown : (t.c k).owner = 0 := by rw [hc0] at hp1 ⊢; rcases hcell.ow with h | h <;> omega
  have hgen := hcell.ge
  rw [← hc0] at hgen
  have hsz := hI.sz
  have hev := ev_in hI 3 (by omega)
  obtain ⟨m, hm⟩ : ∃ m, m = min n ((t.size : Int) - t.w k) := ⟨_, rfl⟩
  have hm0 : 0 ≤ m := by omega
  have hpo : ((St.portion t k n : Nat) : Int) = m := by unfold St.portion; omega
  have hpn : m.toNat = St.portion t k n := by omega
  have hTk := fun w (G : List HProp) (h : holds w (bigF t.ch.length (chunkF t q.vs) :: G)) => (show holds w (bytesP b t.size (t.x k) :: blk wb (.cells #[.pointer (some ⟨b, 0, none⟩), .int .i64 (t.w k)] 262 (0, 0)) :: sep (((List.range t.ch.length).map (chunkF t q.vs)).eraseIdx k) :: G) from cell_take hk hq ⟨d, l, ph, some b, some wb⟩ hv.symm h)
  have hSt := fun w (F : List HProp) h => scrub_Step wb b t.size (t.w k) (t.x k) ⟨hw1.1, by omega⟩ n (by omega) w F h
  rw [← hm, hpn] at hSt
  have hDn := fun w (F : List HProp) h => scrub_Done wb b t.size (t.w k + m) (By.splice (t.x k) (t.w k).toNat (St.zeros (St.portion t k n))) ⟨by omega, by omega⟩ w F h
  have hwph : (q.vs[k]).ph = 3 := by rw [← hv]; exact hph.trans hp1
  have hvk : q.vs[k] = ⟨d, l, ph, some b, some wb⟩ := hv.symm
  have hph3 : ph = 3 := hph.trans hp1
  rw [hpo]
  by_cases hlt : t.w k + m < t.size
  · rw [if_pos hlt]
    have hdn : decide ((t.size : Int) - (t.w k + m) = 0) = false := by rw [decide_eq_false_iff_not]; omega
    rw [hdn] at hDn
    repeat' (first | (first | (rw [hvk]) | first | (apply GL.isCall; refine GL.call1 rfl rfl (fun w h => store_find sb t.ch.length t.size q (St.cntP t.ch 0) (St.cntP t.ch 1) (St.cntP t.ch 2) (St.cntP t.ch 3) q.vs hq k hk w _ h) ?_) | (apply GD.isAny; refine GD.call rfl rfl (fun w F' h => store_find sb t.ch.length t.size q (St.cntP t.ch 0) (St.cntP t.ch 1) (St.cntP t.ch 2) (St.cntP t.ch 3) q.vs hq k hk w _ h) ?_) | (apply GL.isCall; refine GL.call1 (vs := [.pointer (some ⟨wb, 0, none⟩), .int .i64 n]) rfl rfl (fun w h => hSt w (sep (((List.range t.ch.length).map (chunkF t q.vs)).eraseIdx k) :: blk sb (.cells #[.pointer (some ⟨q.tb, 0, none⟩), .pointer (some ⟨q.fb, 0, none⟩), .slice (some ⟨q.cb, 0, none⟩) (t.ch.length) (t.ch.length), .int .i64 ((t.size : Nat) : Int), .int .i64 (St.cntP t.ch 0), .int .i64 (St.cntP t.ch 1), .int .i64 (St.cntP t.ch 2), .int .i64 (St.cntP t.ch 3), .pointer (some ⟨q.kb, 0, none⟩)] 123 (0, 0)) :: tagsAt (.pointer (some ⟨q.tb, 0, none⟩)) (t.ch.map fun c => (c.owner, c.gen)) :: freeP (.pointer (some ⟨q.fb, 0, none⟩)) (t.ch.length) (t.stack) :: owns 148 encCell 6 (.slice (some ⟨q.cb, 0, none⟩) (t.ch.length) (t.ch.length)) (q.vs) :: bookP (.pointer (some ⟨q.kb, 0, none⟩)) 4 (t.ev) :: F) (hTk w (blk sb (.cells #[.pointer (some ⟨q.tb, 0, none⟩), .pointer (some ⟨q.fb, 0, none⟩), .slice (some ⟨q.cb, 0, none⟩) (t.ch.length) (t.ch.length), .int .i64 ((t.size : Nat) : Int), .int .i64 (St.cntP t.ch 0), .int .i64 (St.cntP t.ch 1), .int .i64 (St.cntP t.ch 2), .int .i64 (St.cntP t.ch 3), .pointer (some ⟨q.kb, 0, none⟩)] 123 (0, 0)) :: tagsAt (.pointer (some ⟨q.tb, 0, none⟩)) (t.ch.map fun c => (c.owner, c.gen)) :: freeP (.pointer (some ⟨q.fb, 0, none⟩)) (t.ch.length) (t.stack) :: owns 148 encCell 6 (.slice (some ⟨q.cb, 0, none⟩) (t.ch.length) (t.ch.length)) (q.vs) :: bookP (.pointer (some ⟨q.kb, 0, none⟩)) 4 (t.ev) :: F) h.sub)) ?_) | (apply GL.isCall; refine GL.call1 (vs := [.pointer (some ⟨wb, 0, none⟩)]) rfl rfl (fun w h => hDn w _ h) ?_)) | first | refine stp ?_ | (refine stpB ?_; intro _) | (refine spl ?_ ?_ <;> intro hc <;> ((try simp only [decide_eq_true_eq, decide_eq_false_iff_not, Bool.not_true, Bool.not_false, ne_eq, Classical.not_not, Int.not_lt, Int.not_le] at hc); (try (exfalso; first | omega | exact hc trivial | exact hc rfl)))))
    all_goals (first | (exfalso; omega) | (exfalso; simp at hc; done) | skip)
    refine GE.resMany rfl (by (repeat (first | apply Res.nil | (apply Res.tmp; rfl) | (refine Res.cellA rfl rfl rfl ?_) | (refine Res.cell1 rfl rfl ?_)))) (fun w h => ?_)
    refine ⟨rfl, ?_⟩
    have hkw : k < t.wi.length := by rw [hI.n2]; exact hk
    have hkx : k < t.tx.length := by rw [hI.n1]; exact hk
    have ew := set_nat_w t k (t.w k + m) hkw (St.wiped t k n) (by unfold St.wiped; dsimp only; rw [Int.toNat_natCast, hpo])
    have ex := set_nat_x t k (By.splice (t.x k) (t.w k).toNat (St.zeros (St.portion t k n))) hkx (St.wiped t k n) (by unfold St.wiped; dsimp only; rw [Int.toNat_natCast])
    have h5 := cell_put (t' := St.wiped t k n) (⟨d, l, ph, some b, some wb⟩ : CellV) hk hq rfl (fun j hj => rfl) (fun j hj => by rw [ex, if_neg hj]) (fun j hj => by rw [ew, if_neg hj]) ⟨hl0, hph0, hd0, fun _ => rfl, ⟨fun _ => hp1, fun _ => rfl⟩⟩ (by rw [ew, ex, if_pos rfl, if_pos rfl]; exact h)
    rw [show q.vs.set k ⟨d, l, ph, some b, some wb⟩ = q.vs by rw [hv, List.set_getElem_self]] at h5
    refine storeP.make (St.wiped t k n) q q.vs t.ch.length _ _ _ _ _ rfl rfl rfl rfl rfl rfl hq ?_
    exact h5.order [1, 2, 3, 4, 0, 5]
  · rw [if_neg hlt]
    simp only [Int.toNat_natCast]
    have hdn : decide ((t.size : Int) - (t.w k + m) = 0) = true := by rw [decide_eq_true_eq]; omega
    rw [hdn] at hDn
    have hrs : Tags.raise (t.ch.map fun c => (c.owner, c.gen)) k = (0, (t.ch.set k ⟨0, 0, (t.c k).gen + 1⟩).map fun c => (c.owner, c.gen)) := by
      unfold Tags.raise
      rw [if_neg (by rw [List.length_map]; omega), tags_at t k hk, if_neg (by dsimp only; omega), if_neg (by dsimp only; omega), Int.toNat_natCast, List.map_set]
      dsimp only
      rw [hown]
    have hgens : ∀ u ∈ (t.ch.map fun c => (c.owner, c.gen)), 0 ≤ u.2 ∧ u.2 ≤ 1048575 := fun u hu => by
      obtain ⟨c, hc, rfl⟩ := List.mem_map.1 hu
      obtain ⟨j, hj, rfl⟩ := List.getElem_of_mem hc
      have := (hI.cell j hj).ge
      dsimp only; omega
    have hRs := fun w (F : List HProp) h => tags_Raise w (.pointer (some ⟨q.tb, 0, none⟩)) (t.ch.map fun c => (c.owner, c.gen)) k F (by rw [List.length_map]; exact hnc) hgens h
    rw [hrs] at hRs
    have hnm : (k : Int) ∉ t.stack := fun h => by
      obtain ⟨j, hj, e, hpj⟩ := (hI.free _).1 h
      have : k = j := by omega
      subst this; rw [← hc0] at hpj; omega
    have hGv := fun w (F : List HProp) h => free_Give t.ch.length hnc t.stack (.pointer (some ⟨q.fb, 0, none⟩)) k hk hnm w F h
    have hLd := fun w (F : List HProp) h => store_lead sb t.ch.length t.size q (St.cntP t.ch 0) (St.cntP t.ch 1) (St.cntP t.ch 2) (St.cntP t.ch 3) (q.vs.set k ⟨d, l, ph, some b, none⟩) t.ev hI.n3 k 3 (by rw [List.length_set]; exact hkv) (by omega) (by rw [List.getElem_set_self]; exact hph3) _ _ _ _ (cnt_move t.ch k hk 3 (by omega) (by rw [← hc0]; exact hp1) ⟨0, 0, (t.c k).gen + 1⟩ rfl) (cnt_in t.ch hnc) hev.1 (by omega) w F h
    simp only [List.set_set, List.getElem_set_self] at hLd
    repeat' (first | (first | (rw [hvk]) | first | (apply GL.isCall; refine GL.call1 rfl rfl (fun w h => store_find sb t.ch.length t.size q (St.cntP t.ch 0) (St.cntP t.ch 1) (St.cntP t.ch 2) (St.cntP t.ch 3) q.vs hq k hk w _ h) ?_) | (apply GD.isAny; refine GD.call rfl rfl (fun w F' h => store_find sb t.ch.length t.size q (St.cntP t.ch 0) (St.cntP t.ch 1) (St.cntP t.ch 2) (St.cntP t.ch 3) q.vs hq k hk w _ h) ?_) | (apply GL.isCall; refine GL.call1 (vs := [.pointer (some ⟨wb, 0, none⟩), .int .i64 n]) rfl rfl (fun w h => hSt w (sep (((List.range t.ch.length).map (chunkF t q.vs)).eraseIdx k) :: blk sb (.cells #[.pointer (some ⟨q.tb, 0, none⟩), .pointer (some ⟨q.fb, 0, none⟩), .slice (some ⟨q.cb, 0, none⟩) (t.ch.length) (t.ch.length), .int .i64 ((t.size : Nat) : Int), .int .i64 (St.cntP t.ch 0), .int .i64 (St.cntP t.ch 1), .int .i64 (St.cntP t.ch 2), .int .i64 (St.cntP t.ch 3), .pointer (some ⟨q.kb, 0, none⟩)] 123 (0, 0)) :: tagsAt (.pointer (some ⟨q.tb, 0, none⟩)) (t.ch.map fun c => (c.owner, c.gen)) :: freeP (.pointer (some ⟨q.fb, 0, none⟩)) (t.ch.length) (t.stack) :: owns 148 encCell 6 (.slice (some ⟨q.cb, 0, none⟩) (t.ch.length) (t.ch.length)) (q.vs) :: bookP (.pointer (some ⟨q.kb, 0, none⟩)) 4 (t.ev) :: F) (hTk w (blk sb (.cells #[.pointer (some ⟨q.tb, 0, none⟩), .pointer (some ⟨q.fb, 0, none⟩), .slice (some ⟨q.cb, 0, none⟩) (t.ch.length) (t.ch.length), .int .i64 ((t.size : Nat) : Int), .int .i64 (St.cntP t.ch 0), .int .i64 (St.cntP t.ch 1), .int .i64 (St.cntP t.ch 2), .int .i64 (St.cntP t.ch 3), .pointer (some ⟨q.kb, 0, none⟩)] 123 (0, 0)) :: tagsAt (.pointer (some ⟨q.tb, 0, none⟩)) (t.ch.map fun c => (c.owner, c.gen)) :: freeP (.pointer (some ⟨q.fb, 0, none⟩)) (t.ch.length) (t.stack) :: owns 148 encCell 6 (.slice (some ⟨q.cb, 0, none⟩) (t.ch.length) (t.ch.length)) (q.vs) :: bookP (.pointer (some ⟨q.kb, 0, none⟩)) 4 (t.ev) :: F) h.sub)) ?_) | (apply GL.isCall; refine GL.call1 (vs := [.pointer (some ⟨wb, 0, none⟩)]) rfl rfl (fun w h => hDn w _ h) ?_) | (apply GL.isStore; refine GL.storeElem (f := 5) (⟨d, l, ph, some b, none⟩ : CellV) rfl rfl hkv rfl rfl rfl (by rw [hvk]; rfl) ?_) | (apply GL.isCall; refine GL.callH1 ((tagsAt (.pointer (some ⟨q.tb, 0, none⟩)) (t.ch.map fun c => (c.owner, c.gen)))) rfl rfl (fun w h => ⟨hRs w _ h⟩) ?_) | (apply GL.isCall; refine GL.callH (freeP (.pointer (some ⟨q.fb, 0, none⟩)) (t.ch.length) (t.stack)) rfl rfl (fun w h => hGv w _ h) (fun _ => ?_)) | (apply GL.isCall; refine GL.call1 (vs := [.pointer (some ⟨sb, 0, none⟩), .pointer (some ⟨rowB (.slice (some ⟨q.cb, 0, none⟩) t.ch.length t.ch.length), rowO (.slice (some ⟨q.cb, 0, none⟩) t.ch.length t.ch.length) + k * 6, none⟩), .int .i64 ((3 + 1 : Nat) : Int)]) rfl rfl (fun w h => hLd w (tagsAt (.pointer (some ⟨q.tb, 0, none⟩)) ((t.ch.set k ⟨0, 0, (t.c k).gen + 1⟩).map fun c => (c.owner, c.gen)) :: freeP (.pointer (some ⟨q.fb, 0, none⟩)) (t.ch.length) (t.stack ++ [(k : Int)]) :: bytesP b t.size (By.splice (t.x k) (t.w k).toNat (St.zeros (St.portion t k n))) :: blk wb (.cells #[.pointer (some ⟨b, 0, none⟩), .int .i64 (t.w k + m)] 262 (0, 0)) :: sep (((List.range t.ch.length).map (chunkF t q.vs)).eraseIdx k) :: F) h.sub) ?_)) | first | refine stp ?_ | (refine stpB ?_; intro _) | (refine spl ?_ ?_ <;> intro hc <;> ((try simp only [decide_eq_true_eq, decide_eq_false_iff_not, Bool.not_true, Bool.not_false, ne_eq, Classical.not_not, Int.not_lt, Int.not_le] at hc); (try (exfalso; first | omega | exact hc trivial | exact hc rfl)))))
    all_goals (first | (exfalso; omega) | (exfalso; simp at hc; done) | skip)
    refine GE.resMany rfl (by (repeat (first | apply Res.nil | (apply Res.tmp; rfl) | (refine Res.cellA rfl rfl rfl ?_) | (refine Res.cell1 rfl rfl ?_)))) (fun w h => ?_)
    refine ⟨rfl, ?_⟩
    have hkw : k < t.wi.length := by rw [hI.n2]; exact hk
    have hkx : k < t.tx.length := by rw [hI.n1]; exact hk
    have ec := set_nat t k ⟨0, 0, (t.c k).gen + 1⟩ hk ({ St.wiped t k n with stack := t.stack ++ [(k : Int)], ch := t.ch.set k ⟨0, 0, (t.c k).gen + 1⟩, ev := St.up t.ev 3 } : St.S) rfl
    have ew := set_nat_w t k (t.w k + m) hkw ({ St.wiped t k n with stack := t.stack ++ [(k : Int)], ch := t.ch.set k ⟨0, 0, (t.c k).gen + 1⟩, ev := St.up t.ev 3 } : St.S) (by unfold St.wiped; dsimp only; rw [Int.toNat_natCast, hpo])
    have ex := set_nat_x t k (By.splice (t.x k) (t.w k).toNat (St.zeros (St.portion t k n))) hkx ({ St.wiped t k n with stack := t.stack ++ [(k : Int)], ch := t.ch.set k ⟨0, 0, (t.c k).gen + 1⟩, ev := St.up t.ev 3 } : St.S) (by unfold St.wiped; dsimp only; rw [Int.toNat_natCast])
    have h4 : holds w (bytesO (some b) t.size (By.splice (t.x k) (t.w k).toNat (St.zeros (St.portion t k n))) :: wipeO none (some b) (t.w k + m) :: sep (((List.range t.ch.length).map (chunkF t q.vs)).eraseIdx k) :: blk sb (.cells #[.pointer (some ⟨q.tb, 0, none⟩), .pointer (some ⟨q.fb, 0, none⟩), .slice (some ⟨q.cb, 0, none⟩) (t.ch.length) (t.ch.length), .int .i64 ((t.size : Nat) : Int), .int .i64 (St.cntP (t.ch.set k ⟨0, 0, (t.c k).gen + 1⟩) 0), .int .i64 (St.cntP (t.ch.set k ⟨0, 0, (t.c k).gen + 1⟩) 1), .int .i64 (St.cntP (t.ch.set k ⟨0, 0, (t.c k).gen + 1⟩) 2), .int .i64 (St.cntP (t.ch.set k ⟨0, 0, (t.c k).gen + 1⟩) 3), .pointer (some ⟨q.kb, 0, none⟩)] 123 (0, 0)) :: tagsAt (.pointer (some ⟨q.tb, 0, none⟩)) ((t.ch.set k ⟨0, 0, (t.c k).gen + 1⟩).map fun c => (c.owner, c.gen)) :: freeP (.pointer (some ⟨q.fb, 0, none⟩)) (t.ch.length) (t.stack ++ [(k : Int)]) :: owns 148 encCell 6 (.slice (some ⟨q.cb, 0, none⟩) (t.ch.length) (t.ch.length)) (q.vs.set k ⟨d, l, 0, some b, none⟩) :: bookP (.pointer (some ⟨q.kb, 0, none⟩)) 4 (t.ev.set 3 (t.ev.getD 3 0 + 1)) :: F) := (holds.addNil (holds.sub (H := bytesP b t.size (By.splice (t.x k) (t.w k).toNat (St.zeros (St.portion t k n))) :: sep (((List.range t.ch.length).map (chunkF t q.vs)).eraseIdx k) :: blk sb (.cells #[.pointer (some ⟨q.tb, 0, none⟩), .pointer (some ⟨q.fb, 0, none⟩), .slice (some ⟨q.cb, 0, none⟩) (t.ch.length) (t.ch.length), .int .i64 ((t.size : Nat) : Int), .int .i64 (St.cntP (t.ch.set k ⟨0, 0, (t.c k).gen + 1⟩) 0), .int .i64 (St.cntP (t.ch.set k ⟨0, 0, (t.c k).gen + 1⟩) 1), .int .i64 (St.cntP (t.ch.set k ⟨0, 0, (t.c k).gen + 1⟩) 2), .int .i64 (St.cntP (t.ch.set k ⟨0, 0, (t.c k).gen + 1⟩) 3), .pointer (some ⟨q.kb, 0, none⟩)] 123 (0, 0)) :: tagsAt (.pointer (some ⟨q.tb, 0, none⟩)) ((t.ch.set k ⟨0, 0, (t.c k).gen + 1⟩).map fun c => (c.owner, c.gen)) :: freeP (.pointer (some ⟨q.fb, 0, none⟩)) (t.ch.length) (t.stack ++ [(k : Int)]) :: owns 148 encCell 6 (.slice (some ⟨q.cb, 0, none⟩) (t.ch.length) (t.ch.length)) (q.vs.set k ⟨d, l, 0, some b, none⟩) :: bookP (.pointer (some ⟨q.kb, 0, none⟩)) 4 (t.ev.set 3 (t.ev.getD 3 0 + 1)) :: F) h)).order [1, 0]
    have h5 := cell_put (t' := ({ St.wiped t k n with stack := t.stack ++ [(k : Int)], ch := t.ch.set k ⟨0, 0, (t.c k).gen + 1⟩, ev := St.up t.ev 3 } : St.S)) (⟨d, l, 0, some b, none⟩ : CellV) hk hq rfl (fun j hj => by rw [ec, if_neg hj]) (fun j hj => by rw [ex, if_neg hj]) (fun j hj => by rw [ew, if_neg hj]) (by rw [ec, if_pos rfl]; exact ⟨hl0, rfl, hd0, fun h => absurd rfl h, by simp⟩) (by rw [ew, ex, if_pos rfl, if_pos rfl]; exact h4)
    refine storeP.make ({ St.wiped t k n with stack := t.stack ++ [(k : Int)], ch := t.ch.set k ⟨0, 0, (t.c k).gen + 1⟩, ev := St.up t.ev 3 } : St.S) q (q.vs.set k ⟨d, l, 0, some b, none⟩) t.ch.length _ _ _ _ _ (by simp) rfl rfl rfl rfl rfl (by simpa using hq) ?_
    exact h5.order [1, 2, 3, 4, 0, 5]
end
end Go.Proofs.YtipkgamiejenaaaGreat

/- Package store: what a store tells of a chunk; Load, Store. -/
namespace Go.Proofs.YtipkgamiejenaaaGreat
open Go Go.RowKit Go.MapKept
set_option linter.unusedVariables false
set_option linter.unusedSectionVars false
set_option linter.unusedSimpArgs false
set_option maxRecDepth 100000
set_option maxHeartbeats 4000000
@[reducible] def encCk (c : ChunkM) : List Value := [.int .i64 c.phase, .int .i64 c.owner, .int .i64 c.gen]
instance : Enc encCk 3 := ⟨fun _ => rfl, fun c => by simp [encCk, Value.oneCell'], by omega⟩
def St.told (t : St.S) (i : Int) : ChunkM × Bool := if t.out i then (St.ch0, false) else (t.c i, true)
section
variable (sb : Nat) (t : St.S) (K : Nat) (hI : St.Inv t K) (hK : K ≤ 1000000)
include hI hK
theorem store_Chunk (i : Int) (w : World) (F : List HProp) (hw : holds w (storeP sb t :: F)) :
    Ct Tryz.prog 43 #[.pointer (some ⟨sb, 0, none⟩), .int .i64 i] w fun e w' => e = .returned (.tuple #[.agg (encCk (St.told t i).1).toArray, .bool (St.told t i).2]) ∧ holds w' (storeP sb t :: F) := by
  obtain ⟨q, hq, h1⟩ := storeP.open hw
  unfold St.told
  have hnc := hI.ncap
  refine Ct.go (args := [.pointer (some ⟨sb, 0, none⟩), .int .i64 i]) Tryz.func43 rfl rfl rfl h1 ?_
  by_cases ho : t.out i
  · rw [if_pos ho]
    repeat' (first | (first | (apply GL.isAlloc; refine GL.alloc rfl (fun b4 => ?_)) | first | (apply GL.isCall; refine GL.call1 rfl rfl (fun w h => store_findN sb t.ch.length t.size q (St.cntP t.ch 0) (St.cntP t.ch 1) (St.cntP t.ch 2) (St.cntP t.ch 3) q.vs hq i ho w _ h) ?_) | (apply GD.isAny; refine GD.call rfl rfl (fun w F' h => store_findN sb t.ch.length t.size q (St.cntP t.ch 0) (St.cntP t.ch 1) (St.cntP t.ch 2) (St.cntP t.ch 3) q.vs hq i ho w _ h) ?_)) | first | refine stp ?_ | (refine stpB ?_; intro _) | (refine spl ?_ ?_ <;> intro hc <;> ((try simp only [decide_eq_true_eq, decide_eq_false_iff_not, Bool.not_true, Bool.not_false, ne_eq, Classical.not_not, Int.not_lt, Int.not_le] at hc); (try (exfalso; first | omega | exact hc trivial | exact hc rfl)))))
    all_goals (first | (exfalso; simp at hc; done) | (refine GE.resMany rfl (by (repeat (first | apply Res.nil | (apply Res.tmp; rfl) | (refine Res.cellA rfl rfl rfl ?_) | (refine Res.cell1 rfl rfl ?_)))) (fun w h => ?_); exact ⟨rfl, storeP.shut q hq h.sub⟩))
  rw [if_neg ho]
  obtain ⟨k, rfl, hk⟩ := St.out_ex ho
  have hok := cell_ok hk hq (h1.pick 4)
  have hkv : k < q.vs.length := by omega
  have hph := hok.ph
  have hOr := fun w (F : List HProp) h => tags_Owner w (.pointer (some ⟨q.tb, 0, none⟩)) (t.ch.map fun c => (c.owner, c.gen)) k F (by rw [List.length_map]; exact hnc) h
  have hGe := fun w (F : List HProp) h => tags_Gen w (.pointer (some ⟨q.tb, 0, none⟩)) (t.ch.map fun c => (c.owner, c.gen)) k F (by rw [List.length_map]; exact hnc) h
  rw [if_pos (by rw [List.length_map]; omega), tags_at t k hk] at hOr hGe
  dsimp only at hOr hGe
  repeat' (first | (first | (rw [hph]) | (apply GL.isAlloc; refine GL.alloc rfl (fun b4 => ?_)) | first | (apply GL.isCall; refine GL.call1 rfl rfl (fun w h => store_find sb t.ch.length t.size q (St.cntP t.ch 0) (St.cntP t.ch 1) (St.cntP t.ch 2) (St.cntP t.ch 3) q.vs hq k hk w _ h) ?_) | (apply GD.isAny; refine GD.call rfl rfl (fun w F' h => store_find sb t.ch.length t.size q (St.cntP t.ch 0) (St.cntP t.ch 1) (St.cntP t.ch 2) (St.cntP t.ch 3) q.vs hq k hk w _ h) ?_) | (refine G.isRegion 4 ?_; refine G.drawTail 16 (by kernel_rfl) (by simp only [List.take_succ_cons, List.take_zero]; rfl) (by simp only [List.drop_succ_cons, List.drop_zero]; rfl) (by kernel_rfl) ?_) | (apply GD.isAny; first | refine GD.callK [tagsAt (.pointer (some ⟨q.tb, 0, none⟩)) (t.ch.map fun c => (c.owner, c.gen))] (vs := [.pointer (some ⟨q.tb, 0, none⟩), .int .i64 (k : Nat)]) (v := .int .i64 (t.c k).owner) rfl rfl (fun w F' h => ⟨by exact hOr w _ h⟩) ?_ | refine GD.callK [tagsAt (.pointer (some ⟨q.tb, 0, none⟩)) (t.ch.map fun c => (c.owner, c.gen))] (vs := [.pointer (some ⟨q.tb, 0, none⟩), .int .i64 (k : Nat)]) (v := .int .i64 (t.c k).gen) rfl rfl (fun w F' h => ⟨by exact hGe w _ h⟩) ?_)) | first | refine stp ?_ | (refine stpB ?_; intro _) | (refine spl ?_ ?_ <;> intro hc <;> ((try simp only [decide_eq_true_eq, decide_eq_false_iff_not, Bool.not_true, Bool.not_false, ne_eq, Classical.not_not, Int.not_lt, Int.not_le] at hc); (try (exfalso; first | omega | exact hc trivial | exact hc rfl)))))
  all_goals (first | (exfalso; simp at hc; done) | skip)
  all_goals (refine GE.resMany rfl (by (repeat (first | apply Res.nil | (apply Res.tmp; rfl) | (refine Res.cellA rfl rfl rfl ?_) | (refine Res.cell1 rfl rfl ?_)))) (fun w h => ?_); exact ⟨rfl, storeP.shut q hq h.sub⟩)
end
end Go.Proofs.YtipkgamiejenaaaGreat

/- Package store: what a store tells of itself. -/
namespace Go.Proofs.YtipkgamiejenaaaGreat
open Go Go.RowKit Go.MapKept
set_option linter.unusedVariables false
set_option linter.unusedSectionVars false
set_option linter.unusedSimpArgs false
set_option maxRecDepth 100000
set_option maxHeartbeats 4000000
def St.clean (t : St.S) (i : Int) : Bool := decide (t.out i ∨ ∀ y ∈ t.x i, y = 0)
section
variable (sb : Nat) (t : St.S) (K : Nat) (hI : St.Inv t K) (hK : K ≤ 1000000)
include hI hK
theorem store_Many (w : World) (F : List HProp) (hw : holds w (storeP sb t :: F)) :
    Ct Tryz.prog 15 #[.pointer (some ⟨sb, 0, none⟩)] w fun e w' => e = .returned (.agg #[.int .i64 (St.cntP t.ch 0), .int .i64 (St.cntP t.ch 1), .int .i64 (St.cntP t.ch 2), .int .i64 (St.cntP t.ch 3)]) ∧ holds w' (storeP sb t :: F) := by
  obtain ⟨q, hq, h1⟩ := storeP.open hw
  refine Ct.go (args := [.pointer (some ⟨sb, 0, none⟩)]) Tryz.func15 rfl rfl rfl h1 ?_
  repeat' (first | ((apply GL.isAlloc; refine GL.alloc rfl (fun b2 => ?_))) | first | refine stp ?_ | (refine stpB ?_; intro _) | (refine spl ?_ ?_ <;> intro hc <;> ((try simp only [decide_eq_true_eq, decide_eq_false_iff_not, Bool.not_true, Bool.not_false, ne_eq, Classical.not_not, Int.not_lt, Int.not_le] at hc); (try (exfalso; first | omega | exact hc trivial | exact hc rfl)))))
  refine GE.resOne rfl (by (repeat (first | apply Res.nil | (apply Res.tmp; rfl) | (refine Res.cellA rfl rfl rfl ?_) | (refine Res.cell1 rfl rfl ?_)))) (fun w h => ?_)
  exact ⟨rfl, storeP.shut q hq h.sub⟩
theorem store_Size (w : World) (F : List HProp) (hw : holds w (storeP sb t :: F)) :
    Ct Tryz.prog 18 #[.pointer (some ⟨sb, 0, none⟩)] w fun e w' => e = .returned (.int .i64 (t.size : Nat)) ∧ holds w' (storeP sb t :: F) := by
  obtain ⟨q, hq, h1⟩ := storeP.open hw
  refine Ct.go (args := [.pointer (some ⟨sb, 0, none⟩)]) Tryz.func18 rfl rfl rfl h1 ?_
  repeat' (first | refine stp ?_ | (refine stpB ?_; intro _) | (refine spl ?_ ?_ <;> intro hc <;> ((try simp only [decide_eq_true_eq, decide_eq_false_iff_not, Bool.not_true, Bool.not_false, ne_eq, Classical.not_not, Int.not_lt, Int.not_le] at hc); (try (exfalso; first | omega | exact hc trivial | exact hc rfl)))))
  refine GE.resOne rfl (by (repeat (first | apply Res.nil | (apply Res.tmp; rfl) | (refine Res.cellA rfl rfl rfl ?_) | (refine Res.cell1 rfl rfl ?_)))) (fun w h => ?_)
  exact ⟨rfl, storeP.shut q hq h.sub⟩
theorem store_All (w : World) (F : List HProp) (hw : holds w (storeP sb t :: F)) :
    Ct Tryz.prog 17 #[.pointer (some ⟨sb, 0, none⟩)] w fun e w' => ∃ u : Nat, e = .returned (.slice (some ⟨u, 0, none⟩) t.ch.length t.ch.length) ∧ holds w' (owns 84 encCk 3 (.slice (some ⟨u, 0, none⟩) t.ch.length t.ch.length) t.ch :: storeP sb t :: F) := by
  obtain ⟨q, hq, h1⟩ := storeP.open hw
  have hnc := hI.ncap
  refine Ct.go (args := [.pointer (some ⟨sb, 0, none⟩)]) Tryz.func17 rfl rfl rfl h1 ?_
  repeat' (first | (first | first | (apply GL.isCall; refine GL.call1 rfl rfl (fun w h => store_is sb t.ch.length t.size q (St.cntP t.ch 0) (St.cntP t.ch 1) (St.cntP t.ch 2) (St.cntP t.ch 3) w _ h) ?_) | (apply GD.isAny; refine GD.call rfl rfl (fun w F' h => store_is sb t.ch.length t.size q (St.cntP t.ch 0) (St.cntP t.ch 1) (St.cntP t.ch 2) (St.cntP t.ch 3) w _ h) ?_) | (apply GL.isAny; refine GL.run (Runs.lenLit rfl) rfl ?_) | (apply GL.isAny; refine GL.makeSl encCk St.ch0 t.ch.length t.ch.length rfl rfl rfl rfl rfl (Nat.le_refl _) (by omega) (by unfold maxLen; omega) rfl (fun u => ?_))) | first | refine stp ?_ | (refine stpB ?_; intro _) | (refine spl ?_ ?_ <;> intro hc <;> ((try simp only [decide_eq_true_eq, decide_eq_false_iff_not, Bool.not_true, Bool.not_false, ne_eq, Classical.not_not, Int.not_lt, Int.not_le] at hc); (try (exfalso; first | omega | exact hc trivial | exact hc rfl)))))
  all_goals (first | (exfalso; simp at hc; done) | skip)
  refine G.imp (F' := owns 84 encCk 3 (.slice (some ⟨u, 0, none⟩) t.ch.length t.ch.length) (List.replicate t.ch.length St.ch0) :: storeP sb t :: F) ?_ (fun w h => (storeP.shut q hq (holds.sub (H := blk sb (.cells #[.pointer (some ⟨q.tb, 0, none⟩), .pointer (some ⟨q.fb, 0, none⟩), .slice (some ⟨q.cb, 0, none⟩) (t.ch.length) (t.ch.length), .int .i64 ((t.size : Nat) : Int), .int .i64 (St.cntP t.ch 0), .int .i64 (St.cntP t.ch 1), .int .i64 (St.cntP t.ch 2), .int .i64 (St.cntP t.ch 3), .pointer (some ⟨q.kb, 0, none⟩)] 123 (0, 0)) :: tagsAt (.pointer (some ⟨q.tb, 0, none⟩)) (t.ch.map fun c => (c.owner, c.gen)) :: freeP (.pointer (some ⟨q.fb, 0, none⟩)) (t.ch.length) (t.stack) :: owns 148 encCell 6 (.slice (some ⟨q.cb, 0, none⟩) (t.ch.length) (t.ch.length)) (q.vs) :: bigF t.ch.length (chunkF t q.vs) :: bookP (.pointer (some ⟨q.kb, 0, none⟩)) 4 (t.ev) :: owns 84 encCk 3 (.slice (some ⟨u, 0, none⟩) t.ch.length t.ch.length) (List.replicate t.ch.length St.ch0) :: F) h)).order [1, 0])
  refine G.loopK [0, 3, 15] (Nat) (fun k => [(16, .int .i64 k)]) (fun k => owns 84 encCk 3 (.slice (some ⟨u, 0, none⟩) t.ch.length t.ch.length) (t.ch.take k ++ List.replicate (t.ch.length - k) St.ch0) :: storeP sb t :: F) (fun k => k ≤ t.ch.length) (fun k => t.ch.length - k) (0) (Nat.zero_le _) (by repeat (first | exact trivial | refine And.intro rfl ?_)) (fun w h => by (try dsimp only); first | exact h | exact h.sub | ((try simp only [List.take_zero, List.drop_zero, List.map_nil, List.nil_append, List.zipIdx_nil, List.filter_nil]); exact h.sub)) ?_
  intro k hk
  have hlen : (t.ch.take k ++ List.replicate (t.ch.length - k) St.ch0).length = t.ch.length := by simp; omega
  by_cases hlt : k < t.ch.length
  · have hC := fun w (F : List HProp) h => store_Chunk sb t K hI hK k w F h
    have hto : St.told t k = (t.ch[k], true) := by unfold St.told; rw [if_neg (by unfold St.S.out; omega), t.c_eq k hlt]
    rw [hto] at hC
    dsimp only at hC
    repeat' (first | (first | (apply GL.isCall; refine GL.callH1 ((storeP sb t)) rfl rfl (fun w h => hC w _ h) ?_) | (apply GL.isAny; refine GL.run (by apply Runs.isIndexA; exact Runs.indexAddr (k := k) rfl rfl rfl rfl (by omega)) rfl ?_) | (apply GL.isStore; refine GL.setElem (i := k) t.ch[k] rfl rfl (by kernel_rfl) (by omega) rfl ?_)) | first | refine stp ?_ | (refine stpB ?_; intro _) | (refine spl ?_ ?_ <;> intro hc <;> ((try simp only [decide_eq_true_eq, decide_eq_false_iff_not, Bool.not_true, Bool.not_false, ne_eq, Classical.not_not, Int.not_lt, Int.not_le] at hc); (try (exfalso; first | omega | exact hc trivial | exact hc rfl)))))
    have e : (t.ch.take k ++ List.replicate (t.ch.length - k) St.ch0).set k t.ch[k] = t.ch.take (k + 1) ++ List.replicate (t.ch.length - (k + 1)) St.ch0 := by
      rw [List.set_append_right _ _ (by simp; omega), List.length_take, Nat.min_eq_left (by omega), Nat.sub_self]
      obtain ⟨m, hm⟩ : ∃ m, t.ch.length - k = m + 1 := ⟨t.ch.length - k - 1, by omega⟩
      rw [hm, List.replicate_succ, List.set_cons_zero, List.take_succ_eq_append_getElem (by omega), List.append_assoc, show t.ch.length - (k + 1) = m by omega]; rfl
    rw [e]
    refine GE.round (k + 1) (hlt) (by repeat (first | exact trivial | refine And.intro rfl ?_)) (fun w h => by (try dsimp only); exact h.sub) (by (try dsimp only); omega)
  · obtain rfl : k = t.ch.length := by omega
    rw [Nat.sub_self, List.take_of_length_le (by omega)]
    repeat' (first | refine stp ?_ | (refine stpB ?_; intro _) | (refine spl ?_ ?_ <;> intro hc <;> ((try simp only [decide_eq_true_eq, decide_eq_false_iff_not, Bool.not_true, Bool.not_false, ne_eq, Classical.not_not, Int.not_lt, Int.not_le] at hc); (try (exfalso; first | omega | exact hc trivial | exact hc rfl)))))
    refine GE.resOne rfl (by (repeat (first | apply Res.nil | (apply Res.tmp; rfl) | (refine Res.cellA rfl rfl rfl ?_) | (refine Res.cell1 rfl rfl ?_)))) (fun w h => ?_)
    exact ⟨u, rfl, by simpa using h⟩
end
end Go.Proofs.YtipkgamiejenaaaGreat

/- Powers of two: how many bits are set, and the reference's way. -/
namespace Go.Proofs.YtipkgamiejenaaaGreat
open Go Go.RowKit Go.MapKept
set_option linter.unusedVariables false
set_option linter.unusedSimpArgs false
set_option maxRecDepth 100000
set_option maxHeartbeats 1000000
namespace Pw
def wr (x : Int) : Int := x % 18446744073709551616
def a1 (x : Int) : Int := wr (andI (x / 2) 6148914691236517205 + andI x 6148914691236517205)
def a2 (x : Int) : Int := wr (andI (x / 4) 3689348814741910323 + andI x 3689348814741910323)
def a3 (x : Int) : Int := andI (wr (x / 16 + x)) 1085102592571150095
def a4 (x : Int) : Int := wr (x + x / 256)
def a5 (x : Int) : Int := wr (x + x / 65536)
def a6 (x : Int) : Int := wr (x + x / 4294967296)
def oc (x : Int) : Int := a6 (a5 (a4 (a3 (a2 (a1 x))))) % 128
def isP : Nat → Nat → Bool
  | 0, _ => false
  | k + 1, n => n == 1 || (n % 2 == 0 && isP k (n / 2))
def pow (n : Nat) : Bool := isP n n
theorem tab : (List.range 257).all (fun n => decide (oc n = 1) == (n != 0 && pow n)) = true := by kernel_rfl
theorem oc_pow (n : Nat) (h : n ≤ 256) (h0 : 0 < n) : decide (oc n = 1) = pow n := by
  have := List.all_eq_true.1 tab n (List.mem_range.2 (by omega))
  have h1 : (n != 0) = true := by simp; omega
  rw [h1, Bool.true_and] at this
  simpa using this
end Pw
theorem bits_OnesCount64 (x : Int) (hx : 0 ≤ x ∧ x ≤ 18446744073709551615) (w : World) (F : List HProp) (hw : holds w F) :
    Ct Tryz.prog 195 #[.int .u64 x] w fun e w' => e = .returned (.int .i64 (Pw.oc x)) ∧ holds w' F := by
  refine Ct.go (args := [.int .u64 x]) Tryz.func195 rfl rfl rfl hw ?_
  have h1 : ∀ y, IntKind.u64.wrap y = Pw.wr y := fun y => wrapU y
  repeat' (first | (first | (apply GL.isAny; refine GL.run (Runs.shrC rfl rfl (by omega)) rfl ?_) | (apply GL.isAny; refine GL.run (Runs.andU rfl rfl) rfl ?_) | (apply GL.isAny; refine GL.run (Runs.addK (k := .u64) rfl rfl) rfl ?_) | (apply GL.isAny; refine GL.run (Runs.convW rfl) rfl ?_) | (apply GL.isAny; refine GL.run (Runs.and127 rfl rfl) rfl ?_)) | first | refine stp ?_ | (refine stpB ?_; intro _) | (refine spl ?_ ?_ <;> intro hc <;> ((try simp only [decide_eq_true_eq, decide_eq_false_iff_not, Bool.not_true, Bool.not_false, ne_eq, Classical.not_not, Int.not_lt, Int.not_le] at hc); (try (exfalso; first | omega | exact hc trivial | exact hc rfl)))))
  refine GE.resOne rfl (by (repeat (first | apply Res.nil | (apply Res.tmp; rfl) | (refine Res.cellA rfl rfl rfl ?_) | (refine Res.cell1 rfl rfl ?_)))) (fun w h => ?_)
  refine ⟨?_, h.sub⟩
  simp only [h1]
  congr 2
  unfold Pw.oc
  have h2 : ∀ y : Int, IntKind.i64.wrap (Pw.wr y) % 128 = Pw.wr y % 128 := fun y => by
    simp [IntKind.wrap, IntKind.bits, IntKind.signed, Pw.wr]
    omega
  exact h2 _
theorem bits_OnesCount (x : Int) (hx : 0 ≤ x ∧ x ≤ 18446744073709551615) (w : World) (F : List HProp) (hw : holds w F) :
    Ct Tryz.prog 136 #[.int .u64 x] w fun e w' => e = .returned (.int .i64 (Pw.oc x)) ∧ holds w' F := by
  refine Ct.go (args := [.int .u64 x]) Tryz.func136 rfl rfl rfl hw ?_
  repeat' (first | (first | (apply GL.isCall; refine GL.call1 rfl rfl (fun w h => bits_OnesCount64 x hx w _ h) ?_) | (apply GD.isAny; refine GD.call rfl rfl (fun w F' h => bits_OnesCount64 x hx w _ h) ?_)) | first | refine stp ?_ | (refine stpB ?_; intro _) | (refine spl ?_ ?_ <;> intro hc <;> ((try simp only [decide_eq_true_eq, decide_eq_false_iff_not, Bool.not_true, Bool.not_false, ne_eq, Classical.not_not, Int.not_lt, Int.not_le] at hc); (try (exfalso; first | omega | exact hc trivial | exact hc rfl)))))
  refine GE.resOne rfl (by (repeat (first | apply Res.nil | (apply Res.tmp; rfl) | (refine Res.cellA rfl rfl rfl ?_) | (refine Res.cell1 rfl rfl ?_)))) (fun w h => ?_); exact ⟨rfl, h.sub⟩
theorem num_Power (n : Nat) (hn : n ≤ 256) (h0 : 0 < n) (w : World) (F : List HProp) (hw : holds w F) :
    Ct Tryz.prog 64 #[.int .i64 (n : Nat)] w fun e w' => e = .returned (.bool (Pw.pow n)) ∧ holds w' F := by
  refine Ct.go (args := [.int .i64 (n : Nat)]) Tryz.func64 rfl rfl rfl hw ?_
  have e := Pw.oc_pow n hn h0
  repeat' (first | (first | (apply GL.isCall; refine GL.call1 rfl rfl (fun w h => bits_OnesCount n (by omega) w _ h) ?_) | (apply GD.isAny; refine GD.call rfl rfl (fun w F' h => bits_OnesCount n (by omega) w _ h) ?_)) | first | refine stp ?_ | (refine stpB ?_; intro _) | (refine spl ?_ ?_ <;> intro hc <;> ((try simp only [decide_eq_true_eq, decide_eq_false_iff_not, Bool.not_true, Bool.not_false, ne_eq, Classical.not_not, Int.not_lt, Int.not_le] at hc); (try (exfalso; first | omega | exact hc trivial | exact hc rfl)))))
  all_goals (first | (exfalso; omega) | (refine GE.resOne rfl (by (repeat (first | apply Res.nil | (apply Res.tmp; rfl) | (refine Res.cellA rfl rfl rfl ?_) | (refine Res.cell1 rfl rfl ?_)))) (fun w h => ?_); exact ⟨by rw [← e], h.sub⟩))
theorem ref01_Power (n : Nat) (hn : n ≤ 1000000) (h0 : 0 < n) (w : World) (F : List HProp) (hw : holds w F) :
    Ct Tryz.prog 68 #[.int .i64 (n : Nat)] w fun e w' => e = .returned (.bool (Pw.pow n)) ∧ holds w' F := by
  refine Ct.go (args := [.int .i64 (n : Nat)]) Tryz.func68 rfl rfl rfl hw ?_
  repeat' (first | refine stp ?_ | (refine stpB ?_; intro _) | (refine spl ?_ ?_ <;> intro hc <;> ((try simp only [decide_eq_true_eq, decide_eq_false_iff_not, Bool.not_true, Bool.not_false, ne_eq, Classical.not_not, Int.not_lt, Int.not_le] at hc); (try (exfalso; first | omega | exact hc trivial | exact hc rfl)))))
  all_goals (first | (exfalso; omega) | skip)
  refine G.loopK [] (Nat × Nat) (fun x => [(0, .int .i64 (x.2 : Nat))]) (fun _ => F) (fun x => 1 ≤ x.2 ∧ x.2 ≤ x.1 ∧ x.2 ≤ n ∧ Pw.isP x.1 x.2 = Pw.pow n) (fun x => x.2) ((n, n)) (⟨h0, Nat.le_refl _, Nat.le_refl _, rfl⟩) (by repeat (first | exact trivial | refine And.intro rfl ?_)) (fun w h => by (try dsimp only); first | exact h | exact h.sub | ((try simp only [List.take_zero, List.drop_zero, List.map_nil, List.nil_append, List.zipIdx_nil, List.filter_nil]); exact h.sub)) ?_
  rintro ⟨j, m⟩ ⟨h1, h2, h3, h4⟩
  dsimp only at h1 h2 h3 h4 ⊢
  obtain ⟨j, rfl⟩ : ∃ i, j = i + 1 := ⟨j - 1, by omega⟩
  rw [Pw.isP] at h4
  by_cases hm : m = 1
  · subst hm
    repeat' (first | refine stp ?_ | (refine stpB ?_; intro _) | (refine spl ?_ ?_ <;> intro hc <;> ((try simp only [decide_eq_true_eq, decide_eq_false_iff_not, Bool.not_true, Bool.not_false, ne_eq, Classical.not_not, Int.not_lt, Int.not_le] at hc); (try (exfalso; first | omega | exact hc trivial | exact hc rfl)))))
    all_goals (first | (exfalso; omega) | (refine GE.resOne rfl (by (repeat (first | apply Res.nil | (apply Res.tmp; rfl) | (refine Res.cellA rfl rfl rfl ?_) | (refine Res.cell1 rfl rfl ?_)))) (fun w h => ?_); exact ⟨by rw [← h4]; rfl, h.sub⟩))
  · have hb : (m == 1) = false := by simpa using hm
    rw [hb, Bool.false_or] at h4
    by_cases h5 : m % 2 = 1
    · have h6 : (m % 2 == 0) = false := by simp [h5]
      rw [h6, Bool.false_and] at h4
      repeat' (first | refine stp ?_ | (refine stpB ?_; intro _) | (refine spl ?_ ?_ <;> intro hc <;> ((try simp only [decide_eq_true_eq, decide_eq_false_iff_not, Bool.not_true, Bool.not_false, ne_eq, Classical.not_not, Int.not_lt, Int.not_le] at hc); (try (exfalso; first | omega | exact hc trivial | exact hc rfl)))))
      all_goals (first | (exfalso; omega) | (refine GE.resOne rfl (by (repeat (first | apply Res.nil | (apply Res.tmp; rfl) | (refine Res.cellA rfl rfl rfl ?_) | (refine Res.cell1 rfl rfl ?_)))) (fun w h => ?_); exact ⟨by rw [← h4], h.sub⟩))
    · have h6 : (m % 2 == 0) = true := by simp; omega
      rw [h6, Bool.true_and] at h4
      repeat' (first | refine stp ?_ | (refine stpB ?_; intro _) | (refine spl ?_ ?_ <;> intro hc <;> ((try simp only [decide_eq_true_eq, decide_eq_false_iff_not, Bool.not_true, Bool.not_false, ne_eq, Classical.not_not, Int.not_lt, Int.not_le] at hc); (try (exfalso; first | omega | exact hc trivial | exact hc rfl)))))
      all_goals (first | (exfalso; omega) | skip)
      have e : ((m : Int) / 2) = ((m / 2 : Nat) : Int) := by omega
      rw [e]
      refine GE.round ((j, m / 2)) (⟨by omega, by omega, by omega, h4⟩) (by repeat (first | exact trivial | refine And.intro rfl ?_)) (fun w h => by (try dsimp only); exact h.sub) (by (try dsimp only); omega)
end Go.Proofs.YtipkgamiejenaaaGreat

/- Package store: Make. -/
namespace Go.Proofs.YtipkgamiejenaaaGreat
open Go Go.RowKit Go.MapKept
set_option linter.unusedVariables false
set_option linter.unusedSectionVars false
set_option linter.unusedSimpArgs false
set_option maxRecDepth 100000
set_option maxHeartbeats 4000000
section
variable {P : Program} {n : Nat} {env : Env} {F : List HProp}
/-- A box that takes pieces with it. -/
theorem DoesW.boxTake {e : TypeId} {x : Operand} {cs : Array Value} {T L : List HProp} (pc : Nat → HProp) (hx : opnd env x = some (.agg cs)) (hpc : ∀ b w G, holds w (blk b (.cells cs e (0, 0)) :: (T ++ G)) → holds w (pc b :: G)) :
    DoesW P n env F T L (.box e x) IsPt (fun u => pc (ptB u)) := ⟨fun ac w F' ty pos aft g d hf hw => by
  have hr : (execOp ac.eval ⟨d, .box e x, ty, pos, aft, g⟩).run P w = .ok (.value (.pointer (some ⟨w.heap.size, 0, none⟩))) (w.alloc (.cells cs e (0, 0))) := by
    simp [execOp, hf.eval hx, Instr.box, newVar, newRow, run_newObj, Value.cells, Result.andThen]
  rw [hr]
  exact ⟨⟨_, rfl⟩, hpc _ _ _ (hw.alloc (.cells cs e (0, 0)))⟩⟩
/-- A value is told, and pieces are put together under it. -/
theorem DoesW.gather {op : Op} {v : Value} {T L : List HProp} (R : Value → Prop) (pc : Value → HProp) (hr : Runs P n env F op v) (hR : R v) (hp : ∀ w G, holds w (T ++ G) → holds w (pc v :: G)) : DoesW P n env F T L op R pc := ⟨fun a w F' ty pos aft g d hf hw => by
  have hF : holds w F := by
    obtain ⟨f, hf', hs⟩ := hw
    obtain ⟨f1, f2, _, h2, j⟩ := (sep_append T _ f).1 hs
    obtain ⟨f3, f4, _, h4, j2⟩ := (sep_append L _ f2).1 h2
    obtain ⟨f5, f6, h5, _, j3⟩ := (sep_append F F' f4).1 h4
    exact ⟨f, hf', sep_sub F f2 f j.symm (sep_sub F f4 f2 j2.symm (sep_sub F f5 f4 j3 h5))⟩
  rw [hr a w _ _ _ _ _ hf hF]
  exact ⟨hR, hp _ _ hw⟩⟩
end
def ptr (b : Nat) : Value := .pointer (some ⟨b, 0, none⟩)
theorem tags_NewP (n : Nat) (hn : n ≤ 1048576) (w : World) (G : List HProp) (hw : holds w G) :
    Ct Tryz.prog 65 #[.int .i64 (n : Nat)] w fun e w' => ∃ b : Nat, e = .returned (.pointer (some ⟨b, 0, none⟩)) ∧ holds w' (tagsAt (ptr b) (List.replicate n (0, 0)) :: G) := by
  refine ⟨(tags_New w n G (by omega) (by omega) hw).mono fun e w' ⟨v, he, h⟩ => ?_⟩
  rw [Int.toNat_natCast] at h
  obtain ⟨b, g, bm, m, rfl, hm, h2⟩ := open_tags h
  exact ⟨b, he, h⟩
def newCells (n sz tb fb cb kb : Nat) (m0 : Int) : Array Value := #[ptr tb, ptr fb, .slice (some ⟨cb, 0, none⟩) n n, .int .i64 (sz : Nat), .int .i64 m0, .int .i64 0, .int .i64 0, .int .i64 0, ptr kb]
def IsNew (n sz : Nat) (u : Value) : Prop := ∃ x : Nat × Nat × Nat × Nat, u = .agg (newCells n sz x.1 x.2.1 x.2.2.1 x.2.2.2 0)
theorem IsNew.defd {n sz : Nat} {u : Value} (h : IsNew n sz u) : isUndef u = false := by obtain ⟨x, rfl⟩ := h; rfl
def partsP (n sz : Nat) (u : Value) : HProp := fun f => ∃ x : Nat × Nat × Nat × Nat, u = .agg (newCells n sz x.1 x.2.1 x.2.2.1 x.2.2.2 0) ∧ sep [tagsAt (ptr x.1) (List.replicate n (0, 0)), freeP (ptr x.2.1) n (((List.range n).reverse).map (Nat.cast : Nat → Int)), owns 148 encCell 6 (.slice (some ⟨x.2.2.1, 0, none⟩) n n) (List.replicate n cell0), bookP (ptr x.2.2.2) 4 (List.replicate 4 0)] f
def newP (n sz sb : Nat) : HProp := fun f => ∃ x : Nat × Nat × Nat × Nat, sep [blk sb (.cells (newCells n sz x.1 x.2.1 x.2.2.1 x.2.2.2 0) 123 (0, 0)), tagsAt (ptr x.1) (List.replicate n (0, 0)), freeP (ptr x.2.1) n (((List.range n).reverse).map (Nat.cast : Nat → Int)), owns 148 encCell 6 (.slice (some ⟨x.2.2.1, 0, none⟩) n n) (List.replicate n cell0), bookP (ptr x.2.2.2) 4 (List.replicate 4 0)] f
theorem newP.open {w : World} {n sz sb : Nat} {F : List HProp} (h : holds w (newP n sz sb :: F)) : ∃ x : Nat × Nat × Nat × Nat, holds w ([blk sb (.cells (newCells n sz x.1 x.2.1 x.2.2.1 x.2.2.2 0) 123 (0, 0)), tagsAt (ptr x.1) (List.replicate n (0, 0)), freeP (ptr x.2.1) n (((List.range n).reverse).map (Nat.cast : Nat → Int)), owns 148 encCell 6 (.slice (some ⟨x.2.2.1, 0, none⟩) n n) (List.replicate n cell0), bookP (ptr x.2.2.2) 4 (List.replicate 4 0)] ++ F) := by
  obtain ⟨x, h⟩ := holds.open_ex h
  exact ⟨x, holds_sep.1 h⟩
theorem newP.shut {w : World} {n sz sb : Nat} {cs : Array Value} {G : List HProp} (h : holds w (blk sb (.cells cs 123 (0, 0)) :: partsP n sz (.agg cs) :: G)) : holds w (newP n sz sb :: G) := by
  obtain ⟨x, h⟩ := holds.open_ex (h.order [1, 0])
  obtain ⟨e, h⟩ := holds.open_pure h
  cases e
  have h2 : holds w ([blk sb (.cells (newCells n sz x.1 x.2.1 x.2.2.1 x.2.2.2 0) 123 (0, 0)), tagsAt (ptr x.1) (List.replicate n (0, 0)), freeP (ptr x.2.1) n (((List.range n).reverse).map (Nat.cast : Nat → Int)), owns 148 encCell 6 (.slice (some ⟨x.2.2.1, 0, none⟩) n n) (List.replicate n cell0), bookP (ptr x.2.2.2) 4 (List.replicate 4 0)] ++ G) := (holds_sep.1 h).perm (List.perm_middle (l₁ := [tagsAt (ptr x.1) (List.replicate n (0, 0)), freeP (ptr x.2.1) n (((List.range n).reverse).map (Nat.cast : Nat → Int)), owns 148 encCell 6 (.slice (some ⟨x.2.2.1, 0, none⟩) n n) (List.replicate n cell0), bookP (ptr x.2.2.2) 4 (List.replicate 4 0)]) (l₂ := G))
  exact (holds_sep.2 h2).mono fun f hf => ⟨x, hf⟩
theorem bigF_new (n : Nat) (sz : Nat) : ∀ (m : Nat) (w : World) (F : List HProp), m ≤ n → holds w F → holds w ((List.range m).map (chunkF (St.new n sz) (List.replicate n cell0)) ++ F)
  | 0, w, F, _, h => h
  | m + 1, w, F, hm, h => by
    rw [List.range_succ, List.map_append, List.append_assoc]
    refine bigF_new n sz m w _ (by omega) ?_
    show holds w (chunkF (St.new n sz) (List.replicate n cell0) m :: F)
    unfold chunkF
    have e1 : (List.replicate n cell0).getD m cell0 = cell0 := by rw [List.getD_eq_getElem?_getD, List.getElem?_replicate]; split <;> rfl
    have e2 : (St.new n sz).c m = St.ch0 := by
      show (List.replicate n St.ch0).getD ((m : Int)).toNat St.ch0 = _
      rw [Int.toNat_natCast, List.getD_eq_getElem?_getD, List.getElem?_replicate]; split <;> rfl
    have e3 : (St.new n sz).x m = St.zeros sz := by
      show (List.replicate n (St.zeros sz)).getD ((m : Int)).toNat [] = _
      rw [Int.toNat_natCast, List.getD_eq_getElem?_getD, List.getElem?_replicate, if_pos (by omega)]; rfl
    rw [e1, e2, e3]
    refine chunkP.shut ⟨rfl, rfl, rfl, fun h => absurd rfl h, by simp [cell0, St.ch0]⟩ ?_
    have h2 := h.addNil.addNil
    exact h2.mono fun f _ y hy => (List.mem_replicate.1 hy).2
theorem cntP_new (n : Nat) (p : Int) : St.cntP (List.replicate n St.ch0) p = if p = 0 then (n : Int) else 0 := by
  unfold St.cntP
  by_cases hp : p = 0
  · subst hp; rw [if_pos rfl, List.filter_eq_self.2 (fun a ha => by rw [(List.mem_replicate.1 ha).2]; rfl), List.length_replicate]
  · rw [if_neg hp, List.filter_eq_nil_iff.2 (fun a ha => by rw [(List.mem_replicate.1 ha).2]; simp [St.ch0]; omega)]; rfl
theorem store_Make (n sz : Nat) (h0 : 0 < n) (hn : n ≤ 1048576) (hs0 : 64 ≤ sz) (hs1 : sz ≤ 256) (hp : Pw.pow sz = true) (w : World) (F : List HProp) (hw : holds w F) :
    Ct Tryz.prog 11 #[.int .i64 (n : Nat), .int .i64 (sz : Nat)] w fun e w' => ∃ sb : Nat, e = .returned (.tuple #[.pointer (some ⟨sb, 0, none⟩), .int .i64 0]) ∧ holds w' (storeP sb (St.new n sz) :: F) := by
  refine Ct.go (args := [.int .i64 (n : Nat), .int .i64 (sz : Nat)]) Tryz.func11 rfl rfl rfl hw ?_
  have hP := fun w (F : List HProp) h => num_Power sz hs1 (by omega) w F h
  rw [hp] at hP
  repeat' (first | (first | first | (apply GL.isCall; refine GL.call1 rfl rfl (fun w h => hP w _ h) ?_) | (apply GD.isAny; refine GD.call rfl rfl (fun w F' h => hP w _ h) ?_) | (refine G.isRegion 3 ?_; refine G.drawW [⟨some 1, [], some 8, some 27, IsPt, fun u => tagsAt (ptr (ptB u)) (List.replicate n (0, 0))⟩, ⟨some 3, [], some 8, some 29, IsPt, fun u => freeP (ptr (ptB u)) n (((List.range n).reverse).map (Nat.cast : Nat → Int))⟩, ⟨some 5, [], some 8, some 31, IsSl n n, fun u => owns 148 encCell 6 u (List.replicate n cell0)⟩, ⟨some 7, [], some 8, some 33, IsPt, fun u => bookP (ptr (ptB u)) 4 (List.replicate 4 0)⟩, ⟨some 8, [0, 1, 2, 3], some 9, some 34, IsNew n sz, fun u => partsP n sz u⟩, ⟨some 9, [4], none, some 35, IsPt, fun u => newP n sz (ptB u)⟩] [] [] [5] (by kernel_rfl) (by kernel_rfl) rfl trivial ?_) | (apply GW.isAny; first | refine GW.runA rfl rfl ?_ | refine GW.seeA rfl rfl ⟨⟨_, rfl, .inl rfl⟩, trivial⟩ rfl ?_) | (apply GW.isAny; refine GW.eff rfl rfl rfl rfl rfl trivial rfl trivial (fun u hu => hu.defd) (DoesW.callPt (vs := [.int .i64 (n : Nat)]) (fun b => tagsAt (ptr b) (List.replicate n (0, 0))) rfl (fun w G h => tags_NewP n hn w G h)) rfl (fun u hu => ?_); obtain ⟨tb, rfl⟩ := hu) | (apply GW.isAny; refine GW.eff rfl rfl rfl rfl rfl trivial rfl trivial (fun u hu => hu.defd) (DoesW.callPt (vs := [.int .i64 (n : Nat)]) (fun b => freeP (ptr b) n (((List.range n).reverse).map (Nat.cast : Nat → Int))) rfl (fun w G h => free_New n h0 hn w G h)) rfl (fun u hu => ?_); obtain ⟨fb, rfl⟩ := hu) | (apply GW.isAny; refine GW.eff rfl rfl rfl rfl rfl trivial rfl trivial (fun u hu => hu.defd) (DoesW.makeSl encCell cell0 n n rfl rfl rfl rfl rfl (Nat.le_refl _) (by omega) (by unfold maxLen; omega)) rfl (fun u hu => ?_); obtain ⟨cb, rfl⟩ := hu) | (apply GW.isAny; refine GW.eff rfl rfl rfl rfl rfl trivial rfl trivial (fun u hu => hu.defd) (DoesW.callPt (vs := [.int .i64 ((4 : Nat) : Int)]) (fun b => bookP (ptr b) 4 (List.replicate 4 0)) rfl (fun w G h => count_New 4 (by omega) (by omega) w G h)) rfl (fun u hu => ?_); obtain ⟨kb, rfl⟩ := hu) | (apply GW.isAny; refine GW.eff rfl rfl rfl rfl rfl ⟨⟨_, rfl, .inr (.inr ⟨_, _, rfl, rfl, rfl⟩)⟩, ⟨_, rfl, .inr (.inr ⟨_, _, rfl, rfl, rfl⟩)⟩, ⟨_, rfl, .inr (.inr ⟨_, _, rfl, rfl, rfl⟩)⟩, ⟨_, rfl, .inr (.inr ⟨_, _, rfl, rfl, rfl⟩)⟩, trivial⟩ rfl trivial (fun u hu => hu.defd) (DoesW.gather (v := .agg (newCells n sz tb fb cb kb 0)) (IsNew n sz) (partsP n sz) (by apply Runs.isBuild; exact Runs.build rfl rfl) ⟨(tb, fb, cb, kb), rfl⟩ (fun w G h => (holds_sep.2 (show holds w ([tagsAt (ptr tb) (List.replicate n (0, 0)), freeP (ptr fb) n (((List.range n).reverse).map (Nat.cast : Nat → Int)), owns 148 encCell 6 (.slice (some ⟨cb, 0, none⟩) n n) (List.replicate n cell0), bookP (ptr kb) 4 (List.replicate 4 0)] ++ G) from h)).mono fun f hf => ⟨(tb, fb, cb, kb), rfl, hf⟩)) rfl (fun u hu => ?_); obtain ⟨x, rfl⟩ := hu) | (apply GW.isAny; refine GW.eff rfl rfl rfl rfl rfl ⟨⟨_, rfl, .inr (.inr ⟨_, _, rfl, rfl, rfl⟩)⟩, trivial⟩ rfl trivial (fun u hu => hu.defd) (DoesW.boxTake (fun b => newP n sz b) rfl (fun b w G h => newP.shut h)) rfl (fun u hu => ?_); obtain ⟨sb, rfl⟩ := hu) | (refine GW.nilE rfl ⟨⟨_, rfl, .inr (.inr ⟨_, _, rfl, rfl, rfl⟩)⟩, trivial⟩ ?_; refine GE.imp (F' := newP n sz sb :: F) ?_ (fun w h => h)) | (refine G.isRegion 4 ?_; refine G.case (F' := fun x : Nat × Nat × Nat × Nat => blk sb (.cells #[.pointer (some ⟨x.1, 0, none⟩), .pointer (some ⟨x.2.1, 0, none⟩), .slice (some ⟨x.2.2.1, 0, none⟩) n n, .int .i64 (sz : Nat), .int .i64 0, .int .i64 0, .int .i64 0, .int .i64 0, .pointer (some ⟨x.2.2.2, 0, none⟩)] 123 (0, 0)) :: tagsAt (ptr x.1) (List.replicate n (0, 0)) :: freeP (ptr x.2.1) n (((List.range n).reverse).map (Nat.cast : Nat → Int)) :: owns 148 encCell 6 (.slice (some ⟨x.2.2.1, 0, none⟩) n n) (List.replicate n cell0) :: bookP (ptr x.2.2.2) 4 (List.replicate 4 0) :: F) (fun x => ?_) (fun w h => newP.open h); apply G.region)) | first | refine stp ?_ | (refine stpB ?_; intro _) | (refine spl ?_ ?_ <;> intro hc <;> ((try simp only [decide_eq_true_eq, decide_eq_false_iff_not, Bool.not_true, Bool.not_false, ne_eq, Classical.not_not, Int.not_lt, Int.not_le] at hc); (try (exfalso; first | omega | exact hc trivial | exact hc rfl)))))
  all_goals (first | (exfalso; omega) | (exfalso; simp at hc; done) | skip)
  refine GE.resMany rfl (by (repeat (first | apply Res.nil | (apply Res.tmp; rfl) | (refine Res.cellA rfl rfl rfl ?_) | (refine Res.cell1 rfl rfl ?_)))) (fun w h => ?_)
  refine ⟨sb, rfl, ?_⟩
  rename_i x
  have h2 : holds w (blk sb (.cells #[.pointer (some ⟨x.1, 0, none⟩), .pointer (some ⟨x.2.1, 0, none⟩), .slice (some ⟨x.2.2.1, 0, none⟩) n n, .int .i64 (sz : Nat), .int .i64 (n : Nat), .int .i64 0, .int .i64 0, .int .i64 0, .pointer (some ⟨x.2.2.2, 0, none⟩)] 123 (0, 0)) :: tagsAt (ptr x.1) (List.replicate n (0, 0)) :: freeP (ptr x.2.1) n (((List.range n).reverse).map (Nat.cast : Nat → Int)) :: owns 148 encCell 6 (.slice (some ⟨x.2.2.1, 0, none⟩) n n) (List.replicate n cell0) :: bookP (ptr x.2.2.2) 4 (List.replicate 4 0) :: F) := h
  have h3 := (holds_sep (l := (List.range n).map (chunkF (St.new n sz) (List.replicate n cell0)))).2 (bigF_new n sz n w _ (Nat.le_refl _) h2)
  refine storeP.make (St.new n sz) ⟨x.1, x.2.1, x.2.2.1, x.2.2.2, []⟩ (List.replicate n cell0) n (n : Nat) 0 0 0 (List.replicate n (0, 0)) (by simp [St.new]) (cntP_new n 0) (cntP_new n 1) (cntP_new n 2) (cntP_new n 3) (by simp [St.new, St.ch0]) (by simp) ?_
  exact h3.order [1, 2, 3, 4, 0, 5]
end Go.Proofs.YtipkgamiejenaaaGreat

/- Package store: a store that Make did not give; and the law's example. -/
namespace Go.Proofs.YtipkgamiejenaaaGreat
open Go Go.RowKit Go.MapKept
set_option linter.unusedVariables false
set_option linter.unusedSectionVars false
set_option linter.unusedSimpArgs false
set_option maxRecDepth 100000
set_option maxHeartbeats 4000000
end Go.Proofs.YtipkgamiejenaaaGreat
