import Derived.Test.YtipkgamiejenaaaGreatMg20
import Derived.Test.YtipkgamiejenaaaGreatMg17
import Derived.Test.YtipkgamiejenaaaGreatMg7
import Derived.Test.YtipkgamiejenaaaGreatLooseT
import Derived.Test.YtipkgamiejenaaaGreatMg18
import Derived.Test.YtipkgamiejenaaaGreatMg5
import Derived.RangeFuncLeaves
import Derived.RangeFuncRecord
import Derived.RangeFuncSeq
import Derived.RangeFuncCalls
/- Package reclaim: Put, Paid, what is told. -/
namespace Go.Proofs.YtipkgamiejenaaaGreat
open Go Go.RowKit Go.MapKept
set_option linter.unusedVariables false
set_option linter.unusedSectionVars false
set_option linter.unusedSimpArgs false
set_option maxRecDepth 100000
set_option maxHeartbeats 2000000
namespace Rc
def put (m : S) (i ow : Int) : S × Int := if (St.give m.t i ow).2 = 0 then ({ m with t := (St.give m.t i ow).1, line := m.line ++ [i] }, 0) else (m, (St.give m.t i ow).2)
def paid (m : S) (c n : Int) : S × Int := if c < 0 ∨ 64 ≤ c ∨ n < 0 then (m, 2) else ({ m with want := Tr.paid m.want c.toNat n }, 0)
def ahead (m : S) (i : Int) : Int := placeOf m.line i
def lack (m : S) : Int := Wm.lack m.low m.lv.getLast?
theorem give_ok {t : St.S} {i ow : Int} (h : (St.give t i ow).2 = 0) : ∃ k : Nat, i = k ∧ k < t.ch.length ∧ (t.c k).phase = 1 ∧ (St.give t i ow).1 = { t with ch := t.ch.set k ⟨2, 0, (t.c k).gen⟩, ev := St.up t.ev 1 } := by
  unfold St.give at h ⊢
  split at h
  · simp at h
  · rename_i ho
    obtain ⟨k, rfl, hk⟩ := St.out_ex ho
    split at h
    · simp at h
    · rename_i hp
      refine ⟨k, rfl, hk, by omega, ?_⟩
      rw [if_neg ho, if_neg hp]
      rfl
theorem give_no {t : St.S} {i ow : Int} (h : (St.give t i ow).2 ≠ 0) : (St.give t i ow).1 = t := by
  unfold St.give at h ⊢
  split
  · rfl
  · rename_i ho
    rw [if_neg ho] at h
    split
    · rfl
    · rename_i hp
      rw [if_neg hp] at h; exact absurd rfl h
theorem give_in {m : S} {i ow : Int} (hw : Wt m.t m.line) (h : (St.give m.t i ow).2 = 0) : (0 ≤ i ∧ i < m.t.ch.length) ∧ i ∉ m.line := by
  obtain ⟨k, rfl, hk, hp, _⟩ := give_ok h
  refine ⟨by omega, fun hi => ?_⟩
  obtain ⟨j, e, hj, hq⟩ := hw.ph _ hi
  obtain rfl : k = j := by omega
  omega
theorem Ok.more {m : S} {K K' : Nat} (hk : K ≤ K') (h : Ok m K) : Ok m K' := ⟨h.inv.mono hk, h.wt, h.q, h.low, h.wl, h.wb, h.lv, by have := h.ll; omega, by have := h.fr; omega⟩
theorem Ok.put {m : S} {K : Nat} (h : Ok m K) (i ow : Int) : Ok (put m i ow).1 (K + 1) := by
  unfold Rc.put
  split
  · rename_i h0
    obtain ⟨hin, hni⟩ := give_in h.wt h0
    have hI := h.inv.give i ow
    obtain ⟨k, rfl, hk, hp, e⟩ := give_ok h0
    refine ⟨hI, ⟨?_, fun x hx => ?_⟩, h.q, h.low, h.wl, h.wb, h.lv, by have := h.ll; dsimp only; omega, by have := h.fr; dsimp only; omega⟩
    · dsimp only
      rw [List.nodup_append]
      refine ⟨h.wt.nd, by simp, fun a ha b hb => ?_⟩
      simp at hb; subst hb
      intro e; subst e; exact hni ha
    · dsimp only at hx ⊢
      rw [e]
      rcases List.mem_append.1 hx with hx | hx
      · obtain ⟨j, rfl, hj, hq⟩ := h.wt.ph x hx
        have hjk : j ≠ k := fun e => hni (by rw [← e]; exact hx)
        refine ⟨j, rfl, by simpa using hj, ?_⟩
        unfold St.S.c at hq ⊢
        rw [Int.toNat_natCast] at hq
        rw [St.getD_set _ _ _ _ _ hk, Int.toNat_natCast, if_neg hjk]
        exact hq
      · simp at hx; subst hx
        refine ⟨k, rfl, by simpa using hk, ?_⟩
        unfold St.S.c
        rw [Int.toNat_natCast, St.getD_set _ _ _ _ _ hk, if_pos rfl]
  · exact h.more (Nat.le_succ K)
theorem Ok.paid {m : S} {K : Nat} (h : Ok m K) (c n : Int) (hn : n ≤ 9223372036854775807) : Ok (paid m c n).1 K := by
  unfold Rc.paid
  split
  · exact h
  · rename_i hc
    refine ⟨h.inv, h.wt, h.q, h.low, by simp [Tr.paid]; exact h.wl, fun x hx => ?_, h.lv, h.ll, h.fr⟩
    dsimp only [Tr.paid] at hx
    rcases List.mem_or_eq_of_mem_set hx with hx | rfl
    · exact h.wb x hx
    · have : 0 ≤ m.want.getD c.toNat 0 ∧ m.want.getD c.toNat 0 ≤ 9223372036854775807 := by
        rw [List.getD_eq_getElem?_getD, List.getElem?_eq_getElem (by rw [h.wl]; omega)]
        exact h.wb _ (List.getElem_mem _)
      omega
end Rc
variable (rb sb : Nat) (m : Rc.S) (K : Nat) (hO : Rc.Ok m K) (hK : K ≤ 900000)
include hO hK
theorem rec_Put (i ow : Int) (w : World) (F : List HProp) (hw : holds w (recP rb sb m K :: storeP sb m.t :: F)) :
    Ct Tryz.prog 40 #[.pointer (some ⟨rb, 0, none⟩), .int .i64 i, .int .i64 ow] w fun e w' => e = .returned (.int .i64 (Rc.put m i ow).2) ∧ holds w' (recP rb sb (Rc.put m i ow).1 (K + 1) :: storeP sb (Rc.put m i ow).1.t :: F) := by
  obtain ⟨x, hx, h1⟩ := recP.open hw
  have hD := fun w (F : List HProp) h' => store_Defer sb m.t K hO.inv (by omega) i ow w F h'
  unfold Rc.put
  refine Ct.go (args := [.pointer (some ⟨rb, 0, none⟩), .int .i64 i, .int .i64 ow]) Tryz.func40 rfl rfl rfl h1 ?_
  by_cases h0 : (St.give m.t i ow).2 = 0
  · obtain ⟨hin, hni⟩ := Rc.give_in hO.wt h0
    have hl : (St.give m.t i ow).1.ch.length = m.t.ch.length := by obtain ⟨k, _, _, _, e⟩ := Rc.give_ok h0; rw [e]; simp
    rw [if_pos h0]
    rw [h0] at hD
    obtain ⟨t', ht⟩ : ∃ t', t' = (St.give m.t i ow).1 := ⟨_, rfl⟩
    rw [← ht] at hD hl ⊢
    have hW := fun w (F : List HProp) h' => waits_Put w (.pointer (some ⟨x.lb, 0, none⟩)) m.t.ch.length m.line x.c i F (by omega) h'
    have hp : Waits.put m.t.ch.length m.line i = (0, m.line ++ [i]) := by unfold Waits.put; rw [if_neg (by omega), if_neg hni]
    rw [hp] at hW
    dsimp only at hW
    rw [if_pos rfl] at hW
    repeat' (first | (first | (apply GL.isCall; refine GL.call1 rfl rfl (fun w h => rec_is rb x.tb sb x.lb x.mb x.kb m.q w _ h) ?_) | (apply GL.isCall; refine GL.callH1 (storeP sb m.t) rfl rfl (fun w h => hD w _ h) ?_) | (apply GL.isCall; refine GL.callH1 (waitsAt (.pointer (some ⟨x.lb, 0, none⟩)) m.t.ch.length m.line x.c) rfl rfl (fun w h => ⟨hW w _ h⟩) ?_)) | first | (apply GL.isAny; first | refine GL.runA rfl ?_ | (apply GL.isStore; first | refine GL.storeBlk rfl rfl rfl rfl rfl ?_ | refine GL.storeWhole rfl rfl rfl rfl rfl ?_ | refine GL.storeBlkA rfl rfl rfl rfl rfl ?_) | refine GL.guardY rfl rfl ?_ | refine GL.guardN rfl rfl rfl ?_ | refine GL.guardU rfl rfl rfl ?_ | (apply GL.isBox; first | refine GL.boxA rfl rfl (fun _ => ?_) | refine GL.box1 rfl rfl rfl (fun _ => ?_) | refine GL.box rfl rfl (fun _ => ?_)) | (apply GL.isBuildS; first | refine GL.buildSlice1A rfl rfl rfl rfl rfl (fun _ => ?_) | refine GL.buildSlice1 rfl rfl rfl rfl rfl (fun _ => ?_)) | (apply GL.isCall; refine GL.append1 _ rfl rfl rfl rfl (by rfl) (by omega) (by omega) rfl (fun _ => ?_)) | (apply GL.isAlloc; refine GL.alloc rfl (fun _ => ?_))) | apply GL.nil | first | apply G.seq | apply G.region | apply G.block | apply G.skip | apply G.exit | apply G.ret | (apply G.isCond; first | refine G.condT rfl ?_ | refine G.condF rfl ?_) | refine G.draw (by kernel_rfl) (by kernel_rfl) ?_ | (apply GE.isAny; first | apply GE.again | apply GE.thenG | apply GE.blockN | apply GE.blockE | apply GE.thenE | apply GE.thenR | apply GE.blockR | refine GE.blockO rfl ?_ | apply GE.only) | (apply GD.isAny; first | refine GD.runA rfl ?_ | refine GD.guardY rfl rfl ?_ | refine GD.guardN rfl rfl rfl ?_ | refine GD.guardU rfl rfl rfl ?_) | apply GD.nilE | apply GD.nilL | (apply GT.isAny; refine GT.runA rfl rfl ?_) | ((first | (apply GL.isAny; refine GL.guard rfl rfl (fun hc => ?_) (fun hc => ?_)) | (apply G.isCond; refine G.cond rfl (fun hc => ?_) (fun hc => ?_)) | (apply GD.isAny; refine GD.guard rfl rfl (fun hc => ?_) (fun hc => ?_))) <;> ((try simp only [decide_eq_true_eq, decide_eq_false_iff_not, Bool.not_true, Bool.not_false, ne_eq, Classical.not_not, Int.not_lt, Int.not_le] at hc); (try (exfalso; first | omega | exact hc trivial | exact hc rfl)))))
    all_goals (first | (exfalso; simp at hc; done) | skip)
    refine GE.resOne rfl (by (repeat (first | apply Res.nil | (apply Res.tmp; rfl) | (refine Res.cellA rfl rfl rfl ?_) | (refine Res.cell1 rfl rfl ?_)))) (fun w h => ?_)
    refine ⟨rfl, recP.shut (m := { m with t := t', line := m.line ++ [i] }) ⟨x.tb, x.lb, x.mb, x.kb, x.c + 1, x.k⟩ (by dsimp only; omega) ?_⟩
    dsimp only
    rw [hl]
    exact h.sub
  · rw [if_neg h0]
    rw [Rc.give_no h0] at hD
    obtain ⟨r, hr⟩ : ∃ r, r = (St.give m.t i ow).2 := ⟨_, rfl⟩
    rw [← hr] at hD h0 ⊢
    repeat' (first | (first | (apply GL.isCall; refine GL.call1 rfl rfl (fun w h => rec_is rb x.tb sb x.lb x.mb x.kb m.q w _ h) ?_) | (apply GL.isCall; refine GL.callH1 (storeP sb m.t) rfl rfl (fun w h => hD w _ h) ?_)) | first | (apply GL.isAny; first | refine GL.runA rfl ?_ | (apply GL.isStore; first | refine GL.storeBlk rfl rfl rfl rfl rfl ?_ | refine GL.storeWhole rfl rfl rfl rfl rfl ?_ | refine GL.storeBlkA rfl rfl rfl rfl rfl ?_) | refine GL.guardY rfl rfl ?_ | refine GL.guardN rfl rfl rfl ?_ | refine GL.guardU rfl rfl rfl ?_ | (apply GL.isBox; first | refine GL.boxA rfl rfl (fun _ => ?_) | refine GL.box1 rfl rfl rfl (fun _ => ?_) | refine GL.box rfl rfl (fun _ => ?_)) | (apply GL.isBuildS; first | refine GL.buildSlice1A rfl rfl rfl rfl rfl (fun _ => ?_) | refine GL.buildSlice1 rfl rfl rfl rfl rfl (fun _ => ?_)) | (apply GL.isCall; refine GL.append1 _ rfl rfl rfl rfl (by rfl) (by omega) (by omega) rfl (fun _ => ?_)) | (apply GL.isAlloc; refine GL.alloc rfl (fun _ => ?_))) | apply GL.nil | first | apply G.seq | apply G.region | apply G.block | apply G.skip | apply G.exit | apply G.ret | (apply G.isCond; first | refine G.condT rfl ?_ | refine G.condF rfl ?_) | refine G.draw (by kernel_rfl) (by kernel_rfl) ?_ | (apply GE.isAny; first | apply GE.again | apply GE.thenG | apply GE.blockN | apply GE.blockE | apply GE.thenE | apply GE.thenR | apply GE.blockR | refine GE.blockO rfl ?_ | apply GE.only) | (apply GD.isAny; first | refine GD.runA rfl ?_ | refine GD.guardY rfl rfl ?_ | refine GD.guardN rfl rfl rfl ?_ | refine GD.guardU rfl rfl rfl ?_) | apply GD.nilE | apply GD.nilL | (apply GT.isAny; refine GT.runA rfl rfl ?_) | ((first | (apply GL.isAny; refine GL.guard rfl rfl (fun hc => ?_) (fun hc => ?_)) | (apply G.isCond; refine G.cond rfl (fun hc => ?_) (fun hc => ?_)) | (apply GD.isAny; refine GD.guard rfl rfl (fun hc => ?_) (fun hc => ?_))) <;> ((try simp only [decide_eq_true_eq, decide_eq_false_iff_not, Bool.not_true, Bool.not_false, ne_eq, Classical.not_not, Int.not_lt, Int.not_le] at hc); (try (exfalso; first | omega | exact hc trivial | exact hc rfl)))))
    all_goals (first | (exfalso; simp at hc; done) | (exfalso; omega) | (exfalso; exact h0 hc) | skip)
    refine GE.resOne rfl (by (repeat (first | apply Res.nil | (apply Res.tmp; rfl) | (refine Res.cellA rfl rfl rfl ?_) | (refine Res.cell1 rfl rfl ?_)))) (fun w h => ?_)
    exact ⟨rfl, recP.shut (m := m) x (by omega) h.sub⟩
theorem rec_Ahead (i : Int) (w : World) (F : List HProp) (hw : holds w (recP rb sb m K :: F)) :
    Ct Tryz.prog 42 #[.pointer (some ⟨rb, 0, none⟩), .int .i64 i] w fun e w' => e = .returned (.int .i64 (placeOf m.line i)) ∧ holds w' (recP rb sb m K :: F) := by
  obtain ⟨x, hx, h1⟩ := recP.open hw
  have hD := fun w (F : List HProp) h' => waits_Ahead w (.pointer (some ⟨x.lb, 0, none⟩)) m.t.ch.length m.line x.c i F (by omega) h'
  obtain ⟨r, hr⟩ : ∃ r, r = placeOf m.line i := ⟨_, rfl⟩
  rw [← hr] at hD ⊢
  refine Ct.go (args := [.pointer (some ⟨rb, 0, none⟩), .int .i64 i]) Tryz.func42 rfl rfl rfl h1 ?_
  repeat' (first | (first | (apply GL.isCall; refine GL.call1 rfl rfl (fun w h => rec_is rb x.tb sb x.lb x.mb x.kb m.q w _ h) ?_) | (apply GL.isCall; refine GL.callH1 (waitsAt (.pointer (some ⟨x.lb, 0, none⟩)) m.t.ch.length m.line x.c) rfl rfl (fun w h => ⟨hD w _ h⟩) ?_)) | first | (apply GL.isAny; first | refine GL.runA rfl ?_ | (apply GL.isStore; first | refine GL.storeBlk rfl rfl rfl rfl rfl ?_ | refine GL.storeWhole rfl rfl rfl rfl rfl ?_ | refine GL.storeBlkA rfl rfl rfl rfl rfl ?_) | refine GL.guardY rfl rfl ?_ | refine GL.guardN rfl rfl rfl ?_ | refine GL.guardU rfl rfl rfl ?_ | (apply GL.isBox; first | refine GL.boxA rfl rfl (fun _ => ?_) | refine GL.box1 rfl rfl rfl (fun _ => ?_) | refine GL.box rfl rfl (fun _ => ?_)) | (apply GL.isBuildS; first | refine GL.buildSlice1A rfl rfl rfl rfl rfl (fun _ => ?_) | refine GL.buildSlice1 rfl rfl rfl rfl rfl (fun _ => ?_)) | (apply GL.isCall; refine GL.append1 _ rfl rfl rfl rfl (by rfl) (by omega) (by omega) rfl (fun _ => ?_)) | (apply GL.isAlloc; refine GL.alloc rfl (fun _ => ?_))) | apply GL.nil | first | apply G.seq | apply G.region | apply G.block | apply G.skip | apply G.exit | apply G.ret | (apply G.isCond; first | refine G.condT rfl ?_ | refine G.condF rfl ?_) | refine G.draw (by kernel_rfl) (by kernel_rfl) ?_ | (apply GE.isAny; first | apply GE.again | apply GE.thenG | apply GE.blockN | apply GE.blockE | apply GE.thenE | apply GE.thenR | apply GE.blockR | refine GE.blockO rfl ?_ | apply GE.only) | (apply GD.isAny; first | refine GD.runA rfl ?_ | refine GD.guardY rfl rfl ?_ | refine GD.guardN rfl rfl rfl ?_ | refine GD.guardU rfl rfl rfl ?_) | apply GD.nilE | apply GD.nilL | (apply GT.isAny; refine GT.runA rfl rfl ?_) | ((first | (apply GL.isAny; refine GL.guard rfl rfl (fun hc => ?_) (fun hc => ?_)) | (apply G.isCond; refine G.cond rfl (fun hc => ?_) (fun hc => ?_)) | (apply GD.isAny; refine GD.guard rfl rfl (fun hc => ?_) (fun hc => ?_))) <;> ((try simp only [decide_eq_true_eq, decide_eq_false_iff_not, Bool.not_true, Bool.not_false, ne_eq, Classical.not_not, Int.not_lt, Int.not_le] at hc); (try (exfalso; first | omega | exact hc trivial | exact hc rfl)))))
  all_goals (first | (exfalso; simp at hc; done) | skip)
  refine GE.resOne rfl (by (repeat (first | apply Res.nil | (apply Res.tmp; rfl) | (refine Res.cellA rfl rfl rfl ?_) | (refine Res.cell1 rfl rfl ?_)))) (fun w h => ?_)
  exact ⟨rfl, recP.shut (m := m) x hx h.sub⟩
theorem rec_Ticks (w : World) (F : List HProp) (hw : holds w (recP rb sb m K :: F)) :
    Ct Tryz.prog 54 #[.pointer (some ⟨rb, 0, none⟩)] w fun e w' => e = .returned (.int .i64 (m.lv.length : Nat)) ∧ holds w' (recP rb sb m K :: F) := by
  obtain ⟨x, hx, h1⟩ := recP.open hw
  have hD := fun w (F : List HProp) h' => count_Get (v := .pointer (some ⟨x.kb, 0, none⟩)) (n := 2) (l := [((m.lv.length : Nat) : Int), m.fr]) (by omega) rfl 0 (by omega) w F h'
  refine Ct.go (args := [.pointer (some ⟨rb, 0, none⟩)]) Tryz.func54 rfl rfl rfl h1 ?_
  repeat' (first | (first | (apply GL.isCall; refine GL.call1 rfl rfl (fun w h => rec_is rb x.tb sb x.lb x.mb x.kb m.q w _ h) ?_) | (apply GL.isCall; refine GL.callH1 (bookP (.pointer (some ⟨x.kb, 0, none⟩)) 2 [((m.lv.length : Nat) : Int), m.fr]) rfl rfl (fun w h => hD w _ h) ?_)) | first | (apply GL.isAny; first | refine GL.runA rfl ?_ | (apply GL.isStore; first | refine GL.storeBlk rfl rfl rfl rfl rfl ?_ | refine GL.storeWhole rfl rfl rfl rfl rfl ?_ | refine GL.storeBlkA rfl rfl rfl rfl rfl ?_) | refine GL.guardY rfl rfl ?_ | refine GL.guardN rfl rfl rfl ?_ | refine GL.guardU rfl rfl rfl ?_ | (apply GL.isBox; first | refine GL.boxA rfl rfl (fun _ => ?_) | refine GL.box1 rfl rfl rfl (fun _ => ?_) | refine GL.box rfl rfl (fun _ => ?_)) | (apply GL.isBuildS; first | refine GL.buildSlice1A rfl rfl rfl rfl rfl (fun _ => ?_) | refine GL.buildSlice1 rfl rfl rfl rfl rfl (fun _ => ?_)) | (apply GL.isCall; refine GL.append1 _ rfl rfl rfl rfl (by rfl) (by omega) (by omega) rfl (fun _ => ?_)) | (apply GL.isAlloc; refine GL.alloc rfl (fun _ => ?_))) | apply GL.nil | first | apply G.seq | apply G.region | apply G.block | apply G.skip | apply G.exit | apply G.ret | (apply G.isCond; first | refine G.condT rfl ?_ | refine G.condF rfl ?_) | refine G.draw (by kernel_rfl) (by kernel_rfl) ?_ | (apply GE.isAny; first | apply GE.again | apply GE.thenG | apply GE.blockN | apply GE.blockE | apply GE.thenE | apply GE.thenR | apply GE.blockR | refine GE.blockO rfl ?_ | apply GE.only) | (apply GD.isAny; first | refine GD.runA rfl ?_ | refine GD.guardY rfl rfl ?_ | refine GD.guardN rfl rfl rfl ?_ | refine GD.guardU rfl rfl rfl ?_) | apply GD.nilE | apply GD.nilL | (apply GT.isAny; refine GT.runA rfl rfl ?_) | ((first | (apply GL.isAny; refine GL.guard rfl rfl (fun hc => ?_) (fun hc => ?_)) | (apply G.isCond; refine G.cond rfl (fun hc => ?_) (fun hc => ?_)) | (apply GD.isAny; refine GD.guard rfl rfl (fun hc => ?_) (fun hc => ?_))) <;> ((try simp only [decide_eq_true_eq, decide_eq_false_iff_not, Bool.not_true, Bool.not_false, ne_eq, Classical.not_not, Int.not_lt, Int.not_le] at hc); (try (exfalso; first | omega | exact hc trivial | exact hc rfl)))))
  all_goals (first | (exfalso; simp at hc; done) | skip)
  refine GE.resOne rfl (by (repeat (first | apply Res.nil | (apply Res.tmp; rfl) | (refine Res.cellA rfl rfl rfl ?_) | (refine Res.cell1 rfl rfl ?_)))) (fun w h => ?_)
  exact ⟨rfl, recP.shut (m := m) x hx h.sub⟩
theorem rec_Freed (w : World) (F : List HProp) (hw : holds w (recP rb sb m K :: F)) :
    Ct Tryz.prog 55 #[.pointer (some ⟨rb, 0, none⟩)] w fun e w' => e = .returned (.int .i64 m.fr) ∧ holds w' (recP rb sb m K :: F) := by
  obtain ⟨x, hx, h1⟩ := recP.open hw
  have hD := fun w (F : List HProp) h' => count_Get (v := .pointer (some ⟨x.kb, 0, none⟩)) (n := 2) (l := [((m.lv.length : Nat) : Int), m.fr]) (by omega) rfl 1 (by omega) w F h'
  refine Ct.go (args := [.pointer (some ⟨rb, 0, none⟩)]) Tryz.func55 rfl rfl rfl h1 ?_
  repeat' (first | (first | (apply GL.isCall; refine GL.call1 rfl rfl (fun w h => rec_is rb x.tb sb x.lb x.mb x.kb m.q w _ h) ?_) | (apply GL.isCall; refine GL.callH1 (bookP (.pointer (some ⟨x.kb, 0, none⟩)) 2 [((m.lv.length : Nat) : Int), m.fr]) rfl rfl (fun w h => hD w _ h) ?_)) | first | (apply GL.isAny; first | refine GL.runA rfl ?_ | (apply GL.isStore; first | refine GL.storeBlk rfl rfl rfl rfl rfl ?_ | refine GL.storeWhole rfl rfl rfl rfl rfl ?_ | refine GL.storeBlkA rfl rfl rfl rfl rfl ?_) | refine GL.guardY rfl rfl ?_ | refine GL.guardN rfl rfl rfl ?_ | refine GL.guardU rfl rfl rfl ?_ | (apply GL.isBox; first | refine GL.boxA rfl rfl (fun _ => ?_) | refine GL.box1 rfl rfl rfl (fun _ => ?_) | refine GL.box rfl rfl (fun _ => ?_)) | (apply GL.isBuildS; first | refine GL.buildSlice1A rfl rfl rfl rfl rfl (fun _ => ?_) | refine GL.buildSlice1 rfl rfl rfl rfl rfl (fun _ => ?_)) | (apply GL.isCall; refine GL.append1 _ rfl rfl rfl rfl (by rfl) (by omega) (by omega) rfl (fun _ => ?_)) | (apply GL.isAlloc; refine GL.alloc rfl (fun _ => ?_))) | apply GL.nil | first | apply G.seq | apply G.region | apply G.block | apply G.skip | apply G.exit | apply G.ret | (apply G.isCond; first | refine G.condT rfl ?_ | refine G.condF rfl ?_) | refine G.draw (by kernel_rfl) (by kernel_rfl) ?_ | (apply GE.isAny; first | apply GE.again | apply GE.thenG | apply GE.blockN | apply GE.blockE | apply GE.thenE | apply GE.thenR | apply GE.blockR | refine GE.blockO rfl ?_ | apply GE.only) | (apply GD.isAny; first | refine GD.runA rfl ?_ | refine GD.guardY rfl rfl ?_ | refine GD.guardN rfl rfl rfl ?_ | refine GD.guardU rfl rfl rfl ?_) | apply GD.nilE | apply GD.nilL | (apply GT.isAny; refine GT.runA rfl rfl ?_) | ((first | (apply GL.isAny; refine GL.guard rfl rfl (fun hc => ?_) (fun hc => ?_)) | (apply G.isCond; refine G.cond rfl (fun hc => ?_) (fun hc => ?_)) | (apply GD.isAny; refine GD.guard rfl rfl (fun hc => ?_) (fun hc => ?_))) <;> ((try simp only [decide_eq_true_eq, decide_eq_false_iff_not, Bool.not_true, Bool.not_false, ne_eq, Classical.not_not, Int.not_lt, Int.not_le] at hc); (try (exfalso; first | omega | exact hc trivial | exact hc rfl)))))
  all_goals (first | (exfalso; simp at hc; done) | skip)
  refine GE.resOne rfl (by (repeat (first | apply Res.nil | (apply Res.tmp; rfl) | (refine Res.cellA rfl rfl rfl ?_) | (refine Res.cell1 rfl rfl ?_)))) (fun w h => ?_)
  exact ⟨rfl, recP.shut (m := m) x hx h.sub⟩
theorem rec_Low (w : World) (F : List HProp) (hw : holds w (recP rb sb m K :: F)) :
    Ct Tryz.prog 56 #[.pointer (some ⟨rb, 0, none⟩)] w fun e w' => e = .returned (.bool (Wm.low m.low m.lv.getLast?)) ∧ holds w' (recP rb sb m K :: F) := by
  obtain ⟨x, hx, h1⟩ := recP.open hw
  have hD := fun w (F : List HProp) h' => water_Low x.mb m.low m.lv.getLast? x.k w F h'
  obtain ⟨r, hr⟩ : ∃ r, r = Wm.low m.low m.lv.getLast? := ⟨_, rfl⟩
  rw [← hr] at hD ⊢
  refine Ct.go (args := [.pointer (some ⟨rb, 0, none⟩)]) Tryz.func56 rfl rfl rfl h1 ?_
  repeat' (first | (first | (apply GL.isCall; refine GL.call1 rfl rfl (fun w h => rec_is rb x.tb sb x.lb x.mb x.kb m.q w _ h) ?_) | (apply GL.isCall; refine GL.callH1 (markP x.mb m.low m.lv.getLast? x.k) rfl rfl (fun w h => hD w _ h) ?_)) | first | (apply GL.isAny; first | refine GL.runA rfl ?_ | (apply GL.isStore; first | refine GL.storeBlk rfl rfl rfl rfl rfl ?_ | refine GL.storeWhole rfl rfl rfl rfl rfl ?_ | refine GL.storeBlkA rfl rfl rfl rfl rfl ?_) | refine GL.guardY rfl rfl ?_ | refine GL.guardN rfl rfl rfl ?_ | refine GL.guardU rfl rfl rfl ?_ | (apply GL.isBox; first | refine GL.boxA rfl rfl (fun _ => ?_) | refine GL.box1 rfl rfl rfl (fun _ => ?_) | refine GL.box rfl rfl (fun _ => ?_)) | (apply GL.isBuildS; first | refine GL.buildSlice1A rfl rfl rfl rfl rfl (fun _ => ?_) | refine GL.buildSlice1 rfl rfl rfl rfl rfl (fun _ => ?_)) | (apply GL.isCall; refine GL.append1 _ rfl rfl rfl rfl (by rfl) (by omega) (by omega) rfl (fun _ => ?_)) | (apply GL.isAlloc; refine GL.alloc rfl (fun _ => ?_))) | apply GL.nil | first | apply G.seq | apply G.region | apply G.block | apply G.skip | apply G.exit | apply G.ret | (apply G.isCond; first | refine G.condT rfl ?_ | refine G.condF rfl ?_) | refine G.draw (by kernel_rfl) (by kernel_rfl) ?_ | (apply GE.isAny; first | apply GE.again | apply GE.thenG | apply GE.blockN | apply GE.blockE | apply GE.thenE | apply GE.thenR | apply GE.blockR | refine GE.blockO rfl ?_ | apply GE.only) | (apply GD.isAny; first | refine GD.runA rfl ?_ | refine GD.guardY rfl rfl ?_ | refine GD.guardN rfl rfl rfl ?_ | refine GD.guardU rfl rfl rfl ?_) | apply GD.nilE | apply GD.nilL | (apply GT.isAny; refine GT.runA rfl rfl ?_) | ((first | (apply GL.isAny; refine GL.guard rfl rfl (fun hc => ?_) (fun hc => ?_)) | (apply G.isCond; refine G.cond rfl (fun hc => ?_) (fun hc => ?_)) | (apply GD.isAny; refine GD.guard rfl rfl (fun hc => ?_) (fun hc => ?_))) <;> ((try simp only [decide_eq_true_eq, decide_eq_false_iff_not, Bool.not_true, Bool.not_false, ne_eq, Classical.not_not, Int.not_lt, Int.not_le] at hc); (try (exfalso; first | omega | exact hc trivial | exact hc rfl)))))
  all_goals (first | (exfalso; simp at hc; done) | skip)
  refine GE.resOne rfl (by (repeat (first | apply Res.nil | (apply Res.tmp; rfl) | (refine Res.cellA rfl rfl rfl ?_) | (refine Res.cell1 rfl rfl ?_)))) (fun w h => ?_)
  exact ⟨rfl, recP.shut (m := m) x hx h.sub⟩
end Go.Proofs.YtipkgamiejenaaaGreat

/- A drawn region where one operation that only moves a value is taken ahead of all; then a head that only reads; the rest comes up in one order. -/
namespace Go.Proofs.YtipkgamiejenaaaGreat
open Go Go.RowKit Go.MapKept
set_option linter.unusedVariables false
set_option linter.unusedSectionVars false
set_option linter.unusedSimpArgs false

def seqL (md : Region.Mode) (ops : Array Oper) : List Nat → Array Bool → Bool
  | [], l => (Region.ready md ops l).isEmpty
  | i :: is, l => decide (Region.ready md ops l = [i]) && seqL md ops is (l.setIfInBounds i true)
section
variable {P : Program} {n : Nat} {ops : Array Oper} {md : Region.Mode} {F : List HProp} {Z : Act → Prop} {Q : Exit → Act → World → Prop} {env : Env} {ty : TypeId} {pos : String} {aft : Array Edge}
def nthO : List Oper → Nat → Option Oper
  | [], _ => none
  | a :: l, n => bif Nat.beq n 0 then some a else nthO l (n - 1)
inductive PickIs (l : List Oper) : List Nat → List Oper → Prop where
  | nil : PickIs l [] []
  | cons {i : Nat} {o : Oper} {is : List Nat} {os : List Oper} (h : nthO l i = some o) (t : PickIs l is os) : PickIs l (i :: is) (o :: os)
/-- A walk stands here. -/
structure GStop (p : Prop) : Prop where
  out : p
theorem G.stop {c : Code} (h : GStop (G P n c Q env F)) : G P n c Q env F := h.out
end
end Go.Proofs.YtipkgamiejenaaaGreat

/- Package reclaim: Waiting, When, Plan, wipe. -/
namespace Go.Proofs.YtipkgamiejenaaaGreat
open Go Go.RowKit Go.MapKept
set_option linter.unusedVariables false
set_option linter.unusedSectionVars false
set_option linter.unusedSimpArgs false
set_option maxRecDepth 100000
set_option maxHeartbeats 2000000
variable (rb sb : Nat) (m : Rc.S) (K : Nat) (hO : Rc.Ok m K) (hK : K ≤ 900000)
include hO hK
omit hO hK
theorem rec_wipe (t : St.S) (hI : St.Inv t K) (hK : K ≤ 900000) (a b c d : Nat) (q : Int) (k : Nat) (hk : k < t.ch.length) (hp : (t.c k).phase = 2) (w : World) (F : List HProp) [SeesBlk F rb #[.pointer (some ⟨a, 0, none⟩), .pointer (some ⟨sb, 0, none⟩), .pointer (some ⟨b, 0, none⟩), .pointer (some ⟨c, 0, none⟩), .pointer (some ⟨d, 0, none⟩), .int .i64 q]] (hw : holds w (storeP sb t :: F)) :
    Ct Tryz.prog 175 #[.pointer (some ⟨rb, 0, none⟩), .int .i64 (k : Nat)] w fun e w' => e = .returned (.int .i64 0) ∧ holds w' (storeP sb (Rc.wipe t k) :: F) := by
  have hz := hI.sz
  have hB := fun w (F : List HProp) h' => store_Begin sb t K hI (by omega) (k : Nat) w F h'
  have h1 := Rc.start_ph hk hp
  have h2 := Rc.start_w hI hk hp
  have e0 : (St.start t k).2 = 0 := by rw [Rc.start_eq hk hp]
  have hI1 := hI.start k
  have es : Rc.wipe t k = (St.step (St.start t k).1 k (St.start t k).1.size).1 := by unfold Rc.wipe; rw [St.start_size]
  have hz1 : (St.start t k).1.size = t.size := St.start_size
  have hk1 : k < (St.start t k).1.ch.length := by rw [St.start_chl]; exact hk
  rw [e0] at hB
  obtain ⟨t1, ht1⟩ : ∃ t1, t1 = (St.start t k).1 := ⟨_, rfl⟩
  rw [← ht1] at hB h1 h2 hI1 es hz1 hk1
  refine Ct.go (args := [.pointer (some ⟨rb, 0, none⟩), .int .i64 (k : Nat)]) Tryz.func175 rfl rfl rfl hw ?_
  repeat' (first | (first | (apply GL.isCall; refine GL.callH1 (storeP sb t) rfl rfl (fun w h => hB w _ h) ?_)) | first | (apply GL.isAny; first | refine GL.runA rfl ?_ | (apply GL.isStore; first | refine GL.storeBlk rfl rfl rfl rfl rfl ?_ | refine GL.storeWhole rfl rfl rfl rfl rfl ?_ | refine GL.storeBlkA rfl rfl rfl rfl rfl ?_) | refine GL.guardY rfl rfl ?_ | refine GL.guardN rfl rfl rfl ?_ | refine GL.guardU rfl rfl rfl ?_ | (apply GL.isBox; first | refine GL.boxA rfl rfl (fun _ => ?_) | refine GL.box1 rfl rfl rfl (fun _ => ?_) | refine GL.box rfl rfl (fun _ => ?_)) | (apply GL.isBuildS; first | refine GL.buildSlice1A rfl rfl rfl rfl rfl (fun _ => ?_) | refine GL.buildSlice1 rfl rfl rfl rfl rfl (fun _ => ?_)) | (apply GL.isCall; refine GL.append1 _ rfl rfl rfl rfl (by rfl) (by omega) (by omega) rfl (fun _ => ?_)) | (apply GL.isAlloc; refine GL.alloc rfl (fun _ => ?_))) | apply GL.nil | first | apply G.seq | apply G.region | apply G.block | apply G.skip | apply G.exit | apply G.ret | (apply G.isCond; first | refine G.condT rfl ?_ | refine G.condF rfl ?_) | refine G.draw (by kernel_rfl) (by kernel_rfl) ?_ | (apply GE.isAny; first | apply GE.again | apply GE.thenG | apply GE.blockN | apply GE.blockE | apply GE.thenE | apply GE.thenR | apply GE.blockR | refine GE.blockO rfl ?_ | apply GE.only) | (apply GD.isAny; first | refine GD.runA rfl ?_ | refine GD.guardY rfl rfl ?_ | refine GD.guardN rfl rfl rfl ?_ | refine GD.guardU rfl rfl rfl ?_) | apply GD.nilE | apply GD.nilL | (apply GT.isAny; refine GT.runA rfl rfl ?_) | ((first | (apply GL.isAny; refine GL.guard rfl rfl (fun hc => ?_) (fun hc => ?_)) | (apply G.isCond; refine G.cond rfl (fun hc => ?_) (fun hc => ?_)) | (apply GD.isAny; refine GD.guard rfl rfl (fun hc => ?_) (fun hc => ?_))) <;> ((try simp only [decide_eq_true_eq, decide_eq_false_iff_not, Bool.not_true, Bool.not_false, ne_eq, Classical.not_not, Int.not_lt, Int.not_le] at hc); (try (exfalso; first | omega | exact hc trivial | exact hc rfl)))))
  all_goals (first | (exfalso; simp at hc; done) | skip)
  refine G.loopK [0, 1] (Nat × St.S) (fun y => []) (fun y => storeP sb y.2 :: F) (fun y => St.Inv y.2 (K + 1 + y.1) ∧ y.1 * 64 + 1 ≤ t.size ∧ y.2.size = t.size ∧ k < y.2.ch.length ∧ (y.2.c k).phase = 3 ∧ y.2.w k = y.1 * 64 ∧ (St.step y.2 k t.size).1 = Rc.wipe t k) (fun y => t.size - y.1) ((0, t1)) (⟨hI1, by dsimp only; omega, hz1, hk1, h1, by dsimp only; rw [h2]; rfl, by rw [es, hz1]⟩) (by repeat (first | exact trivial | refine And.intro rfl ?_)) (fun w h => by (try dsimp only); first | exact h | exact h.sub | ((try simp only [List.take_zero, List.drop_zero, List.map_nil, List.nil_append, List.zipIdx_nil, List.filter_nil]); exact h.sub)) ?_
  rintro ⟨j, s⟩ ⟨hIs, hj, hs, hks, hps, hws, hst⟩
  dsimp only at hIs hj hs hks hps hws hst ⊢
  have hS := fun w (F : List HProp) h' => store_Step sb s (K + 1 + j) hIs (by omega) (k : Nat) 64 w F h'
  by_cases hm : j * 64 + 64 < t.size
  · obtain ⟨e1, e2, e3⟩ := St.step_more hIs hks hps (by rw [hws, hs]; omega)
    have hI2 := hIs.step k 64
    rw [e1] at hS hI2
    rw [hs] at e3
    dsimp only at hS hI2
    obtain ⟨s2, hs2⟩ : ∃ s2, s2 = St.wiped s k 64 := ⟨_, rfl⟩
    have e4 : s2.ch = s.ch := by rw [hs2]; rfl
    have e5 : s2.size = s.size := by rw [hs2]; rfl
    rw [← hs2] at hS hI2 e2 e3
    repeat' (first | (first | (apply GL.isCall; refine GL.callH1 (storeP sb s) rfl rfl (fun w h => hS w _ h) ?_)) | first | (apply GL.isAny; first | refine GL.runA rfl ?_ | (apply GL.isStore; first | refine GL.storeBlk rfl rfl rfl rfl rfl ?_ | refine GL.storeWhole rfl rfl rfl rfl rfl ?_ | refine GL.storeBlkA rfl rfl rfl rfl rfl ?_) | refine GL.guardY rfl rfl ?_ | refine GL.guardN rfl rfl rfl ?_ | refine GL.guardU rfl rfl rfl ?_ | (apply GL.isBox; first | refine GL.boxA rfl rfl (fun _ => ?_) | refine GL.box1 rfl rfl rfl (fun _ => ?_) | refine GL.box rfl rfl (fun _ => ?_)) | (apply GL.isBuildS; first | refine GL.buildSlice1A rfl rfl rfl rfl rfl (fun _ => ?_) | refine GL.buildSlice1 rfl rfl rfl rfl rfl (fun _ => ?_)) | (apply GL.isCall; refine GL.append1 _ rfl rfl rfl rfl (by rfl) (by omega) (by omega) rfl (fun _ => ?_)) | (apply GL.isAlloc; refine GL.alloc rfl (fun _ => ?_))) | apply GL.nil | first | apply G.seq | apply G.region | apply G.block | apply G.skip | apply G.exit | apply G.ret | (apply G.isCond; first | refine G.condT rfl ?_ | refine G.condF rfl ?_) | refine G.draw (by kernel_rfl) (by kernel_rfl) ?_ | (apply GE.isAny; first | apply GE.again | apply GE.thenG | apply GE.blockN | apply GE.blockE | apply GE.thenE | apply GE.thenR | apply GE.blockR | refine GE.blockO rfl ?_ | apply GE.only) | (apply GD.isAny; first | refine GD.runA rfl ?_ | refine GD.guardY rfl rfl ?_ | refine GD.guardN rfl rfl rfl ?_ | refine GD.guardU rfl rfl rfl ?_) | apply GD.nilE | apply GD.nilL | (apply GT.isAny; refine GT.runA rfl rfl ?_) | ((first | (apply GL.isAny; refine GL.guard rfl rfl (fun hc => ?_) (fun hc => ?_)) | (apply G.isCond; refine G.cond rfl (fun hc => ?_) (fun hc => ?_)) | (apply GD.isAny; refine GD.guard rfl rfl (fun hc => ?_) (fun hc => ?_))) <;> ((try simp only [decide_eq_true_eq, decide_eq_false_iff_not, Bool.not_true, Bool.not_false, ne_eq, Classical.not_not, Int.not_lt, Int.not_le] at hc); (try (exfalso; first | omega | exact hc trivial | exact hc rfl)))))
    all_goals (first | (exfalso; simp at hc; done) | skip)
    refine GE.round (j + 1, s2) ⟨by dsimp only; exact hI2, by dsimp only; omega, by dsimp only; omega, by dsimp only; rw [e4]; exact hks, by dsimp only; unfold St.S.c at hps ⊢; rw [e4]; exact hps, by dsimp only; rw [e2, hws]; omega, by dsimp only; rw [e3]; exact hst⟩ (by repeat (first | exact trivial | refine And.intro rfl ?_)) (fun w h => by (try dsimp only); exact h.sub) (by (try dsimp only); omega)
  · have e1 := St.step_fin (t := s) (i := (k : Nat)) (n := 64) (by omega) (by rw [hws, hs]; omega) (by rw [hs]; omega)
    obtain ⟨t', e2, e3⟩ := Rc.step_end hks hps s.size (by omega) (by rw [hws]; omega) (by rw [hws, hs]; omega)
    rw [e1, e2] at hS
    rw [← hs, e2] at hst
    dsimp only at hS hst
    rw [hst] at hS
    repeat' (first | (first | (apply GL.isCall; refine GL.callH1 (storeP sb s) rfl rfl (fun w h => hS w _ h) ?_)) | first | (apply GL.isAny; first | refine GL.runA rfl ?_ | (apply GL.isStore; first | refine GL.storeBlk rfl rfl rfl rfl rfl ?_ | refine GL.storeWhole rfl rfl rfl rfl rfl ?_ | refine GL.storeBlkA rfl rfl rfl rfl rfl ?_) | refine GL.guardY rfl rfl ?_ | refine GL.guardN rfl rfl rfl ?_ | refine GL.guardU rfl rfl rfl ?_ | (apply GL.isBox; first | refine GL.boxA rfl rfl (fun _ => ?_) | refine GL.box1 rfl rfl rfl (fun _ => ?_) | refine GL.box rfl rfl (fun _ => ?_)) | (apply GL.isBuildS; first | refine GL.buildSlice1A rfl rfl rfl rfl rfl (fun _ => ?_) | refine GL.buildSlice1 rfl rfl rfl rfl rfl (fun _ => ?_)) | (apply GL.isCall; refine GL.append1 _ rfl rfl rfl rfl (by rfl) (by omega) (by omega) rfl (fun _ => ?_)) | (apply GL.isAlloc; refine GL.alloc rfl (fun _ => ?_))) | apply GL.nil | first | apply G.seq | apply G.region | apply G.block | apply G.skip | apply G.exit | apply G.ret | (apply G.isCond; first | refine G.condT rfl ?_ | refine G.condF rfl ?_) | refine G.draw (by kernel_rfl) (by kernel_rfl) ?_ | (apply GE.isAny; first | apply GE.again | apply GE.thenG | apply GE.blockN | apply GE.blockE | apply GE.thenE | apply GE.thenR | apply GE.blockR | refine GE.blockO rfl ?_ | apply GE.only) | (apply GD.isAny; first | refine GD.runA rfl ?_ | refine GD.guardY rfl rfl ?_ | refine GD.guardN rfl rfl rfl ?_ | refine GD.guardU rfl rfl rfl ?_) | apply GD.nilE | apply GD.nilL | (apply GT.isAny; refine GT.runA rfl rfl ?_) | ((first | (apply GL.isAny; refine GL.guard rfl rfl (fun hc => ?_) (fun hc => ?_)) | (apply G.isCond; refine G.cond rfl (fun hc => ?_) (fun hc => ?_)) | (apply GD.isAny; refine GD.guard rfl rfl (fun hc => ?_) (fun hc => ?_))) <;> ((try simp only [decide_eq_true_eq, decide_eq_false_iff_not, Bool.not_true, Bool.not_false, ne_eq, Classical.not_not, Int.not_lt, Int.not_le] at hc); (try (exfalso; first | omega | exact hc trivial | exact hc rfl)))))
    all_goals (first | (exfalso; simp at hc; done) | skip)
    refine GE.resOne rfl (by (repeat (first | apply Res.nil | (apply Res.tmp; rfl) | (refine Res.cellA rfl rfl rfl ?_) | (refine Res.cell1 rfl rfl ?_)))) (fun w h => ?_)
    exact ⟨rfl, h.sub⟩
end Go.Proofs.YtipkgamiejenaaaGreat

/- A range over a function, in the new road: walks behind the loop and within its rounds. -/
namespace Go.Proofs.YtipkgamiejenaaaGreat
open Go Go.RowKit Go.MapKept
set_option linter.unusedVariables false
set_option linter.unusedSectionVars false
set_option linter.unusedSimpArgs false

/-- The state of an activation that bears marks on its deferred calls. -/
structure FitsX (n : Nat) (ds : List Deferred) (a : Act) (env : Env) : Prop where
  size : a.tmps.size = n
  defs : a.defers = ds
  at_ : ∀ k v, look env k = some v → a.tmps[k]? = some v
theorem FitsX.bare {n : Nat} {ds : List Deferred} {a : Act} {env : Env} (h : FitsX n ds a env) : Fits n ⟨a.tmps, []⟩ env := ⟨h.size, rfl, h.at_⟩
theorem FitsX.bare' {n : Nat} {a : Act} {env : Env} (h : FitsX n [] a env) : Fits n a env := ⟨h.size, h.defs, h.at_⟩
theorem Fits.x {n : Nat} {a : Act} {env : Env} (h : Fits n a env) : FitsX n [] a env := ⟨h.size, h.defs, h.at_⟩
theorem FitsX.eval {n : Nat} {ds : List Deferred} {a : Act} {env : Env} (h : FitsX n ds a env) {x : Operand} {v : Value} (hx : opnd env x = some v) : a.eval x = v := h.bare.eval hx
theorem FitsX.put {n : Nat} {ds : List Deferred} {a : Act} {env : Env} (h : FitsX n ds a env) {d : Nat} (hd : Nat.blt d n = true) (v : Value) : FitsX n ds (a.put (some d) v) ((d, v) :: env) :=
  ⟨(h.bare.put hd v).size, by simp [Act.put, h.defs], (h.bare.put hd v).at_⟩
theorem FitsX.sub {n : Nat} {ds : List Deferred} {a : Act} {env e : Env} (h : FitsX n ds a env) (hs : Sub e env) : FitsX n ds a e := ⟨h.size, h.defs, fun k v hk => h.at_ k v (hs.look hk)⟩
/-- A fence that lets all in. -/
inductive WideF : Fence → Prop
  | wide : WideF Fence.wide
  | round (l : Nat) : WideF (Fence.wide.inRound l)
theorem WideF.calls {Fc : Fence} (h : WideF Fc) {n : Nat} {P : Program} {f : FuncId} {args : Array Value} {w : World} {R : Ending → World → Prop} (hc : Calls P f args w R) : CallsIn Fc n P f args w R := by
  cases h with
  | wide => exact callsIn_wide.2 hc
  | round l => exact CallsIn.inRound l (callsIn_wide.2 hc)
theorem WideF.rows {Fc : Fence} (h : WideF Fc) {n : Nat} {P : Program} {row : String} {args : Array Value} {w : World} {R : Value → World → Prop} (hc : Rows P row args w R) : RowsIn Fc n P row args w R := by
  have h1 : RowsIn Fence.wide n P row args w R := fun c cs _ => by
    obtain ⟨v, w', r, s⟩ := hc c cs
    exact ⟨v, w', r, stepsIn_wide.2 s⟩
  cases h with
  | wide => exact h1
  | round l => exact h1
theorem WideF.fn {Fc : Fence} (h : WideF Fc) (f : FuncId) : Fc.fn f := by cases h <;> trivial
theorem WideF.depth {Fc : Fence} (h : WideF Fc) : Fc.depth.isSome = true → 1 ≤ 5 := by cases h <;> (intro h; cases h)

section
variable (Fc : Fence) (P : Program) (n : Nat) (ds : List Deferred)
structure GI (c : Code) (Q : Exit → Act → World → Prop) (env : Env) (F : List HProp) : Prop where
  out : ∀ a w, FitsX n ds a env → holds w F → c.wpIn Fc 5 P Q a w
structure GLI (ops : Array Oper) (Q : Exit → Act → World → Prop) (rest : List Oper) (env : Env) (F : List HProp) : Prop where
  out : ∀ a w, FitsX n ds a env → holds w F → wpListIn Fc 5 P ops Q rest a w
end
structure GEI (n : Nat) (ds : List Deferred) (e : Exit) (Q : Exit → Act → World → Prop) (env : Env) (F : List HProp) : Prop where
  out : ∀ a w, FitsX n ds a env → holds w F → Q e a w
/-- One operation is done; the rest is a walk of the other kind. -/
def IQ (K : Act → World → Prop) : Exit → Act → World → Prop := fun e a w => e = .normal ∧ a.defers = [] ∧ K a w
section
variable {Fc : Fence} {P : Program} {n : Nat} {ds : List Deferred} {Q : Exit → Act → World → Prop} {env : Env} {F : List HProp} {ops : Array Oper} {rest : List Oper}
theorem GLI.op {o : Oper} (hW : WideF Fc) (hnd : ∀ c, o.op ≠ .defer c) (h : GL P n ops (IQ fun a' w' => ∀ a1 : Act, a1.tmps = a'.tmps → a1.defers = ds → wpListIn Fc 5 P ops Q rest a1 w') [o] env F) : GLI Fc P n ds ops Q (o :: rest) env F := ⟨fun a w hf hw => by
  have h1 := h.out ⟨a.tmps, []⟩ w hf.bare hw
  unfold wpList at h1
  unfold wpListIn
  have hy : yielded ops (⟨a.tmps, []⟩ : Act).tmps = yielded ops a.tmps := rfl
  rw [hy] at h1
  split at h1
  · rename_i hwt
    rw [if_pos hwt]
    refine ⟨fun f _ => hW.fn f, ?_⟩
    rw [Oper.semAt_eq _ _ _ hnd]
    rcases h1 with h1 | ⟨_, a', w', h2⟩
    · unfold Oper.wp at h1
      have he : (⟨a.tmps, []⟩ : Act).eval = a.eval := rfl
      rw [he] at h1
      revert h1
      generalize (execOp a.eval o).run P w = r
      intro h1
      cases r with
      | ok x w1 =>
        cases x with
        | value v =>
          obtain ⟨_, _, h2⟩ := h1
          exact h2 _ (by cases o.dst <;> rfl) (by cases o.dst <;> exact hf.defs)
        | skip =>
          obtain ⟨_, _, h2⟩ := h1
          exact h2 _ (by cases o.dst <;> rfl) (by cases o.dst <;> exact hf.defs)
        | defer d =>
          obtain ⟨_, h2, _⟩ := h1
          exfalso
          revert h2
          cases o.dst <;> simp [Act.put]
        | enter f args =>
          refine ⟨hW.depth, hW.calls (h1.mono fun e w' h2 => ?_)⟩
          cases e with
          | returned v =>
            obtain ⟨_, _, h2⟩ := h2
            exact h2 _ (by cases o.dst <;> rfl) (by cases o.dst <;> exact hf.defs)
          | panicked ch => exact absurd h2.1 (by simp)
          | outgrown => obtain ⟨_, _, h2⟩ := h2; exact absurd h2.1 (by simp)
        | row rw args =>
          refine ⟨hW.depth, hW.rows ?_⟩
          intro c cs
          obtain ⟨v, w', ⟨_, _, h2⟩, hs⟩ := h1 c cs
          exact ⟨v, w', h2 _ (by cases o.dst <;> rfl) (by cases o.dst <;> exact hf.defs), hs⟩
        | _ => exact h1.elim
      | halt x w1 =>
        cases x with
        | panic v => exact absurd h1.1 (by simp)
        | _ => exact h1.elim
    · exact absurd h2.1 (by simp)
  · rename_i hwt
    rw [if_neg hwt]
    obtain ⟨_, _, h2⟩ := h1
    exact ⟨fun f _ => hW.fn f, h2 _ (by cases o.dst <;> rfl) (by cases o.dst <;> exact hf.defs)⟩⟩
theorem GE.iq (h : GLI Fc P n ds ops Q rest env F) : GE n .normal (IQ fun a' w' => ∀ a1 : Act, a1.tmps = a'.tmps → a1.defers = ds → wpListIn Fc 5 P ops Q rest a1 w') env F :=
  .mk fun a w hf hw => ⟨rfl, hf.defs, fun a1 h1 h2 => h.out a1 w ⟨by rw [h1]; exact hf.size, h2, fun k v hk => by rw [h1]; exact hf.at_ k v hk⟩ hw⟩
theorem GLI.nil (h : GEI n ds .normal Q env F) : GLI Fc P n ds ops Q [] env F := ⟨fun a w hf hw => h.out a w hf hw⟩
theorem GI.skip (h : GEI n ds .normal Q env F) : GI Fc P n ds .skip Q env F := ⟨fun a w hf hw => wpIn_skip (h.out a w hf hw)⟩
theorem GI.ret (h : GEI n ds .ret Q env F) : GI Fc P n ds .ret Q env F := ⟨fun a w hf hw => wpIn_ret (h.out a w hf hw)⟩
theorem GI.exit {id : Nat} (h : GEI n ds (.exit id) Q env F) : GI Fc P n ds (.exit id) Q env F := ⟨fun a w hf hw => wpIn_exit (h.out a w hf hw)⟩
theorem GI.seq {x y : Code} (h : GI Fc P n ds x (Exit.then (y.wpIn Fc 5 P Q) Q) env F) : GI Fc P n ds (.seq x y) Q env F := ⟨fun a w hf hw => wpIn_seq (h.out a w hf hw)⟩
theorem GI.block {id : Nat} {c : Code} (h : GI Fc P n ds c (Exit.inBlock id Q) env F) : GI Fc P n ds (.block id c) Q env F := ⟨fun a w hf hw => wpIn_block (h.out a w hf hw)⟩
theorem GI.cond {c : Operand} {x y : Code} {b : Bool} (hc : opnd env c = some (.bool b)) (ht : b = true → GI Fc P n ds x Q env F) (hf : b = false → GI Fc P n ds y Q env F) : GI Fc P n ds (.cond c x y) Q env F :=
  ⟨fun a w h hw => wpIn_cond_split (h.eval hc) (fun e => (ht e).out a w h hw) (fun e => (hf e).out a w h hw)⟩
theorem GI.region {id : Nat} {l : List Oper} (h : GLI Fc P n ds l.toArray Q l env F) : GI Fc P n ds (.region id l.toArray false) Q env F := ⟨fun a w hf hw => wpIn_region_lit (h.out a w hf hw)⟩
theorem GEI.thenG {y : Code} (h : GI Fc P n ds y Q env F) : GEI n ds .normal (Exit.then (y.wpIn Fc 5 P Q) Q) env F := ⟨h.out⟩
theorem GEI.thenE {id : Nat} {x : Act → World → Prop} (h : GEI n ds (.exit id) Q env F) : GEI n ds (.exit id) (Exit.then x Q) env F := ⟨h.out⟩
theorem GEI.thenR {x : Act → World → Prop} (h : GEI n ds .ret Q env F) : GEI n ds .ret (Exit.then x Q) env F := ⟨h.out⟩
theorem GEI.blockN {id : Nat} (h : GEI n ds .normal Q env F) : GEI n ds .normal (Exit.inBlock id Q) env F := ⟨h.out⟩
theorem GEI.blockR {id : Nat} (h : GEI n ds .ret Q env F) : GEI n ds .ret (Exit.inBlock id Q) env F := ⟨h.out⟩
theorem GEI.blockE {id : Nat} (h : GEI n ds .normal Q env F) : GEI n ds (.exit id) (Exit.inBlock id Q) env F := ⟨fun a w hf hw => by
  show (if id = id then Q .normal a w else _); rw [if_pos rfl]; exact h.out a w hf hw⟩
/-- A region with a call of yield in it. -/
theorem G.regionI {id : Nat} {l : List Oper} (h : GLI Fence.wide P n [] l.toArray Q l env F) : G P n (.region id l.toArray false) Q env F := .mk fun a w hf hw =>
  wpIn_wide.1 (wpIn_region_lit (h.out a w hf.x hw))
theorem GLI.imp {F' : List HProp} (h : GLI Fc P n ds ops Q rest env F') (hi : ∀ w, holds w F → holds w F') : GLI Fc P n ds ops Q rest env F := ⟨fun a w hf hw => h.out a w hf (hi w hw)⟩
theorem GEI.imp {e : Exit} {F' : List HProp} (h : GEI n ds e Q env F') (hi : ∀ w, holds w F → holds w F') : GEI n ds e Q env F := ⟨fun a w hf hw => h.out a w hf (hi w hw)⟩
theorem GI.case {c : Code} {α : Sort _} {F' : α → List HProp} (h : ∀ x, GI Fc P n ds c Q env (F' x)) (hi : ∀ w, holds w F → ∃ x, holds w (F' x)) : GI Fc P n ds c Q env F := ⟨fun a w hf hw => let ⟨x, hx⟩ := hi w hw; (h x).out a w hf hx⟩
theorem GEI.case {e : Exit} {α : Sort _} {F' : α → List HProp} (h : ∀ x, GEI n ds e Q env (F' x)) (hi : ∀ w, holds w F → ∃ x, holds w (F' x)) : GEI n ds e Q env F := ⟨fun a w hf hw => let ⟨x, hx⟩ := hi w hw; (h x).out a w hf hx⟩
theorem GI.absurd {c : Code} (h : ∀ w, ¬ holds w F) : GI Fc P n ds c Q env F := ⟨fun a w hf hw => (h w hw).elim⟩
theorem holds.no {w : World} {l : List HProp} (h : holds w ((fun _ => False) :: l)) : False := by
  obtain ⟨f, _, f1, f2, h1, _⟩ := h
  exact h1
end
/-- A call of yield, and what comes of it. -/
structure Yt (P : Program) (l : Nat) (args : Array Value) (w : World) (R : Ending → World → Prop) : Prop where
  out : YieldAt Fence.wide 4 P l args w R
section
variable {P : Program} {n : Nat} {ds : List Deferred} {Q : Exit → Act → World → Prop} {env : Env} {F : List HProp} {ops : Array Oper} {rest : List Oper} {d : Tmp} {ty : TypeId} {pos : String} {aft : Array Edge}
/-- An operation under a guard that is so. -/
theorem GLI.guardY {Fc : Fence} {op : Op} {dst : Option Tmp} {j : Nat} {want : Bool} {dj : Tmp} (hj : (ops[j]?).bind (·.dst) = some dj) (hb : look env dj = some (.bool want)) (h : GLI Fc P n ds ops Q (⟨dst, op, ty, pos, aft, none⟩ :: rest) env F) :
    GLI Fc P n ds ops Q (⟨dst, op, ty, pos, aft, some (j, want)⟩ :: rest) env F := ⟨fun a w hf hw => by
  have h1 := h.out a w hf hw
  have hyl : yielded ops a.tmps j = some want := by
    have := hf.at_ _ _ hb
    unfold yielded; rw [hj, Option.bind_some, this]
  unfold wpListIn at h1 ⊢
  simp only [Region.wanted, hyl, beq_self_eq_true, if_true] at h1 ⊢
  exact h1⟩
/-- The call of yield, in the iterator. -/
theorem GLI.yield {l : Nat} {x : Operand} {xs : List Operand} {ts : Array TypeId} {vs : List Value} {α : Sort _} {v : α → Value} {F' : α → List HProp} (hx : opnd env x = some (.func (.yield l) #[] #[])) (hxs : opnds env xs = some vs) (hd : Nat.blt d n = true)
    (hY : ∀ w, holds w F → Yt P l vs.toArray w fun e w' => ∃ y, e = .returned (v y) ∧ holds w' (F' y)) (h : ∀ y, GLI Fence.wide P n ds ops Q rest ((d, v y) :: env) (F' y)) :
    GLI Fence.wide P n ds ops Q (⟨some d, .call { callee := .value x, args := xs.toArray, argTypes := ts }, ty, pos, aft, none⟩ :: rest) env F := ⟨fun a w hf hw => by
  obtain ⟨fn, tmps, assign, body, hy, hR⟩ := (hY w hw).out
  have hr : (execOp a.eval ⟨some d, .call { callee := .value x, args := xs.toArray, argTypes := ts }, ty, pos, aft, none⟩).run P w = .ok (.round l fn tmps assign body) w := by
    have hev := hf.eval hx
    have hes := hf.bare.evals hxs
    have hes' : xs.map a.eval = vs := hes
    simp [execOp, resolve, Deferred.ofValue, invoke, hev, hes', Result.andThen]
    simpa using hy
  unfold wpListIn
  rw [if_pos (by simp [Region.wanted])]
  refine ⟨fun f _ => trivial, ?_⟩
  rw [Oper.semAt_eq _ _ _ (by intro c h; cases h), hr]
  refine ⟨(fun h => by cases h), hR.mono fun e w' h2 => ?_⟩
  obtain ⟨y, rfl, hh⟩ := h2
  exact (h y).out _ _ (hf.put hd _) hh⟩
/-! ### The statement -/
def putsEnv : List Tmp → List Value → Env → Env
  | p :: ps, v :: vs, env => putsEnv ps vs ((p, v) :: env)
  | _, _, env => env
theorem puts_fits {n : Nat} {ds : List Deferred} : ∀ (ps : List Tmp) (vs : List Value) (env : Env) (a : Act), FitsX n ds a env → ps.all (Nat.blt · n) = true →
    FitsX n ds ⟨(ps.zip vs).foldl (fun t (p, v) => t.setIfInBounds p v) a.tmps, ds⟩ (putsEnv ps vs env)
  | [], _, _, a, h, _ => ⟨h.size, rfl, h.at_⟩
  | _ :: _, [], _, a, h, _ => ⟨h.size, rfl, h.at_⟩
  | p :: ps, v :: vs, env, a, h, hp => by
    simp only [List.all_cons, Bool.and_eq_true] at hp
    have := puts_fits ps vs _ _ (h.put hp.1 v) hp.2
    simpa [putsEnv, Act.put] using this
theorem wide_any {n m : Nat} {l : Nat} {P : Program} {c : Code} {Q : Exit → Act → World → Prop} {a : Act} {w : World} (h : c.wpIn (Fence.wide.inRound l) n P Q a w) : c.wpIn (Fence.wide.inRound l) m P Q a w :=
  fun b k cs hro hb _ => h b k cs hro hb (room_wide _)
/-- What a round leaves. -/
def RQ (jump : Code) (X Y : List HProp) : Exit → Act → World → Prop
  | .normal, _, w => holds w X
  | .ret, _, w => jump = .ret ∧ holds w Y
  | .exit id, _, w => jump = .exit id ∧ holds w Y
  | .goto t, _, w => jump = .goto t ∧ holds w Y
  | .panic _, _, _ => False
  | .outgrown, _, _ => False
theorem GEI.roundN {n : Nat} {ds : List Deferred} {env : Env} {F : List HProp} {jump : Code} {X Y : List HProp} (h : ∀ w, holds w F → holds w X) : GEI n ds .normal (RQ jump X Y) env F := ⟨fun a w _ hw => h w hw⟩
/-- What an iterator does: it yields the members of L in order, as long as it is told to go on; M: the state that both see, by how many are yielded. -/
structure Seq {α : Type} (P : Program) (gf : Nat) (lb : Array Value) (encs : α → List Value) (L : List α) (M : Bool → Nat → List HProp) (F F' : List HProp) : Prop where
  out : ∀ (l : Nat) (J : Bool → Nat → HProp) (w : World),
    (∀ (k : Nat) (x : α) (A : List HProp) (w1 : World), L[k]? = some x → holds w1 (J true k :: (M true (k + 1) ++ A)) → Yt P l (encs x).toArray w1 fun e w' => ∃ y : Bool, e = .returned (.bool y) ∧ holds w' (J y (k + 1) :: (M y (k + 1) ++ A))) →
    holds w (J true 0 :: (M true 0 ++ F)) → Ct P gf (#[.func (.yield l) #[] #[]] ++ lb) w fun e w' => ∃ v, e = .returned v ∧ ∃ y k, (y = true → k = L.length) ∧ (y = false → 0 < k ∧ k ≤ L.length) ∧ holds w' (J y k :: (M y k ++ F'))
def mark (D : Nat) : Deferred := { target := .collected D, args := #[] }
theorem holds.putObj {w : World} {l : List HProp} {b : Nat} {o : Obj} (o' : Obj) (h : holds w (blk b o :: l)) : holds (w.putObj b o') (blk b o' :: l) := h.turn (grownBy_putObj' w b o') (World.putObj_heap_same h.lt)
section
variable {P : Program} {n : Nat} {Q : Exit → Act → World → Prop} {env : Env}
theorem G.rangeFunc {α : Type} {g : Operand} {ps : List Tmp} {assign body : Code} {gf : Nat} {lb : Array Value} {encs : α → List Value} {L : List α} {M : Bool → Nat → List HProp} {F0 F F' : List HProp} (jump : Code) (I : Bool → Nat → List HProp) (E : α → Env)
    (hg : opnd env g = some (.func (.func gf) #[] lb)) (eg : ∀ args w, (callFunc gf args).run P w = .ok (.enter gf args) w) (hseq : Seq P gf lb encs L M F F')
    (hps : ∀ x, Nat.beq (encs x).length ps.length = true) (hlt : ps.all (Nat.blt · n) = true)
    (hassign : ∀ (l k : Nat) (x : α) (Q' : Exit → Act → World → Prop) (A : List HProp), L[k]? = some x → GEI n [] .normal Q' (E x) A → GI (Fence.wide.inRound l) P n [] assign Q' (putsEnv ps (encs x) env) A)
    (h0 : ∀ w, holds w F0 → holds w (I true 0 ++ (M true 0 ++ F)))
    (hbody : ∀ (l k : Nat) (x : α) (A : List HProp), L[k]? = some x → GI (Fence.wide.inRound l) P n [] body (RQ jump (I true (k + 1) ++ (M true (k + 1) ++ A)) (I false (k + 1) ++ (M false (k + 1) ++ A))) (E x) (I true k ++ (M true (k + 1) ++ A)))
    (hdone : ∀ D, GEI n [mark D] .normal Q env (I true L.length ++ (M true L.length ++ (F' ++ [blk D (.deferred (some []))]))))
    (hstop : ∀ D k, 0 < k → k ≤ L.length → GI Fence.wide P n [mark D] jump Q env (I false k ++ (M false k ++ (F' ++ [blk D (.deferred (some []))])))) : G P n (.rangeFunc g ps.toArray assign body) Q env F0 := .mk fun a w hf hw => by
  have hw := h0 w hw
  refine (wpIn_wide (n := 5)).1 (wpIn_rangeFunc fun fn _ => ?_)
  obtain ⟨rec, hrec⟩ : ∃ rec : LoopState → Option Code → Loop, rec = fun st pe => { state := st, pending := pe, fn, tmps := a.tmps, params := ps.toArray, assign, body, defers := w.heap.size } := ⟨_, rfl⟩
  obtain ⟨W1, hW1⟩ : ∃ W1, W1 = (w.alloc (.deferred (some []))).alloc (.loop (rec .ready none)) := ⟨_, rfl⟩
  have hW : holds W1 (blk (w.heap.size + 1) (.loop (rec .ready none)) :: blk w.heap.size (.deferred (some [])) :: (I true 0 ++ (M true 0 ++ F))) := by
    have := (hw.alloc (.deferred (some []))).alloc (.loop (rec .ready none))
    rw [World.size_alloc] at this
    rw [hW1]; exact this
  refine ⟨w.heap.size + 1, [mark w.heap.size], W1, { target := .fn (.func gf) lb, args := #[.func (.yield (w.heap.size + 1)) #[] #[]] }, W1, gf, #[.func (.yield (w.heap.size + 1)) #[] #[]] ++ lb, W1, ?_, ?_, fun _ _ => trivial, ?_, (fun h => by cases h), ?_⟩
  · rw [hW1, hrec]; exact run_enterLoop_outer _ _ _ _ _
  · simp only [resolve, hf.eval hg]
    simp [go_sem]
  · simp [invoke, go_sem, eg]
  clear hW1
  generalize w.heap.size = D at hW hrec ⊢
  obtain ⟨J, hJ⟩ : ∃ J : Bool → Nat → HProp, J = fun y k => sep (blk (D + 1) (.loop (rec (if y then .ready else .done) (if y then none else some jump))) :: blk D (.deferred (some [])) :: I y k) := ⟨_, rfl⟩
  refine callsIn_wide.2 (Calls.mono (hseq.out (D + 1) J W1 ?_ ?_).out ?_)
  rotate_left 2
  · rintro e w' ⟨v, rfl, y, k, h1, h2, h3⟩
    rw [hJ] at h3
    have h3 := holds_sep.1 h3
    have hl := h3.get_blk
    have he := run_endLoop (P := P) hl (by rw [hrec]; cases y <;> simp)
    have h4 : holds (w'.putObj (D + 1) (.loop { rec (if y then .ready else .done) (if y then none else some jump) with state := .exhausted })) (I y k ++ (M y k ++ (F' ++ [blk D (.deferred (some []))]))) := by
      have := (h3.putObj (.loop { rec (if y then .ready else .done) (if y then none else some jump) with state := .exhausted })).tail
      refine this.perm ?_
      refine (List.perm_append_singleton _ _).symm.trans ?_
      simp [List.append_assoc]
    have hfx : FitsX n [mark D] { a with defers := [mark D] ++ a.defers } env := ⟨hf.size, by rw [hf.defs]; rfl, hf.at_⟩
    cases y with
    | true =>
      obtain rfl := h1 rfl
      refine ⟨none, _, by rw [he, hrec]; rfl, (hdone D).out _ _ hfx h4⟩
    | false =>
      refine ⟨some jump, _, by rw [he, hrec]; rfl, (hstop D k (h2 rfl).1 (h2 rfl).2).out _ _ hfx h4⟩
  · intro k x A w1 hx hw1
    rw [hJ] at hw1
    have hw1 := holds_sep.1 hw1
    have hl := hw1.get_blk
    refine ⟨?_⟩
    have hy := run_yield (P := P) (args := (encs x).toArray) hl (by rw [hrec]; simpa using hps x)
    rw [hrec] at hy
    refine ⟨fn, _, assign, body, hy, roundIn_of_wpIn trivial (wide_any (n := 5) ((hassign (D + 1) k x _ _ hx ⟨fun a1 w1 hf1 hh => ?_⟩).out _ w1 ?_ hw1))⟩
    · have hl1 := hh.get_blk
      refine ⟨_, run_beginRound hl1 (by rw [hrec]; rfl), ?_⟩
      have hb := hh.putObj (.loop { rec .ready none with state := .busy })
      have hbody' := (hbody (D + 1) k x (blk (D + 1) (.loop { rec .ready none with state := .busy }) :: blk D (.deferred (some [])) :: A) hx).out a1 _ hf1 (hb.perm ?_)
      · refine wide_any (n := 5) (Code.wpIn_mono (fun e a3 w3 hq => ?_) hbody')
        have fin : ∀ (y : Bool) (jmp : Option Code), jmp = (if y then none else some jump) → holds w3 (I y (k + 1) ++ (M y (k + 1) ++ (blk (D + 1) (.loop { rec .ready none with state := .busy }) :: blk D (.deferred (some [])) :: A))) →
            ∃ v w', (Instr.endRound (D + 1) jmp).run P w3 = .ok v w' ∧ ∃ y : Bool, Ending.returned v = .returned (.bool y) ∧ holds w' (J y (k + 1) :: (M y (k + 1) ++ A)) := by
          intro y jmp hj hq
          have hq2 : holds w3 (blk (D + 1) (.loop { rec .ready none with state := .busy }) :: blk D (.deferred (some [])) :: (I y (k + 1) ++ (M y (k + 1) ++ A))) := by
            refine hq.perm ?_
            refine (List.Perm.append_left _ (List.perm_middle.trans (List.Perm.cons _ List.perm_middle))).trans ?_
            exact List.perm_middle.trans (List.Perm.cons _ List.perm_middle)
          refine ⟨_, _, run_endRound jmp hq2.get_blk, y, by subst hj; cases y <;> rfl, ?_⟩
          rw [hJ]
          refine holds_sep.2 ?_
          have := hq2.putObj (.loop { ({ rec .ready none with state := .busy } : Loop) with state := if jmp.isNone then .ready else .done, pending := jmp })
          subst hj
          rw [hrec] at this ⊢
          cases y <;> exact this
        cases e with
        | normal => exact fin true none rfl hq
        | ret => obtain ⟨rfl, hq⟩ := hq; exact fin false _ rfl hq
        | exit id => obtain ⟨rfl, hq⟩ := hq; exact fin false _ rfl hq
        | goto t => obtain ⟨rfl, hq⟩ := hq; exact fin false _ rfl hq
        | panic ch => exact hq.elim
        | outgrown => exact hq.elim
      · simp only [List.cons_append]
        refine (List.Perm.symm ?_)
        refine (List.Perm.append_left _ (List.perm_middle.trans (List.Perm.cons _ List.perm_middle))).trans ?_
        exact List.perm_middle.trans (List.Perm.cons _ List.perm_middle)
    · have := puts_fits ps (encs x) env ⟨a.tmps, []⟩ ⟨hf.size, rfl, hf.at_⟩ hlt
      simpa using this
  · rw [hJ]; exact holds_sep.2 hW
/-- Behind the statement: the walk goes on as GI. -/
theorem GEI.thenW {ds : List Deferred} {F : List HProp} {y : Code} (h : GI Fence.wide P n ds y Q env F) : GEI n ds .normal (Exit.then (fun a w => y.wp P Q a w) Q) env F := ⟨fun a w hf hw => (wpIn_wide (n := 5)).1 (h.out a w hf hw)⟩
theorem GEI.of {e : Exit} {F : List HProp} (h : GE n e Q env F) : GEI n [] e Q env F := ⟨fun a w hf hw => h.out a w hf.bare' hw⟩
/-- A call of a function with such a statement begins. -/
theorem Ct.goM {F : List HProp} {f : FuncId} {fn : Func} {c : Code} {args : List Value} {w : World} {R : Ending → World → Prop} (hf : P.funcs[f]? = some fn) (hb : fn.body = some c) (hn : fn.ntmps = n) (hargs : Nat.ble args.length n = true) (hw : holds w F)
    (h : G P n c (bodyPostM Fence.wide 5 P fn R) (env0 0 args) F) : Ct P f args.toArray w R := ⟨by
  have hle : args.length ≤ n := by simpa using hargs
  refine callsIn_wide.1 (callsIn_of_wp_marks (n := 5) hf hb trivial ((wpIn_wide (n := 5)).2 (h.out _ w ⟨?_, rfl, fun k v hk => ?_⟩ hw)))
  · simp [hn]; omega
  · obtain ⟨_, h2⟩ := look_env0 args 0 k v hk
    rw [Nat.sub_zero] at h2
    have hlt : k < args.length := (List.getElem?_eq_some_iff.1 h2).1
    have h3 : args[k] = v := by have := List.getElem?_eq_getElem hlt; rw [h2] at this; exact (Option.some.inj this).symm
    simp [Array.getElem?_append, hlt, h3]⟩
def resV : List Value → Value
  | [v] => v
  | l => .tuple l.toArray
theorem resV_eq (vs : List Value) : (if h : vs.toArray.size = 1 then vs.toArray[0] else .tuple vs.toArray) = resV vs := by
  match vs with
  | [] => rfl
  | [v] => rfl
  | v :: u :: l => simp [resV]
/-- Such a function's end, ahead of the statement or with its mark. -/
theorem GE.resM {F : List HProp} {rs : List ResultVar} {vs : List Value} {fn : Func} {R : Ending → World → Prop} {e : Exit} (he : e = .ret ∨ e = .normal) (hr : fn.results = rs.toArray) (h : Res P n env F rs vs) (hR : ∀ w, holds w F → R (.returned (resV vs)) w) : GE n e (bodyPostM Fence.wide 5 P fn R) env F := .mk fun a w hf hw => by
  have h1 := h.run hr hf hw
  have : LeavesInM Fence.wide 5 P fn a.tmps R a.defers .returning w := by
    rw [hf.defs]
    exact ⟨_, h1, by rw [resV_eq]; exact hR w hw⟩
  rcases he with rfl | rfl <;> exact this
theorem GEI.resM {F F1 : List HProp} {rs : List ResultVar} {vs : List Value} {fn : Func} {R : Ending → World → Prop} {D : Nat} {e : Exit} (he : e = .ret ∨ e = .normal) (hr : fn.results = rs.toArray) (hD : ∀ w, holds w F → holds w (blk D (.deferred (some [])) :: F1)) (h : Res P n env F1 rs vs) (hR : ∀ w, holds w F1 → R (.returned (resV vs)) w) : GEI n [mark D] e (bodyPostM Fence.wide 5 P fn R) env F := ⟨fun a w hf hw => by
  have hw1 := hD w hw
  have hw2 := (hw1.putObj (.deferred none)).tail
  have h1 := h.run hr hf.bare hw2
  have : LeavesInM Fence.wide 5 P fn a.tmps R a.defers .returning w := by
    rw [hf.defs]
    refine ⟨by simp, .inl ⟨D, _, rfl, run_takeDeferred hw1.get_blk, _, h1, by rw [resV_eq]; exact hR _ hw2⟩⟩
  rcases he with rfl | rfl <;> exact this⟩
end
end
end Go.Proofs.YtipkgamiejenaaaGreat
