import Derived.Test.YtipkgamiejenaaaGreatRcI
import Derived.Test.YtipkgamiejenaaaGreatMg24
import Derived.Test.YtipkgamiejenaaaGreatMg19
import Derived.Test.YtipkgamiejenaaaGreatMg7
import Derived.Test.YtipkgamiejenaaaGreatMg12
import Derived.Test.YtipkgamiejenaaaGreatMg17
import Derived.Test.YtipkgamiejenaaaGreatMg5
/- A reclaiming stays right behind a tick; the chapter's example. -/
namespace Go.Proofs.YtipkgamiejenaaaGreat
open Go Go.RowKit Go.MapKept
set_option linter.unusedVariables false
set_option linter.unusedSectionVars false
set_option linter.unusedSimpArgs false
set_option maxRecDepth 100000
set_option maxHeartbeats 4000000
namespace Rc
theorem Ok.tick {m : S} {K : Nat} (h : Ok m K) (p : List Int) (hp : p.length ≤ 64) : Ok (tick m p) (K + 1 + 2 * m.line.length) := by
  obtain ⟨a, b, c, d⟩ := drain_inv m.q.toNat m.t m.line K h.inv h.wt
  have ht : (m.line.take m.q.toNat).length ≤ m.line.length := by rw [List.length_take]; omega
  have hl := lev_in h
  refine ⟨a.mono (by omega), b, h.q, h.low, ?_, fun x hx => ?_, fun x hx => ?_, ?_, ?_⟩
  · show (Tr.ask _ p).length = 64
    unfold Tr.ask
    rw [List.length_append, Tr.spread_len, List.length_replicate]; omega
  · change x ∈ Tr.spread _ p ++ List.replicate _ 0 at hx
    rcases List.mem_append.1 hx with hx | hx
    · refine Tr.spread_b p _ ?_ x hx
      have := h.low
      unfold Tr.I64 Wm.lack; dsimp only; split <;> omega
    · have := (List.mem_replicate.1 hx).2; omega
  · change x ∈ m.lv ++ [lev m] at hx
    rcases List.mem_append.1 hx with hx | hx
    · exact h.lv x hx
    · simp at hx; subst hx; exact hl
  · show (m.lv ++ [lev m]).length ≤ _
    have := h.ll
    simp; omega
  · have := h.fr
    show 0 ≤ m.fr + ((m.line.take m.q.toNat).length : Nat) ∧ m.fr + ((m.line.take m.q.toNat).length : Nat) ≤ ((K + 1 + 2 * m.line.length : Nat) : Int)
    omega
theorem Ok.new {t : St.S} {K : Nat} (hI : St.Inv t K) {q low : Int} (hq : 1 ≤ q ∧ q ≤ 1048576) (hl : 0 ≤ low ∧ low ≤ 1048576) : Ok ⟨t, q, low, [], List.replicate 64 0, [], 0⟩ K :=
  ⟨hI, ⟨by simp, by simp⟩, hq, hl, by simp, fun x hx => by have := (List.mem_replicate.1 hx).2; omega, by simp, by simp, by simp⟩
theorem Ok.take {m : S} {K : Nat} (h : Ok m K) (ow : Int) : Ok { m with t := (St.take m.t ow).1 } (K + 1) := by
  refine ⟨h.inv.take ow, ⟨h.wt.nd, fun x hx => ?_⟩, h.q, h.low, h.wl, h.wb, h.lv, by have := h.ll; dsimp only; omega, by have := h.fr; dsimp only; omega⟩
  obtain ⟨k, rfl, hk, hp⟩ := h.wt.ph x hx
  dsimp only
  unfold St.take
  split
  · exact ⟨k, rfl, hk, hp⟩
  · split
    · exact ⟨k, rfl, hk, hp⟩
    · rename_i i hi
      have him : i ∈ m.t.stack := List.mem_of_getLast? hi
      obtain ⟨j, hj, rfl, hp0⟩ := (h.inv.free i).1 him
      have hjk : k ≠ j := fun e => by subst e; rw [m.t.c_eq k hk] at hp; omega
      refine ⟨k, rfl, by simpa using hk, ?_⟩
      unfold St.S.c at hp ⊢
      dsimp only
      rw [Int.toNat_natCast] at hp
      rw [Int.toNat_natCast, St.getD_set _ _ _ _ _ hj, Int.toNat_natCast, if_neg hjk]
      exact hp
end Rc
namespace Wk
def t1 : St.S := (St.take (St.new 4 64) 1).1
def t2 : St.S := (St.take t1 1).1
def t3 : St.S := (St.take t2 1).1
def m0 : Rc.S := ⟨t3, 2, 4, [], List.replicate 64 0, [], 0⟩
def m1 : Rc.S := (Rc.put m0 2 1).1
def m2 : Rc.S := (Rc.put m1 0 1).1
def m3 : Rc.S := (Rc.put m2 1 1).1
def m4 : Rc.S := Rc.tick m3 [9]
def m5 : Rc.S := Rc.tick m4 []
theorem e1 : (Rc.put m0 2 1).2 = 0 := by decide +kernel
theorem e2 : (Rc.put m1 0 1).2 = 0 := by decide +kernel
theorem e3 : (Rc.put m2 1 1).2 = 0 := by decide +kernel
theorem e4 : (St.give m3.t 1 1).2 = 18 := by decide +kernel
theorem e5 : m3.line = [2, 0, 1] := by decide +kernel
theorem e6 : m4.line = [1] := by decide +kernel
theorem e7 : m5.fr = 3 := by decide +kernel
theorem e8 : m5.lv = [3, 4] := by decide +kernel
theorem e9 : m5.low = 4 := by decide +kernel
theorem e10 : m3.q = 2 ∧ m4.q = 2 := by decide +kernel
theorem i0 : St.Inv (St.new 4 64) 0 := St.Inv.new 4 64 (by omega) (by omega)
theorem i1 : St.Inv t1 1 := i0.take 1
theorem i2 : St.Inv t2 2 := i1.take 1
theorem i3 : St.Inv t3 3 := i2.take 1
theorem o0 : Rc.Ok m0 3 := Rc.Ok.new i3 (by omega) (by omega)
theorem o1 : Rc.Ok m1 4 := o0.put 2 1
theorem o2 : Rc.Ok m2 5 := o1.put 0 1
theorem o3 : Rc.Ok m3 6 := o2.put 1 1
theorem p4 : Rc.put m3 1 1 = (m3, 18) := by unfold Rc.put; rw [if_neg (by rw [e4]; decide), e4]
theorem o4 : Rc.Ok m4 13 := by have := o3.tick [9] (by simp); rw [e5] at this; exact this
theorem o5 : Rc.Ok m5 16 := by have := o4.tick [] (by simp); rw [e6] at this; exact this
end Wk
end Go.Proofs.YtipkgamiejenaaaGreat

/- Law 25: the chapter's example; ReclaimNone. -/
namespace Go.Proofs.YtipkgamiejenaaaGreat
open Go Go.RowKit Go.MapKept
set_option linter.unusedVariables false
set_option linter.unusedSectionVars false
set_option linter.unusedSimpArgs false
set_option maxRecDepth 100000
set_option maxHeartbeats 4000000
theorem wk_Take (sb : Nat) (t : St.S) (K : Nat) (hI : St.Inv t K) (hK : K ≤ 100) (r : Int × Int) (hr : (St.take t 1).2 = r) (w : World) (F : List HProp) (hw : holds w (storeP sb t :: F)) :
    Ct Tryz.prog 25 #[.pointer (some ⟨sb, 0, none⟩), .int .i64 1] w fun e w' => e = .returned (.tuple #[.int .i64 r.1, .int .i64 r.2]) ∧ holds w' (storeP sb (St.take t 1).1 :: F) := by
  have := store_Take sb t K hI (by omega) 1 w F hw
  rw [← hr]; exact this
theorem wk_Put (rb sb : Nat) (m m' : Rc.S) (K : Nat) (hO : Rc.Ok m K) (hK : K ≤ 100) (i e : Int) (hm : Rc.put m i 1 = (m', e)) (t t' : St.S) (ht : m.t = t) (ht' : m'.t = t') (w : World) (F : List HProp) (hw : holds w (recP rb sb m K :: storeP sb t :: F)) :
    Ct Tryz.prog 40 #[.pointer (some ⟨rb, 0, none⟩), .int .i64 i, .int .i64 1] w fun x w' => x = .returned (.int .i64 e) ∧ holds w' (recP rb sb m' (K + 1) :: storeP sb t' :: F) := by
  subst ht ht'
  have := rec_Put rb sb m K hO (by omega) i 1 w F hw
  rw [hm] at this; exact this
theorem wk_Ahead (rb sb : Nat) (w : World) (F : List HProp) (hw : holds w (recP rb sb Wk.m3 7 :: F)) :
    Ct Tryz.prog 42 #[.pointer (some ⟨rb, 0, none⟩), .int .i64 1] w fun e w' => e = .returned (.int .i64 2) ∧ holds w' (recP rb sb Wk.m3 7 :: F) := by
  have := rec_Ahead rb sb Wk.m3 7 (Wk.o3.more (by omega)) (by omega) 1 w F hw
  rw [Wk.e5] at this; exact this
theorem wk_Ints (v u : Value) (l : List Int) (hl : l.length ≤ 1048576) (w : World) (F : List HProp) [Reads F v encI1 1 l] [Reads F u encI1 1 l] (hw : holds w F) :
    Ct Tryz.prog 20 #[v, u] w fun e w' => e = .returned (.bool true) ∧ holds w' F := by
  have := st_Ints v u l l hl hl w F hw
  rw [decide_eq_true rfl] at this; exact this
theorem wk_Freed (rb sb : Nat) (w : World) (F : List HProp) (hw : holds w (recP rb sb Wk.m5 17 :: F)) :
    Ct Tryz.prog 55 #[.pointer (some ⟨rb, 0, none⟩)] w fun e w' => e = .returned (.int .i64 3) ∧ holds w' (recP rb sb Wk.m5 17 :: F) := by
  have := rec_Freed rb sb Wk.m5 17 (Wk.o5.more (by omega)) (by omega) w F hw
  rw [Wk.e7] at this; exact this
theorem wk_Ticks (rb sb : Nat) (w : World) (F : List HProp) (hw : holds w (recP rb sb Wk.m5 17 :: F)) :
    Ct Tryz.prog 54 #[.pointer (some ⟨rb, 0, none⟩)] w fun e w' => e = .returned (.int .i64 2) ∧ holds w' (recP rb sb Wk.m5 17 :: F) := by
  have := rec_Ticks rb sb Wk.m5 17 (Wk.o5.more (by omega)) (by omega) w F hw
  rw [Wk.e8] at this; exact this
theorem wk_Low (rb sb : Nat) (w : World) (F : List HProp) (hw : holds w (recP rb sb Wk.m5 17 :: F)) :
    Ct Tryz.prog 56 #[.pointer (some ⟨rb, 0, none⟩)] w fun e w' => e = .returned (.bool false) ∧ holds w' (recP rb sb Wk.m5 17 :: F) := by
  have := rec_Low rb sb Wk.m5 17 (Wk.o5.more (by omega)) (by omega) w F hw
  rw [Wk.e8, Wk.e9] at this; exact this
theorem wk_Tick (rb sb : Nat) (m : Rc.S) (K : Nat) (hO : Rc.Ok m K) (hK : K ≤ 100) (v : Value) (p : List Int) (hp : p.length ≤ 64) (l o : List Int) (hl : m.line = l) (ho : l.take m.q.toNat = o) (hll : l.length ≤ 10) (w : World) (F : List HProp) [Reads F v encI1 1 p] (hw : holds w (recP rb sb m K :: storeP sb m.t :: F)) :
    Ct Tryz.prog 44 #[.pointer (some ⟨rb, 0, none⟩), v] w fun e w' => ∃ u : Value, e = .returned (.tuple #[u, .int .i64 0]) ∧ holds w' (owns 3 encI1 1 u o :: recP rb sb (Rc.tick m p) (K + 1 + 2 * l.length) :: storeP sb (Rc.tick m p).t :: F) := by
  have := rec_Tick rb sb m K hO (by rw [hl]; omega) v p hp w F hw
  rw [hl, ho] at this; exact this
theorem wk_New (sb : Nat) (w : World) (F : List HProp) (hw : holds w (storeP sb Wk.t3 :: F)) :
    Ct Tryz.prog 38 #[.pointer (some ⟨sb, 0, none⟩), .int .i64 2, .int .i64 4] w fun e w' => ∃ rb : Nat, e = .returned (.tuple #[.pointer (some ⟨rb, 0, none⟩), .int .i64 0]) ∧ holds w' (recP rb sb Wk.m0 3 :: storeP sb Wk.t3 :: F) := rec_New sb Wk.t3 3 Wk.i3 (by omega) 2 4 (by omega) (by omega) w F hw
namespace Wk
theorem q1 : Rc.put m0 2 1 = (m1, 0) := Prod.ext rfl e1
theorem q2 : Rc.put m1 0 1 = (m2, 0) := Prod.ext rfl e2
theorem q3 : Rc.put m2 1 1 = (m3, 0) := Prod.ext rfl e3
end Wk
theorem law25_works (w : World) (F : List HProp) (hw : holds w F) :
    Ct Tryz.prog 46 #[] w fun e w' => e = .returned (.bool true) ∧ holds w' F := by
  refine Ct.go (args := []) Tryz.func46 rfl rfl rfl hw ?_
  repeat' (first | (first | (apply GL.isCall; refine GL.call rfl rfl (fun w h => store_Make 4 64 (by omega) (by omega) (by omega) (by omega) (by decide) w _ h) (fun sb => ?_)) | (apply GL.isCall; refine GL.callH1 (storeP sb (St.new 4 64)) (vs := [.pointer (some ⟨sb, 0, none⟩), .int .i64 1]) rfl rfl (fun w h => wk_Take sb (St.new 4 64) 0 Wk.i0 (by omega) (0, 0) (by decide +kernel) w _ h) ?_) | (apply GL.isCall; refine GL.callH1 (storeP sb (St.take (St.new 4 64) 1).1) (vs := [.pointer (some ⟨sb, 0, none⟩), .int .i64 1]) rfl rfl (fun w h => wk_Take sb Wk.t1 1 Wk.i1 (by omega) (1, 0) (by decide +kernel) w _ h) ?_) | (apply GL.isCall; refine GL.callH1 (storeP sb (St.take Wk.t1 1).1) (vs := [.pointer (some ⟨sb, 0, none⟩), .int .i64 1]) rfl rfl (fun w h => wk_Take sb Wk.t2 2 Wk.i2 (by omega) (2, 0) (by decide +kernel) w _ h) ?_) | (apply GL.isCall; refine GL.callH (storeP sb (St.take Wk.t2 1).1) (vs := [.pointer (some ⟨sb, 0, none⟩), .int .i64 2, .int .i64 4]) rfl rfl (fun w h => wk_New sb w _ h) (fun rb => ?_)) | (apply GL.isCall; refine GL.callHH1 (recP rb sb Wk.m0 3) (storeP sb Wk.t3) (vs := [.pointer (some ⟨rb, 0, none⟩), .int .i64 2, .int .i64 1]) rfl rfl (fun w h => wk_Put rb sb Wk.m0 Wk.m1 3 Wk.o0 (by omega) 2 0 Wk.q1 Wk.t3 Wk.m1.t rfl rfl w _ h) ?_) | (apply GL.isCall; refine GL.callHH1 (recP rb sb Wk.m1 (3 + 1)) (storeP sb Wk.m1.t) (vs := [.pointer (some ⟨rb, 0, none⟩), .int .i64 0, .int .i64 1]) rfl rfl (fun w h => wk_Put rb sb Wk.m1 Wk.m2 (3 + 1) Wk.o1 (by omega) 0 0 Wk.q2 Wk.m1.t Wk.m2.t rfl rfl w _ h) ?_) | (apply GL.isCall; refine GL.callHH1 (recP rb sb Wk.m2 (3 + 1 + 1)) (storeP sb Wk.m2.t) (vs := [.pointer (some ⟨rb, 0, none⟩), .int .i64 1, .int .i64 1]) rfl rfl (fun w h => wk_Put rb sb Wk.m2 Wk.m3 (3 + 1 + 1) Wk.o2 (by omega) 1 0 Wk.q3 Wk.m2.t Wk.m3.t rfl rfl w _ h) ?_) | (apply GL.isCall; refine GL.callHH1 (recP rb sb Wk.m3 (3 + 1 + 1 + 1)) (storeP sb Wk.m3.t) (vs := [.pointer (some ⟨rb, 0, none⟩), .int .i64 1, .int .i64 1]) rfl rfl (fun w h => wk_Put rb sb Wk.m3 Wk.m3 (3 + 1 + 1 + 1) Wk.o3 (by omega) 1 18 Wk.p4 Wk.m3.t Wk.m3.t rfl rfl w _ h) ?_) | (apply GL.isCall; refine GL.callH1 (recP rb sb Wk.m3 (3 + 1 + 1 + 1 + 1)) (vs := [.pointer (some ⟨rb, 0, none⟩), .int .i64 1]) rfl rfl (fun w h => wk_Ahead rb sb w _ h) ?_) | (apply GL.isAny; refine GL.buildR (enc := encI1) [(9 : Int)] (parts := [(0, .const (.int .i64 9))]) rfl rfl rfl rfl rfl (fun l hl => match l, hl with | [_], _ => rfl) rfl (fun g0 => ?_)) | (apply GL.isCall; refine GL.callHH (recP rb sb Wk.m3 (3 + 1 + 1 + 1 + 1)) (storeP sb Wk.m3.t) (vs := [.pointer (some ⟨rb, 0, none⟩), .slice (some ⟨g0, 0, none⟩) 1 1]) rfl rfl (fun w h => wk_Tick rb sb Wk.m3 (3 + 1 + 1 + 1 + 1) (Wk.o3.more (by omega)) (by omega) _ [9] (by simp) [2, 0, 1] [2, 0] Wk.e5 (by rw [Wk.e10.1]; rfl) (by simp) w _ h) (fun u1 => ?_)) | (refine G.isRegion 8 ?_; refine G.nilOwn 3 encI1 1 ?_; apply G.region) | (apply GL.isCall; refine GL.callHH (recP rb sb (Rc.tick Wk.m3 [9]) (3 + 1 + 1 + 1 + 1 + 1 + 2 * [(2 : Int), 0, 1].length)) (storeP sb (Rc.tick Wk.m3 [9]).t) (vs := [.pointer (some ⟨rb, 0, none⟩), .slice none 0 0]) rfl rfl (fun w h => wk_Tick rb sb Wk.m4 14 (Wk.o4.more (by omega)) (by omega) _ [] (by simp) [1] [1] Wk.e6 (by rw [Wk.e10.2]; rfl) (by simp) w _ h) (fun u2 => ?_)) | (apply GL.isAny; refine GL.buildR (enc := encI1) [(2 : Int), 0] (parts := [(0, .const (.int .i64 2)), (1, .const (.int .i64 0))]) rfl rfl rfl rfl rfl (fun l hl => match l, hl with | [_, _], _ => rfl) rfl (fun g1 => ?_)) | (apply GL.isAny; refine GL.buildR (enc := encI1) [(1 : Int)] (parts := [(0, .const (.int .i64 1))]) rfl rfl rfl rfl rfl (fun l hl => match l, hl with | [_], _ => rfl) rfl (fun g2 => ?_)) | (apply GL.isCall; refine GL.call1 (vs := [u1, .slice (some ⟨g1, 0, none⟩) 2 2]) rfl rfl (fun w h => wk_Ints u1 _ [2, 0] (by simp) w _ h) ?_) | (apply GL.isCall; refine GL.call1 (vs := [u2, .slice (some ⟨g2, 0, none⟩) 1 1]) rfl rfl (fun w h => wk_Ints u2 _ [1] (by simp) w _ h) ?_) | (apply GL.isCall; refine GL.callH1 (recP rb sb (Rc.tick Wk.m4 []) (14 + 1 + 2 * [(1 : Int)].length)) (vs := [.pointer (some ⟨rb, 0, none⟩)]) rfl rfl (fun w h => wk_Freed rb sb w _ h) ?_) | (apply GL.isCall; refine GL.callH1 (recP rb sb Wk.m5 17) (vs := [.pointer (some ⟨rb, 0, none⟩)]) rfl rfl (fun w h => wk_Ticks rb sb w _ h) ?_) | (apply GL.isCall; refine GL.callH1 (recP rb sb Wk.m5 17) (vs := [.pointer (some ⟨rb, 0, none⟩)]) rfl rfl (fun w h => wk_Low rb sb w _ h) ?_)) | first | (apply GL.isAny; first | refine GL.runA rfl ?_ | (apply GL.isStore; first | refine GL.storeBlk rfl rfl rfl rfl rfl ?_ | refine GL.storeWhole rfl rfl rfl rfl rfl ?_ | refine GL.storeBlkA rfl rfl rfl rfl rfl ?_) | refine GL.guardY rfl rfl ?_ | refine GL.guardN rfl rfl rfl ?_ | refine GL.guardU rfl rfl rfl ?_ | (apply GL.isBox; first | refine GL.boxA rfl rfl (fun _ => ?_) | refine GL.box1 rfl rfl rfl (fun _ => ?_) | refine GL.box rfl rfl (fun _ => ?_)) | (apply GL.isBuildS; first | refine GL.buildSlice1A rfl rfl rfl rfl rfl (fun _ => ?_) | refine GL.buildSlice1 rfl rfl rfl rfl rfl (fun _ => ?_)) | (apply GL.isCall; refine GL.append1 _ rfl rfl rfl rfl (by rfl) (by omega) (by omega) rfl (fun _ => ?_)) | (apply GL.isAlloc; refine GL.alloc rfl (fun _ => ?_))) | apply GL.nil | first | apply G.seq | apply G.region | apply G.block | apply G.skip | apply G.exit | apply G.ret | (apply G.isCond; first | refine G.condT rfl ?_ | refine G.condF rfl ?_) | refine G.draw (by kernel_rfl) (by kernel_rfl) ?_ | (apply GE.isAny; first | apply GE.again | apply GE.thenG | apply GE.blockN | apply GE.blockE | apply GE.thenE | apply GE.thenR | apply GE.blockR | refine GE.blockO rfl ?_ | apply GE.only) | (apply GD.isAny; first | refine GD.runA rfl ?_ | refine GD.guardY rfl rfl ?_ | refine GD.guardN rfl rfl rfl ?_ | refine GD.guardU rfl rfl rfl ?_) | apply GD.nilE | apply GD.nilL | (apply GT.isAny; refine GT.runA rfl rfl ?_) | ((first | (apply GL.isAny; refine GL.guard rfl rfl (fun hc => ?_) (fun hc => ?_)) | (apply G.isCond; refine G.cond rfl (fun hc => ?_) (fun hc => ?_)) | (apply GD.isAny; refine GD.guard rfl rfl (fun hc => ?_) (fun hc => ?_))) <;> ((try simp only [decide_eq_true_eq, decide_eq_false_iff_not, Bool.not_true, Bool.not_false, ne_eq, Classical.not_not, Int.not_lt, Int.not_le] at hc); (try (exfalso; first | omega | exact hc trivial | exact hc rfl)))))
  refine GE.resOne rfl (by (repeat (first | apply Res.nil | (apply Res.tmp; rfl) | (refine Res.cellA rfl rfl rfl ?_) | (refine Res.cell1 rfl rfl ?_)))) (fun w h => ?_)
  exact ⟨rfl, h.sub⟩
end Go.Proofs.YtipkgamiejenaaaGreat

/- The law ReclaimNone of chapter 25. -/
namespace Go.Proofs.YtipkgamiejenaaaGreat
open Go Go.RowKit Go.MapKept
set_option linter.unusedVariables false
set_option linter.unusedSectionVars false
set_option linter.unusedSimpArgs false
set_option maxRecDepth 100000
set_option maxHeartbeats 4000000
theorem law25_None (i : Int) (v : Value) (p : List Int) (w : World) (F : List HProp) [Reads F v encI1 1 p] (hw : holds w F) :
    Ct Tryz.prog 8 #[.int .i64 i, v] w fun e w' => e = .returned (.bool true) ∧ holds w' F := by
  refine Ct.go (args := [.int .i64 i, v]) Tryz.func8 rfl rfl rfl hw ?_
  repeat' (first | (first | (refine G.isRegion 4 ?_; apply G.region; apply GL.isAny; refine GL.alloc rfl (fun zb => ?_)) | (apply GL.isCall; refine GL.call1 (vs := [.pointer none, v]) rfl rfl (fun w h => rec_TickN v w _ h) ?_) | (apply GL.isCall; refine GL.call1 (vs := [.pointer (some ⟨zb, 0, none⟩), v]) rfl rfl (fun w h => rec_TickZ zb v w _ h) ?_) | (apply GL.isCall; refine GL.call1 (vs := [.pointer none, .int .i64 1, .int .i64 0]) rfl rfl (fun w h => rec_NewN 1 0 w _ h) ?_) | (apply GL.isCall; refine GL.call1 (vs := [.pointer none, .int .i64 i, .int .i64 1]) rfl rfl (fun w h => rec_PutN i 1 w _ h) ?_) | (apply GL.isCall; refine GL.call1 (vs := [.pointer (some ⟨zb, 0, none⟩), .int .i64 i, .int .i64 1]) rfl rfl (fun w h => rec_PutZ zb i 1 w _ h) ?_) | (apply GL.isCall; refine GL.call1 (vs := [.pointer none, .int .i64 0, .int .i64 0]) rfl rfl (fun w h => rec_PaidN 0 0 w _ h) ?_) | (apply GL.isCall; refine GL.call1 (vs := [.pointer (some ⟨zb, 0, none⟩), .int .i64 0, .int .i64 0]) rfl rfl (fun w h => rec_PaidZ zb 0 0 w _ h) ?_) | (apply GL.isCall; refine GL.call1 (vs := [.pointer none, .int .i64 i]) rfl rfl (fun w h => rec_AheadN i w _ h) ?_) | (apply GL.isCall; refine GL.call1 (vs := [.pointer (some ⟨zb, 0, none⟩), .int .i64 i]) rfl rfl (fun w h => rec_AheadZ zb i w _ h) ?_) | (apply GL.isCall; refine GL.call1 (vs := [.pointer none, .int .i64 i]) rfl rfl (fun w h => rec_WantN i w _ h) ?_) | (apply GL.isCall; refine GL.call1 (vs := [.pointer (some ⟨zb, 0, none⟩), .int .i64 i]) rfl rfl (fun w h => rec_WantZ zb i w _ h) ?_) | (apply GL.isCall; refine GL.call1 (vs := [.pointer none]) rfl rfl (fun w h => rec_TicksN w _ h) ?_) | (apply GL.isCall; refine GL.call1 (vs := [.pointer (some ⟨zb, 0, none⟩)]) rfl rfl (fun w h => rec_FreedZ zb w _ h) ?_) | (apply GL.isCall; refine GL.call1 (vs := [.pointer none]) rfl rfl (fun w h => rec_LowN w _ h) ?_) | (apply GL.isCall; refine GL.call1 (vs := [.pointer none]) rfl rfl (fun w h => rec_WaitingN w _ h) ?_) | (apply GL.isCall; refine GL.call1 (vs := [.pointer (some ⟨zb, 0, none⟩)]) rfl rfl (fun w h => rec_WaitingZ zb w _ h) ?_) | (apply GL.isCall; refine GL.call1 (vs := []) rfl rfl (fun w h => law25_works w _ h) ?_) | (apply GL.isAny; refine GL.run (Runs.lenLit (ad := none) (k := 0) (c := 0) rfl) rfl ?_)) | first | (apply GL.isAny; first | refine GL.runA rfl ?_ | (apply GL.isStore; first | refine GL.storeBlk rfl rfl rfl rfl rfl ?_ | refine GL.storeWhole rfl rfl rfl rfl rfl ?_ | refine GL.storeBlkA rfl rfl rfl rfl rfl ?_) | refine GL.guardY rfl rfl ?_ | refine GL.guardN rfl rfl rfl ?_ | refine GL.guardU rfl rfl rfl ?_ | (apply GL.isBox; first | refine GL.boxA rfl rfl (fun _ => ?_) | refine GL.box1 rfl rfl rfl (fun _ => ?_) | refine GL.box rfl rfl (fun _ => ?_)) | (apply GL.isBuildS; first | refine GL.buildSlice1A rfl rfl rfl rfl rfl (fun _ => ?_) | refine GL.buildSlice1 rfl rfl rfl rfl rfl (fun _ => ?_)) | (apply GL.isCall; refine GL.append1 _ rfl rfl rfl rfl (by rfl) (by omega) (by omega) rfl (fun _ => ?_)) | (apply GL.isAlloc; refine GL.alloc rfl (fun _ => ?_))) | apply GL.nil | first | apply G.seq | apply G.region | apply G.block | apply G.skip | apply G.exit | apply G.ret | (apply G.isCond; first | refine G.condT rfl ?_ | refine G.condF rfl ?_) | refine G.draw (by kernel_rfl) (by kernel_rfl) ?_ | (apply GE.isAny; first | apply GE.again | apply GE.thenG | apply GE.blockN | apply GE.blockE | apply GE.thenE | apply GE.thenR | apply GE.blockR | refine GE.blockO rfl ?_ | apply GE.only) | (apply GD.isAny; first | refine GD.runA rfl ?_ | refine GD.guardY rfl rfl ?_ | refine GD.guardN rfl rfl rfl ?_ | refine GD.guardU rfl rfl rfl ?_) | apply GD.nilE | apply GD.nilL | (apply GT.isAny; refine GT.runA rfl rfl ?_) | ((first | (apply GL.isAny; refine GL.guard rfl rfl (fun hc => ?_) (fun hc => ?_)) | (apply G.isCond; refine G.cond rfl (fun hc => ?_) (fun hc => ?_)) | (apply GD.isAny; refine GD.guard rfl rfl (fun hc => ?_) (fun hc => ?_))) <;> ((try simp only [decide_eq_true_eq, decide_eq_false_iff_not, Bool.not_true, Bool.not_false, ne_eq, Classical.not_not, Int.not_lt, Int.not_le] at hc); (try (exfalso; first | omega | exact hc trivial | exact hc rfl)))))
  all_goals (first | (exfalso; simp at hc; done) | skip)
  all_goals (refine GE.resOne rfl (by (repeat (first | apply Res.nil | (apply Res.tmp; rfl) | (refine Res.cellA rfl rfl rfl ?_) | (refine Res.cell1 rfl rfl ?_)))) (fun w h => ?_); exact ⟨rfl, h.sub⟩)
end Go.Proofs.YtipkgamiejenaaaGreat

/- Arguments of chapter 25's laws. -/
namespace Go.Proofs.YtipkgamiejenaaaGreat
open Go Go.RowKit Go.MapKept Go.ChangeShapes Go.WideShapes Go.Deep Go.Joins
set_option linter.unusedVariables false
set_option maxRecDepth 100000
section
variable {H : Type} {enc0 : TypeId × Value → H} {W : World} {sp : Nat → Bool} {held : Bool}
theorem el_intR (n : Nat) (cs : List Value) (x : DataW H × List MemPlace) (h : DataW.trod enc0 Tryz.prog W 0 sp held n 3 cs = some x) : ∃ a : Int, True ∧ cs = encI1 a := by
  obtain ⟨v1, c1, rfl, ⟨a1, rfl, _⟩, rfl⟩ := ckind_ok 5 _ [.int .i64] (by kernel_rfl) n cs x h
  exact ⟨a1, trivial, rfl⟩
end
end Go.Proofs.YtipkgamiejenaaaGreat
