import Derived.Test.YtipkgamiejenaaaGreatMg18

import Derived.Test.YtipkgamiejenaaaGreatMg6
import Derived.Test.YtipkgamiejenaaaGreatMg8
import Derived.Test.YtipkgamiejenaaaGreatMg9
import Derived.Test.YtipkgamiejenaaaGreatMg5
import Derived.Test.YtipkgamiejenaaaGreatMg10
import Derived.Test.YtipkgamiejenaaaGreatMg15
import Derived.Test.YtipkgamiejenaaaGreatMg4
/- Package reclaim: Tick. -/
namespace Go.Proofs.YtipkgamiejenaaaGreat
open Go Go.RowKit Go.MapKept
set_option linter.unusedVariables false
set_option linter.unusedSectionVars false
set_option linter.unusedSimpArgs false
set_option maxRecDepth 100000
set_option maxHeartbeats 4000000
theorem DoesW.callPF {P : Program} {n : Nat} {env : Env} {F : List HProp} {f : FuncId} {xs : List Operand} {ts : Array TypeId} {vs : List Value} {v : Value} {X Y : HProp} [ho : Own P f] (hx : opnds env xs = some vs)
    (hc : ∀ w G, holds w (X :: (F ++ G)) → Ct P f vs.toArray w fun e w' => e = .returned v ∧ holds w' (Y :: (F ++ G))) :
    DoesW P n env F [X] [] (.call { callee := .value (.func f), args := xs.toArray, argTypes := ts }) (fun u => u = v) (fun _ => Y) := ⟨fun a w F' ty pos aft g d hf hw => by
  have hr : (execOp a.eval ⟨d, .call { callee := .value (.func f), args := xs.toArray, argTypes := ts }, ty, pos, aft, g⟩).run P w = .ok (.enter f vs.toArray) w := by
    simp [execOp, resolve, Act.eval, Deferred.ofValue, invoke, hf.evals hx, Result.andThen]
    exact ho.run _ _
  rw [hr]
  exact (hc w F' (by simpa using hw)).out.mono fun e w' ⟨he, hh⟩ => ⟨v, he, rfl, hh⟩⟩
namespace Rc
def lev (m : S) : Int := St.cntP (drain m.q.toNat m.t m.line).1.ch 0
def tick (m : S) (p : List Int) : S := { m with t := (drain m.q.toNat m.t m.line).1, line := m.line.drop m.q.toNat, want := Tr.ask (Wm.lack m.low (some (lev m))) p, lv := m.lv ++ [lev m], fr := m.fr + ((m.line.take m.q.toNat).length : Nat) }
theorem drain_len {m : S} {L : List Int} (h : L = m.line.take m.q.toNat) : (drain L.length m.t m.line).1 = (drain m.q.toNat m.t m.line).1 := by
  rw [h, List.length_take]
  generalize m.q.toNat = k
  generalize m.t = t
  generalize m.line = l
  induction k generalizing t l with
  | zero => simp
  | succ k ih =>
    cases l with
    | nil => simp [drain]
    | cons i l =>
      rw [List.length_cons, show min (k + 1) (l.length + 1) = min k l.length + 1 by omega]
      exact ih _ _
theorem drop_min (k : Nat) (l : List Int) : l.drop (min k l.length) = l.drop k := by
  by_cases h : k ≤ l.length
  · rw [Nat.min_eq_left h]
  · rw [Nat.min_eq_right (by omega), List.drop_length, List.drop_eq_nil_of_le (by omega)]
theorem lev_in {m : S} {K : Nat} (h : Ok m K) : 0 ≤ lev m ∧ lev m ≤ 1048576 := by
  have h1 := (drain_inv m.q.toNat m.t m.line K h.inv h.wt).2.2.2
  have h2 := h.inv.ncap
  have h3 := List.length_filter_le (fun c : ChunkM => c.phase == 0) (drain m.q.toNat m.t m.line).1.ch
  unfold lev St.cntP
  omega
end Rc
theorem rec_drained (rb : Nat) (w : World) (F : List HProp) (hw : holds w F) :
    Ct Tryz.prog 111 #[.pointer (some ⟨rb, 0, none⟩)] w fun e w' => ∃ br : Nat, e = .returned (.func (.func 173) #[] #[.pointer (some ⟨br, 0, none⟩)]) ∧ holds w' (blk br (.cells #[.pointer (some ⟨rb, 0, none⟩)] 76 (0, 0)) :: F) := by
  refine Ct.go (args := [.pointer (some ⟨rb, 0, none⟩)]) Tryz.func111 rfl rfl rfl hw ?_
  repeat' (first | refine stp ?_ | (refine stpB ?_; intro _) | (refine spl ?_ ?_ <;> intro hc <;> ((try simp only [decide_eq_true_eq, decide_eq_false_iff_not, Bool.not_true, Bool.not_false, ne_eq, Classical.not_not, Int.not_lt, Int.not_le] at hc); (try (exfalso; first | omega | exact hc trivial | exact hc rfl)))))
  rename_i br
  refine GE.resOne rfl (by (repeat (first | apply Res.nil | (apply Res.tmp; rfl) | (refine Res.cellA rfl rfl rfl ?_) | (refine Res.cell1 rfl rfl ?_)))) (fun w h => ?_)
  exact ⟨br, rfl, h.sub⟩
def outR (bo : Nat) (l : List Int) : HProp := fun f => ∃ sv : Value, sep [blk bo (.cells #[sv] 31 (0, 0)), owns 3 encI1 1 sv l] f
theorem outR.mk {bo : Nat} {sv : Value} {l : List Int} {F : List HProp} {w : World} (h : holds w (blk bo (.cells #[sv] 31 (0, 0)) :: owns 3 encI1 1 sv l :: F)) : holds w (outR bo l :: F) :=
  holds.mono (A := sep [blk bo (.cells #[sv] 31 (0, 0)), owns 3 encI1 1 sv l]) (holds_sep.2 h) fun f hf => ⟨sv, hf⟩
theorem outR.opens {bo : Nat} {l : List Int} {F : List HProp} {w : World} (h : holds w (outR bo l :: F)) : ∃ sv, holds w (blk bo (.cells #[sv] 31 (0, 0)) :: owns 3 encI1 1 sv l :: F) := by
  obtain ⟨sv, h⟩ := h.open_ex
  exact ⟨sv, holds_sep.1 h⟩
variable (rb sb : Nat) (m : Rc.S) (K : Nat) (hO : Rc.Ok m K) (hK : K + 2 * m.line.length ≤ 900000)
include hO hK
theorem rec_Tick (v : Value) (p : List Int) (hp : p.length ≤ 64) (w : World) (F : List HProp) [Reads F v encI1 1 p] (hw : holds w (recP rb sb m K :: storeP sb m.t :: F)) :
    Ct Tryz.prog 44 #[.pointer (some ⟨rb, 0, none⟩), v] w fun e w' => ∃ u : Value, e = .returned (.tuple #[u, .int .i64 0]) ∧ holds w' (owns 3 encI1 1 u (m.line.take m.q.toNat) :: recP rb sb (Rc.tick m p) (K + 1 + 2 * m.line.length) :: storeP sb (Rc.tick m p).t :: F) := by
  obtain ⟨x, hx, h1⟩ := recP.open hw
  refine Ct.goM (args := [.pointer (some ⟨rb, 0, none⟩), v]) Tryz.func44 rfl rfl rfl h1 ?_
  repeat' (first | (first | (apply GL.isCall; refine GL.call1 rfl rfl (fun w h => rec_is rb x.tb sb x.lb x.mb x.kb m.q w _ h) ?_) | (apply GL.isCall; refine GL.call rfl rfl (fun w h => rec_drained rb w _ h) (fun br => ?_)) | (refine G.isRegion 6 ?_; refine G.nilOwn 3 encI1 1 ?_; apply G.region)) | first | refine stp ?_ | (refine stpB ?_; intro _) | (refine spl ?_ ?_ <;> intro hc <;> ((try simp only [decide_eq_true_eq, decide_eq_false_iff_not, Bool.not_true, Bool.not_false, ne_eq, Classical.not_not, Int.not_lt, Int.not_le] at hc); (try (exfalso; first | omega | exact hc trivial | exact hc rfl)))))
  all_goals (first | (exfalso; simp at hc; done) | (exfalso; omega) | skip)
  rename_i b4 b5 b6
  obtain ⟨L, hL⟩ : ∃ L, L = m.line.take m.q.toNat := ⟨_, rfl⟩
  have hq := hO.q
  have hLl : L.length ≤ 1048576 := by rw [hL, List.length_take]; omega
  have T := rec_drained1 br rb sb m.t m.line K m.t.ch.length x.c (by omega) hO.inv hO.wt x.tb x.lb x.mb x.kb m.q hq hK (blk br (.cells #[.pointer (some ⟨rb, 0, none⟩)] 76 (0, 0)) :: blk rb (.cells #[.pointer (some ⟨x.tb, 0, none⟩), .pointer (some ⟨sb, 0, none⟩), .pointer (some ⟨x.lb, 0, none⟩), .pointer (some ⟨x.mb, 0, none⟩), .pointer (some ⟨x.kb, 0, none⟩), .int .i64 m.q] 109 (0, 0)) :: trimP x.tb m.want :: markP x.mb m.low m.lv.getLast? x.k :: bookP (.pointer (some ⟨x.kb, 0, none⟩)) 2 [((m.lv.length : Nat) : Int), m.fr] :: blk b4 (.cells #[.slice none 0 0] 31 (0, 0)) :: blk b5 (.cells #[.int .i64 0] 26 (0, 0)) :: F)
  rw [← hL] at T ⊢
  refine G.rangeFunc (F := blk br (.cells #[.pointer (some ⟨rb, 0, none⟩)] 76 (0, 0)) :: blk rb (.cells #[.pointer (some ⟨x.tb, 0, none⟩), .pointer (some ⟨sb, 0, none⟩), .pointer (some ⟨x.lb, 0, none⟩), .pointer (some ⟨x.mb, 0, none⟩), .pointer (some ⟨x.kb, 0, none⟩), .int .i64 m.q] 109 (0, 0)) :: trimP x.tb m.want :: markP x.mb m.low m.lv.getLast? x.k :: bookP (.pointer (some ⟨x.kb, 0, none⟩)) 2 [((m.lv.length : Nat) : Int), m.fr] :: blk b4 (.cells #[.slice none 0 0] 31 (0, 0)) :: blk b5 (.cells #[.int .i64 0] 26 (0, 0)) :: F) .ret (fun y k => [match y with | true => outR b6 (L.take k) | false => fun _ => False]) ?_ rfl (fun args w => Own.run args w) T (fun x => rfl) rfl (fun l k x Q A hx h => ?_) (fun w h => ?_) (fun l k i A hi => ?_) (fun D => ?_) (fun D k hk hk2 => ?_)
  rotate_left
  · repeat' (first | apply GE.iq | ((apply GL.isAny; first | refine GL.runA rfl ?_ | (apply GL.isStore; first | refine GL.storeBlk rfl rfl rfl rfl rfl ?_ | refine GL.storeWhole rfl rfl rfl rfl rfl ?_ | refine GL.storeBlkA rfl rfl rfl rfl rfl ?_) | refine GL.guardY rfl rfl ?_ | refine GL.guardN rfl rfl rfl ?_ | refine GL.guardU rfl rfl rfl ?_ | (apply GL.isBox; first | refine GL.boxA rfl rfl (fun _ => ?_) | refine GL.box1 rfl rfl rfl (fun _ => ?_) | refine GL.box rfl rfl (fun _ => ?_)) | (apply GL.isBuildS; first | refine GL.buildSlice1A rfl rfl rfl rfl rfl (fun _ => ?_) | refine GL.buildSlice1 rfl rfl rfl rfl rfl (fun _ => ?_)) | (apply GL.isCall; refine GL.append1 _ rfl rfl rfl rfl (by rfl) (by omega) (by omega) rfl (fun _ => ?_)) | (apply GL.isAlloc; refine GL.alloc rfl (fun _ => ?_)))) | (apply GL.isAny; refine GL.guard rfl rfl (fun hc => ?_) (fun hc => ?_) <;> ((try simp only [decide_eq_true_eq, decide_eq_false_iff_not, Bool.not_true, Bool.not_false, ne_eq, Classical.not_not, Int.not_lt, Int.not_le] at hc); (try (exfalso; first | omega | exact hc trivial | exact hc rfl)))) | apply GL.nil | ((refine GLI.op (by first | exact .wide | exact .round _) (by intro c hc; cases hc) ?_)) | apply GLI.nil | (first | apply GI.seq | apply GI.region | apply GI.block | apply GI.skip | apply GI.exit | apply GI.ret | (refine GI.cond rfl (fun hc => ?_) (fun hc => ?_) <;> ((try (exfalso; cases hc; done)); ((try simp only [decide_eq_true_eq, decide_eq_false_iff_not, Bool.not_true, Bool.not_false, ne_eq, Classical.not_not, Int.not_lt, Int.not_le] at hc); (try (exfalso; first | omega | exact hc trivial | exact hc rfl)))))) | (first | apply GEI.thenG | apply GEI.thenW | apply GEI.blockN | apply GEI.blockE | apply GEI.thenE | apply GEI.thenR | apply GEI.blockR))
    exact h
  · have h0 : holds w (blk br (.cells #[.pointer (some ⟨rb, 0, none⟩)] 76 (0, 0)) :: owns 3 encI1 1 (.slice none 0 0) [] :: blk b6 (.cells #[.slice none 0 0] 31 (0, 0)) :: blk b5 (.cells #[.int .i64 0] 26 (0, 0)) :: blk b4 (.cells #[.slice none 0 0] 31 (0, 0)) :: blk rb (.cells #[.pointer (some ⟨x.tb, 0, none⟩), .pointer (some ⟨sb, 0, none⟩), .pointer (some ⟨x.lb, 0, none⟩), .pointer (some ⟨x.mb, 0, none⟩), .pointer (some ⟨x.kb, 0, none⟩), .int .i64 m.q] 109 (0, 0)) :: trimP x.tb m.want :: waitsAt (.pointer (some ⟨x.lb, 0, none⟩)) m.t.ch.length m.line x.c :: markP x.mb m.low m.lv.getLast? x.k :: bookP (.pointer (some ⟨x.kb, 0, none⟩)) 2 [((m.lv.length : Nat) : Int), m.fr] :: storeP sb m.t :: F) := h
    have h2 : holds w (blk b6 (.cells #[.slice none 0 0] 31 (0, 0)) :: owns 3 encI1 1 (.slice none 0 0) [] :: storeP sb m.t :: waitsAt (.pointer (some ⟨x.lb, 0, none⟩)) m.t.ch.length m.line x.c :: blk br (.cells #[.pointer (some ⟨rb, 0, none⟩)] 76 (0, 0)) :: blk rb (.cells #[.pointer (some ⟨x.tb, 0, none⟩), .pointer (some ⟨sb, 0, none⟩), .pointer (some ⟨x.lb, 0, none⟩), .pointer (some ⟨x.mb, 0, none⟩), .pointer (some ⟨x.kb, 0, none⟩), .int .i64 m.q] 109 (0, 0)) :: trimP x.tb m.want :: markP x.mb m.low m.lv.getLast? x.k :: bookP (.pointer (some ⟨x.kb, 0, none⟩)) 2 [((m.lv.length : Nat) : Int), m.fr] :: blk b4 (.cells #[.slice none 0 0] 31 (0, 0)) :: blk b5 (.cells #[.int .i64 0] 26 (0, 0)) :: F) := h0.sub
    exact outR.mk h2
  · have hkl : k < L.length := (List.getElem?_eq_some_iff.1 hi).1
    have hxs : (L.take k).length = k := by rw [List.length_take]; omega
    have hnext : L.take (k + 1) = L.take k ++ [i] := by rw [List.take_add_one, hi]; simp
    refine GI.case (F' := fun sv => blk b6 (.cells #[sv] 31 (0, 0)) :: owns 3 encI1 1 sv (L.take k) :: (([storeP sb (Rc.drain (k + 1) m.t m.line).1, waitsAt (.pointer (some ⟨x.lb, 0, none⟩)) m.t.ch.length (m.line.drop (k + 1)) x.c] : List HProp) ++ A)) (fun sv => ?_) (fun w h => outR.opens h)
    generalize L.take k = xs at hxs hnext ⊢
    repeat' (first | apply GE.iq | ((apply GL.isAny; first | refine GL.runA rfl ?_ | (apply GL.isStore; first | refine GL.storeBlk rfl rfl rfl rfl rfl ?_ | refine GL.storeWhole rfl rfl rfl rfl rfl ?_ | refine GL.storeBlkA rfl rfl rfl rfl rfl ?_) | refine GL.guardY rfl rfl ?_ | refine GL.guardN rfl rfl rfl ?_ | refine GL.guardU rfl rfl rfl ?_ | (apply GL.isBox; first | refine GL.boxA rfl rfl (fun _ => ?_) | refine GL.box1 rfl rfl rfl (fun _ => ?_) | refine GL.box rfl rfl (fun _ => ?_)) | (apply GL.isBuildS; first | refine GL.buildSlice1A rfl rfl rfl rfl rfl (fun _ => ?_) | refine GL.buildSlice1 rfl rfl rfl rfl rfl (fun _ => ?_)) | (apply GL.isCall; refine GL.append1 _ rfl rfl rfl rfl (by rfl) (by omega) (by omega) rfl (fun _ => ?_)) | (apply GL.isAlloc; refine GL.alloc rfl (fun _ => ?_)))) | (apply GL.isAny; refine GL.guard rfl rfl (fun hc => ?_) (fun hc => ?_) <;> ((try simp only [decide_eq_true_eq, decide_eq_false_iff_not, Bool.not_true, Bool.not_false, ne_eq, Classical.not_not, Int.not_lt, Int.not_le] at hc); (try (exfalso; first | omega | exact hc trivial | exact hc rfl)))) | apply GL.nil | ((apply GL.isAny; apply GL.isStore; refine GL.storeOwn rfl rfl rfl ?_)) | ((refine GLI.op (by first | exact .wide | exact .round _) (by intro c hc; cases hc) ?_)) | apply GLI.nil | (first | apply GI.seq | apply GI.region | apply GI.block | apply GI.skip | apply GI.exit | apply GI.ret | (refine GI.cond rfl (fun hc => ?_) (fun hc => ?_) <;> ((try (exfalso; cases hc; done)); ((try simp only [decide_eq_true_eq, decide_eq_false_iff_not, Bool.not_true, Bool.not_false, ne_eq, Classical.not_not, Int.not_lt, Int.not_le] at hc); (try (exfalso; first | omega | exact hc trivial | exact hc rfl)))))) | (first | apply GEI.thenG | apply GEI.thenW | apply GEI.blockN | apply GEI.blockE | apply GEI.thenE | apply GEI.thenR | apply GEI.blockR))
    rename_i b1 v1
    refine GEI.roundN fun w h => ?_
    show holds w (outR b6 (L.take (k + 1)) :: (([storeP sb (Rc.drain (k + 1) m.t m.line).1, waitsAt (.pointer (some ⟨x.lb, 0, none⟩)) m.t.ch.length (m.line.drop (k + 1)) x.c] : List HProp) ++ A))
    rw [hnext]
    have h0 : holds w (blk b6 (.cells #[v1] 31 (0, 0)) :: owns 3 encI1 1 v1 (xs ++ [i]) :: blk b1 (.cells #[.int .i64 i] 3 (0, 0)) :: storeP sb (Rc.drain (k + 1) m.t m.line).1 :: waitsAt (.pointer (some ⟨x.lb, 0, none⟩)) m.t.ch.length (m.line.drop (k + 1)) x.c :: A) := h
    have h2 : holds w (blk b6 (.cells #[v1] 31 (0, 0)) :: owns 3 encI1 1 v1 (xs ++ [i]) :: storeP sb (Rc.drain (k + 1) m.t m.line).1 :: waitsAt (.pointer (some ⟨x.lb, 0, none⟩)) m.t.ch.length (m.line.drop (k + 1)) x.c :: A) := h0.sub
    exact outR.mk (sv := v1) h2
  · have hdr : (Rc.drain L.length m.t m.line).1 = (Rc.drain m.q.toNat m.t m.line).1 := Rc.drain_len hL
    have hdl : m.line.drop L.length = m.line.drop m.q.toNat := by rw [hL, List.length_take]; exact Rc.drop_min _ _
    obtain ⟨lw, hlw⟩ : ∃ lw, lw = Rc.lev m := ⟨_, rfl⟩
    have hlb := Rc.lev_in hO
    rw [← hlw] at hlb
    refine GEI.case (F' := fun y : Option Addr × Nat => blk b6 (.cells #[.slice y.1 L.length y.2] 31 (0, 0)) :: owns 3 encI1 1 (.slice y.1 L.length y.2) L :: storeP sb (Rc.drain m.q.toNat m.t m.line).1 :: waitsAt (.pointer (some ⟨x.lb, 0, none⟩)) m.t.ch.length (m.line.drop m.q.toNat) x.c :: blk rb (.cells #[.pointer (some ⟨x.tb, 0, none⟩), .pointer (some ⟨sb, 0, none⟩), .pointer (some ⟨x.lb, 0, none⟩), .pointer (some ⟨x.mb, 0, none⟩), .pointer (some ⟨x.kb, 0, none⟩), .int .i64 m.q] 109 (0, 0)) :: trimP x.tb m.want :: markP x.mb m.low m.lv.getLast? x.k :: bookP (.pointer (some ⟨x.kb, 0, none⟩)) 2 [((m.lv.length : Nat) : Int), m.fr] :: blk b4 (.cells #[.slice none 0 0] 31 (0, 0)) :: blk b5 (.cells #[.int .i64 0] 26 (0, 0)) :: (F ++ [blk D (.deferred (some []))])) (fun sv => ?_) (fun w h => by
      have h0 : holds w (outR b6 (L.take L.length) :: storeP sb (Rc.drain L.length m.t m.line).1 :: waitsAt (.pointer (some ⟨x.lb, 0, none⟩)) m.t.ch.length (m.line.drop L.length) x.c :: blk br (.cells #[.pointer (some ⟨rb, 0, none⟩)] 76 (0, 0)) :: blk rb (.cells #[.pointer (some ⟨x.tb, 0, none⟩), .pointer (some ⟨sb, 0, none⟩), .pointer (some ⟨x.lb, 0, none⟩), .pointer (some ⟨x.mb, 0, none⟩), .pointer (some ⟨x.kb, 0, none⟩), .int .i64 m.q] 109 (0, 0)) :: trimP x.tb m.want :: markP x.mb m.low m.lv.getLast? x.k :: bookP (.pointer (some ⟨x.kb, 0, none⟩)) 2 [((m.lv.length : Nat) : Int), m.fr] :: blk b4 (.cells #[.slice none 0 0] 31 (0, 0)) :: blk b5 (.cells #[.int .i64 0] 26 (0, 0)) :: (F ++ [blk D (.deferred (some []))])) := h
      rw [List.take_length, hdr, hdl] at h0
      obtain ⟨sv, h1⟩ := outR.opens h0
      obtain ⟨a, cap, rfl, _⟩ := (Reads.at_ (v := sv) (enc := encI1) (n := 1) (l := L) w h1).form
      exact ⟨(a, cap), h1.sub⟩)
    obtain ⟨sva, svc⟩ := sv
    dsimp only
    have hLL : L.length ≤ m.line.length := by rw [hL, List.length_take]; omega
    have hll := hO.ll
    have hfr := hO.fr
    have hA1 : ∀ w (F : List HProp), holds w (bookP (.pointer (some ⟨x.kb, 0, none⟩)) 2 [((m.lv.length : Nat) : Int), m.fr] :: F) → Ct Tryz.prog 112 #[.pointer (some ⟨x.kb, 0, none⟩), .int .i64 0, .int .i64 1] w fun e w' => e = .returned (.int .i64 0) ∧ holds w' (bookP (.pointer (some ⟨x.kb, 0, none⟩)) 2 [((m.lv.length : Nat) : Int) + 1, m.fr] :: F) := fun w F h => count_Add (v := .pointer (some ⟨x.kb, 0, none⟩)) (n := 2) (l := [((m.lv.length : Nat) : Int), m.fr]) (by omega) rfl 0 (by omega) 1 (by omega) (by simp) (by simp; omega) w F h
    have hA2 : ∀ w (F : List HProp), holds w (bookP (.pointer (some ⟨x.kb, 0, none⟩)) 2 [((m.lv.length : Nat) : Int) + 1, m.fr] :: F) → Ct Tryz.prog 112 #[.pointer (some ⟨x.kb, 0, none⟩), .int .i64 1, .int .i64 (L.length : Nat)] w fun e w' => e = .returned (.int .i64 0) ∧ holds w' (bookP (.pointer (some ⟨x.kb, 0, none⟩)) 2 [((m.lv.length : Nat) : Int) + 1, m.fr + (L.length : Nat)] :: F) := fun w F h => count_Add (v := .pointer (some ⟨x.kb, 0, none⟩)) (n := 2) (l := [((m.lv.length : Nat) : Int) + 1, m.fr]) (by omega) rfl 1 (by omega) (L.length : Nat) (by omega) (by simp; omega) (by simp; omega) w F h
    obtain ⟨t', ht'⟩ : ∃ t', t' = (Rc.drain m.q.toNat m.t m.line).1 := ⟨_, rfl⟩
    obtain ⟨hI', hW', hsz', hch'⟩ := Rc.drain_inv m.q.toNat m.t m.line K hO.inv hO.wt
    rw [← hL, ← ht'] at hI'
    rw [← ht'] at hch' hsz' ⊢
    obtain ⟨c1, hc1⟩ : ∃ c1, c1 = St.cntP t'.ch 1 := ⟨_, rfl⟩
    obtain ⟨c2, hc2⟩ : ∃ c2, c2 = St.cntP t'.ch 2 := ⟨_, rfl⟩
    obtain ⟨c3, hc3⟩ : ∃ c3, c3 = St.cntP t'.ch 3 := ⟨_, rfl⟩
    have hM := fun w (F : List HProp) h' => store_Many sb t' (K + 2 * L.length) hI' (by omega) w F h'
    rw [← hc1, ← hc2, ← hc3, show St.cntP t'.ch 0 = lw by rw [hlw, ht']; rfl] at hM
    obtain ⟨lk, hlk⟩ : ∃ lk, lk = Wm.lack m.low (some (max lw 0)) := ⟨_, rfl⟩
    have hmx : max lw 0 = lw := by omega
    have hLk := fun w (F : List HProp) h' => water_Lack x.mb m.low hO.low (some (max lw 0)) (fun y hy => by injection hy with hy; omega) (x.k + 1) w F h'
    rw [← hlk] at hLk
    have hlkb : Tr.I64 lk := by rw [hlk]; unfold Tr.I64 Wm.lack; have := hO.low; dsimp only; split <;> omega
    repeat' (first | apply GE.iq | ((apply GL.isAny; first | refine GL.runA rfl ?_ | (apply GL.isStore; first | refine GL.storeBlk rfl rfl rfl rfl rfl ?_ | refine GL.storeWhole rfl rfl rfl rfl rfl ?_ | refine GL.storeBlkA rfl rfl rfl rfl rfl ?_) | refine GL.guardY rfl rfl ?_ | refine GL.guardN rfl rfl rfl ?_ | refine GL.guardU rfl rfl rfl ?_ | (apply GL.isBox; first | refine GL.boxA rfl rfl (fun _ => ?_) | refine GL.box1 rfl rfl rfl (fun _ => ?_) | refine GL.box rfl rfl (fun _ => ?_)) | (apply GL.isBuildS; first | refine GL.buildSlice1A rfl rfl rfl rfl rfl (fun _ => ?_) | refine GL.buildSlice1 rfl rfl rfl rfl rfl (fun _ => ?_)) | (apply GL.isCall; refine GL.append1 _ rfl rfl rfl rfl (by rfl) (by omega) (by omega) rfl (fun _ => ?_)) | (apply GL.isAlloc; refine GL.alloc rfl (fun _ => ?_)))) | (apply GL.isAny; refine GL.guard rfl rfl (fun hc => ?_) (fun hc => ?_) <;> ((try simp only [decide_eq_true_eq, decide_eq_false_iff_not, Bool.not_true, Bool.not_false, ne_eq, Classical.not_not, Int.not_lt, Int.not_le] at hc); (try (exfalso; first | omega | exact hc trivial | exact hc rfl)))) | apply GL.nil | (first | (apply GL.isCall; refine GL.callH1 (bookP (.pointer (some ⟨x.kb, 0, none⟩)) 2 [((m.lv.length : Nat) : Int), m.fr]) rfl rfl (fun w h => hA1 w _ h) ?_) | (refine GI.drawW (id := 13) .wide (by kernel_rfl) [⟨none, [], some 6, none, fun _ => True, fun _ => bookP (.pointer (some ⟨x.kb, 0, none⟩)) 2 [((m.lv.length : Nat) : Int) + 1, m.fr]⟩, ⟨some 6, [0], none, some 39, fun u => u = .int .i64 0, fun _ => bookP (.pointer (some ⟨x.kb, 0, none⟩)) 2 [((m.lv.length : Nat) : Int) + 1, m.fr + (L.length : Nat)]⟩] [] [0] [1] (by kernel_rfl) (by kernel_rfl) rfl ⟨⟨_, rfl, .inl rfl⟩, trivial⟩ ?_) | (apply GW.isAny; first | refine GW.runA rfl rfl ?_ | refine GW.seeA rfl rfl ⟨⟨_, rfl, .inl rfl⟩, trivial⟩ rfl ?_) | (apply GW.isAny; refine GW.run rfl (Runs.nilCheck rfl) rfl ?_) | (apply GW.isAny; refine GW.eff rfl rfl rfl rfl rfl ⟨⟨_, rfl, .inl rfl⟩, trivial⟩ rfl trivial (fun u hu => by subst hu; rfl) (DoesW.callPc (vs := [.pointer (some ⟨x.kb, 0, none⟩), .int .i64 1, .int .i64 (L.length : Nat)]) rfl (fun w G h => hA2 w _ h)) rfl (fun u hu => ?_); subst hu) | (refine GW.nilE rfl ⟨⟨_, rfl, .inr (.inr ⟨_, _, rfl, rfl, rfl⟩)⟩, trivial⟩ ?_; dsimp only [List.cons_append, List.nil_append]; apply GE.iqE) | (refine GI.drawW (id := 14) .wide (by kernel_rfl) [⟨none, [], some 10, none, fun _ => True, fun _ => markP x.mb m.low m.lv.getLast? x.k⟩, ⟨some 8, [], none, some 48, fun u => u = .agg #[.int .i64 lw, .int .i64 c1, .int .i64 c2, .int .i64 c3], fun _ _ => True⟩, ⟨some 10, [0], none, some 50, fun u => ∃ r : Int, u = .int .i64 r, fun _ => markP x.mb m.low (some (max lw 0)) (x.k + 1)⟩] [] [0] [1, 2] (by kernel_rfl) (by kernel_rfl) rfl ⟨⟨_, rfl, .inl rfl⟩, trivial⟩ ?_) | (apply GW.isAny; refine GW.eff rfl rfl rfl rfl rfl trivial rfl trivial (fun u hu => by subst hu; rfl) (DoesW.callKX (storeP sb t') (vs := [.pointer (some ⟨sb, 0, none⟩)]) rfl (fun w G h => hM w _ h)) rfl (fun u hu => ?_); subst hu) | (apply GW.isAny; refine GW.eff rfl rfl rfl rfl rfl ⟨⟨_, rfl, .inl rfl⟩, trivial⟩ rfl trivial (fun u hu => by obtain ⟨r, rfl⟩ := hu; rfl) (DoesW.callEx (fun u => ∃ r : Int, u = .int .i64 r) (fun _ => markP x.mb m.low (some (max lw 0)) (x.k + 1)) (vs := [.pointer (some ⟨x.mb, 0, none⟩), .int .i64 lw]) rfl (fun w G h => (water_Feed x.mb m.low hO.low m.lv.getLast? x.k (by omega) lw w _ h).mono fun e w' ⟨r, he, hh⟩ => ⟨_, he, ⟨r, rfl⟩, hh⟩)) rfl (fun u hu => ?_); obtain ⟨r50, rfl⟩ := hu) | (refine GW.nilE rfl ⟨⟨_, rfl, .inr (.inr ⟨_, _, rfl, rfl, rfl⟩)⟩, ⟨_, rfl, .inr (.inr ⟨_, _, rfl, rfl, rfl⟩)⟩, trivial⟩ ?_; dsimp only [List.cons_append, List.nil_append]; apply GE.iqE) | (refine GI.drawW (id := 15) .wide (by kernel_rfl) [⟨none, [], some 11, none, fun _ => True, fun _ => trimP x.tb m.want⟩, ⟨none, [], some 12, none, fun _ => True, fun _ => blk b4 (.cells #[.slice none 0 0] 31 (0, 0))⟩, ⟨none, [], some 13, none, fun _ => True, fun _ => blk b5 (.cells #[.int .i64 0] 26 (0, 0))⟩, ⟨some 9, [], none, some 60, fun u => u = .int .i64 lk, fun _ _ => True⟩, ⟨some 11, [0], none, some 62, fun u => u = .int .i64 0, fun _ => trimP x.tb (Tr.ask lk p)⟩, ⟨some 12, [1], none, none, fun _ => True, fun _ => blk b4 (.cells #[.slice sva L.length svc] 31 (0, 0))⟩, ⟨some 13, [2], none, none, fun _ => True, fun _ => blk b5 (.cells #[.int .i64 0] 26 (0, 0))⟩] [] [0, 1, 2] [3, 4, 5, 6] (by kernel_rfl) (by kernel_rfl) rfl ⟨⟨_, rfl, .inl rfl⟩, ⟨_, rfl, .inl rfl⟩, ⟨_, rfl, .inl rfl⟩, trivial⟩ ?_) | (apply GW.isAny; refine GW.eff rfl rfl rfl rfl rfl trivial rfl trivial (fun u hu => by subst hu; rfl) (DoesW.callKX (markP x.mb m.low (some (max lw 0)) (x.k + 1)) (vs := [.pointer (some ⟨x.mb, 0, none⟩)]) rfl (fun w G h => hLk w _ h)) rfl (fun u hu => ?_); subst hu) | (apply GW.isAny; refine GW.eff rfl rfl rfl rfl rfl ⟨⟨_, rfl, .inl rfl⟩, trivial⟩ rfl trivial (fun u hu => by subst hu; rfl) (DoesW.callPF (vs := [.pointer (some ⟨x.tb, 0, none⟩), .int .i64 lk, v]) rfl (fun w G h => trims_Ask x.tb m.want hO.wl lk hlkb v p hp w _ h)) rfl (fun u hu => ?_); subst hu) | (apply GW.isAny; refine GW.store rfl rfl rfl rfl rfl ⟨⟨_, rfl, .inl rfl⟩, trivial⟩ rfl trivial rfl (DoesW.storeBlk (R := fun _ => True) rfl rfl (by first | rfl | exact hsvc) rfl rfl rfl) ?_) | (refine GW.nilE rfl ⟨⟨_, rfl, .inr (.inr ⟨_, _, rfl, rfl, rfl⟩)⟩, ⟨_, rfl, .inr (.inr ⟨_, _, rfl, rfl, rfl⟩)⟩, ⟨_, rfl, .inr (.inl rfl)⟩, ⟨_, rfl, .inr (.inl rfl)⟩, trivial⟩ ?_; dsimp only [List.cons_append, List.nil_append]; apply GE.iqE)) | ((refine GLI.op (by first | exact .wide | exact .round _) (by intro c hc; cases hc) ?_)) | apply GLI.nil | (first | apply GI.seq | apply GI.region | apply GI.block | apply GI.skip | apply GI.exit | apply GI.ret | (refine GI.cond rfl (fun hc => ?_) (fun hc => ?_) <;> ((try (exfalso; cases hc; done)); ((try simp only [decide_eq_true_eq, decide_eq_false_iff_not, Bool.not_true, Bool.not_false, ne_eq, Classical.not_not, Int.not_lt, Int.not_le] at hc); (try (exfalso; first | omega | exact hc trivial | exact hc rfl)))))) | (first | apply GEI.thenG | apply GEI.thenW | apply GEI.blockN | apply GEI.blockE | apply GEI.thenE | apply GEI.thenR | apply GEI.blockR))
    refine GEI.resM (vs := [.slice sva L.length svc, .int .i64 0]) (F1 := trimP x.tb (Tr.ask lk p) :: blk b4 (.cells #[.slice sva L.length svc] 31 (0, 0)) :: blk b5 (.cells #[.int .i64 0] 26 (0, 0)) :: markP x.mb m.low (some (max lw 0)) (x.k + 1) :: bookP (.pointer (some ⟨x.kb, 0, none⟩)) 2 [((m.lv.length : Nat) : Int) + 1, m.fr + (L.length : Nat)] :: owns 3 encI1 1 (.slice sva L.length svc) L :: storeP sb t' :: waitsAt (.pointer (some ⟨x.lb, 0, none⟩)) m.t.ch.length (m.line.drop m.q.toNat) x.c :: blk rb (.cells #[.pointer (some ⟨x.tb, 0, none⟩), .pointer (some ⟨sb, 0, none⟩), .pointer (some ⟨x.lb, 0, none⟩), .pointer (some ⟨x.mb, 0, none⟩), .pointer (some ⟨x.kb, 0, none⟩), .int .i64 m.q] 109 (0, 0)) :: F) (.inl rfl) rfl (fun w h => ?_) (by (repeat (first | apply Res.nil | (apply Res.tmp; rfl) | (refine Res.cellA rfl rfl rfl ?_) | (refine Res.cell1 rfl rfl ?_)))) (fun w h => ⟨.slice sva L.length svc, rfl, ?_⟩)
    · have h1 : holds w (trimP x.tb (Tr.ask lk p) :: blk b4 (.cells #[.slice sva L.length svc] 31 (0, 0)) :: blk b5 (.cells #[.int .i64 0] 26 (0, 0)) :: markP x.mb m.low (some (max lw 0)) (x.k + 1) :: bookP (.pointer (some ⟨x.kb, 0, none⟩)) 2 [((m.lv.length : Nat) : Int) + 1, m.fr + (L.length : Nat)] :: owns 3 encI1 1 (.slice sva L.length svc) L :: storeP sb t' :: waitsAt (.pointer (some ⟨x.lb, 0, none⟩)) m.t.ch.length (m.line.drop m.q.toNat) x.c :: blk rb (.cells #[.pointer (some ⟨x.tb, 0, none⟩), .pointer (some ⟨sb, 0, none⟩), .pointer (some ⟨x.lb, 0, none⟩), .pointer (some ⟨x.mb, 0, none⟩), .pointer (some ⟨x.kb, 0, none⟩), .int .i64 m.q] 109 (0, 0)) :: (F ++ [blk D (.deferred (some []))])) := h.sub
      exact h1.perm (List.perm_append_singleton (blk D (.deferred (some []))) (trimP x.tb (Tr.ask lk p) :: blk b4 (.cells #[.slice sva L.length svc] 31 (0, 0)) :: blk b5 (.cells #[.int .i64 0] 26 (0, 0)) :: markP x.mb m.low (some (max lw 0)) (x.k + 1) :: bookP (.pointer (some ⟨x.kb, 0, none⟩)) 2 [((m.lv.length : Nat) : Int) + 1, m.fr + (L.length : Nat)] :: owns 3 encI1 1 (.slice sva L.length svc) L :: storeP sb t' :: waitsAt (.pointer (some ⟨x.lb, 0, none⟩)) m.t.ch.length (m.line.drop m.q.toNat) x.c :: blk rb (.cells #[.pointer (some ⟨x.tb, 0, none⟩), .pointer (some ⟨sb, 0, none⟩), .pointer (some ⟨x.lb, 0, none⟩), .pointer (some ⟨x.mb, 0, none⟩), .pointer (some ⟨x.kb, 0, none⟩), .int .i64 m.q] 109 (0, 0)) :: F))
    · have ew : (Rc.tick m p).want = Tr.ask lk p := by show Tr.ask (Wm.lack m.low (some (Rc.lev m))) p = _; rw [← hlw, hlk, hmx]
      have ev : (Rc.tick m p).lv.getLast? = some (max lw 0) := by show (m.lv ++ [Rc.lev m]).getLast? = _; rw [← hlw, hmx]; simp
      have el : (((Rc.tick m p).lv.length : Nat) : Int) = (m.lv.length : Nat) + 1 := by show (((m.lv ++ [Rc.lev m]).length : Nat) : Int) = _; simp
      have ef : (Rc.tick m p).fr = m.fr + (L.length : Nat) := by rw [hL]; rfl
      have et : (Rc.tick m p).t = t' := ht'.symm
      have h2 : holds w (blk rb (.cells #[.pointer (some ⟨x.tb, 0, none⟩), .pointer (some ⟨sb, 0, none⟩), .pointer (some ⟨x.lb, 0, none⟩), .pointer (some ⟨x.mb, 0, none⟩), .pointer (some ⟨x.kb, 0, none⟩), .int .i64 m.q] 109 (0, 0)) :: trimP x.tb (Tr.ask lk p) :: waitsAt (.pointer (some ⟨x.lb, 0, none⟩)) m.t.ch.length (m.line.drop m.q.toNat) x.c :: markP x.mb m.low (some (max lw 0)) (x.k + 1) :: bookP (.pointer (some ⟨x.kb, 0, none⟩)) 2 [((m.lv.length : Nat) : Int) + 1, m.fr + (L.length : Nat)] :: owns 3 encI1 1 (.slice sva L.length svc) L :: storeP sb t' :: F) := h.sub
      rw [← ew, ← hch', ← et, ← ev, ← el, ← ef] at h2
      rw [et] at h2
      have h3 := recP.shut (m := Rc.tick m p) (K := K + 1 + 2 * m.line.length) ⟨x.tb, x.lb, x.mb, x.kb, x.c, x.k + 1⟩ (by dsimp only; omega) (by rw [et]; exact h2)
      rw [et]
      exact h3.sub
  · exact GI.absurd fun w h => holds.no h
end Go.Proofs.YtipkgamiejenaaaGreat

/- Package reclaim: a nil and a zero reclaiming. (Printed by wip/recnone.py.) -/
namespace Go.Proofs.YtipkgamiejenaaaGreat
open Go Go.RowKit Go.MapKept
set_option linter.unusedVariables false
set_option linter.unusedSectionVars false
set_option linter.unusedSimpArgs false
set_option maxRecDepth 100000
set_option maxHeartbeats 2000000
theorem rec_AheadN (i : Int) (w : World) (F : List HProp) (hw : holds w F) :
    Ct Tryz.prog 42 #[.pointer none, .int .i64 i] w fun e w' => e = .returned (.int .i64 (-1)) ∧ holds w' F := by
  refine Ct.go (args := [.pointer none, .int .i64 i]) Tryz.func42 rfl rfl rfl hw ?_
  repeat' (first | ((apply GL.isCall; refine GL.call1 rfl rfl (fun w h => rec_isN w _ h) ?_)) | first | refine stp ?_ | (refine stpB ?_; intro _) | (refine spl ?_ ?_ <;> intro hc <;> ((try simp only [decide_eq_true_eq, decide_eq_false_iff_not, Bool.not_true, Bool.not_false, ne_eq, Classical.not_not, Int.not_lt, Int.not_le] at hc); (try (exfalso; first | omega | exact hc trivial | exact hc rfl)))))
  all_goals (first | (exfalso; simp at hc; done) | (exfalso; omega) | skip)
  refine GE.resOne rfl (by (repeat (first | apply Res.nil | (apply Res.tmp; rfl) | (refine Res.cellA rfl rfl rfl ?_) | (refine Res.cell1 rfl rfl ?_)))) (fun w h => ?_)
  exact ⟨rfl, h.sub⟩
theorem rec_PlanN  (w : World) (F : List HProp) (hw : holds w F) :
    Ct Tryz.prog 60 #[.pointer none] w fun e w' => e = .returned (.slice none 0 0) ∧ holds w' F := by
  refine Ct.go (args := [.pointer none]) Tryz.func60 rfl rfl rfl hw ?_
  repeat' (first | ((apply GL.isCall; refine GL.call1 rfl rfl (fun w h => rec_isN w _ h) ?_)) | first | refine stp ?_ | (refine stpB ?_; intro _) | (refine spl ?_ ?_ <;> intro hc <;> ((try simp only [decide_eq_true_eq, decide_eq_false_iff_not, Bool.not_true, Bool.not_false, ne_eq, Classical.not_not, Int.not_lt, Int.not_le] at hc); (try (exfalso; first | omega | exact hc trivial | exact hc rfl)))))
  all_goals (first | (exfalso; simp at hc; done) | (exfalso; omega) | skip)
  refine GE.resOne rfl (by (repeat (first | apply Res.nil | (apply Res.tmp; rfl) | (refine Res.cellA rfl rfl rfl ?_) | (refine Res.cell1 rfl rfl ?_)))) (fun w h => ?_)
  exact ⟨rfl, h.sub⟩
theorem rec_WhenN (i : Int) (w : World) (F : List HProp) (hw : holds w F) :
    Ct Tryz.prog 58 #[.pointer none, .int .i64 i] w fun e w' => e = .returned (.tuple #[.int .i64 0, .bool false]) ∧ holds w' F := by
  refine Ct.go (args := [.pointer none, .int .i64 i]) Tryz.func58 rfl rfl rfl hw ?_
  repeat' (first | ((apply GL.isCall; refine GL.call1 rfl rfl (fun w h => rec_AheadN i w _ h) ?_)) | first | refine stp ?_ | (refine stpB ?_; intro _) | (refine spl ?_ ?_ <;> intro hc <;> ((try simp only [decide_eq_true_eq, decide_eq_false_iff_not, Bool.not_true, Bool.not_false, ne_eq, Classical.not_not, Int.not_lt, Int.not_le] at hc); (try (exfalso; first | omega | exact hc trivial | exact hc rfl)))))
  all_goals (first | (exfalso; simp at hc; done) | (exfalso; omega) | skip)
  refine GE.resMany rfl (by (repeat (first | apply Res.nil | (apply Res.tmp; rfl) | (refine Res.cellA rfl rfl rfl ?_) | (refine Res.cell1 rfl rfl ?_)))) (fun w h => ?_)
  exact ⟨rfl, h.sub⟩
theorem rec_AheadZ (zb : Nat) (i : Int) (w : World) (F : List HProp) [SeesBlk F zb #[.pointer none, .pointer none, .pointer none, .pointer none, .pointer none, .int .i64 0]] (hw : holds w F) :
    Ct Tryz.prog 42 #[.pointer (some ⟨zb, 0, none⟩), .int .i64 i] w fun e w' => e = .returned (.int .i64 (-1)) ∧ holds w' F := by
  refine Ct.go (args := [.pointer (some ⟨zb, 0, none⟩), .int .i64 i]) Tryz.func42 rfl rfl rfl hw ?_
  repeat' (first | ((apply GL.isCall; refine GL.call1 rfl rfl (fun w h => rec_isZ zb w _ h) ?_)) | first | refine stp ?_ | (refine stpB ?_; intro _) | (refine spl ?_ ?_ <;> intro hc <;> ((try simp only [decide_eq_true_eq, decide_eq_false_iff_not, Bool.not_true, Bool.not_false, ne_eq, Classical.not_not, Int.not_lt, Int.not_le] at hc); (try (exfalso; first | omega | exact hc trivial | exact hc rfl)))))
  all_goals (first | (exfalso; simp at hc; done) | (exfalso; omega) | skip)
  refine GE.resOne rfl (by (repeat (first | apply Res.nil | (apply Res.tmp; rfl) | (refine Res.cellA rfl rfl rfl ?_) | (refine Res.cell1 rfl rfl ?_)))) (fun w h => ?_)
  exact ⟨rfl, h.sub⟩
theorem rec_PlanZ (zb : Nat)  (w : World) (F : List HProp) [SeesBlk F zb #[.pointer none, .pointer none, .pointer none, .pointer none, .pointer none, .int .i64 0]] (hw : holds w F) :
    Ct Tryz.prog 60 #[.pointer (some ⟨zb, 0, none⟩)] w fun e w' => e = .returned (.slice none 0 0) ∧ holds w' F := by
  refine Ct.go (args := [.pointer (some ⟨zb, 0, none⟩)]) Tryz.func60 rfl rfl rfl hw ?_
  repeat' (first | ((apply GL.isCall; refine GL.call1 rfl rfl (fun w h => rec_isZ zb w _ h) ?_)) | first | refine stp ?_ | (refine stpB ?_; intro _) | (refine spl ?_ ?_ <;> intro hc <;> ((try simp only [decide_eq_true_eq, decide_eq_false_iff_not, Bool.not_true, Bool.not_false, ne_eq, Classical.not_not, Int.not_lt, Int.not_le] at hc); (try (exfalso; first | omega | exact hc trivial | exact hc rfl)))))
  all_goals (first | (exfalso; simp at hc; done) | (exfalso; omega) | skip)
  refine GE.resOne rfl (by (repeat (first | apply Res.nil | (apply Res.tmp; rfl) | (refine Res.cellA rfl rfl rfl ?_) | (refine Res.cell1 rfl rfl ?_)))) (fun w h => ?_)
  exact ⟨rfl, h.sub⟩
theorem rec_WhenZ (zb : Nat) (i : Int) (w : World) (F : List HProp) [SeesBlk F zb #[.pointer none, .pointer none, .pointer none, .pointer none, .pointer none, .int .i64 0]] (hw : holds w F) :
    Ct Tryz.prog 58 #[.pointer (some ⟨zb, 0, none⟩), .int .i64 i] w fun e w' => e = .returned (.tuple #[.int .i64 0, .bool false]) ∧ holds w' F := by
  refine Ct.go (args := [.pointer (some ⟨zb, 0, none⟩), .int .i64 i]) Tryz.func58 rfl rfl rfl hw ?_
  repeat' (first | ((apply GL.isCall; refine GL.call1 rfl rfl (fun w h => rec_AheadZ zb i w _ h) ?_)) | first | refine stp ?_ | (refine stpB ?_; intro _) | (refine spl ?_ ?_ <;> intro hc <;> ((try simp only [decide_eq_true_eq, decide_eq_false_iff_not, Bool.not_true, Bool.not_false, ne_eq, Classical.not_not, Int.not_lt, Int.not_le] at hc); (try (exfalso; first | omega | exact hc trivial | exact hc rfl)))))
  all_goals (first | (exfalso; simp at hc; done) | (exfalso; omega) | skip)
  refine GE.resMany rfl (by (repeat (first | apply Res.nil | (apply Res.tmp; rfl) | (refine Res.cellA rfl rfl rfl ?_) | (refine Res.cell1 rfl rfl ?_)))) (fun w h => ?_)
  exact ⟨rfl, h.sub⟩
end Go.Proofs.YtipkgamiejenaaaGreat

/- Reference 10 (bytes as strings): out, New, Load, Wipe, Store; reference 03, 17: rows of whole numbers. -/
namespace Go.Proofs.YtipkgamiejenaaaGreat
open Go Go.RowKit Go.MapKept
set_option linter.unusedVariables false
set_option linter.unusedSimpArgs false
set_option maxRecDepth 100000
set_option maxHeartbeats 2000000
end Go.Proofs.YtipkgamiejenaaaGreat

/- Reference 10: New, Wipe, Store. -/
namespace Go.Proofs.YtipkgamiejenaaaGreat
open Go Go.RowKit Go.MapKept
set_option linter.unusedVariables false
set_option linter.unusedSimpArgs false
set_option maxRecDepth 100000
set_option maxHeartbeats 2000000
theorem rf10_New (n : Nat) (hn : n ≤ 1048576) (w : World) (F : List HProp) (hw : holds w F) :
    Ct Tryz.prog 70 #[.int .i64 (n : Nat)] w fun e w' => e = .returned (.string (bs (St.zeros n))) ∧ holds w' F := by
  refine Ct.go (args := [.int .i64 (n : Nat)]) Tryz.func70 rfl rfl rfl hw ?_
  repeat' (first | (first | (apply GL.isAny; refine GL.makeSl encB1 0 n n rfl rfl rfl rfl rfl (Nat.le_refl _) (by omega) (by unfold maxLen; omega) rfl (fun g => ?_)) | (refine G.isRegion 2 ?_; refine G.imp (F' := byB 5 g n (List.replicate n 0) :: F) ?_ (fun w h => byB.ofOwn h); apply G.region) | (apply GL.isAny; refine GL.run (by apply Runs.isConvert; exact Runs.textBy rfl) rfl ?_)) | first | refine stp ?_ | (refine stpB ?_; intro _) | (refine spl ?_ ?_ <;> intro hc <;> ((try simp only [decide_eq_true_eq, decide_eq_false_iff_not, Bool.not_true, Bool.not_false, ne_eq, Classical.not_not, Int.not_lt, Int.not_le] at hc); (try (exfalso; first | omega | exact hc trivial | exact hc rfl)))))
  all_goals (refine GE.resOne rfl (by (repeat (first | apply Res.nil | (apply Res.tmp; rfl) | (refine Res.cellA rfl rfl rfl ?_) | (refine Res.cell1 rfl rfl ?_)))) (fun w h => ?_); exact ⟨rfl, h.sub⟩)
end Go.Proofs.YtipkgamiejenaaaGreat

/- Reference 19: how its state lies; with. -/
namespace Go.Proofs.YtipkgamiejenaaaGreat
open Go Go.RowKit Go.MapKept
set_option linter.unusedVariables false
set_option linter.unusedSimpArgs false
set_option maxRecDepth 100000
set_option maxHeartbeats 2000000
def encTx (s : List UInt8) : List Value := [.string (bs s)]
instance : Enc encTx 1 := ⟨fun _ => rfl, fun _ => by simp [encTx, Value.oneCell'], by omega⟩
structure RfM where
  ca : Option Addr
  cc : Nat
  xa : Option Addr
  xc : Nat
  wa : Option Addr
  wc : Nat
  sa : Option Addr
  sc : Nat
  e0 : Int
  e1 : Int
  e2 : Int
  e3 : Int
/-- A store of the reference. -/
def refS (v : Value) (t : St.S) : HProp := fun f => ∃ q : RfM, (v = .agg #[.int .i64 (t.size : Nat), .slice q.ca t.ch.length q.cc, .slice q.xa t.tx.length q.xc, .slice q.wa t.wi.length q.wc, .slice q.sa t.stack.length q.sc, .int .i64 q.e0, .int .i64 q.e1, .int .i64 q.e2, .int .i64 q.e3] ∧ t.ev = [q.e0, q.e1, q.e2, q.e3]) ∧ sep (owns 84 encCk 3 (.slice q.ca t.ch.length q.cc) t.ch :: owns 9 encTx 1 (.slice q.xa t.tx.length q.xc) t.tx :: owns 3 encI1 1 (.slice q.wa t.wi.length q.wc) t.wi :: owns 3 encI1 1 (.slice q.sa t.stack.length q.sc) t.stack :: []) f
theorem refS.open {w : World} {v : Value} {t : St.S} {F : List HProp} (h : holds w (refS v t :: F)) : ∃ q : RfM, (v = .agg #[.int .i64 (t.size : Nat), .slice q.ca t.ch.length q.cc, .slice q.xa t.tx.length q.xc, .slice q.wa t.wi.length q.wc, .slice q.sa t.stack.length q.sc, .int .i64 q.e0, .int .i64 q.e1, .int .i64 q.e2, .int .i64 q.e3] ∧ t.ev = [q.e0, q.e1, q.e2, q.e3]) ∧ holds w (owns 84 encCk 3 (.slice q.ca t.ch.length q.cc) t.ch :: owns 9 encTx 1 (.slice q.xa t.tx.length q.xc) t.tx :: owns 3 encI1 1 (.slice q.wa t.wi.length q.wc) t.wi :: owns 3 encI1 1 (.slice q.sa t.stack.length q.sc) t.stack :: F) := by
  obtain ⟨q, h⟩ := holds.open_ex h
  obtain ⟨e, h⟩ := holds.open_pure h
  exact ⟨q, e, holds_sep.1 h⟩
/-- What owns a row is a slice of it. -/
theorem owns_slice {α : Type} {T : TypeId} {enc : α → List Value} {m : Nat} [Enc enc m] {v : Value} {l : List α} {w : World} {F : List HProp} (h : holds w (owns T enc m v l :: F)) : ∃ a c, v = .slice a l.length c := by
  obtain ⟨a, c, e, _⟩ := (Reads.at_ (v := v) (enc := enc) (n := m) (l := l) w h).form
  exact ⟨a, c, e⟩
theorem refS.shut {w : World} {t : St.S} {cv xv wv sv : Value} {e0 e1 e2 e3 : Int} {F : List HProp} (he : t.ev = [e0, e1, e2, e3]) (h : holds w (owns 84 encCk 3 cv t.ch :: owns 9 encTx 1 xv t.tx :: owns 3 encI1 1 wv t.wi :: owns 3 encI1 1 sv t.stack :: F)) : holds w (refS (.agg #[.int .i64 (t.size : Nat), cv, xv, wv, sv, .int .i64 e0, .int .i64 e1, .int .i64 e2, .int .i64 e3]) t :: F) := by
  obtain ⟨ca, cc, rfl⟩ := owns_slice h
  obtain ⟨xa, xc, rfl⟩ := owns_slice h.tail
  obtain ⟨wa, wc, rfl⟩ := owns_slice h.tail.tail
  obtain ⟨sa, sc, rfl⟩ := owns_slice h.tail.tail.tail
  exact (holds_sep (l := [owns 84 encCk 3 (.slice ca t.ch.length cc) t.ch, owns 9 encTx 1 (.slice xa t.tx.length xc) t.tx, owns 3 encI1 1 (.slice wa t.wi.length wc) t.wi, owns 3 encI1 1 (.slice sa t.stack.length sc) t.stack]).2 h).mono fun f hf => ⟨⟨ca, cc, xa, xc, wa, wc, sa, sc, e0, e1, e2, e3⟩, ⟨rfl, he⟩, hf⟩
theorem rf19_with0 (sz : Int) (ca xa wa sa : Option Addr) (cc xn xc wn wc sn sc : Nat) (e0 e1 e2 e3 : Int) (hb : 0 ≤ e0 ∧ e0 ≤ 1000000) (l : List ChunkM) (hl : l.length ≤ 1048576) (k : Nat) (hk : k < l.length) (c : ChunkM) (w : World) (F : List HProp) (hw : holds w (owns 84 encCk 3 (.slice ca l.length cc) l :: F)) :
    Ct Tryz.prog 94 #[.agg #[.int .i64 sz, .slice ca l.length cc, .slice xa xn xc, .slice wa wn wc, .slice sa sn sc, .int .i64 e0, .int .i64 e1, .int .i64 e2, .int .i64 e3], .int .i64 (k : Nat), .agg (encCk c).toArray, .int .i64 0] w fun e w' => ∃ r : Option Addr × Nat, e = .returned (.agg #[.int .i64 sz, .slice r.1 l.length r.2, .slice xa xn xc, .slice wa wn wc, .slice sa sn sc, .int .i64 (e0 + 1), .int .i64 (e1), .int .i64 (e2), .int .i64 (e3)]) ∧ holds w' (owns 84 encCk 3 (.slice r.1 l.length r.2) (l.set k c) :: F) := by
  refine Ct.go (args := [.agg #[.int .i64 sz, .slice ca l.length cc, .slice xa xn xc, .slice wa wn wc, .slice sa sn sc, .int .i64 e0, .int .i64 e1, .int .i64 e2, .int .i64 e3], .int .i64 (k : Nat), .agg (encCk c).toArray, .int .i64 0]) Tryz.func94 rfl rfl rfl hw ?_
  repeat' (first | (first | (apply GL.isAny; refine GL.build0 encCk 3 rfl (fun u0 _ => ?_)) | (apply GL.isCall; refine GL.appendAny rfl rfl rfl rfl rfl rfl (by simp only [List.length_nil]; omega) (by simp only [List.length_nil]; omega) rfl (fun r _ => ?_); rw [List.nil_append]; refine GL.pure (fun wx hx => ?_); obtain ⟨ra, rc, rfl, _⟩ := (Reads.at_ (v := r) (enc := encCk) (n := 3) (l := l) wx hx).form) | (apply GL.isStore; refine GL.setElem (i := k) c rfl rfl (by kernel_rfl) hk rfl ?_)) | first | refine stp ?_ | (refine stpB ?_; intro _) | (refine spl ?_ ?_ <;> intro hc <;> ((try simp only [decide_eq_true_eq, decide_eq_false_iff_not, Bool.not_true, Bool.not_false, ne_eq, Classical.not_not, Int.not_lt, Int.not_le] at hc); (try (exfalso; first | omega | exact hc trivial | exact hc rfl)))))
  all_goals (refine GE.resOne rfl (by (repeat (first | apply Res.nil | (apply Res.tmp; rfl) | (refine Res.cellA rfl rfl rfl ?_) | (refine Res.cell1 rfl rfl ?_)))) (fun w h => ?_); exact ⟨(ra, rc), rfl, h.sub⟩)
theorem rf19_with1 (sz : Int) (ca xa wa sa : Option Addr) (cc xn xc wn wc sn sc : Nat) (e0 e1 e2 e3 : Int) (hb : 0 ≤ e1 ∧ e1 ≤ 1000000) (l : List ChunkM) (hl : l.length ≤ 1048576) (k : Nat) (hk : k < l.length) (c : ChunkM) (w : World) (F : List HProp) (hw : holds w (owns 84 encCk 3 (.slice ca l.length cc) l :: F)) :
    Ct Tryz.prog 94 #[.agg #[.int .i64 sz, .slice ca l.length cc, .slice xa xn xc, .slice wa wn wc, .slice sa sn sc, .int .i64 e0, .int .i64 e1, .int .i64 e2, .int .i64 e3], .int .i64 (k : Nat), .agg (encCk c).toArray, .int .i64 1] w fun e w' => ∃ r : Option Addr × Nat, e = .returned (.agg #[.int .i64 sz, .slice r.1 l.length r.2, .slice xa xn xc, .slice wa wn wc, .slice sa sn sc, .int .i64 (e0), .int .i64 (e1 + 1), .int .i64 (e2), .int .i64 (e3)]) ∧ holds w' (owns 84 encCk 3 (.slice r.1 l.length r.2) (l.set k c) :: F) := by
  refine Ct.go (args := [.agg #[.int .i64 sz, .slice ca l.length cc, .slice xa xn xc, .slice wa wn wc, .slice sa sn sc, .int .i64 e0, .int .i64 e1, .int .i64 e2, .int .i64 e3], .int .i64 (k : Nat), .agg (encCk c).toArray, .int .i64 1]) Tryz.func94 rfl rfl rfl hw ?_
  repeat' (first | (first | (apply GL.isAny; refine GL.build0 encCk 3 rfl (fun u0 _ => ?_)) | (apply GL.isCall; refine GL.appendAny rfl rfl rfl rfl rfl rfl (by simp only [List.length_nil]; omega) (by simp only [List.length_nil]; omega) rfl (fun r _ => ?_); rw [List.nil_append]; refine GL.pure (fun wx hx => ?_); obtain ⟨ra, rc, rfl, _⟩ := (Reads.at_ (v := r) (enc := encCk) (n := 3) (l := l) wx hx).form) | (apply GL.isStore; refine GL.setElem (i := k) c rfl rfl (by kernel_rfl) hk rfl ?_)) | first | refine stp ?_ | (refine stpB ?_; intro _) | (refine spl ?_ ?_ <;> intro hc <;> ((try simp only [decide_eq_true_eq, decide_eq_false_iff_not, Bool.not_true, Bool.not_false, ne_eq, Classical.not_not, Int.not_lt, Int.not_le] at hc); (try (exfalso; first | omega | exact hc trivial | exact hc rfl)))))
  all_goals (refine GE.resOne rfl (by (repeat (first | apply Res.nil | (apply Res.tmp; rfl) | (refine Res.cellA rfl rfl rfl ?_) | (refine Res.cell1 rfl rfl ?_)))) (fun w h => ?_); exact ⟨(ra, rc), rfl, h.sub⟩)
end Go.Proofs.YtipkgamiejenaaaGreat

/- References 03, 17 (a stack of whole numbers), 19: Is, Stale, Take. -/
namespace Go.Proofs.YtipkgamiejenaaaGreat
open Go Go.RowKit Go.MapKept
set_option linter.unusedVariables false
set_option linter.unusedSimpArgs false
set_option maxRecDepth 100000
set_option maxHeartbeats 2000000
theorem last_at {α : Type} (l : List α) (y : α) (k : Nat) (h : k < (l ++ [y]).length) (hk : k = l.length) : (l ++ [y])[k] = y := by subst hk; simp
theorem rf03_PopN (v : Value) (w : World) (F : List HProp) (hw : holds w (owns 3 encI1 1 v [] :: F)) :
    Ct Tryz.prog 162 #[v] w fun e w' => e = .returned (.tuple #[v, .int .i64 0, .bool false]) ∧ holds w' (owns 3 encI1 1 v [] :: F) := by
  refine Ct.go (args := [v]) Tryz.func162 rfl rfl rfl hw ?_
  repeat' (first | refine stp ?_ | (refine stpB ?_; intro _) | (refine spl ?_ ?_ <;> intro hc <;> ((try simp only [decide_eq_true_eq, decide_eq_false_iff_not, Bool.not_true, Bool.not_false, ne_eq, Classical.not_not, Int.not_lt, Int.not_le] at hc); (try (exfalso; first | omega | exact hc trivial | exact hc rfl)))))
  all_goals (first | (exfalso; simp at hc; done) | skip)
  all_goals (refine GE.resMany rfl (by (repeat (first | apply Res.nil | (apply Res.tmp; rfl) | (refine Res.cellA rfl rfl rfl ?_) | (refine Res.cell1 rfl rfl ?_)))) (fun w h => ?_); exact ⟨rfl, h.sub⟩)
theorem rf03_PopY (v : Value) (l : List Int) (y : Int) (hl : l.length ≤ 1048576) (w : World) (F : List HProp) (hw : holds w (owns 3 encI1 1 v (l ++ [y]) :: F)) :
    Ct Tryz.prog 162 #[v] w fun e w' => ∃ r : Option Addr × Nat, e = .returned (.tuple #[.slice r.1 l.length r.2, .int .i64 y, .bool true]) ∧ holds w' (owns 3 encI1 1 (.slice r.1 l.length r.2) l :: F) := by
  refine Ct.go (args := [v]) Tryz.func162 rfl rfl rfl hw ?_
  have hn : (l ++ [y]).length = l.length + 1 := by simp
  repeat' (first | ((apply GD.isAny; refine GD.run (by apply Runs.isSlice; exact Runs.slice 0 l.length rfl rfl rfl rfl rfl (by omega) ⟨⟨by omega, by omega⟩, Or.inl rfl⟩) rfl ?_)) | first | refine stp ?_ | (refine stpB ?_; intro _) | (refine spl ?_ ?_ <;> intro hc <;> ((try simp only [decide_eq_true_eq, decide_eq_false_iff_not, Bool.not_true, Bool.not_false, ne_eq, Classical.not_not, Int.not_lt, Int.not_le] at hc); (try (exfalso; first | omega | exact hc trivial | exact hc rfl)))))
  all_goals (first | (exfalso; omega) | skip)
  refine GE.resMany rfl (by (repeat (first | apply Res.nil | (apply Res.tmp; rfl) | (refine Res.cellA rfl rfl rfl ?_) | (refine Res.cell1 rfl rfl ?_)))) (fun w h => ?_)
  have h2 := holds.shrink (l := l ++ [y]) (k := l.length) (holds.sub (H := owns 3 encI1 1 v (l ++ [y]) :: F) h) ⟨⟨by omega, by omega⟩, Or.inl rfl⟩
  have ht : (l ++ [y]).take l.length = l := by simp
  have hs := owns_slice h2
  rw [ht] at h2 hs
  obtain ⟨a, c, e⟩ := hs
  rw [e] at h2
  refine ⟨(a, c), ?_, h2⟩
  rw [e, last_at l y _ _ (by omega)]
theorem rf17_TakeN (v : Value) (w : World) (F : List HProp) (hw : holds w (owns 3 encI1 1 v [] :: F)) :
    Ct Tryz.prog 93 #[v] w fun e w' => e = .returned (.tuple #[v, .int .i64 0, .bool false]) ∧ holds w' (owns 3 encI1 1 v [] :: F) := by
  refine Ct.go (args := [v]) Tryz.func93 rfl rfl rfl hw ?_
  repeat' (first | ((apply GL.isCall; refine GL.call1 rfl rfl (fun w h => rf03_PopN v w _ h) ?_)) | first | refine stp ?_ | (refine stpB ?_; intro _) | (refine spl ?_ ?_ <;> intro hc <;> ((try simp only [decide_eq_true_eq, decide_eq_false_iff_not, Bool.not_true, Bool.not_false, ne_eq, Classical.not_not, Int.not_lt, Int.not_le] at hc); (try (exfalso; first | omega | exact hc trivial | exact hc rfl)))))
  all_goals (refine GE.resMany rfl (by (repeat (first | apply Res.nil | (apply Res.tmp; rfl) | (refine Res.cellA rfl rfl rfl ?_) | (refine Res.cell1 rfl rfl ?_)))) (fun w h => ?_); exact ⟨rfl, h.sub⟩)
theorem rf17_TakeY (v : Value) (l : List Int) (y : Int) (hl : l.length ≤ 1048576) (w : World) (F : List HProp) (hw : holds w (owns 3 encI1 1 v (l ++ [y]) :: F)) :
    Ct Tryz.prog 93 #[v] w fun e w' => ∃ r : Option Addr × Nat, e = .returned (.tuple #[.slice r.1 l.length r.2, .int .i64 y, .bool true]) ∧ holds w' (owns 3 encI1 1 (.slice r.1 l.length r.2) l :: F) := by
  refine Ct.go (args := [v]) Tryz.func93 rfl rfl rfl hw ?_
  repeat' (first | ((apply GL.isCall; refine GL.call rfl rfl (fun w h => rf03_PopY v l y hl w _ h) (fun x => ?_))) | first | refine stp ?_ | (refine stpB ?_; intro _) | (refine spl ?_ ?_ <;> intro hc <;> ((try simp only [decide_eq_true_eq, decide_eq_false_iff_not, Bool.not_true, Bool.not_false, ne_eq, Classical.not_not, Int.not_lt, Int.not_le] at hc); (try (exfalso; first | omega | exact hc trivial | exact hc rfl)))))
  all_goals (refine GE.resMany rfl (by (repeat (first | apply Res.nil | (apply Res.tmp; rfl) | (refine Res.cellA rfl rfl rfl ?_) | (refine Res.cell1 rfl rfl ?_)))) (fun w h => ?_); exact ⟨_, rfl, h.sub⟩)
end Go.Proofs.YtipkgamiejenaaaGreat

/- Reference 19: Is, Stale, Defer. -/
namespace Go.Proofs.YtipkgamiejenaaaGreat
open Go Go.RowKit Go.MapKept
set_option linter.unusedVariables false
set_option linter.unusedSectionVars false
set_option linter.unusedSimpArgs false
set_option maxRecDepth 100000
set_option maxHeartbeats 4000000
theorem rf17_TakeN' (v : Value) (l : List Int) (hl : l = []) (w : World) (F : List HProp) (hw : holds w (owns 3 encI1 1 v l :: F)) :
    Ct Tryz.prog 93 #[v] w fun e w' => e = .returned (.tuple #[v, .int .i64 0, .bool false]) ∧ holds w' (owns 3 encI1 1 v l :: F) := by
  subst hl; exact rf17_TakeN v w F hw
theorem rf17_TakeY' (v : Value) (l l1 : List Int) (y : Int) (hl : l1 ++ [y] = l) (hb : l.length ≤ 1048576) (w : World) (F : List HProp) (hw : holds w (owns 3 encI1 1 v l :: F)) :
    Ct Tryz.prog 93 #[v] w fun e w' => ∃ r : Option Addr × Nat, e = .returned (.tuple #[.slice r.1 l1.length r.2, .int .i64 y, .bool true]) ∧ holds w' (owns 3 encI1 1 (.slice r.1 l1.length r.2) l1 :: F) := by
  subst hl; exact rf17_TakeY v l1 y (by rw [List.length_append] at hb; omega) w F hw
theorem St.Inv.stk {t : St.S} {K : Nat} (h : St.Inv t K) : t.stack.length ≤ t.ch.length :=
  Stk.nodup_len _ _ h.nodup fun x hx => by obtain ⟨i, hi, rfl, _⟩ := (h.free x).1 hx; omega
theorem St.Inv.ev4 {t : St.S} {K : Nat} (h : St.Inv t K) (hK : K ≤ 1000000) {q : RfM} (he : t.ev = [q.e0, q.e1, q.e2, q.e3]) : (0 ≤ q.e0 ∧ q.e0 ≤ 1000000) ∧ (0 ≤ q.e1 ∧ q.e1 ≤ 1000000) ∧ (0 ≤ q.e2 ∧ q.e2 ≤ 1000000) ∧ (0 ≤ q.e3 ∧ q.e3 ≤ 1000000) := by
  have := h.ev
  rw [he] at this
  have a0 := this q.e0 (by simp)
  have a1 := this q.e1 (by simp)
  have a2 := this q.e2 (by simp)
  have a3 := this q.e3 (by simp)
  omega
theorem rf19_Is (sz : Int) (ca xa wa sa : Option Addr) (cn cc xn xc wn wc sn sc : Nat) (e0 e1 e2 e3 : Int) (i : Int) (w : World) (F : List HProp) (hw : holds w F) :
    Ct Tryz.prog 76 #[.agg #[.int .i64 sz, .slice ca cn cc, .slice xa xn xc, .slice wa wn wc, .slice sa sn sc, .int .i64 e0, .int .i64 e1, .int .i64 e2, .int .i64 e3], .int .i64 i] w fun e w' => e = .returned (.bool (decide (0 ≤ i ∧ i < (cn : Int)))) ∧ holds w' F := by
  refine Ct.go (args := [.agg #[.int .i64 sz, .slice ca cn cc, .slice xa xn xc, .slice wa wn wc, .slice sa sn sc, .int .i64 e0, .int .i64 e1, .int .i64 e2, .int .i64 e3], .int .i64 i]) Tryz.func76 rfl rfl rfl hw ?_
  by_cases h0 : 0 ≤ i
  · have hd : decide (0 ≤ i ∧ i < (cn : Int)) = decide (i < (cn : Int)) := decide_eq_decide.2 ⟨fun h => h.2, fun h => ⟨h0, h⟩⟩
    rw [hd]
    repeat' (first | ((apply GL.isAny; refine GL.run (Runs.lenLit rfl) rfl ?_)) | first | refine stp ?_ | (refine stpB ?_; intro _) | (refine spl ?_ ?_ <;> intro hc <;> ((try simp only [decide_eq_true_eq, decide_eq_false_iff_not, Bool.not_true, Bool.not_false, ne_eq, Classical.not_not, Int.not_lt, Int.not_le] at hc); (try (exfalso; first | omega | exact hc trivial | exact hc rfl)))))
    all_goals (refine GE.resOne rfl (by (repeat (first | apply Res.nil | (apply Res.tmp; rfl) | (refine Res.cellA rfl rfl rfl ?_) | (refine Res.cell1 rfl rfl ?_)))) (fun w h => ?_); exact ⟨rfl, h.sub⟩)
  · rw [decide_eq_false (fun h => h0 h.1)]
    repeat' (first | refine stp ?_ | (refine stpB ?_; intro _) | (refine spl ?_ ?_ <;> intro hc <;> ((try simp only [decide_eq_true_eq, decide_eq_false_iff_not, Bool.not_true, Bool.not_false, ne_eq, Classical.not_not, Int.not_lt, Int.not_le] at hc); (try (exfalso; first | omega | exact hc trivial | exact hc rfl)))))
    all_goals (refine GE.resOne rfl (by (repeat (first | apply Res.nil | (apply Res.tmp; rfl) | (refine Res.cellA rfl rfl rfl ?_) | (refine Res.cell1 rfl rfl ?_)))) (fun w h => ?_); exact ⟨rfl, h.sub⟩)
section
variable (v : Value) (t : St.S) (K : Nat) (hI : St.Inv t K) (hK : K ≤ 1000000)
include hI hK
theorem rf19_Defer (i ow : Int) (w : World) (F : List HProp) (hw : holds w (refS v t :: F)) :
    Ct Tryz.prog 36 #[v, .int .i64 i, .int .i64 ow] w fun e w' => ∃ v', e = .returned (.tuple #[v', .int .i64 (St.give t i ow).2]) ∧ holds w' (refS v' (St.give t i ow).1 :: F) := by
  obtain ⟨q, ⟨rfl, hev⟩, h1⟩ := refS.open hw
  have hnc := hI.ncap
  obtain ⟨b0, b1, b2, b3⟩ := hI.ev4 hK hev
  unfold St.give
  refine Ct.go (args := [.agg #[.int .i64 (t.size : Nat), .slice q.ca t.ch.length q.cc, .slice q.xa t.tx.length q.xc, .slice q.wa t.wi.length q.wc, .slice q.sa t.stack.length q.sc, .int .i64 q.e0, .int .i64 q.e1, .int .i64 q.e2, .int .i64 q.e3], .int .i64 i, .int .i64 ow]) Tryz.func36 rfl rfl rfl h1 ?_
  by_cases ho : t.out i
  · rw [if_pos ho]
    have hd : decide (0 ≤ i ∧ i < (t.ch.length : Int)) = false := decide_eq_false (by unfold St.S.out at ho; omega)
    repeat' (first | (first | (apply GL.isCall; refine GL.call1 rfl rfl (fun w h => rf19_Is (t.size : Nat) q.ca q.xa q.wa q.sa t.ch.length q.cc t.tx.length q.xc t.wi.length q.wc t.stack.length q.sc q.e0 q.e1 q.e2 q.e3 i w _ h) ?_) | (rw [hd])) | first | refine stp ?_ | (refine stpB ?_; intro _) | (refine spl ?_ ?_ <;> intro hc <;> ((try simp only [decide_eq_true_eq, decide_eq_false_iff_not, Bool.not_true, Bool.not_false, ne_eq, Classical.not_not, Int.not_lt, Int.not_le] at hc); (try (exfalso; first | omega | exact hc trivial | exact hc rfl)))))
    all_goals (first | (exfalso; simp at hc; done) | skip)
    all_goals (refine GE.resMany rfl (by (repeat (first | apply Res.nil | (apply Res.tmp; rfl) | (refine Res.cellA rfl rfl rfl ?_) | (refine Res.cell1 rfl rfl ?_)))) (fun w h => ?_); exact ⟨_, rfl, refS.shut hev h.sub⟩)
  rw [if_neg ho]
  obtain ⟨k, rfl, hk⟩ := St.out_ex ho
  have hd : decide (0 ≤ (k : Int) ∧ (k : Int) < (t.ch.length : Int)) = true := decide_eq_true (by omega)
  rw [t.c_eq k hk]
  by_cases hp : (t.ch[k]).phase ≠ 1 ∨ (t.ch[k]).owner ≠ ow
  · rw [if_pos hp]
    repeat' (first | (first | (apply GL.isCall; refine GL.call1 rfl rfl (fun w h => rf19_Is (t.size : Nat) q.ca q.xa q.wa q.sa t.ch.length q.cc t.tx.length q.xc t.wi.length q.wc t.stack.length q.sc q.e0 q.e1 q.e2 q.e3 (k : Int) w _ h) ?_) | (rw [hd])) | first | refine stp ?_ | (refine stpB ?_; intro _) | (refine spl ?_ ?_ <;> intro hc <;> ((try simp only [decide_eq_true_eq, decide_eq_false_iff_not, Bool.not_true, Bool.not_false, ne_eq, Classical.not_not, Int.not_lt, Int.not_le] at hc); (try (exfalso; first | omega | exact hc trivial | exact hc rfl)))))
    all_goals (first | (exfalso; simp at hc; done) | (exfalso; omega) | skip)
    all_goals (refine GE.resMany rfl (by (repeat (first | apply Res.nil | (apply Res.tmp; rfl) | (refine Res.cellA rfl rfl rfl ?_) | (refine Res.cell1 rfl rfl ?_)))) (fun w h => ?_); exact ⟨_, rfl, refS.shut hev h.sub⟩)
  · rw [if_neg hp]
    repeat' (first | (first | (apply GL.isCall; refine GL.call1 rfl rfl (fun w h => rf19_Is (t.size : Nat) q.ca q.xa q.wa q.sa t.ch.length q.cc t.tx.length q.xc t.wi.length q.wc t.stack.length q.sc q.e0 q.e1 q.e2 q.e3 (k : Int) w _ h) ?_) | (rw [hd]) | (refine G.isRegion 5 ?_; refine G.drawTail 9 (by kernel_rfl) (by simp only [List.take_succ_cons, List.take_zero]; rfl) (by simp only [List.drop_succ_cons, List.drop_zero]; rfl) (by kernel_rfl) ?_) | (apply GL.isCall; refine GL.callH (owns 84 encCk 3 (.slice q.ca t.ch.length q.cc) t.ch) (vs := [.agg #[.int .i64 (t.size : Nat), .slice q.ca t.ch.length q.cc, .slice q.xa t.tx.length q.xc, .slice q.wa t.wi.length q.wc, .slice q.sa t.stack.length q.sc, .int .i64 q.e0, .int .i64 q.e1, .int .i64 q.e2, .int .i64 q.e3], .int .i64 k, .agg (encCk ⟨2, 0, (t.ch[k]).gen⟩).toArray, .int .i64 1]) rfl rfl (fun w h => rf19_with1 (t.size : Nat) q.ca q.xa q.wa q.sa q.cc t.tx.length q.xc t.wi.length q.wc t.stack.length q.sc q.e0 q.e1 q.e2 q.e3 b1 t.ch hnc k hk ⟨2, 0, (t.ch[k]).gen⟩ w _ h) (fun r2 => ?_))) | first | refine stp ?_ | (refine stpB ?_; intro _) | (refine spl ?_ ?_ <;> intro hc <;> ((try simp only [decide_eq_true_eq, decide_eq_false_iff_not, Bool.not_true, Bool.not_false, ne_eq, Classical.not_not, Int.not_lt, Int.not_le] at hc); (try (exfalso; first | omega | exact hc trivial | exact hc rfl)))))
    all_goals (first | (exfalso; simp at hc; done) | (exfalso; omega) | skip)
    all_goals (refine GE.resMany rfl (by (repeat (first | apply Res.nil | (apply Res.tmp; rfl) | (refine Res.cellA rfl rfl rfl ?_) | (refine Res.cell1 rfl rfl ?_)))) (fun w h => ?_); exact ⟨_, rfl, refS.shut (t := { t with ch := t.ch.set k ⟨2, 0, (t.ch[k]).gen⟩, ev := St.up t.ev 1 }) (by rw [hev]; rfl) h.sub⟩)
end
end Go.Proofs.YtipkgamiejenaaaGreat

/- Reference 19: Begin, Load, Put. -/
namespace Go.Proofs.YtipkgamiejenaaaGreat
open Go Go.RowKit Go.MapKept
set_option linter.unusedVariables false
set_option linter.unusedSectionVars false
set_option linter.unusedSimpArgs false
set_option maxRecDepth 100000
set_option maxHeartbeats 4000000
section
variable (v : Value) (t : St.S) (K : Nat) (hI : St.Inv t K) (hK : K ≤ 1000000)
include hI hK
end
end Go.Proofs.YtipkgamiejenaaaGreat

/- Reference 19: Put, Step. -/
namespace Go.Proofs.YtipkgamiejenaaaGreat
open Go Go.RowKit Go.MapKept
set_option linter.unusedVariables false
set_option linter.unusedSectionVars false
set_option linter.unusedSimpArgs false
set_option maxRecDepth 100000
set_option maxHeartbeats 4000000
section
variable (v : Value) (t : St.S) (K : Nat) (hI : St.Inv t K) (hK : K ≤ 1000000)
include hI hK
end
end Go.Proofs.YtipkgamiejenaaaGreat
