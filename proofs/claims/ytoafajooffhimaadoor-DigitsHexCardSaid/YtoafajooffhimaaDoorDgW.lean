/- Numbers' texts and their reading: the walks. -/
import Derived.Test.YtoafajooffhimaaDoorDgPl
import Derived.Test.YtoafajooffhimaaDoorGoStr
import Derived.Test.YtoafajooffhimaaDoorGoLH
import Derived.Test.YtoafajooffhimaaDoorTypes
import Derived.Test.YtoafajooffhimaaDoorTypesS
import Derived.Test.YtoafajooffhimaaDoorLayD
import Derived.Lib.LaidTab
import Derived.Lib.SmallJoins
import Derived.Lib.AtoiErrMem
import Derived.Lib.AppendIntMem
namespace Go.Proofs.YtoafajooffhimaaDoor
open Go Go.RowKit Go.MapKept
set_option linter.unusedVariables false
set_option linter.unusedSimpArgs false
set_option maxRecDepth 100000
set_option maxHeartbeats 4000000

/-- What the library's variables hold as the call begins. -/
structure LibW (W : World) : Prop where
  tab : Lib.TabIs Tryd.prog W "internal/strconv.uint64pow10" .u64 Lib.pow10Tab
  syn : ∃ t p, W.var? Tryd.prog "strconv.ErrSyntax" = some #[.iface t p]
  rng : ∃ t p, W.var? Tryd.prog "strconv.ErrRange" = some #[.iface t p]
  mx : ∃ m, W.cell? ⟨0, 0, none⟩ = some (.int .i64 m)
theorem LibW.at {W w : World} {F F' : List HProp} (h : LibW W) [hp : Has F (allOf W) F'] (hw : holds w F) : LibW w := by
  have hb := (hw.perm hp.perm).below_all
  obtain ⟨t1, p1, h1⟩ := h.syn
  obtain ⟨t2, p2, h2⟩ := h.rng
  obtain ⟨m, h3⟩ := h.mx
  refine ⟨Joins.var_stays (g := 3) (by kernel_rfl) h.tab hb (Nat.le_refl _), ⟨t1, p1, Joins.var_stays (g := 1) (by kernel_rfl) h1 hb (Nat.le_refl _)⟩, ⟨t2, p2, Joins.var_stays (g := 2) (by kernel_rfl) h2 hb (Nat.le_refl _)⟩, ⟨m, ?_⟩⟩
  rw [hb.cell (Lib.lt_of_cell h3)]; exact h3
theorem itoa_ct {W : World} (hL : LibW W) (n : Int) (hn : Dg.I64 n) (w : World) (F : List HProp) {F' : List HProp} [hp : Has F (allOf W) F'] (hw : holds w F) :
    Ct Tryd.prog 29 #[.int .i64 n] w fun e w' => e = .returned (.string (bs (Lib.itoa n))) ∧ holds w' F :=
  ⟨(Any.strconv_Itoa Tryd.lays171 n hn.1 hn.2 w (hL.at hw).tab).mono fun e w' ⟨he, k, os, hk⟩ => ⟨he, by subst hk; exact hw.below (Lib.below_grow _ _ (Nat.le_refl _) _ _)⟩⟩
theorem atoi_ok {W : World} (s : List UInt8) (hs : s.length ≤ 281474976710656) (v : Int) (h : Lib.atoiAll s = .ok v) (w : World) (F : List HProp) (hw : holds w F) :
    Ct Tryd.prog 28 #[.string (bs s)] w fun e w' => e = .returned (.tuple #[.int .i64 v, .nilIface]) ∧ holds w' F :=
  ⟨(Any.strconv_Atoi_ok Tryd.lays172 (bs s) (by rw [bs_size]; omega) v (by rw [bs_data]; exact h) w).mono fun e w' ⟨he, hk⟩ => ⟨he, by
    rcases hk with rfl | ⟨t, rfl⟩
    · exact hw
    · exact hw.below (Lib.bytesWorld_below _ _ _)⟩⟩
theorem atoi_no {W : World} (hL : LibW W) (s : List UInt8) (hs : s.length ≤ 281474976710656) (h : ∀ v, Lib.atoiAll s ≠ .ok v) (w : World) (F : List HProp) {F' : List HProp} [hp : Has F (allOf W) F'] (hw : holds w F) :
    Ct Tryd.prog 28 #[.string (bs s)] w fun e w' => ∃ x : Int × TypeId × Value, e = .returned (.tuple #[.int .i64 x.1, .iface x.2.1 x.2.2]) ∧ holds w' F := by
  have hl := hL.at hw
  obtain ⟨t1, p1, h1⟩ := hl.syn
  obtain ⟨t2, p2, h2⟩ := hl.rng
  have hz : (bs s).size ≤ 281474976710656 := by rw [bs_size]; exact hs
  cases hc : Lib.atoiAll s
  · exact absurd hc (h _)
  · exact ⟨(Any.strconv_Atoi_syntax_var Tryd.lays172 (bs s) hz (by rw [bs_data]; exact hc) t1 p1 w h1).mono fun e w' ⟨N, he, _, _, hb⟩ => ⟨(_, _, _), he, hw.below hb⟩⟩
  · exact ⟨(Any.strconv_Atoi_range_var Tryd.lays172 (bs s) hz (by rw [bs_data]; exact hc) t2 p2 w h2).mono fun e w' ⟨N, he, _, _, hb⟩ => ⟨(_, _, _), he, hw.below hb⟩⟩
section
variable {P : Program} {n : Nat} {Q : Exit → Act → World → Prop} {env : Env} {F : List HProp}
class IfaceT (P : Program) (t : TypeId) : Prop where
  ok : ∃ ms, P.underlying t = some (.interface ms)
theorem run_eq_ifaceNil {t te : TypeId} {p : Value} {ms : Array (String × TypeId)} (hm : P.underlying t = some (.interface ms)) (w : World) (d : Nat) : (Op.equalIn (d + 1) t (.iface te p) .nilIface).run P w = .ok false w := by
  simp [Op.equalIn, run_underlying hm, Result.andThen]
theorem run_eq_nilNil {t : TypeId} {ms : Array (String × TypeId)} (hm : P.underlying t = some (.interface ms)) (w : World) (d : Nat) : (Op.equalIn (d + 1) t .nilIface .nilIface).run P w = .ok true w := by
  simp [Op.equalIn, run_underlying hm, Result.andThen]
theorem Runs.neqIfaceNil {t u : TypeId} {x : Operand} {te : TypeId} {p : Value} [hp : IfaceT P t] (hx : opnd env x = some (.iface te p)) : Runs P n env F (.binOp .neq t x (.const .nilIface) u) (.bool true) := .mk fun a w ty pos aft g d hf hw => by
  obtain ⟨ms, hm⟩ := hp.ok
  have e1 : binOp .neq t (.iface te p) .nilIface = (do pure (.bool (!(← Op.equal t (.iface te p) .nilIface)))) := rfl
  have e2 : (Op.equal t (.iface te p) .nilIface).run P w = .ok false w := run_eq_ifaceNil hm w 9999
  simp [execOp, hf.eval hx, show a.eval (.const .nilIface) = .nilIface from rfl, eqGuard, e1, e2, Result.andThen]
theorem Runs.neqNilNil {t u : TypeId} {x : Operand} [hp : IfaceT P t] (hx : opnd env x = some .nilIface) : Runs P n env F (.binOp .neq t x (.const .nilIface) u) (.bool false) := .mk fun a w ty pos aft g d hf hw => by
  obtain ⟨ms, hm⟩ := hp.ok
  have e1 : binOp .neq t .nilIface .nilIface = (do pure (.bool (!(← Op.equal t .nilIface .nilIface)))) := rfl
  have e2 : (Op.equal t .nilIface .nilIface).run P w = .ok true w := run_eq_nilNil hm w 9999
  simp [execOp, hf.eval hx, show a.eval (.const .nilIface) = .nilIface from rfl, eqGuard, e1, e2, Result.andThen]
end
instance : IfaceT Tryd.prog 43 := ⟨⟨_, Tryd.underlying43⟩⟩

section
variable {W : World}
theorem digits_Num (hL : LibW W) (x : Int) (hx : Dg.I64 x) (w : World) (F : List HProp) {F' : List HProp} [hp : Has F (allOf W) F'] (hw : holds w F) :
    Ct Tryd.prog 16 #[.int .i64 x] w fun e w' => e = .returned (.string (bs (Lib.itoa x))) ∧ holds w' F := by
  refine Ct.go (args := [.int .i64 x]) Tryd.func16 rfl rfl rfl hw ?_
  repeat' (first | ((apply GL.isCall; refine GL.call1 rfl rfl (fun w h => itoa_ct hL x hx w _ h) ?_)) | first | refine stp ?_ | (refine stpB ?_; intro _) | (refine spl ?_ ?_ <;> intro hc <;> ((try simp only [decide_eq_true_eq, decide_eq_false_iff_not, Bool.not_true, Bool.not_false, ne_eq, Classical.not_not, Int.not_lt, Int.not_le] at hc); (try (exfalso; first | omega | exact hc trivial | exact hc rfl)))))
  refine GE.resOne rfl (by (repeat (first | apply Res.nil | (apply Res.tmp; rfl) | (refine Res.cellA rfl rfl rfl ?_) | (refine Res.cell1 rfl rfl ?_)))) (fun w h => ?_); exact ⟨rfl, h.sub⟩
theorem digits_Read (hL : LibW W) (s : List UInt8) (hs : s.length ≤ 281474976710656) (w : World) (F : List HProp) {F' : List HProp} [hp : Has F (allOf W) F'] (hw : holds w F) :
    Ct Tryd.prog 15 #[.string (bs s)] w fun e w' => e = .returned (.tuple #[.int .i64 ((Dg.read s).getD 0), .bool (Dg.read s).isSome]) ∧ holds w' F := by
  refine Ct.go (args := [.string (bs s)]) Tryd.func15 rfl rfl rfl hw ?_
  by_cases hc : ∃ v, Lib.atoiAll s = .ok v
  · obtain ⟨v, hv⟩ := hc
    have hr : Dg.read s = if Lib.itoa v = s then some v else none := by unfold Dg.read; rw [hv]
    have hi := Dg.atoi_i64 hv
    repeat' (first | (first | (apply GL.isCall; refine GL.call1 rfl rfl (fun w h => atoi_ok (W := W) s hs v hv w _ h) ?_) | (apply GL.isCall; refine GL.call1 rfl rfl (fun w h => digits_Num hL v hi w _ h) ?_) | (apply GL.isAny; refine GL.run (by first | exact Runs.strEq rfl rfl | exact Runs.strNe rfl rfl | exact Runs.strLen rfl | exact Runs.strAdd rfl rfl (by first | omega | (simp only [List.length_append, List.length_cons, List.length_nil] at *; omega)) | exact Runs.neqIfaceNil rfl | exact Runs.neqNilNil rfl) rfl ?_)) | first | refine stp ?_ | (refine stpB ?_; intro _) | (refine spl ?_ ?_ <;> intro hc <;> ((try simp only [decide_eq_true_eq, decide_eq_false_iff_not, Bool.not_true, Bool.not_false, ne_eq, Classical.not_not, Int.not_lt, Int.not_le] at hc); (try (exfalso; first | omega | exact hc trivial | exact hc rfl)))))
    all_goals (refine GE.resMany rfl (by (repeat (first | apply Res.nil | (apply Res.tmp; rfl) | (refine Res.cellA rfl rfl rfl ?_) | (refine Res.cell1 rfl rfl ?_)))) (fun w h => ?_); refine ⟨?_, h.sub⟩; rw [hr]; simp_all)
  · have hn : ∀ v, Lib.atoiAll s ≠ .ok v := fun v h => hc ⟨v, h⟩
    have hr : Dg.read s = none := by
      unfold Dg.read
      split
      · rename_i v h; exact absurd h (hn v)
      · rfl
    repeat' (first | (first | (apply GL.isCall; refine GL.call rfl rfl (fun w h => atoi_no hL s hs hn w _ h) (fun x => ?_)) | (apply GL.isAny; refine GL.run (by first | exact Runs.strEq rfl rfl | exact Runs.strNe rfl rfl | exact Runs.strLen rfl | exact Runs.strAdd rfl rfl (by first | omega | (simp only [List.length_append, List.length_cons, List.length_nil] at *; omega)) | exact Runs.neqIfaceNil rfl | exact Runs.neqNilNil rfl) rfl ?_)) | first | refine stp ?_ | (refine stpB ?_; intro _) | (refine spl ?_ ?_ <;> intro hc <;> ((try simp only [decide_eq_true_eq, decide_eq_false_iff_not, Bool.not_true, Bool.not_false, ne_eq, Classical.not_not, Int.not_lt, Int.not_le] at hc); (try (exfalso; first | omega | exact hc trivial | exact hc rfl)))))
    all_goals (refine GE.resMany rfl (by (repeat (first | apply Res.nil | (apply Res.tmp; rfl) | (refine Res.cellA rfl rfl rfl ?_) | (refine Res.cell1 rfl rfl ?_)))) (fun w h => ?_); refine ⟨?_, h.sub⟩; rw [hr]; rfl)
end
end Go.Proofs.YtoafajooffhimaaDoor
