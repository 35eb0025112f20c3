/- Numbers' texts and their reading in the reference: the walks. -/
import Derived.Test.YtoafajooffhimaaDoorDgX
namespace Go.Proofs.YtoafajooffhimaaDoor
open Go Go.RowKit Go.MapKept
set_option linter.unusedVariables false
set_option linter.unusedSimpArgs false
set_option maxRecDepth 100000
set_option maxHeartbeats 4000000
section
variable {P : Program} {n : Nat} {env : Env} {F : List HProp} {x y : Operand} {xT yT : TypeId} {i j : Int}
theorem wrap_eq (m : Int) : IntKind.i64.wrap m = Dg.wrap m := by rw [IntKind.wrap_i64]; unfold Dg.wrap; omega
theorem Runs.addWr (hx : opnd env x = some (.int .i64 i)) (hy : opnd env y = some (.int .i64 j)) : Runs P n env F (.binOp .add xT x y yT) (.int .i64 (Dg.wrap (i + j))) := by rw [← wrap_eq]; exact Runs.addW hx hy
theorem Runs.mulWr (hx : opnd env x = some (.int .i64 i)) (hy : opnd env y = some (.int .i64 j)) : Runs P n env F (.binOp .mul xT x y yT) (.int .i64 (Dg.wrap (i * j))) := by
  rw [← wrap_eq]
  exact .mk fun a w ty pos aft g d hf hw => by simp [execOp, hf.eval hx, hf.eval hy, eqGuard, binOp, Op.intArith, Result.andThen]
theorem Runs.quoT (hx : opnd env x = some (.int .i64 i)) (hy : opnd env y = some (.int .i64 10)) (h : Dg.I64 i) : Runs P n env F (.binOp .quo xT x y yT) (.int .i64 (i.tdiv 10)) := .mk fun a w ty pos aft g d hf hw => by
  have h1 : -9223372036854775808 ≤ i.tdiv 10 ∧ i.tdiv 10 ≤ 9223372036854775807 := by have h2 : (i.tdiv 10).natAbs = i.natAbs / 10 := Int.natAbs_tdiv i 10 ; unfold Dg.I64 at h; omega
  simp [execOp, hf.eval hx, hf.eval hy, eqGuard, binOp, Op.intDiv, Result.andThen]
  exact IntWalk.i64_in _ h1
theorem Runs.remT (hx : opnd env x = some (.int .i64 i)) (hy : opnd env y = some (.int .i64 10)) : Runs P n env F (.binOp .rem xT x y yT) (.int .i64 (i.tmod 10)) := .mk fun a w ty pos aft g d hf hw => by
  simp [execOp, hf.eval hx, hf.eval hy, eqGuard, binOp, Op.intDiv, Result.andThen]
end
namespace Dg
def dd (m : Nat) : List UInt8 := if m = 0 then [] else Lib.decDigits m
theorem dd_zero : dd 0 = [] := rfl
theorem dd_pos {m : Nat} (h : m ≠ 0) : dd m = dd (m / 10) ++ [UInt8.ofNat (48 + m % 10)] := by
  unfold dd
  rw [if_neg h]
  by_cases h1 : m < 10
  · rw [if_pos (by omega), decDigits_small h1, show m % 10 = m by omega]; rfl
  · rw [if_neg (by omega), decDigits_big h1]
theorem dd_len {m : Nat} (h : m ≤ 9223372036854775808) : (dd m).length ≤ 20 := by
  unfold dd
  split
  · simp
  · have := (itoa_len (n := -(m : Int)) (by unfold I64; omega)).1
    rw [itoa_neg (by omega), List.length_cons, show (-(m : Int)).natAbs = m by omega] at this
    omega
def digs : List UInt8 := [48, 49, 50, 51, 52, 53, 54, 55, 56, 57]
theorem digs_at (k : Nat) (h : k < 10) : (digs.drop k).take 1 = [UInt8.ofNat (48 + k)] := by
  match k, h with
  | 0, _ | 1, _ | 2, _ | 3, _ | 4, _ | 5, _ | 6, _ | 7, _ | 8, _ | 9, _ => rfl
/-- What the reference puts ahead of the digits. -/
theorem itoa_dd {n : Int} (h : n ≠ 0) : Lib.itoa n = if n < 0 then 45 :: dd n.natAbs else dd n.natAbs := by
  split
  · rename_i h1
    rw [itoa_neg h1]; unfold dd; rw [if_neg (by omega)]
  · rename_i h1
    rw [itoa_pos h1]; unfold dd; rw [if_neg (by omega)]; congr 1; omega
end Dg
theorem ref11_Num (n : Int) (hn : Dg.I64 n) (w : World) (F : List HProp) (hw : holds w F) :
    Ct Tryd.prog 20 #[.int .i64 n] w fun e w' => e = .returned (.string (bs (Lib.itoa n))) ∧ holds w' F := by
  refine Ct.go (args := [.int .i64 n]) Tryd.func20 rfl rfl rfl hw ?_
  repeat' (first | refine stp ?_ | (refine stpB ?_; intro _) | (refine spl ?_ ?_ <;> intro hc <;> ((try simp only [decide_eq_true_eq, decide_eq_false_iff_not, Bool.not_true, Bool.not_false, ne_eq, Classical.not_not, Int.not_lt, Int.not_le] at hc); (try (exfalso; first | omega | exact hc trivial | exact hc rfl)))))
  refine G.loopK [3, 5] (Int × List UInt8) (fun x => [(0, .int .i64 x.1), (4, .string (bs x.2))]) (fun x => F) (fun x => Dg.I64 x.1 ∧ Dg.dd n.natAbs = Dg.dd x.1.natAbs ++ x.2) (fun x => x.1.natAbs) ((n, [])) (⟨hn, by simp⟩) (by repeat (first | exact trivial | refine And.intro rfl ?_)) (fun w h => by (try dsimp only); first | exact h | exact h.sub | ((try simp only [List.take_zero, List.drop_zero, List.map_nil, List.nil_append, List.zipIdx_nil, List.filter_nil]); exact h.sub)) ?_
  rintro ⟨m, t⟩ ⟨hm, ht⟩
  dsimp only at hm ht ⊢
  have hl := Dg.dd_len (m := n.natAbs) (by unfold Dg.I64 at hn; omega)
  have htl : t.length ≤ 20 := by rw [ht, List.length_append] at hl; omega
  have hr : (m.tmod 10).natAbs = m.natAbs % 10 := Int.natAbs_tmod m 10
  have hq : (m.tdiv 10).natAbs = m.natAbs / 10 := Int.natAbs_tdiv m 10
  have hm' := hm
  unfold Dg.I64 at hm'
  by_cases h0 : m = 0
  · subst h0
    have e1 : t = Dg.dd n.natAbs := by rw [ht, show (0 : Int).natAbs = 0 from rfl, Dg.dd_zero]; rfl
    clear ht
    subst e1
    by_cases hn0 : n = 0
    · subst hn0
      repeat' (first | ((apply GL.isAny; refine GL.run (by first | exact Runs.strEq rfl rfl | exact Runs.strNe rfl rfl | exact Runs.strLen rfl | exact Runs.strAt (k := 0) rfl rfl rfl (by omega) | exact Runs.strAt rfl rfl rfl (by omega) | exact Runs.neqIfaceNil rfl | exact Runs.neqNilNil rfl) rfl ?_)) | first | refine stp ?_ | (refine stpB ?_; intro _) | (refine spl ?_ ?_ <;> intro hc <;> ((try simp only [decide_eq_true_eq, decide_eq_false_iff_not, Bool.not_true, Bool.not_false, ne_eq, Classical.not_not, Int.not_lt, Int.not_le] at hc); (try (exfalso; first | omega | exact hc trivial | exact hc rfl)))))
      all_goals (first | (exact absurd rfl (by assumption)) | (refine GE.resOne rfl (by (repeat (first | apply Res.nil | (apply Res.tmp; rfl) | (refine Res.cellA rfl rfl rfl ?_) | (refine Res.cell1 rfl rfl ?_)))) (fun w h => ?_); refine ⟨?_, h.sub⟩; rw [Dg.itoa_pos (by decide), show (0 : Int).toNat = 0 from rfl, Dg.decDigits_small (by omega)]; rfl))
    · have hne : Dg.dd n.natAbs ≠ [] := by
        unfold Dg.dd; rw [if_neg (by omega)]; exact Dg.decDigits_ne _
      repeat' (first | (first | (apply GL.isAny; refine GL.run (by first | exact Runs.strEq rfl rfl | exact Runs.strNe rfl rfl | exact Runs.strLen rfl | exact Runs.strAt (k := 0) rfl rfl rfl (by omega) | exact Runs.strAt rfl rfl rfl (by omega) | exact Runs.neqIfaceNil rfl | exact Runs.neqNilNil rfl) rfl ?_) | (apply GL.isAny; refine GL.run (Runs.strAdd (l := [45]) (m := Dg.dd n.natAbs) rfl rfl (by simp; omega)) rfl ?_)) | first | refine stp ?_ | (refine stpB ?_; intro _) | (refine spl ?_ ?_ <;> intro hc <;> ((try simp only [decide_eq_true_eq, decide_eq_false_iff_not, Bool.not_true, Bool.not_false, ne_eq, Classical.not_not, Int.not_lt, Int.not_le] at hc); (try (exfalso; first | omega | exact hc trivial | exact hc rfl)))))
      all_goals (first | (exact absurd (by assumption) hne) | skip)
      · refine GE.resOne rfl (by (repeat (first | apply Res.nil | (apply Res.tmp; rfl) | (refine Res.cellA rfl rfl rfl ?_) | (refine Res.cell1 rfl rfl ?_)))) (fun w h => ?_)
        refine ⟨?_, h.sub⟩
        rw [Dg.itoa_dd hn0, if_pos hc]; rfl
      · refine GE.resOne rfl (by (repeat (first | apply Res.nil | (apply Res.tmp; rfl) | (refine Res.cellA rfl rfl rfl ?_) | (refine Res.cell1 rfl rfl ?_)))) (fun w h => ?_)
        refine ⟨?_, h.sub⟩
        rw [Dg.itoa_dd hn0, if_neg (by omega)]
  · repeat' (first | (first | (apply GL.isAny; refine GL.run (Runs.remT rfl rfl) rfl ?_) | (apply GL.isAny; refine GL.run (Runs.quoT rfl rfl hm) rfl ?_) | (apply GL.isAny; refine GL.run (Runs.strCut (l := Dg.digs) (a := (m.tmod 10).natAbs) (b := (m.tmod 10).natAbs + 1) rfl rfl rfl (by omega) (by omega) (by omega) (by simp [Dg.digs]; omega)) rfl ?_) | (apply GL.isAny; refine GL.run (Runs.strAdd (l := (Dg.digs.drop (m.tmod 10).natAbs).take ((m.tmod 10).natAbs + 1 - (m.tmod 10).natAbs)) (m := t) rfl rfl (by simp [Dg.digs]; omega)) rfl ?_)) | first | refine stp ?_ | (refine stpB ?_; intro _) | (refine spl ?_ ?_ <;> intro hc <;> ((try simp only [decide_eq_true_eq, decide_eq_false_iff_not, Bool.not_true, Bool.not_false, ne_eq, Classical.not_not, Int.not_lt, Int.not_le] at hc); (try (exfalso; first | omega | exact hc trivial | exact hc rfl)))))
    all_goals (refine GE.round ((m.tdiv 10, ((Dg.digs.drop (m.tmod 10).natAbs).take ((m.tmod 10).natAbs + 1 - (m.tmod 10).natAbs)) ++ t)) (⟨by unfold Dg.I64; dsimp only; omega, by dsimp only; rw [ht, Dg.dd_pos (m := m.natAbs) (by omega), hq, show (m.tmod 10).natAbs + 1 - (m.tmod 10).natAbs = 1 by omega, Dg.digs_at _ (by omega), hr, List.append_assoc]⟩) (by repeat (first | exact trivial | refine And.intro rfl ?_)) (fun w h => by (try dsimp only); exact h.sub) (by (try dsimp only); omega))
namespace Dg
def neg (s : List UInt8) : Bool := match s with | [] => false | c :: _ => decide (c.toNat = 45)
def start (s : List UInt8) : Nat := if neg s = true then 1 else 0
theorem refRead_acc {s : List UInt8} (h1 : 1 ≤ s.length) (h2 : s.length ≤ 20) : refRead s = match acc (neg s) 0 (s.drop (start s)) with
  | some n => if Lib.itoa n = s then some n else none
  | none => none := by
  unfold refRead
  rw [if_neg (by omega)]
  cases s with
  | nil => simp at h1
  | cons c r =>
    unfold start neg
    by_cases hc : c.toNat = 45
    · simp only [hc, if_true, decide_true]; rfl
    · simp only [hc, if_false, decide_false]; rfl
theorem neg_at {s : List UInt8} (h : 0 < s.length) : neg s = decide (s[0].toNat = 45) := by
  cases s with
  | nil => simp at h
  | cons c r => rfl
theorem wrap_i64 (n : Int) : I64 (wrap n) := by unfold I64 wrap; omega
theorem u8_lt (c : UInt8) : c.toNat < 256 := by have := c.toBitVec.isLt; exact this
end Dg
theorem ref11_Read (s : List UInt8) (hs : s.length ≤ 9223372036854775807) (w : World) (F : List HProp) (hw : holds w F) :
    Ct Tryd.prog 17 #[.string (bs s)] w fun e w' => e = .returned (.tuple #[.int .i64 ((Dg.read s).getD 0), .bool (Dg.read s).isSome]) ∧ holds w' F := by
  rw [← Dg.refRead_eq]
  refine Ct.go (args := [.string (bs s)]) Tryd.func17 rfl rfl rfl hw ?_
  by_cases hlen : 1 ≤ s.length ∧ s.length ≤ 20
  rotate_left
  · have hr : Dg.refRead s = none := by unfold Dg.refRead; rw [if_pos (by omega)]
    rw [hr]
    repeat' (first | ((apply GL.isAny; refine GL.run (by first | exact Runs.strEq rfl rfl | exact Runs.strNe rfl rfl | exact Runs.strLen rfl | exact Runs.strAt (k := 0) rfl rfl rfl (by omega) | exact Runs.strAt rfl rfl rfl (by omega) | exact Runs.neqIfaceNil rfl | exact Runs.neqNilNil rfl) rfl ?_)) | first | refine stp ?_ | (refine stpB ?_; intro _) | (refine spl ?_ ?_ <;> intro hc <;> ((try simp only [decide_eq_true_eq, decide_eq_false_iff_not, Bool.not_true, Bool.not_false, ne_eq, Classical.not_not, Int.not_lt, Int.not_le] at hc); (try (exfalso; first | omega | exact hc trivial | exact hc rfl)))))
    all_goals (first | (exfalso; omega) | (refine GE.resMany rfl (by (repeat (first | apply Res.nil | (apply Res.tmp; rfl) | (refine Res.cellA rfl rfl rfl ?_) | (refine Res.cell1 rfl rfl ?_)))) (fun w h => ?_); exact ⟨rfl, h.sub⟩))
  rw [Dg.refRead_acc hlen.1 hlen.2]
  have hng := Dg.neg_at (s := s) (by omega)
  repeat' (first | ((apply GL.isAny; refine GL.run (by first | exact Runs.strEq rfl rfl | exact Runs.strNe rfl rfl | exact Runs.strLen rfl | exact Runs.strAt (k := 0) rfl rfl rfl (by omega) | exact Runs.strAt rfl rfl rfl (by omega) | exact Runs.neqIfaceNil rfl | exact Runs.neqNilNil rfl) rfl ?_)) | first | refine stp ?_ | (refine stpB ?_; intro _) | (refine spl ?_ ?_ <;> intro hc <;> ((try simp only [decide_eq_true_eq, decide_eq_false_iff_not, Bool.not_true, Bool.not_false, ne_eq, Classical.not_not, Int.not_lt, Int.not_le] at hc); (try (exfalso; first | omega | exact hc trivial | exact hc rfl)))))
  all_goals (first | (exfalso; omega) | skip)
  refine G.loopK [0] (Nat × Int) (fun x => [(5, .int .i64 x.1), (4, .int .i64 x.2)]) (fun x => F) (fun x => x.1 ≤ s.length ∧ Dg.I64 x.2 ∧ Dg.acc (Dg.neg s) 0 (s.drop (Dg.start s)) = Dg.acc (Dg.neg s) x.2 (s.drop (if x.1 = 0 then Dg.start s else x.1))) (fun x => s.length - x.1) ((0, 0)) (⟨by omega, by unfold Dg.I64; omega, rfl⟩) (by repeat (first | exact trivial | refine And.intro rfl ?_)) (fun w h => by (try dsimp only); first | exact h | exact h.sub | ((try simp only [List.take_zero, List.drop_zero, List.map_nil, List.nil_append, List.zipIdx_nil, List.filter_nil]); exact h.sub)) ?_
  rintro ⟨k, m⟩ ⟨hk, hm, hI⟩
  dsimp only at hk hm hI ⊢
  by_cases hlt : k < s.length
  · have h8 := Dg.u8_lt s[k]
    have h80 := Dg.u8_lt s[0]
    by_cases hskip : k = 0 ∧ Dg.neg s = true
    · obtain ⟨rfl, hs1⟩ := hskip
      rw [hs1] at hng
      repeat' (first | ((apply GL.isAny; refine GL.run (by first | exact Runs.strEq rfl rfl | exact Runs.strNe rfl rfl | exact Runs.strLen rfl | exact Runs.strAt (k := 0) rfl rfl rfl (by omega) | exact Runs.strAt rfl rfl rfl (by omega) | exact Runs.neqIfaceNil rfl | exact Runs.neqNilNil rfl) rfl ?_)) | first | refine stp ?_ | (refine stpB ?_; intro _) | (refine spl ?_ ?_ <;> intro hc <;> ((try simp only [decide_eq_true_eq, decide_eq_false_iff_not, Bool.not_true, Bool.not_false, ne_eq, Classical.not_not, Int.not_lt, Int.not_le] at hc); (try (exfalso; first | omega | exact hc trivial | exact hc rfl)))))
      all_goals (first | (exfalso; simp at hng; omega) | skip)
      refine GE.round ((1, m)) (⟨by omega, hm, by dsimp only; rw [hI, if_pos rfl, if_neg (by omega)]; unfold Dg.start; rw [if_pos hs1]⟩) (by repeat (first | exact trivial | refine And.intro rfl ?_)) (fun w h => by (try dsimp only); exact h.sub) (by (try dsimp only); omega)
    · have hst : s.drop (if k = 0 then Dg.start s else k) = s[k] :: s.drop (k + 1) := by
        rw [show (if k = 0 then Dg.start s else k) = k by split <;> simp_all [Dg.start]]
        exact List.drop_eq_getElem_cons hlt
      rw [hst] at hI
      repeat' (first | (first | (apply GL.isAny; refine GL.run (by first | exact Runs.strEq rfl rfl | exact Runs.strNe rfl rfl | exact Runs.strLen rfl | exact Runs.strAt (k := 0) rfl rfl rfl (by omega) | exact Runs.strAt rfl rfl rfl (by omega) | exact Runs.neqIfaceNil rfl | exact Runs.neqNilNil rfl) rfl ?_) | (apply GL.isAny; refine GL.run (Runs.mulWr rfl rfl) rfl ?_) | (apply GL.isAny; refine GL.run (by first | exact Runs.add rfl rfl (by omega) | exact Runs.addWr rfl rfl) rfl ?_)) | first | refine stp ?_ | (refine stpB ?_; intro _) | (refine spl ?_ ?_ <;> intro hc <;> ((try simp only [decide_eq_true_eq, decide_eq_false_iff_not, Bool.not_true, Bool.not_false, ne_eq, Classical.not_not, Int.not_lt, Int.not_le] at hc); (try (exfalso; first | omega | exact hc trivial | exact hc rfl)))))
      all_goals first
        | (exact absurd ⟨by omega, by rw [hng, decide_eq_true_eq]; omega⟩ hskip)
        | (refine GE.resMany rfl (by (repeat (first | apply Res.nil | (apply Res.tmp; rfl) | (refine Res.cellA rfl rfl rfl ?_) | (refine Res.cell1 rfl rfl ?_)))) (fun w h => ?_); refine ⟨?_, h.sub⟩; rw [hI, Dg.acc, if_pos (by omega)]; rfl)
        | (refine GE.round ((k + 1, Dg.wrap (Dg.wrap (10 * m) + -((s[k].toNat : Int) - 48)))) (⟨by dsimp only; omega, Dg.wrap_i64 _, by dsimp only; rw [hI, Dg.acc, if_neg (by omega), if_pos (by rw [hng, decide_eq_true_eq]; omega), if_neg (by omega)]⟩) (by repeat (first | exact trivial | refine And.intro rfl ?_)) (fun w h => by (try dsimp only); exact h.sub) (by (try dsimp only); omega))
        | (refine GE.round ((k + 1, Dg.wrap (Dg.wrap (10 * m) + ((s[k].toNat : Int) - 48)))) (⟨by dsimp only; omega, Dg.wrap_i64 _, by dsimp only; rw [hI, Dg.acc, if_neg (by omega), if_neg (by rw [hng, decide_eq_true_eq]; omega), if_neg (by omega)]⟩) (by repeat (first | exact trivial | refine And.intro rfl ?_)) (fun w h => by (try dsimp only); exact h.sub) (by (try dsimp only); omega))
  · have hd : s.drop (if k = 0 then Dg.start s else k) = [] := List.drop_eq_nil_of_le (by split <;> omega)
    rw [hd] at hI
    rw [hI]
    repeat' (first | (first | (apply GL.isAny; refine GL.run (by first | exact Runs.strEq rfl rfl | exact Runs.strNe rfl rfl | exact Runs.strLen rfl | exact Runs.strAt (k := 0) rfl rfl rfl (by omega) | exact Runs.strAt rfl rfl rfl (by omega) | exact Runs.neqIfaceNil rfl | exact Runs.neqNilNil rfl) rfl ?_) | (apply GL.isCall; refine GL.call1 rfl rfl (fun w h => ref11_Num m hm w _ h) ?_)) | first | refine stp ?_ | (refine stpB ?_; intro _) | (refine spl ?_ ?_ <;> intro hc <;> ((try simp only [decide_eq_true_eq, decide_eq_false_iff_not, Bool.not_true, Bool.not_false, ne_eq, Classical.not_not, Int.not_lt, Int.not_le] at hc); (try (exfalso; first | omega | exact hc trivial | exact hc rfl)))))
    all_goals (refine GE.resMany rfl (by (repeat (first | apply Res.nil | (apply Res.tmp; rfl) | (refine Res.cellA rfl rfl rfl ?_) | (refine Res.cell1 rfl rfl ?_)))) (fun w h => ?_); refine ⟨?_, h.sub⟩; simp only [Dg.acc]; split <;> first | rfl | (exfalso; simp_all; done))
end Go.Proofs.YtoafajooffhimaaDoor
