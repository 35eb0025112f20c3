/- Chapter 11: its examples and three of its laws. -/
import Derived.Test.YtoafajooffhimaaDoorDgS
namespace Go.Proofs.YtoafajooffhimaaDoor
open Go Go.RowKit Go.MapKept
set_option linter.unusedVariables false
set_option linter.unusedSimpArgs false
set_option maxRecDepth 100000
set_option maxHeartbeats 8000000
section
variable {P : Program} {n : Nat} {Q : Exit → Act → World → Prop} {env : Env} {F : List HProp} {ops : Array Oper} {rest : List Oper} {ty : TypeId} {pos : String} {aft : Array Edge}
/-- A slice literal as a row. -/
theorem GL.buildRS {α : Type} {enc : α → List Value} {t e : TypeId} {size m bytes : Nat} {z : Value} {parts : List (Nat × Operand)} {ps : List (Nat × Value)} {d : Tmp} (l : List α) [ht : SliceT P t e size] [hz : ZeroT P e z size bytes] [he : Enc enc size] (hk : l.length = m) (hp : partsOf env parts = some ps) (hpos : Nat.blt 0 (m * size) = true) (hm : Nat.ble (m * size) 16777216 = true)
    (hr : fillL ((List.range m).map fun i => (i * size, size)) (List.replicate (m * size) (default : Value)) ps = some (l.flatMap enc)) (hall : ∀ l', l'.length = m * size → fillL ((List.range m).map fun i => (i * size, size)) l' ps = some (l.flatMap enc)) (hd : Nat.blt d n = true)
    (h : ∀ g, GL P n ops Q rest ((d, .slice (some ⟨g, 0, none⟩) m m) :: env) (owns e enc size (.slice (some ⟨g, 0, none⟩) m m) l :: F)) :
    GL P n ops Q (⟨some d, .buildSlice t m parts.toArray, ty, pos, aft, none⟩ :: rest) env F :=
  GL.buildSlice hp hpos hm hr hall hd fun g => GL.imp (h g) fun w hw => holds.rowS l hk (by
    have h1 := Nat.le_of_ble_eq_true hm
    have h2 : m ≤ m * size := Nat.le_mul_of_pos_right _ he.pos
    unfold maxLen; omega) hw
end
section
variable {P : Program} {n : Nat} {env : Env} {F : List HProp} {x y : Operand} {xT yT : TypeId}
class BoolT (P : Program) (t : TypeId) : Prop where
  ok : P.underlying t = some .bool
theorem run_eq_bool {t : TypeId} (hm : P.underlying t = some .bool) (a b : Bool) (w : World) (d : Nat) : (Op.equalIn (d + 1) t (.bool a) (.bool b)).run P w = .ok (a == b) w := by
  simp [Op.equalIn, run_underlying hm, Result.andThen]
theorem Runs.eqBo [ht : BoolT P xT] {a b : Bool} (hx : opnd env x = some (.bool a)) (hy : opnd env y = some (.bool b)) : Runs P n env F (.binOp .eql xT x y yT) (.bool (decide (a = b))) := .mk fun ac w ty pos aft g d hf hw => by
  have e2 : (Op.equal xT (.bool a) (.bool b)).run P w = .ok (a == b) w := run_eq_bool ht.ok a b w 9999
  simp [execOp, hf.eval hx, hf.eval hy, eqGuard, binOp, e2, Result.andThen]
  cases a <;> cases b <;> rfl
end
instance : BoolT Tryd.prog 4 := ⟨by kernel_rfl⟩
namespace Dg
theorem join_len : ∀ (l : List (List UInt8)), (∀ x ∈ l, x.length ≤ 100) → (Lib.join l [32]).length ≤ 101 * l.length
  | [], _ => by simp [Lib.join_nil]
  | [x], h => by rw [Lib.join_one]; have := h x (by simp); simp; omega
  | x :: y :: r, h => by
    have ih := join_len (y :: r) (fun z hz => h z (List.mem_cons_of_mem _ hz))
    have := h x (by simp)
    rw [join_cons2, List.length_append, List.length_append]
    simp only [List.length_cons, List.length_nil] at ih ⊢
    omega
theorem words_len (s : List UInt8) (hs : s.length ≤ 1048575) : ((words s).getD []).length ≤ 1048576 := by
  have := parts_len 32 s
  unfold words
  split
  · simp
  · split
    · simp; omega
    · simp
theorem ex1 : read [45, 48, 53] = none := by
  have h1 : Lib.atoiAll [45, 48, 53] = .ok (-5) := by rfl
  have h2 : Lib.itoa (-5) = [45, 53] := by rw [itoa_neg (by decide), show (-5 : Int).natAbs = 5 from rfl, decDigits_small (by omega)]; rfl
  unfold read
  rw [h1]
  dsimp only
  rw [h2, if_neg (by decide)]
theorem ex2 : read [45, 53, 48] = some (-50) := by
  have h2 : Lib.itoa (-50) = [45, 53, 48] := by rw [itoa_neg (by decide), show (-50 : Int).natAbs = 50 from rfl, decDigits_big (by omega), decDigits_small (by omega)]; rfl
  rw [← h2]; exact read_itoa (by unfold I64; omega)
theorem ex3 : words [97, 32, 98] = some [[97], [98]] := by decide
theorem ex4 : words [97, 32, 32, 98] = none := by decide
theorem ex5 : Lib.itoa 7 = [55] := by rw [itoa_pos (by decide), show (7 : Int).toNat = 7 from rfl, decDigits_small (by omega)]; rfl
end Dg
section
variable {W : World}
theorem law11_works (hL : LibW W) (w : World) (F : List HProp) {F' : List HProp} [hp : Has F (allOf W) F'] (hw : holds w F) :
    Ct Tryd.prog 7 #[] w fun e w' => e = .returned (.bool true) ∧ holds w' F := by
  refine Ct.go (args := []) Tryd.func7 rfl rfl rfl hw ?_
  have C1 := digits_Read hL [45, 48, 53] (by simp)
  have C2 := digits_Read hL [45, 53, 48] (by simp)
  have C3 := digits_Words hL [97, 32, 98] (by simp)
  have C4 := digits_Words hL [97, 32, 32, 98] (by simp)
  rw [Dg.ex1] at C1
  rw [Dg.ex2] at C2
  rw [Dg.ex3] at C3
  rw [Dg.ex4] at C4
  have C5 := digits_Num hL 7 (by unfold Dg.I64; omega)
  rw [Dg.ex5] at C5
  repeat' (first | (first | first | (apply GL.isAny; refine GL.run (by first | exact Runs.strEq rfl rfl | exact Runs.strNe rfl rfl | exact Runs.strLen rfl | exact Runs.eqBo rfl rfl) rfl ?_) | (apply GD.isAny; refine GD.run (by first | exact Runs.strNe rfl rfl | exact Runs.strEq rfl rfl) rfl ?_) | (apply GL.isCall; refine GL.call1 (vs := [.string (bs [45, 48, 53])]) (v := .tuple #[.int .i64 0, .bool false]) rfl rfl (fun w h => C1 w _ h) ?_) | (apply GL.isCall; refine GL.call1 (vs := [.string (bs [45, 53, 48])]) (v := .tuple #[.int .i64 (-50), .bool true]) rfl rfl (fun w h => C2 w _ h) ?_) | (apply GL.isCall; refine GL.call (vs := [.string (bs [97, 32, 98])]) (v := fun v : Value => .tuple #[v, .bool true]) rfl rfl (fun w h => C3 w _ h) (fun v3 => ?_)) | (apply GL.isCall; refine GL.call (vs := [.string (bs [97, 32, 32, 98])]) (v := fun v : Value => .tuple #[v, .bool false]) rfl rfl (fun w h => C4 w _ h) (fun v4 => ?_)) | (apply GL.isAny; refine GL.buildRS (enc := encS) [[97], [98]] (parts := [(0, .const (.string (bs [97]))), (1, .const (.string (bs [98])))]) rfl rfl rfl rfl rfl (fun l hl => match l, hl with | [_, _], _ => rfl) rfl (fun g => ?_)) | (apply GL.isCall; refine GL.call1 (vs := [v3, .slice (some ⟨g, 0, none⟩) 2 2]) (v := .bool true) rfl rfl (fun w h => base_SameTexts v3 (.slice (some ⟨g, 0, none⟩) 2 2) [[97], [98]] [[97], [98]] (by simp) (by simp) w _ h) ?_) | (apply GL.isCall; refine GL.call1 (vs := [.int .i64 7]) (v := .string (bs [55])) rfl rfl (fun w h => C5 w _ h) ?_) | (apply GL.isCall; refine GL.call1 (vs := [.string (bs [97])]) (v := .bool true) rfl rfl (fun w h => digits_Word [97] w _ h) ?_) | (apply GL.isCall; refine GL.call1 (vs := [v3]) (v := .string (bs [97, 32, 98])) rfl rfl (fun w h => digits_Join [[97], [98]] v3 (by decide) (by simp) w _ h) ?_)) | first | refine stp ?_ | (refine stpB ?_; intro _) | (refine spl ?_ ?_ <;> intro hc <;> ((try simp only [decide_eq_true_eq, decide_eq_false_iff_not, Bool.not_true, Bool.not_false, ne_eq, Classical.not_not, Int.not_lt, Int.not_le] at hc); (try (exfalso; first | omega | exact hc trivial | exact hc rfl)))))
  refine GE.resOne rfl (by (repeat (first | apply Res.nil | (apply Res.tmp; rfl) | (refine Res.cellA rfl rfl rfl ?_) | (refine Res.cell1 rfl rfl ?_)))) (fun w h => ?_); exact ⟨rfl, h.sub⟩
theorem law11_DigitsBack (hL : LibW W) (n : Int) (hn : Dg.I64 n) (s : List UInt8) (w : World) (F : List HProp) {F' : List HProp} [hp : Has F (allOf W) F'] (hw : holds w F) (hs : s.length ≤ 9223372036854775807) :
    Ct Tryd.prog 4 #[.int .i64 n, .string (bs s)] w fun e w' => e = .returned (.bool true) ∧ holds w' F := by
  refine Ct.go (args := [.int .i64 n, .string (bs s)]) Tryd.func4 rfl rfl rfl hw ?_
  have C0 := law11_works hL
  by_cases hlen : s.length ≤ 300
  rotate_left
  · repeat' (first | (first | first | (apply GL.isAny; refine GL.run (by first | exact Runs.strEq rfl rfl | exact Runs.strNe rfl rfl | exact Runs.strLen rfl | exact Runs.eqBo rfl rfl) rfl ?_) | (apply GD.isAny; refine GD.run (by first | exact Runs.strNe rfl rfl | exact Runs.strEq rfl rfl) rfl ?_) | (apply GL.isCall; refine GL.call1 rfl rfl (fun w h => C0 w _ h) ?_)) | first | refine stp ?_ | (refine stpB ?_; intro _) | (refine spl ?_ ?_ <;> intro hc <;> ((try simp only [decide_eq_true_eq, decide_eq_false_iff_not, Bool.not_true, Bool.not_false, ne_eq, Classical.not_not, Int.not_lt, Int.not_le] at hc); (try (exfalso; first | omega | exact hc trivial | exact hc rfl)))))
    refine GE.resOne rfl (by (repeat (first | apply Res.nil | (apply Res.tmp; rfl) | (refine Res.cellA rfl rfl rfl ?_) | (refine Res.cell1 rfl rfl ?_)))) (fun w h => ?_); exact ⟨rfl, h.sub⟩
  have hil := (Dg.itoa_len hn).1
  have C1 := digits_Read hL (Lib.itoa n) (by omega)
  have C2 := digits_Read hL s (by omega)
  have C3 := digits_Words hL s (by omega)
  rw [Dg.read_itoa hn] at C1
  have fj : ∀ l, Dg.words s = some l → Lib.join l [32] = s ∧ l.length ≤ 1048576 := fun l h => ⟨Dg.words_join h, by
    have := Dg.parts_len 32 s
    unfold Dg.words at h
    split at h
    · cases h; simp
    · split at h
      · cases h; omega
      · cases h⟩
  cases hr : Dg.read s with
  | none =>
    rw [hr] at C2
    cases hwd : Dg.words s with
    | none =>
      rw [hwd] at C3
      repeat' (first | (first | first | (apply GL.isAny; refine GL.run (by first | exact Runs.strEq rfl rfl | exact Runs.strNe rfl rfl | exact Runs.strLen rfl | exact Runs.eqBo rfl rfl) rfl ?_) | (apply GD.isAny; refine GD.run (by first | exact Runs.strNe rfl rfl | exact Runs.strEq rfl rfl) rfl ?_) | (apply GL.isCall; refine GL.call1 rfl rfl (fun w h => digits_Num hL n hn w _ h) ?_) | (apply GL.isCall; refine GL.call1 (vs := [.string (bs (Lib.itoa n))]) (v := .tuple #[.int .i64 n, .bool true]) rfl rfl (fun w h => C1 w _ h) ?_) | (apply GL.isCall; refine GL.call1 (vs := [.string (bs s)]) (v := .tuple #[.int .i64 0, .bool false]) rfl rfl (fun w h => C2 w _ h) ?_) | (apply GL.isCall; refine GL.call (vs := [.string (bs s)]) (v := fun v : Value => .tuple #[v, .bool false]) rfl rfl (fun w h => C3 w _ h) (fun v3 => ?_)) | (apply GL.isCall; refine GL.call1 rfl rfl (fun w h => C0 w _ h) ?_)) | first | refine stp ?_ | (refine stpB ?_; intro _) | (refine spl ?_ ?_ <;> intro hc <;> ((try simp only [decide_eq_true_eq, decide_eq_false_iff_not, Bool.not_true, Bool.not_false, ne_eq, Classical.not_not, Int.not_lt, Int.not_le] at hc); (try (exfalso; first | omega | exact hc trivial | exact hc rfl)))))
      all_goals (refine GE.resOne rfl (by (repeat (first | apply Res.nil | (apply Res.tmp; rfl) | (refine Res.cellA rfl rfl rfl ?_) | (refine Res.cell1 rfl rfl ?_)))) (fun w h => ?_); exact ⟨rfl, h.sub⟩)
    | some l =>
      rw [hwd] at C3
      obtain ⟨hj, hl⟩ := fj l hwd
      repeat' (first | (first | first | (apply GL.isAny; refine GL.run (by first | exact Runs.strEq rfl rfl | exact Runs.strNe rfl rfl | exact Runs.strLen rfl | exact Runs.eqBo rfl rfl) rfl ?_) | (apply GD.isAny; refine GD.run (by first | exact Runs.strNe rfl rfl | exact Runs.strEq rfl rfl) rfl ?_) | (apply GL.isCall; refine GL.call1 rfl rfl (fun w h => digits_Num hL n hn w _ h) ?_) | (apply GL.isCall; refine GL.call1 (vs := [.string (bs (Lib.itoa n))]) (v := .tuple #[.int .i64 n, .bool true]) rfl rfl (fun w h => C1 w _ h) ?_) | (apply GL.isCall; refine GL.call1 (vs := [.string (bs s)]) (v := .tuple #[.int .i64 0, .bool false]) rfl rfl (fun w h => C2 w _ h) ?_) | (apply GL.isCall; refine GL.call (vs := [.string (bs s)]) (v := fun v : Value => .tuple #[v, .bool true]) rfl rfl (fun w h => C3 w _ h) (fun v3 => ?_)) | (apply GL.isCall; refine GL.call1 (vs := [v3]) (v := .string (bs s)) rfl rfl (fun w h => by have h1 := digits_Join l v3 (by rw [hj]; omega) (by omega) w _ h ; rw [hj] at h1 ; exact h1) ?_) | (apply GL.isCall; refine GL.call1 rfl rfl (fun w h => C0 w _ h) ?_)) | first | refine stp ?_ | (refine stpB ?_; intro _) | (refine spl ?_ ?_ <;> intro hc <;> ((try simp only [decide_eq_true_eq, decide_eq_false_iff_not, Bool.not_true, Bool.not_false, ne_eq, Classical.not_not, Int.not_lt, Int.not_le] at hc); (try (exfalso; first | omega | exact hc trivial | exact hc rfl)))))
      all_goals (first | (exact absurd rfl (by assumption)) | (refine GE.resOne rfl (by (repeat (first | apply Res.nil | (apply Res.tmp; rfl) | (refine Res.cellA rfl rfl rfl ?_) | (refine Res.cell1 rfl rfl ?_)))) (fun w h => ?_); exact ⟨rfl, h.sub⟩))
  | some m =>
    rw [hr] at C2
    have hmi := Dg.read_some hr
    have him := Dg.read_i64 hr
    cases hwd : Dg.words s with
    | none =>
      rw [hwd] at C3
      repeat' (first | (first | first | (apply GL.isAny; refine GL.run (by first | exact Runs.strEq rfl rfl | exact Runs.strNe rfl rfl | exact Runs.strLen rfl | exact Runs.eqBo rfl rfl) rfl ?_) | (apply GD.isAny; refine GD.run (by first | exact Runs.strNe rfl rfl | exact Runs.strEq rfl rfl) rfl ?_) | (apply GL.isCall; refine GL.call1 (vs := [.int .i64 m]) (v := .string (bs s)) rfl rfl (fun w h => by have h1 := digits_Num hL m him w _ h ; rw [hmi] at h1 ; exact h1) ?_) | (apply GL.isCall; refine GL.call1 rfl rfl (fun w h => digits_Num hL n hn w _ h) ?_) | (apply GL.isCall; refine GL.call1 (vs := [.string (bs (Lib.itoa n))]) (v := .tuple #[.int .i64 n, .bool true]) rfl rfl (fun w h => C1 w _ h) ?_) | (apply GL.isCall; refine GL.call1 (vs := [.string (bs s)]) (v := .tuple #[.int .i64 m, .bool true]) rfl rfl (fun w h => C2 w _ h) ?_) | (apply GL.isCall; refine GL.call (vs := [.string (bs s)]) (v := fun v : Value => .tuple #[v, .bool false]) rfl rfl (fun w h => C3 w _ h) (fun v3 => ?_)) | (apply GL.isCall; refine GL.call1 rfl rfl (fun w h => C0 w _ h) ?_)) | first | refine stp ?_ | (refine stpB ?_; intro _) | (refine spl ?_ ?_ <;> intro hc <;> ((try simp only [decide_eq_true_eq, decide_eq_false_iff_not, Bool.not_true, Bool.not_false, ne_eq, Classical.not_not, Int.not_lt, Int.not_le] at hc); (try (exfalso; first | omega | exact hc trivial | exact hc rfl)))))
      all_goals (first | (exact absurd rfl (by assumption)) | (refine GE.resOne rfl (by (repeat (first | apply Res.nil | (apply Res.tmp; rfl) | (refine Res.cellA rfl rfl rfl ?_) | (refine Res.cell1 rfl rfl ?_)))) (fun w h => ?_); exact ⟨rfl, h.sub⟩))
    | some l =>
      rw [hwd] at C3
      obtain ⟨hj, hl⟩ := fj l hwd
      repeat' (first | (first | first | (apply GL.isAny; refine GL.run (by first | exact Runs.strEq rfl rfl | exact Runs.strNe rfl rfl | exact Runs.strLen rfl | exact Runs.eqBo rfl rfl) rfl ?_) | (apply GD.isAny; refine GD.run (by first | exact Runs.strNe rfl rfl | exact Runs.strEq rfl rfl) rfl ?_) | (apply GL.isCall; refine GL.call1 (vs := [.int .i64 m]) (v := .string (bs s)) rfl rfl (fun w h => by have h1 := digits_Num hL m him w _ h ; rw [hmi] at h1 ; exact h1) ?_) | (apply GL.isCall; refine GL.call1 rfl rfl (fun w h => digits_Num hL n hn w _ h) ?_) | (apply GL.isCall; refine GL.call1 (vs := [.string (bs (Lib.itoa n))]) (v := .tuple #[.int .i64 n, .bool true]) rfl rfl (fun w h => C1 w _ h) ?_) | (apply GL.isCall; refine GL.call1 (vs := [.string (bs s)]) (v := .tuple #[.int .i64 m, .bool true]) rfl rfl (fun w h => C2 w _ h) ?_) | (apply GL.isCall; refine GL.call (vs := [.string (bs s)]) (v := fun v : Value => .tuple #[v, .bool true]) rfl rfl (fun w h => C3 w _ h) (fun v3 => ?_)) | (apply GL.isCall; refine GL.call1 (vs := [v3]) (v := .string (bs s)) rfl rfl (fun w h => by have h1 := digits_Join l v3 (by rw [hj]; omega) (by omega) w _ h ; rw [hj] at h1 ; exact h1) ?_) | (apply GL.isCall; refine GL.call1 rfl rfl (fun w h => C0 w _ h) ?_)) | first | refine stp ?_ | (refine stpB ?_; intro _) | (refine spl ?_ ?_ <;> intro hc <;> ((try simp only [decide_eq_true_eq, decide_eq_false_iff_not, Bool.not_true, Bool.not_false, ne_eq, Classical.not_not, Int.not_lt, Int.not_le] at hc); (try (exfalso; first | omega | exact hc trivial | exact hc rfl)))))
      all_goals (first | (exact absurd rfl (by assumption)) | (refine GE.resOne rfl (by (repeat (first | apply Res.nil | (apply Res.tmp; rfl) | (refine Res.cellA rfl rfl rfl ?_) | (refine Res.cell1 rfl rfl ?_)))) (fun w h => ?_); exact ⟨rfl, h.sub⟩))
theorem law11_DigitsReads (hL : LibW W) (n : Int) (hn : Dg.I64 n) (s : List UInt8) (a b : Int) (w : World) (F : List HProp) {F' : List HProp} [hp : Has F (allOf W) F'] (hw : holds w F) (hs : s.length ≤ 9223372036854775807) :
    Ct Tryd.prog 5 #[.int .i64 n, .string (bs s), .agg #[.int .i64 a, .int .i64 b]] w fun e w' => e = .returned (.bool true) ∧ holds w' F := by
  refine Ct.go (args := [.int .i64 n, .string (bs s), .agg #[.int .i64 a, .int .i64 b]]) Tryd.func5 rfl rfl rfl hw ?_
  have C0 := law11_works hL
  by_cases hlen : s.length ≤ 100
  rotate_left
  · repeat' (first | (first | first | (apply GL.isAny; refine GL.run (by first | exact Runs.strEq rfl rfl | exact Runs.strNe rfl rfl | exact Runs.strLen rfl | exact Runs.eqBo rfl rfl) rfl ?_) | (apply GD.isAny; refine GD.run (by first | exact Runs.strNe rfl rfl | exact Runs.strEq rfl rfl) rfl ?_) | (apply GL.isCall; refine GL.call1 rfl rfl (fun w h => C0 w _ h) ?_)) | first | refine stp ?_ | (refine stpB ?_; intro _) | (refine spl ?_ ?_ <;> intro hc <;> ((try simp only [decide_eq_true_eq, decide_eq_false_iff_not, Bool.not_true, Bool.not_false, ne_eq, Classical.not_not, Int.not_lt, Int.not_le] at hc); (try (exfalso; first | omega | exact hc trivial | exact hc rfl)))))
    refine GE.resOne rfl (by (repeat (first | apply Res.nil | (apply Res.tmp; rfl) | (refine Res.cellA rfl rfl rfl ?_) | (refine Res.cell1 rfl rfl ?_)))) (fun w h => ?_); exact ⟨rfl, h.sub⟩
  have C1 := digits_Read hL s (by omega)
  have C2 := ref11_Read s hs
  have C3 := digits_Within hL s a b (by omega)
  have C4 := ref11_Within s a b hs
  repeat' (first | (first | first | (apply GL.isAny; refine GL.run (by first | exact Runs.strEq rfl rfl | exact Runs.strNe rfl rfl | exact Runs.strLen rfl | exact Runs.eqBo rfl rfl) rfl ?_) | (apply GD.isAny; refine GD.run (by first | exact Runs.strNe rfl rfl | exact Runs.strEq rfl rfl) rfl ?_) | (apply GL.isCall; refine GL.call1 rfl rfl (fun w h => C0 w _ h) ?_) | (apply GL.isCall; refine GL.call1 rfl rfl (fun w h => C1 w _ h) ?_) | (apply GL.isCall; refine GL.call1 rfl rfl (fun w h => C2 w _ h) ?_) | (apply GL.isCall; refine GL.call1 rfl rfl (fun w h => C3 w _ h) ?_) | (apply GL.isCall; refine GL.call1 rfl rfl (fun w h => C4 w _ h) ?_) | (apply GL.isCall; refine GL.call1 rfl rfl (fun w h => digits_Num hL n hn w _ h) ?_) | (apply GL.isCall; refine GL.call1 rfl rfl (fun w h => ref11_Num n hn w _ h) ?_)) | first | refine stp ?_ | (refine stpB ?_; intro _) | (refine spl ?_ ?_ <;> intro hc <;> ((try simp only [decide_eq_true_eq, decide_eq_false_iff_not, Bool.not_true, Bool.not_false, ne_eq, Classical.not_not, Int.not_lt, Int.not_le] at hc); (try (exfalso; first | omega | exact hc trivial | exact hc rfl)))))
  all_goals (first | (exact absurd rfl (by assumption)) | (refine GE.resOne rfl (by (repeat (first | apply Res.nil | (apply Res.tmp; rfl) | (refine Res.cellA rfl rfl rfl ?_) | (refine Res.cell1 rfl rfl ?_)))) (fun w h => ?_); exact ⟨rfl, h.sub⟩))
theorem law11_DigitsWords (hL : LibW W) (s : List UInt8) (v : Value) (l : List (List UInt8)) (hl : l.length ≤ maxLen) (w : World) (F : List HProp) {F' : List HProp} [hp : Has F (allOf W) F'] [hr : Reads F v encS 1 l] (hw : holds w F) (hs : s.length ≤ 9223372036854775807) :
    Ct Tryd.prog 3 #[.string (bs s), v] w fun e w' => e = .returned (.bool true) ∧ holds w' F := by
  refine Ct.go (args := [.string (bs s), v]) Tryd.func3 rfl rfl rfl hw ?_
  have C0 := law11_works hL
  have hm : maxLen = maxLen := rfl
  by_cases hlen : s.length ≤ 300 ∧ l.length ≤ 20
  rotate_left
  · repeat' (first | (first | first | (apply GL.isAny; refine GL.run (by first | exact Runs.strEq rfl rfl | exact Runs.strNe rfl rfl | exact Runs.strLen rfl | exact Runs.eqBo rfl rfl) rfl ?_) | (apply GD.isAny; refine GD.run (by first | exact Runs.strNe rfl rfl | exact Runs.strEq rfl rfl) rfl ?_) | (apply GL.isCall; refine GL.call1 rfl rfl (fun w h => C0 w _ h) ?_)) | first | refine stp ?_ | (refine stpB ?_; intro _) | (refine spl ?_ ?_ <;> intro hc <;> ((try simp only [decide_eq_true_eq, decide_eq_false_iff_not, Bool.not_true, Bool.not_false, ne_eq, Classical.not_not, Int.not_lt, Int.not_le] at hc); (try (exfalso; first | omega | exact hc trivial | exact hc rfl)))))
    all_goals (refine GE.resOne rfl (by (repeat (first | apply Res.nil | (apply Res.tmp; rfl) | (refine Res.cellA rfl rfl rfl ?_) | (refine Res.cell1 rfl rfl ?_)))) (fun w h => ?_); exact ⟨rfl, h.sub⟩)
  repeat' (first | (first | first | (apply GL.isAny; refine GL.run (by first | exact Runs.strEq rfl rfl | exact Runs.strNe rfl rfl | exact Runs.strLen rfl | exact Runs.eqBo rfl rfl) rfl ?_) | (apply GD.isAny; refine GD.run (by first | exact Runs.strNe rfl rfl | exact Runs.strEq rfl rfl) rfl ?_) | (apply GL.isCall; refine GL.call1 rfl rfl (fun w h => C0 w _ h) ?_)) | first | refine stp ?_ | (refine stpB ?_; intro _) | (refine spl ?_ ?_ <;> intro hc <;> ((try simp only [decide_eq_true_eq, decide_eq_false_iff_not, Bool.not_true, Bool.not_false, ne_eq, Classical.not_not, Int.not_lt, Int.not_le] at hc); (try (exfalso; first | omega | exact hc trivial | exact hc rfl)))))
  refine G.loopK [0, 1] (Nat) (fun k => [(5, .int .i64 k)]) (fun k => F) (fun k => k ≤ l.length ∧ ∀ i (hi : i < l.length), i < k → (l[i]).length ≤ 100) (fun k => l.length - k) (0) (⟨by omega, fun i _ h => absurd h (Nat.not_lt_zero i)⟩) (by repeat (first | exact trivial | refine And.intro rfl ?_)) (fun w h => by (try dsimp only); first | exact h | exact h.sub | ((try simp only [List.take_zero, List.drop_zero, List.map_nil, List.nil_append, List.zipIdx_nil, List.filter_nil]); exact h.sub)) ?_
  rintro k ⟨hk, hI⟩
  by_cases hlt : k < l.length
  · repeat' (first | (first | first | (apply GL.isAny; refine GL.run (by first | exact Runs.strEq rfl rfl | exact Runs.strNe rfl rfl | exact Runs.strLen rfl | exact Runs.eqBo rfl rfl) rfl ?_) | (apply GD.isAny; refine GD.run (by first | exact Runs.strNe rfl rfl | exact Runs.strEq rfl rfl) rfl ?_) | (apply GL.isCall; refine GL.call1 rfl rfl (fun w h => C0 w _ h) ?_)) | first | refine stp ?_ | (refine stpB ?_; intro _) | (refine spl ?_ ?_ <;> intro hc <;> ((try simp only [decide_eq_true_eq, decide_eq_false_iff_not, Bool.not_true, Bool.not_false, ne_eq, Classical.not_not, Int.not_lt, Int.not_le] at hc); (try (exfalso; first | omega | exact hc trivial | exact hc rfl)))))
    all_goals first
      | (refine GE.round (k + 1) (⟨by omega, fun i hi h => by rcases Nat.lt_or_ge i k with h1 | h1 ; (exact hI i hi h1) ; (obtain rfl : i = k := by omega) ; omega⟩) (by repeat (first | exact trivial | refine And.intro rfl ?_)) (fun w h => by (try dsimp only); exact h.sub) (by (try dsimp only); omega))
      | (refine GE.resOne rfl (by (repeat (first | apply Res.nil | (apply Res.tmp; rfl) | (refine Res.cellA rfl rfl rfl ?_) | (refine Res.cell1 rfl rfl ?_)))) (fun w h => ?_); exact ⟨rfl, h.sub⟩)
  have hjl : (Lib.join l [32]).length ≤ 1048576 := by
    have := Dg.join_len l (fun x hx => by obtain ⟨i, hi, rfl⟩ := List.getElem_of_mem hx; exact hI i hi (by omega))
    omega
  have hwl := Dg.words_len s (by omega)
  have C1 := digits_Words hL s (by omega)
  have C2 := ref11_Words s (by omega)
  have C3 := digits_Word s
  have C4 := ref11_Word s (by omega)
  have C5 := digits_Join l v hjl (by omega)
  have C6 := ref11_Join l v hjl (by omega)
  repeat' (first | (first | first | (apply GL.isAny; refine GL.run (by first | exact Runs.strEq rfl rfl | exact Runs.strNe rfl rfl | exact Runs.strLen rfl | exact Runs.eqBo rfl rfl) rfl ?_) | (apply GD.isAny; refine GD.run (by first | exact Runs.strNe rfl rfl | exact Runs.strEq rfl rfl) rfl ?_) | (apply GL.isCall; refine GL.call1 rfl rfl (fun w h => C0 w _ h) ?_) | (apply GL.isCall; refine GL.call (vs := [.string (bs s)]) rfl rfl (fun w h => C1 w _ h) (fun v1 => ?_)) | (apply GL.isCall; refine GL.call (vs := [.string (bs s)]) rfl rfl (fun w h => C2 w _ h) (fun v2 => ?_)) | (apply GL.isCall; refine GL.call1 rfl rfl (fun w h => C3 w _ h) ?_) | (apply GL.isCall; refine GL.call1 rfl rfl (fun w h => C4 w _ h) ?_) | (apply GL.isCall; refine GL.call1 rfl rfl (fun w h => C5 w _ h) ?_) | (apply GL.isCall; refine GL.call1 rfl rfl (fun w h => C6 w _ h) ?_) | (apply GL.isCall; refine GL.call1 (v := .bool true) rfl rfl (fun w h => by have h1 := base_SameTexts v1 v2 ((Dg.words s).getD []) ((Dg.words s).getD []) hwl hwl w _ h ; rw [decide_eq_true rfl] at h1 ; exact h1) ?_)) | first | refine stp ?_ | (refine stpB ?_; intro _) | (refine spl ?_ ?_ <;> intro hc <;> ((try simp only [decide_eq_true_eq, decide_eq_false_iff_not, Bool.not_true, Bool.not_false, ne_eq, Classical.not_not, Int.not_lt, Int.not_le] at hc); (try (exfalso; first | omega | exact hc trivial | exact hc rfl)))))
  all_goals (first | (exact absurd rfl (by assumption)) | (refine GE.resOne rfl (by (repeat (first | apply Res.nil | (apply Res.tmp; rfl) | (refine Res.cellA rfl rfl rfl ?_) | (refine Res.cell1 rfl rfl ?_)))) (fun w h => ?_); exact ⟨rfl, h.sub⟩))
end
end Go.Proofs.YtoafajooffhimaaDoor
