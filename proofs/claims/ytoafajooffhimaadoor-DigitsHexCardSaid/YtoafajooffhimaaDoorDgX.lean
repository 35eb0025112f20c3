/- Numbers within bounds, words: the walks. -/
import Derived.Test.YtoafajooffhimaaDoorDgW
namespace Go.Proofs.YtoafajooffhimaaDoor
open Go Go.RowKit Go.MapKept
set_option linter.unusedVariables false
set_option linter.unusedSimpArgs false
set_option maxRecDepth 100000
set_option maxHeartbeats 4000000
section
variable {W : World}
namespace Dg
/-- The number whose text this is, if it lies between these. -/
def within (s : List UInt8) (lo hi : Int) : Option Int := match read s with
  | some n => if n < lo ∨ hi < n then none else some n
  | none => none
theorem word_pre {s : List UInt8} (h : ∀ i (hi : i < s.length), i < s.length → isW s[i] = true) : word s = !s.isEmpty := by
  unfold word
  have : s.all isW = true := by
    rw [List.all_eq_true]
    intro c hc
    obtain ⟨i, hi, rfl⟩ := List.getElem_of_mem hc
    exact h i hi hi
  rw [this, Bool.and_true]
theorem word_no {s : List UInt8} {i : Nat} (hi : i < s.length) (h : isW s[i] = false) : word s = false := by
  unfold word
  have : s.all isW = false := by
    rw [← Bool.not_eq_true, List.all_eq_true]
    intro h1
    rw [h1 _ (List.getElem_mem hi)] at h; cases h
  rw [this, Bool.and_false]
end Dg
theorem digits_Within (hL : LibW W) (s : List UInt8) (lo hi : Int) (hs : s.length ≤ 281474976710656) (w : World) (F : List HProp) {F' : List HProp} [hp : Has F (allOf W) F'] (hw : holds w F) :
    Ct Tryd.prog 18 #[.string (bs s), .int .i64 lo, .int .i64 hi] w fun e w' => e = .returned (.tuple #[.int .i64 ((Dg.within s lo hi).getD 0), .bool (Dg.within s lo hi).isSome]) ∧ holds w' F := by
  refine Ct.go (args := [.string (bs s), .int .i64 lo, .int .i64 hi]) Tryd.func18 rfl rfl rfl hw ?_
  have C := digits_Read hL s hs
  unfold Dg.within
  cases hr : Dg.read s with
  | none =>
    rw [hr] at C
    repeat' (first | (first | (apply GL.isCall; refine GL.call1 rfl rfl (fun w h => C w _ h) ?_)) | first | refine stp ?_ | (refine stpB ?_; intro _) | (refine spl ?_ ?_ <;> intro hc <;> ((try simp only [decide_eq_true_eq, decide_eq_false_iff_not, Bool.not_true, Bool.not_false, ne_eq, Classical.not_not, Int.not_lt, Int.not_le] at hc); (try (exfalso; first | omega | exact hc trivial | exact hc rfl)))))
    all_goals (refine GE.resMany rfl (by (repeat (first | apply Res.nil | (apply Res.tmp; rfl) | (refine Res.cellA rfl rfl rfl ?_) | (refine Res.cell1 rfl rfl ?_)))) (fun w h => ?_); exact ⟨rfl, h.sub⟩)
  | some v =>
    rw [hr] at C
    repeat' (first | (first | (apply GL.isCall; refine GL.call1 (v := .tuple #[.int .i64 v, .bool true]) rfl rfl (fun w h => C w _ h) ?_)) | first | refine stp ?_ | (refine stpB ?_; intro _) | (refine spl ?_ ?_ <;> intro hc <;> ((try simp only [decide_eq_true_eq, decide_eq_false_iff_not, Bool.not_true, Bool.not_false, ne_eq, Classical.not_not, Int.not_lt, Int.not_le] at hc); (try (exfalso; first | omega | exact hc trivial | exact hc rfl)))))
    all_goals (refine GE.resMany rfl (by (repeat (first | apply Res.nil | (apply Res.tmp; rfl) | (refine Res.cellA rfl rfl rfl ?_) | (refine Res.cell1 rfl rfl ?_)))) (fun w h => ?_); refine ⟨?_, h.sub⟩; dsimp only; split <;> first | rfl | (exfalso; omega))
theorem digits_plain (c : Int) (w : World) (F : List HProp) (hw : holds w F) :
    Ct Tryd.prog 26 #[.int .i32 c] w fun e w' => e = .returned (.bool (decide (32 < c) && decide (c ≤ 126))) ∧ holds w' F := by
  refine Ct.go (args := [.int .i32 c]) Tryd.func26 rfl rfl rfl hw ?_
  repeat' (first | refine stp ?_ | (refine stpB ?_; intro _) | (refine spl ?_ ?_ <;> intro hc <;> ((try simp only [decide_eq_true_eq, decide_eq_false_iff_not, Bool.not_true, Bool.not_false, ne_eq, Classical.not_not, Int.not_lt, Int.not_le] at hc); (try (exfalso; first | omega | exact hc trivial | exact hc rfl)))))
  all_goals (refine GE.resOne rfl (by (repeat (first | apply Res.nil | (apply Res.tmp; rfl) | (refine Res.cellA rfl rfl rfl ?_) | (refine Res.cell1 rfl rfl ?_)))) (fun w h => ?_); refine ⟨?_, h.sub⟩; first | (simp_all; done) | (simp_all; omega))
theorem digits_Word (s : List UInt8) (w : World) (F : List HProp) (hw : holds w F) :
    Ct Tryd.prog 10 #[.string (bs s)] w fun e w' => e = .returned (.bool (Dg.word s)) ∧ holds w' F := by
  refine Ct.go (args := [.string (bs s)]) Tryd.func10 rfl rfl rfl hw ?_
  repeat' (first | ((apply GL.isAny; refine GL.rangeStr rfl rfl (fun b => ?_))) | first | refine stp ?_ | (refine stpB ?_; intro _) | (refine spl ?_ ?_ <;> intro hc <;> ((try simp only [decide_eq_true_eq, decide_eq_false_iff_not, Bool.not_true, Bool.not_false, ne_eq, Classical.not_not, Int.not_lt, Int.not_le] at hc); (try (exfalso; first | omega | exact hc trivial | exact hc rfl)))))
  refine G.loopK [0, 6] (Nat) (fun _ => []) (fun k => blk b (.stringIter (bs s) k) :: F) (fun k => k ≤ s.length ∧ ∀ i (hi : i < s.length), i < k → Dg.isW s[i] = true) (fun k => s.length - k) (0) (⟨by omega, fun i _ h => absurd h (Nat.not_lt_zero i)⟩) (by repeat (first | exact trivial | refine And.intro rfl ?_)) (fun w h => by (try dsimp only); first | exact h | exact h.sub | ((try simp only [List.take_zero, List.drop_zero, List.map_nil, List.nil_append, List.zipIdx_nil, List.filter_nil]); exact h.sub)) ?_
  rintro k ⟨hk, hI⟩
  by_cases hlt : k < s.length
  · by_cases ha : s[k].toNat < 128
    · repeat' (first | (first | (apply GL.isAny; refine GL.nextA rfl rfl hlt ha ?_) | (apply GL.isCall; refine GL.call1 rfl rfl (fun w h => digits_plain _ w _ h) ?_)) | first | refine stp ?_ | (refine stpB ?_; intro _) | (refine spl ?_ ?_ <;> intro hc <;> ((try simp only [decide_eq_true_eq, decide_eq_false_iff_not, Bool.not_true, Bool.not_false, ne_eq, Classical.not_not, Int.not_lt, Int.not_le] at hc); (try (exfalso; first | omega | exact hc trivial | exact hc rfl)))))
      · refine GE.resOne rfl (by (repeat (first | apply Res.nil | (apply Res.tmp; rfl) | (refine Res.cellA rfl rfl rfl ?_) | (refine Res.cell1 rfl rfl ?_)))) (fun w h => ?_)
        refine ⟨?_, h.sub⟩
        have hw : Dg.isW s[k] = false := by
          unfold Dg.isW; simp at hc ⊢; omega
        rw [Dg.word_no hlt hw]
      · have hw : Dg.isW s[k] = true := by
          unfold Dg.isW; simp at hc ⊢; omega
        refine GE.round (k + 1) (⟨by omega, fun i hi h => by rcases Nat.lt_or_ge i k with h1 | h1 ; (exact hI i hi h1) ; (obtain rfl : i = k := by omega) ; exact hw⟩) (by repeat (first | exact trivial | refine And.intro rfl ?_)) (fun w h => by (try dsimp only); exact h.sub) (by (try dsimp only); omega)
    · repeat' (first | (first | (apply GL.isAny; refine GL.nextB rfl rfl hlt (by omega) (fun c j hc hj => ?_)) | (apply GL.isCall; refine GL.call1 rfl rfl (fun w h => digits_plain _ w _ h) ?_)) | first | refine stp ?_ | (refine stpB ?_; intro _) | (refine spl ?_ ?_ <;> intro hc <;> ((try simp only [decide_eq_true_eq, decide_eq_false_iff_not, Bool.not_true, Bool.not_false, ne_eq, Classical.not_not, Int.not_lt, Int.not_le] at hc); (try (exfalso; first | omega | exact hc trivial | exact hc rfl)))))
      · refine GE.resOne rfl (by (repeat (first | apply Res.nil | (apply Res.tmp; rfl) | (refine Res.cellA rfl rfl rfl ?_) | (refine Res.cell1 rfl rfl ?_)))) (fun w h => ?_)
        refine ⟨?_, h.sub⟩
        rw [Dg.word_no hlt (by unfold Dg.isW; simp; omega)]
      · exfalso; simp at hc; omega
  · repeat' (first | (first | (apply GL.isAny; refine GL.nextE (l := s) (k := k) rfl rfl (by omega) ?_) | (apply GL.isAny; refine GL.run (by first | exact Runs.strEq rfl rfl | exact Runs.strNe rfl rfl | exact Runs.strLen rfl | exact Runs.strAdd rfl rfl (by first | omega | (simp only [List.length_append, List.length_cons, List.length_nil] at *; omega)) | exact Runs.strAt rfl rfl rfl (by omega) | exact Runs.neqIfaceNil rfl | exact Runs.neqNilNil rfl) rfl ?_)) | first | refine stp ?_ | (refine stpB ?_; intro _) | (refine spl ?_ ?_ <;> intro hc <;> ((try simp only [decide_eq_true_eq, decide_eq_false_iff_not, Bool.not_true, Bool.not_false, ne_eq, Classical.not_not, Int.not_lt, Int.not_le] at hc); (try (exfalso; first | omega | exact hc trivial | exact hc rfl)))))
    refine GE.resOne rfl (by (repeat (first | apply Res.nil | (apply Res.tmp; rfl) | (refine Res.cellA rfl rfl rfl ?_) | (refine Res.cell1 rfl rfl ?_)))) (fun w h => ?_)
    refine ⟨?_, h.sub⟩
    rw [Dg.word_pre fun i hi _ => hI i hi (by omega)]
    cases s <;> simp
end
end Go.Proofs.YtoafajooffhimaaDoor
