import Derived.Test.YtipkgamiejenaaaGreatMg8
import Derived.Test.YtipkgamiejenaaaGreatMg6
import Derived.Laws.IdiomStrings
import Derived.Test.YtipkgamiejenaaaGreatMg7
import Derived.Test.YtipkgamiejenaaaGreatTypes
import Derived.Laws.LoneSync
import Derived.Test.YtipkgamiejenaaaGreatMg5
/- Package drain and its reference. -/
namespace Go.Proofs.YtipkgamiejenaaaGreat
open Go Go.RowKit Go.MapKept
set_option linter.unusedVariables false
set_option linter.unusedSectionVars false
set_option linter.unusedSimpArgs false
set_option maxRecDepth 100000
set_option maxHeartbeats 2000000
namespace Dr
/-- How many ticks until none waits. -/
def st (w q : Int) : Int := if 0 < w % q then w / q + 1 else w / q
/-- What each tick takes. -/
def plan : Nat → Int → Int → List Int
  | 0, _, _ => []
  | n + 1, w, q => min w q :: plan n (w - min w q) q
theorem plan_len (q : Int) : ∀ (n : Nat) (w : Int), (plan n w q).length = n
  | 0, _ => rfl
  | n + 1, w => by simp [plan, plan_len q n]
theorem st_nn {w q : Int} (hw : 0 ≤ w) (hq : 1 ≤ q) : 0 ≤ st w q := by
  have := Int.ediv_nonneg hw (by omega : 0 ≤ q)
  unfold st; split <;> omega
theorem st_le {w q : Int} (hw : 0 ≤ w) (hq : 1 ≤ q) : st w q ≤ w := by
  have h1 : w / q ≤ w := Int.ediv_le_self _ hw
  unfold st; split
  · rename_i h
    have h2 := Int.mul_ediv_add_emod w q
    have h3 := Int.ediv_nonneg hw (by omega : 0 ≤ q)
    have h4 : w / q ≤ q * (w / q) := by have := Int.mul_le_mul_of_nonneg_right hq h3; omega
    omega
  · exact h1
theorem st_zero (q : Int) : st 0 q = 0 := by simp [st]
theorem st_step {w q : Int} (hw : 0 < w) (hq : 1 ≤ q) : st w q = st (w - min w q) q + 1 := by
  by_cases h : q ≤ w
  · rw [show min w q = q by omega]
    have h1 : (w - q) / q = w / q - 1 := by
      rw [show w - q = w + (-1) * q by omega, Int.add_mul_ediv_right _ _ (by omega)]; omega
    have h2 : (w - q) % q = w % q := by
      rw [show w - q = w + (-1) * q by omega, Int.add_mul_emod_self_right]
    unfold st
    rw [h1, h2]
    split <;> omega
  · rw [show min w q = w by omega, Int.sub_self, st_zero]
    unfold st
    rw [Int.ediv_eq_zero_of_lt (by omega) (by omega), Int.emod_eq_of_lt (by omega) (by omega), if_pos hw]
theorem ticks_eq (a q : Int) (hq : 1 ≤ q) : (a - a % q) / q = a / q := by
  have h2 := Int.mul_ediv_add_emod a q
  rw [show a - a % q = q * (a / q) by omega, Int.mul_ediv_cancel_left _ (by omega)]
end Dr
theorem num_AddD (a b : Int) (h : 0 ≤ a ∧ a ≤ 1099511627776 ∧ 0 ≤ b ∧ b ≤ 1099511627776) (w : World) (F : List HProp) (hw : holds w F) :
    Ct Tryz.prog 184 #[.int .i64 a, .int .i64 b] w fun e w' => e = .returned (.tuple #[.int .i64 (a + b), .bool true]) ∧ holds w' F := by
  refine Ct.go (args := [.int .i64 a, .int .i64 b]) Tryz.func184 rfl rfl rfl hw ?_
  repeat' (first | refine stp ?_ | (refine stpB ?_; intro _) | (refine spl ?_ ?_ <;> intro hc <;> ((try simp only [decide_eq_true_eq, decide_eq_false_iff_not, Bool.not_true, Bool.not_false, ne_eq, Classical.not_not, Int.not_lt, Int.not_le] at hc); (try (exfalso; first | omega | exact hc trivial | exact hc rfl)))))
  all_goals
    refine GE.resMany rfl (by (repeat (first | apply Res.nil | (apply Res.tmp; rfl) | (refine Res.cellA rfl rfl rfl ?_) | (refine Res.cell1 rfl rfl ?_)))) (fun w h => ?_)
    exact ⟨rfl, h⟩
theorem drain_may (a b c : Int) (h : 0 ≤ a ∧ 1 ≤ b ∧ 0 ≤ c) (w : World) (F : List HProp) (hw : holds w F) :
    Ct Tryz.prog 183 #[.int .i64 a, .int .i64 b, .int .i64 c] w fun e w' => e = .returned (.bool true) ∧ holds w' F := by
  refine Ct.go (args := [.int .i64 a, .int .i64 b, .int .i64 c]) Tryz.func183 rfl rfl rfl hw ?_
  repeat' (first | refine stp ?_ | (refine stpB ?_; intro _) | (refine spl ?_ ?_ <;> intro hc <;> ((try simp only [decide_eq_true_eq, decide_eq_false_iff_not, Bool.not_true, Bool.not_false, ne_eq, Classical.not_not, Int.not_lt, Int.not_le] at hc); (try (exfalso; first | omega | exact hc trivial | exact hc rfl)))))
  all_goals (first | (exfalso; simp at hc; done) | skip)
  all_goals
    refine GE.resOne rfl (by (repeat (first | apply Res.nil | (apply Res.tmp; rfl) | (refine Res.cellA rfl rfl rfl ?_) | (refine Res.cell1 rfl rfl ?_)))) (fun w h => ?_)
    exact ⟨by congr 2; simp; omega, h⟩
theorem drain_Ticks (a q : Int) (h : 0 ≤ a ∧ a ≤ 1048576 ∧ 1 ≤ q ∧ q ≤ 1048576) (w : World) (F : List HProp) (hw : holds w F) :
    Ct Tryz.prog 128 #[.int .i64 a, .int .i64 q] w fun e w' => e = .returned (.tuple #[.int .i64 (a / q + 1), .bool true]) ∧ holds w' F := by
  have h1 : a / q ≤ a := Int.ediv_le_self _ (by omega)
  have h2 : 0 ≤ a / q := Int.ediv_nonneg (by omega) (by omega)
  refine Ct.go (args := [.int .i64 a, .int .i64 q]) Tryz.func128 rfl rfl rfl hw ?_
  repeat' (first | (first | (apply GL.isAny; refine GL.run (Runs.quo rfl rfl (by omega)) rfl ?_) | (apply GL.isAny; refine GL.run (Runs.rem rfl rfl (by omega)) rfl ?_) | (apply GL.isCall; refine GL.call1 rfl rfl (fun w h => drain_may a q 0 (by omega) w _ h) ?_) | (apply GL.isCall; refine GL.call1 rfl rfl (fun w h => num_AddD (a / q) 1 (by omega) w _ h) ?_)) | first | refine stp ?_ | (refine stpB ?_; intro _) | (refine spl ?_ ?_ <;> intro hc <;> ((try simp only [decide_eq_true_eq, decide_eq_false_iff_not, Bool.not_true, Bool.not_false, ne_eq, Classical.not_not, Int.not_lt, Int.not_le] at hc); (try (exfalso; first | omega | exact hc trivial | exact hc rfl)))))
  all_goals (first | (exfalso; simp at hc; done) | (refine GE.resMany rfl (by (repeat (first | apply Res.nil | (apply Res.tmp; rfl) | (refine Res.cellA rfl rfl rfl ?_) | (refine Res.cell1 rfl rfl ?_)))) (fun w h => ?_); exact ⟨rfl, h⟩))
theorem num_CeilD (a q : Int) (h : 0 ≤ a ∧ a ≤ 1048576 ∧ 1 ≤ q ∧ q ≤ 1048576) (w : World) (F : List HProp) (hw : holds w F) :
    Ct Tryz.prog 223 #[.int .i64 a, .int .i64 q] w fun e w' => e = .returned (.tuple #[.int .i64 (Dr.st a q), .bool true]) ∧ holds w' F := by
  have h1 : a / q ≤ a := Int.ediv_le_self _ (by omega)
  have h2 : 0 ≤ a / q := Int.ediv_nonneg (by omega) (by omega)
  refine Ct.go (args := [.int .i64 a, .int .i64 q]) Tryz.func223 rfl rfl rfl hw ?_
  unfold Dr.st
  repeat' (first | (first | (apply GL.isAny; refine GL.run (Runs.quo rfl rfl (by omega)) rfl ?_) | (apply GL.isAny; refine GL.run (Runs.rem rfl rfl (by omega)) rfl ?_)) | first | refine stp ?_ | (refine stpB ?_; intro _) | (refine spl ?_ ?_ <;> intro hc <;> ((try simp only [decide_eq_true_eq, decide_eq_false_iff_not, Bool.not_true, Bool.not_false, ne_eq, Classical.not_not, Int.not_lt, Int.not_le] at hc); (try (exfalso; first | omega | exact hc trivial | exact hc rfl)))))
  all_goals (first | (exfalso; omega) | (exfalso; simp at hc; omega) | (refine GE.resMany rfl (by (repeat (first | apply Res.nil | (apply Res.tmp; rfl) | (refine Res.cellA rfl rfl rfl ?_) | (refine Res.cell1 rfl rfl ?_)))) (fun w h => ?_); exact ⟨by first | rw [if_pos (by assumption)] | rw [if_neg (by omega)], h⟩))
theorem drain_Last (a q : Int) (h : 0 ≤ a ∧ a ≤ 1048576 ∧ 1 ≤ q ∧ q ≤ 1048576) (w : World) (F : List HProp) (hw : holds w F) :
    Ct Tryz.prog 185 #[.int .i64 a, .int .i64 q] w fun e w' => e = .returned (.tuple #[.int .i64 (Dr.st a q), .bool true]) ∧ holds w' F := by
  refine Ct.go (args := [.int .i64 a, .int .i64 q]) Tryz.func185 rfl rfl rfl hw ?_
  repeat' (first | (first | (apply GL.isCall; refine GL.call1 rfl rfl (fun w h => num_CeilD a q (by omega) w _ h) ?_)) | first | refine stp ?_ | (refine stpB ?_; intro _) | (refine spl ?_ ?_ <;> intro hc <;> ((try simp only [decide_eq_true_eq, decide_eq_false_iff_not, Bool.not_true, Bool.not_false, ne_eq, Classical.not_not, Int.not_lt, Int.not_le] at hc); (try (exfalso; first | omega | exact hc trivial | exact hc rfl)))))
  refine GE.resMany rfl (by (repeat (first | apply Res.nil | (apply Res.tmp; rfl) | (refine Res.cellA rfl rfl rfl ?_) | (refine Res.cell1 rfl rfl ?_)))) (fun w h => ?_)
  exact ⟨rfl, h⟩
theorem ref22_Last (a q : Int) (h : 0 ≤ a ∧ a ≤ 1048576 ∧ 1 ≤ q ∧ q ≤ 1048576) (w : World) (F : List HProp) (hw : holds w F) :
    Ct Tryz.prog 187 #[.int .i64 a, .int .i64 q] w fun e w' => e = .returned (.tuple #[.int .i64 (Dr.st a q), .bool true]) ∧ holds w' F := by
  have h1 : a / q ≤ a := Int.ediv_le_self _ (by omega)
  have h2 : 0 ≤ a / q := Int.ediv_nonneg (by omega) (by omega)
  refine Ct.go (args := [.int .i64 a, .int .i64 q]) Tryz.func187 rfl rfl rfl hw ?_
  unfold Dr.st
  repeat' (first | (first | (apply GL.isAny; refine GL.run (Runs.quo rfl rfl (by omega)) rfl ?_) | (apply GL.isAny; refine GL.run (Runs.rem rfl rfl (by omega)) rfl ?_)) | first | refine stp ?_ | (refine stpB ?_; intro _) | (refine spl ?_ ?_ <;> intro hc <;> ((try simp only [decide_eq_true_eq, decide_eq_false_iff_not, Bool.not_true, Bool.not_false, ne_eq, Classical.not_not, Int.not_lt, Int.not_le] at hc); (try (exfalso; first | omega | exact hc trivial | exact hc rfl)))))
  all_goals (first | (exfalso; omega) | (exfalso; simp at hc; omega) | (refine GE.resMany rfl (by (repeat (first | apply Res.nil | (apply Res.tmp; rfl) | (refine Res.cellA rfl rfl rfl ?_) | (refine Res.cell1 rfl rfl ?_)))) (fun w h => ?_); exact ⟨by first | rw [if_pos (by assumption)] | rw [if_neg (by omega)], h⟩))
theorem ref22_Ticks (a q : Int) (h : 0 ≤ a ∧ a ≤ 1048576 ∧ 1 ≤ q ∧ q ≤ 1048576) (w : World) (F : List HProp) (hw : holds w F) :
    Ct Tryz.prog 41 #[.int .i64 a, .int .i64 q] w fun e w' => e = .returned (.tuple #[.int .i64 (a / q + 1), .bool true]) ∧ holds w' F := by
  have h1 : a / q ≤ a := Int.ediv_le_self _ (by omega)
  have h2 : 0 ≤ a / q := Int.ediv_nonneg (by omega) (by omega)
  have h3 : a % q ≤ a := by have := Int.mul_ediv_add_emod a q; have := Int.mul_nonneg (by omega : 0 ≤ q) h2; omega
  have h4 := Int.emod_nonneg a (by omega : q ≠ 0)
  have h5 := Dr.ticks_eq a q (by omega)
  refine Ct.go (args := [.int .i64 a, .int .i64 q]) Tryz.func41 rfl rfl rfl hw ?_
  repeat' (first | (first | (rw [h5]) | (apply GL.isAny; refine GL.run (Runs.quo rfl rfl (by omega)) rfl ?_) | (apply GL.isAny; refine GL.run (Runs.rem rfl rfl (by omega)) rfl ?_)) | first | refine stp ?_ | (refine stpB ?_; intro _) | (refine spl ?_ ?_ <;> intro hc <;> ((try simp only [decide_eq_true_eq, decide_eq_false_iff_not, Bool.not_true, Bool.not_false, ne_eq, Classical.not_not, Int.not_lt, Int.not_le] at hc); (try (exfalso; first | omega | exact hc trivial | exact hc rfl)))))
  all_goals (first | (exfalso; omega) | (exfalso; simp at hc; omega) | (refine GE.resMany rfl (by (repeat (first | apply Res.nil | (apply Res.tmp; rfl) | (refine Res.cellA rfl rfl rfl ?_) | (refine Res.cell1 rfl rfl ?_)))) (fun w h => ?_); exact ⟨rfl, h⟩))
theorem drain_Plan1 (b2 b3 : Nat) (a q : Int) (h : 0 ≤ a ∧ a ≤ 1048576 ∧ 1 ≤ q ∧ q ≤ 1048576) (w : World) (F : List HProp) (hw : holds w (blk b2 (.cells #[.int .i64 a] 3 (0, 0)) :: blk b3 (.cells #[.int .i64 q] 3 (0, 0)) :: F)) :
    Ct Tryz.prog 186 #[.pointer (some ⟨b2, 0, none⟩), .pointer (some ⟨b3, 0, none⟩)] w fun e w' => e = .returned (.int .i64 (min a q)) ∧ holds w' (blk b2 (.cells #[.int .i64 (a - min a q)] 3 (0, 0)) :: blk b3 (.cells #[.int .i64 q] 3 (0, 0)) :: F) := by
  refine Ct.go (args := [.pointer (some ⟨b2, 0, none⟩), .pointer (some ⟨b3, 0, none⟩)]) Tryz.func186 rfl rfl rfl hw ?_
  obtain ⟨o, ho⟩ : ∃ o, min a q = o := ⟨_, rfl⟩
  rw [ho]
  repeat' (first | (first | (rw [ho])) | first | refine stp ?_ | (refine stpB ?_; intro _) | (refine spl ?_ ?_ <;> intro hc <;> ((try simp only [decide_eq_true_eq, decide_eq_false_iff_not, Bool.not_true, Bool.not_false, ne_eq, Classical.not_not, Int.not_lt, Int.not_le] at hc); (try (exfalso; first | omega | exact hc trivial | exact hc rfl)))))
  refine GE.resOne rfl (by (repeat (first | apply Res.nil | (apply Res.tmp; rfl) | (refine Res.cellA rfl rfl rfl ?_) | (refine Res.cell1 rfl rfl ?_)))) (fun w h => ?_)
  exact ⟨rfl, h⟩
theorem drain_Plan (a q : Int) (h : 0 ≤ a ∧ a ≤ 1000 ∧ 1 ≤ q ∧ q ≤ 1048576) (w : World) (F : List HProp) (hw : holds w F) :
    Ct Tryz.prog 129 #[.int .i64 a, .int .i64 q] w fun e w' => ∃ v : Value, e = .returned v ∧ holds w' (owns 3 encI1 1 v (Dr.plan (Dr.st a q).toNat a q) :: F) := by
  have hn0 := Dr.st_nn h.1 h.2.2.1
  have hn1 := Dr.st_le h.1 h.2.2.1
  refine Ct.go (args := [.int .i64 a, .int .i64 q]) Tryz.func129 rfl rfl rfl hw ?_
  obtain ⟨n, hn⟩ : ∃ n : Nat, Dr.st a q = n := ⟨(Dr.st a q).toNat, by omega⟩
  have hL := fun w (F : List HProp) h' => drain_Last a q (by omega) w F h'
  rw [hn] at hL hn1 ⊢
  rw [Int.toNat_natCast]
  repeat' (first | (first | (apply GL.isCall; refine GL.call1 rfl rfl (fun w h => hL w _ h) ?_) | (apply GL.isBox; refine GL.box1 rfl rfl rfl (fun b => ?_)) | (apply GL.isAny; refine GL.makeSl encI1 0 n n rfl rfl rfl rfl rfl (Nat.le_refl _) (by omega) (by unfold maxLen; omega) rfl (fun g => ?_))) | first | refine stp ?_ | (refine stpB ?_; intro _) | (refine spl ?_ ?_ <;> intro hc <;> ((try simp only [decide_eq_true_eq, decide_eq_false_iff_not, Bool.not_true, Bool.not_false, ne_eq, Classical.not_not, Int.not_lt, Int.not_le] at hc); (try (exfalso; first | omega | exact hc trivial | exact hc rfl)))))
  rename_i b2
  obtain ⟨b3, hb3⟩ : ∃ b3, b3 = b := ⟨_, rfl⟩
  rw [← hb3]
  refine G.loopK [2, 3, 7, 8, 25] (Nat × Int × List Int) (fun y => [(26, .int .i64 (y.1 : Nat))]) (fun y => owns 3 encI1 1 (.slice (some ⟨g, 0, none⟩) n n) (y.2.2 ++ List.replicate (n - y.1) 0) :: blk b2 (.cells #[.int .i64 y.2.1] 3 (0, 0)) :: blk b3 (.cells #[.int .i64 q] 3 (0, 0)) :: F) (fun y => y.1 ≤ n ∧ y.2.2.length = y.1 ∧ y.2.2 ++ Dr.plan (n - y.1) y.2.1 q = Dr.plan n a q ∧ 0 ≤ y.2.1 ∧ y.2.1 ≤ 1000) (fun y => n - y.1) ((0, a, [])) (⟨Nat.zero_le _, rfl, rfl, h.1, h.2.1⟩) (by repeat (first | exact trivial | refine And.intro rfl ?_)) (fun w h => by (try dsimp only); first | exact h | exact h.sub | ((try simp only [List.take_zero, List.drop_zero, List.map_nil, List.nil_append, List.zipIdx_nil, List.filter_nil]); exact h.sub)) ?_
  rintro ⟨i, r, d⟩ ⟨hi, hd, he, hr0, hr1⟩
  dsimp only at hi hd he hr0 hr1 ⊢
  by_cases hlt : i < n
  · have hdl : (d ++ List.replicate (n - i) 0).length = n := by simp; omega
    have hsn := set_next (o := min r q) hd hlt
    have he2 : (d ++ [min r q]) ++ Dr.plan (n - (i + 1)) (r - min r q) q = Dr.plan n a q := by
      rw [← he, show n - i = (n - (i + 1)) + 1 by omega, Dr.plan, List.append_assoc]; rfl
    obtain ⟨o, ho⟩ : ∃ o, o = min r q := ⟨_, rfl⟩
    have hC := fun w (F : List HProp) h' => drain_Plan1 b2 b3 r q (by omega) w F h'
    rw [← ho] at hC hsn he2
    repeat' (first | (first | (apply GL.isCall; refine GL.callVH1 (blk b2 (.cells #[.int .i64 r] 3 (0, 0))) (first := []) (captured := [.pointer (some ⟨b2, 0, none⟩), .pointer (some ⟨b3, 0, none⟩)]) (vs := []) (v := .int .i64 o) (F' := blk b2 (.cells #[.int .i64 (r - o)] 3 (0, 0)) :: blk b3 (.cells #[.int .i64 q] 3 (0, 0)) :: owns 3 encI1 1 (.slice (some ⟨g, 0, none⟩) n n) (d ++ List.replicate (n - i) 0) :: F) rfl rfl rfl (fun w h => by have h2 : holds w (blk b2 (.cells #[.int .i64 r] 3 (0, 0)) :: blk b3 (.cells #[.int .i64 q] 3 (0, 0)) :: owns 3 encI1 1 (.slice (some ⟨g, 0, none⟩) n n) (d ++ List.replicate (n - i) 0) :: F) := h.sub; exact hC w _ h2) ?_) | (apply GL.isAny; refine GL.run (by apply Runs.isIndexA; exact Runs.indexAddr (k := i) (l := d ++ List.replicate (n - i) 0) rfl rfl rfl rfl (by omega)) rfl ?_) | (apply GL.isStore; refine GL.setElem (i := i) (o) rfl rfl (by kernel_rfl) (by omega) rfl ?_)) | first | refine stp ?_ | (refine stpB ?_; intro _) | (refine spl ?_ ?_ <;> intro hc <;> ((try simp only [decide_eq_true_eq, decide_eq_false_iff_not, Bool.not_true, Bool.not_false, ne_eq, Classical.not_not, Int.not_lt, Int.not_le] at hc); (try (exfalso; first | omega | exact hc trivial | exact hc rfl)))))
    all_goals (first | (exfalso; omega) | skip)
    refine GE.round (i + 1, r - o, d ++ [o]) ⟨hlt, by dsimp only; rw [List.length_append, List.length_singleton, hd], he2, by dsimp only; omega, by dsimp only; omega⟩ (by repeat (first | exact trivial | refine And.intro rfl ?_)) (fun w h => by (try dsimp only); rw [← hsn]; exact h.sub) (by (try dsimp only); omega)
  · obtain rfl : i = n := by omega
    repeat' (first | refine stp ?_ | (refine stpB ?_; intro _) | (refine spl ?_ ?_ <;> intro hc <;> ((try simp only [decide_eq_true_eq, decide_eq_false_iff_not, Bool.not_true, Bool.not_false, ne_eq, Classical.not_not, Int.not_lt, Int.not_le] at hc); (try (exfalso; first | omega | exact hc trivial | exact hc rfl)))))
    all_goals (first | (exfalso; omega) | skip)
    refine GE.resOne rfl (by (repeat (first | apply Res.nil | (apply Res.tmp; rfl) | (refine Res.cellA rfl rfl rfl ?_) | (refine Res.cell1 rfl rfl ?_)))) (fun w h => ?_)
    rw [Nat.sub_self, Dr.plan, List.append_nil] at he
    refine ⟨_, rfl, ?_⟩
    rw [← he]
    exact (holds.sub (H := owns 3 encI1 1 (.slice (some ⟨g, 0, none⟩) i i) (d ++ List.replicate (i - i) 0) :: F) h).mono fun f hf => by simpa using hf
theorem ref22_Plan (a q : Int) (h : 0 ≤ a ∧ a ≤ 1000 ∧ 1 ≤ q ∧ q ≤ 1048576) (w : World) (F : List HProp) (hw : holds w F) :
    Ct Tryz.prog 130 #[.int .i64 a, .int .i64 q] w fun e w' => ∃ v : Value, e = .returned v ∧ holds w' (owns 3 encI1 1 v (Dr.plan (Dr.st a q).toNat a q) :: F) := by
  have hn0 := Dr.st_nn h.1 h.2.2.1
  have hn1 := Dr.st_le h.1 h.2.2.1
  refine Ct.go (args := [.int .i64 a, .int .i64 q]) Tryz.func130 rfl rfl rfl hw ?_
  obtain ⟨n, hn⟩ : ∃ n : Nat, Dr.st a q = n := ⟨(Dr.st a q).toNat, by omega⟩
  have hL := fun w (F : List HProp) h' => ref22_Last a q (by omega) w F h'
  rw [hn] at hL hn1 ⊢
  rw [Int.toNat_natCast]
  repeat' (first | (first | (apply GL.isCall; refine GL.call1 rfl rfl (fun w h => hL w _ h) ?_)) | first | refine stp ?_ | (refine stpB ?_; intro _) | (refine spl ?_ ?_ <;> intro hc <;> ((try simp only [decide_eq_true_eq, decide_eq_false_iff_not, Bool.not_true, Bool.not_false, ne_eq, Classical.not_not, Int.not_lt, Int.not_le] at hc); (try (exfalso; first | omega | exact hc trivial | exact hc rfl)))))
  all_goals (first | (exfalso; omega) | skip)
  refine G.nilOwn 3 encI1 1 ?_
  refine G.loopK [1] (Nat × Int × List Int × Value) (fun y => [(0, .int .i64 y.2.1), (7, y.2.2.2)]) (fun y => owns 3 encI1 1 y.2.2.2 y.2.2.1 :: F) (fun y => y.1 ≤ n ∧ y.2.2.1.length = y.1 ∧ y.2.2.1 ++ Dr.plan (n - y.1) y.2.1 q = Dr.plan n a q ∧ 0 ≤ y.2.1 ∧ y.2.1 ≤ 1000 ∧ Dr.st y.2.1 q = (n : Int) - y.1) (fun y => n - y.1) ((0, a, [], .slice none 0 0)) (⟨Nat.zero_le _, rfl, rfl, h.1, h.2.1, by dsimp only; omega⟩) (by repeat (first | exact trivial | refine And.intro rfl ?_)) (fun w h => by (try dsimp only); first | exact h | exact h.sub | ((try simp only [List.take_zero, List.drop_zero, List.map_nil, List.nil_append, List.zipIdx_nil, List.filter_nil]); exact h.sub)) ?_
  rintro ⟨i, r, d, v⟩ ⟨hi, hd, he, hr0, hr1, hst⟩
  dsimp only at hi hd he hr0 hr1 hst ⊢
  by_cases hlt : 0 < r
  · have hs := Dr.st_step hlt h.2.2.1
    have hs2 := Dr.st_nn (w := r - min r q) (by omega) h.2.2.1
    have he2 : (d ++ [min r q]) ++ Dr.plan (n - (i + 1)) (r - min r q) q = Dr.plan n a q := by
      rw [← he, show n - i = (n - (i + 1)) + 1 by omega, Dr.plan, List.append_assoc]; rfl
    obtain ⟨o, ho⟩ : ∃ o, o = min r q := ⟨_, rfl⟩
    rw [← ho] at hs hs2 he2
    by_cases hqr : r < q
    · obtain rfl : o = r := by omega
      repeat' (first | ((apply GL.isCall; refine GL.append1 (o) rfl rfl rfl rfl (by rfl) (by omega) (by omega) rfl (fun rr => ?_))) | first | refine stp ?_ | (refine stpB ?_; intro _) | (refine spl ?_ ?_ <;> intro hc <;> ((try simp only [decide_eq_true_eq, decide_eq_false_iff_not, Bool.not_true, Bool.not_false, ne_eq, Classical.not_not, Int.not_lt, Int.not_le] at hc); (try (exfalso; first | omega | exact hc trivial | exact hc rfl)))))
      all_goals (first | (exfalso; omega) | skip)
      refine GE.round (i + 1, o - o, d ++ [o], _) ⟨by dsimp only; omega, by dsimp only; rw [List.length_append, List.length_singleton, hd], he2, by dsimp only; omega, by dsimp only; omega, by dsimp only; omega⟩ (by repeat (first | exact trivial | refine And.intro rfl ?_)) (fun w h => by (try dsimp only); exact h.sub) (by (try dsimp only); omega)
    · obtain rfl : o = q := by omega
      repeat' (first | ((apply GL.isCall; refine GL.append1 (o) rfl rfl rfl rfl (by rfl) (by omega) (by omega) rfl (fun rr => ?_))) | first | refine stp ?_ | (refine stpB ?_; intro _) | (refine spl ?_ ?_ <;> intro hc <;> ((try simp only [decide_eq_true_eq, decide_eq_false_iff_not, Bool.not_true, Bool.not_false, ne_eq, Classical.not_not, Int.not_lt, Int.not_le] at hc); (try (exfalso; first | omega | exact hc trivial | exact hc rfl)))))
      all_goals (first | (exfalso; omega) | skip)
      refine GE.round (i + 1, r - o, d ++ [o], _) ⟨by dsimp only; omega, by dsimp only; rw [List.length_append, List.length_singleton, hd], he2, by dsimp only; omega, by dsimp only; omega, by dsimp only; omega⟩ (by repeat (first | exact trivial | refine And.intro rfl ?_)) (fun w h => by (try dsimp only); exact h.sub) (by (try dsimp only); omega)
  · obtain rfl : r = 0 := by omega
    rw [Dr.st_zero] at hst
    obtain rfl : i = n := by omega
    repeat' (first | refine stp ?_ | (refine stpB ?_; intro _) | (refine spl ?_ ?_ <;> intro hc <;> ((try simp only [decide_eq_true_eq, decide_eq_false_iff_not, Bool.not_true, Bool.not_false, ne_eq, Classical.not_not, Int.not_lt, Int.not_le] at hc); (try (exfalso; first | omega | exact hc trivial | exact hc rfl)))))
    all_goals (first | (exfalso; omega) | skip)
    refine GE.resOne rfl (by (repeat (first | apply Res.nil | (apply Res.tmp; rfl) | (refine Res.cellA rfl rfl rfl ?_) | (refine Res.cell1 rfl rfl ?_)))) (fun w h => ?_)
    rw [Nat.sub_self, Dr.plan, List.append_nil] at he
    rw [← he]
    exact ⟨_, rfl, h.sub⟩
end Go.Proofs.YtipkgamiejenaaaGreat

/- A reclaiming as the document says: what is plain. -/
namespace Go.Proofs.YtipkgamiejenaaaGreat
open Go Go.RowKit Go.MapKept
set_option linter.unusedVariables false
set_option linter.unusedSimpArgs false
namespace St
theorem step_go {t : S} {k : Nat} {n : Int} (hk : k < t.ch.length) (hn : 1 ≤ n) (hp : (t.c k).phase = 3) : step t k n = if t.w k + portion t k n < t.size then (wiped t k n, false, 0) else ({ wiped t k n with stack := t.stack ++ [(k : Int)], ch := t.ch.set k ⟨0, 0, (t.c k).gen + 1⟩, ev := up t.ev 3 }, true, 0) := by
  have ho : ¬ (t.out k ∨ n < 1) := by unfold S.out; omega
  have hp2 : ¬ ((t.c k).phase ≠ 3) := fun h => h hp
  unfold step
  rw [if_neg ho, if_neg hp2]
  rfl
/-- A step that ends the wiping: as one of the whole size. -/
theorem step_fin {t : S} {i n : Int} (hn : 1 ≤ n) (h : t.size - t.w i ≤ n) (hs : (n : Int) ≤ t.size) : step t i n = step t i t.size := by
  have hp : portion t i n = portion t i t.size := by
    unfold portion
    by_cases hw : 0 ≤ t.w i
    · rw [show min n ((t.size : Int) - t.w i) = min (t.size : Int) ((t.size : Int) - t.w i) by omega]
    · omega
  unfold step wiped
  rw [hp]
  by_cases h1 : t.out i
  · rw [if_pos (Or.inl h1 : t.out i ∨ n < 1), if_pos (Or.inl h1 : t.out i ∨ (t.size : Int) < 1)]
  · have h2 : ¬ (t.out i ∨ n < 1) := fun h => h.elim h1 (by omega)
    have h3 : ¬ (t.out i ∨ (t.size : Int) < 1) := fun h => h.elim h1 (by omega)
    rw [if_neg h2, if_neg h3]
theorem step_more {t : S} {K : Nat} (hI : Inv t K) {k : Nat} (hk : k < t.ch.length) (hp : (t.c k).phase = 3) (h : t.w k + 64 < t.size) :
    step t k 64 = (wiped t k 64, false, 0) ∧ (wiped t k 64).w k = t.w k + 64 ∧ (step (wiped t k 64) k t.size) = step t k t.size := by
  have hp0 := hp
  rw [t.c_eq k hk] at hp
  have hc := hI.cell k hk
  obtain ⟨⟨hw0, hw1⟩, hz⟩ := hc.wip hp
  have p1 : portion t k 64 = 64 := by unfold portion; omega
  have ho : ¬ t.out k := by unfold S.out; omega
  have hwk : (wiped t k 64).w k = t.w k + 64 := by
    unfold S.w wiped
    rw [p1, Int.toNat_natCast, getD_set _ _ _ _ _ (by rw [hI.n2]; exact hk), if_pos rfl]; rfl
  have hxk : (wiped t k 64).x k = By.splice (t.x k) (t.w k).toNat (zeros 64) := by
    unfold S.x wiped
    rw [p1, Int.toNat_natCast, getD_set _ _ _ _ _ (by rw [hI.n1]; exact hk), if_pos rfl]; rfl
  refine ⟨?_, hwk, ?_⟩
  · rw [step_go hk (by omega) hp0, p1, if_pos (by omega)]
  · have p2 : portion (wiped t k 64) k t.size = (t.size - t.w k - 64).toNat := by
      unfold portion; rw [hwk]; show (min (t.size : Int) ((t.size : Int) - _)).toNat = _; omega
    have p3 : portion t k t.size = 64 + (t.size - t.w k - 64).toNat := by unfold portion; omega
    obtain ⟨m, hm⟩ : ∃ m, m = (t.size - t.w k - 64).toNat := ⟨_, rfl⟩
    rw [← hm] at p2 p3
    have hsp : By.splice (By.splice (t.x k) (t.w k).toNat (zeros 64)) ((t.w k).toNat + 64) (zeros m) = By.splice (t.x k) (t.w k).toNat (zeros (64 + m)) := by
      have := By.splice_more (t.x k) (zeros (64 + m)) (t.w k).toNat 64 m (by rw [hc.len]; simp [zeros]; omega) (by simp [zeros])
      simpa [zeros, List.take_replicate, List.drop_replicate] using this
    have hww : wiped (wiped t k 64) k t.size = wiped t k t.size := by
      have e1 : (wiped (wiped t k 64) k t.size).tx = (wiped t k t.size).tx := by
        show (wiped t k 64).tx.set _ (By.splice ((wiped t k 64).x k) ((wiped t k 64).w k).toNat (zeros (portion (wiped t k 64) k t.size))) = t.tx.set _ (By.splice (t.x k) (t.w k).toNat (zeros (portion t k t.size)))
        rw [hxk, hwk, p2, p3, show (t.w k + 64).toNat = (t.w k).toNat + 64 by omega, hsp]
        show (t.tx.set _ _).set _ _ = _
        rw [List.set_set]
      have e2 : (wiped (wiped t k 64) k t.size).wi = (wiped t k t.size).wi := by
        show (wiped t k 64).wi.set _ ((wiped t k 64).w k + portion (wiped t k 64) k t.size) = t.wi.set _ (t.w k + portion t k t.size)
        rw [hwk, p2, p3]
        show (t.wi.set _ _).set _ _ = _
        rw [List.set_set]
        congr 1; omega
      show S.mk _ _ _ _ _ _ = S.mk _ _ _ _ _ _
      rw [S.mk.injEq]
      exact ⟨rfl, rfl, e1, e2, rfl, rfl⟩
    rw [step_go (t := wiped t k 64) hk (by omega) hp0, step_go (t := t) (n := t.size) hk (by omega) hp0, hww, p2, p3, hwk]
    have q1 : ¬ (t.w k + 64 + (m : Nat) < (t.size : Int)) := by omega
    have q2 : ¬ (t.w k + ((64 + m : Nat) : Int) < (t.size : Int)) := by omega
    rw [if_neg q2]
    exact if_neg q1
theorem step_size {t : S} {i n : Int} : (step t i n).1.size = t.size := by unfold step wiped; split <;> (try split) <;> (try split) <;> rfl
theorem start_size {t : S} {i : Int} : (start t i).1.size = t.size := by unfold start; split <;> (try split) <;> rfl
theorem step_chl {t : S} {i n : Int} : (step t i n).1.ch.length = t.ch.length := by unfold step wiped; split <;> (try split) <;> (try split) <;> simp
theorem start_chl {t : S} {i : Int} : (start t i).1.ch.length = t.ch.length := by unfold start; split <;> (try split) <;> simp
end St
namespace Rc
/-- A chunk is made free. -/
def wipe (t : St.S) (i : Int) : St.S := (St.step (St.start t i).1 i t.size).1
theorem wipe_size (t : St.S) (i : Int) : (wipe t i).size = t.size := by unfold wipe; rw [St.step_size, St.start_size]
theorem wipe_chl (t : St.S) (i : Int) : (wipe t i).ch.length = t.ch.length := by unfold wipe; rw [St.step_chl, St.start_chl]
theorem start_eq {t : St.S} {k : Nat} (hk : k < t.ch.length) (hp : (t.c k).phase = 2) : St.start t k = ({ t with wi := t.wi.set k 0, ch := t.ch.set k ⟨3, 0, (t.c k).gen⟩, ev := St.up t.ev 2 }, 0) := by
  unfold St.start
  rw [if_neg (by unfold St.S.out; omega), if_neg (by omega), Int.toNat_natCast]
theorem start_ph {t : St.S} {k : Nat} (hk : k < t.ch.length) (hp : (t.c k).phase = 2) : ((St.start t k).1.c k).phase = 3 := by
  rw [start_eq hk hp]
  unfold St.S.c
  rw [Int.toNat_natCast, St.getD_set _ _ _ _ _ hk, if_pos rfl]
theorem start_w {t : St.S} {K : Nat} (hI : St.Inv t K) {k : Nat} (hk : k < t.ch.length) (hp : (t.c k).phase = 2) : (St.start t k).1.w k = 0 := by
  rw [start_eq hk hp]
  unfold St.S.w
  rw [Int.toNat_natCast, St.getD_set _ _ _ _ _ (by rw [hI.n2]; exact hk), if_pos rfl]
/-- What a wiping that is whole ends with. -/
theorem step_end {t : St.S} {k : Nat} (hk : k < t.ch.length) (hp : (t.c k).phase = 3) (n : Int) (hn : 1 ≤ n) (h : t.size - t.w k ≤ n) (hw : t.w k < t.size) : ∃ t', St.step t k n = (t', true, 0) ∧ t'.ch = t.ch.set k ⟨0, 0, (t.c k).gen + 1⟩ := by
  refine ⟨_, (St.step_go hk hn hp).trans (if_neg (by unfold St.portion; omega)), rfl⟩
theorem wipe_ch {t : St.S} {K : Nat} (hI : St.Inv t K) {k : Nat} (hk : k < t.ch.length) (hp : (t.c k).phase = 2) : (wipe t k).ch = t.ch.set k ⟨0, 0, (t.c k).gen + 1⟩ := by
  have hz := hI.sz
  have h1 := start_ph hk hp
  have h2 := start_w hI hk hp
  obtain ⟨t', e, hc⟩ := step_end (t := (St.start t k).1) (k := k) (by rw [St.start_chl]; exact hk) h1 t.size (by omega) (by rw [h2, St.start_size]; omega) (by rw [h2, St.start_size]; omega)
  unfold wipe
  rw [e, hc]
  rw [start_eq hk hp]
  dsimp only
  rw [List.set_set]
  congr 2
  unfold St.S.c
  rw [Int.toNat_natCast, St.getD_set _ _ _ _ _ hk, if_pos rfl]
theorem wipe_inv {t : St.S} {K : Nat} (hI : St.Inv t K) (i : Int) : St.Inv (wipe t i) (K + 2) := (hI.start i).step i t.size
/-- A reclaiming: the store, what waits, what is asked for, the levels, how many became free. -/
structure S where
  t : St.S
  q : Int
  low : Int
  line : List Int
  want : List Int
  lv : List Int
  fr : Int
/-- What waits in a line is deferred. -/
structure Wt (t : St.S) (l : List Int) : Prop where
  nd : l.Nodup
  ph : ∀ x ∈ l, ∃ k : Nat, x = k ∧ k < t.ch.length ∧ (t.c k).phase = 2
theorem Wt.len {t : St.S} {l : List Int} (h : Wt t l) : l.length ≤ t.ch.length := Stk.nodup_len _ _ h.nd (fun x hx => by obtain ⟨k, rfl, hk, _⟩ := h.ph x hx; omega)
theorem Wt.tail {t : St.S} {K : Nat} (hI : St.Inv t K) {i : Int} {l : List Int} (h : Wt t (i :: l)) : Wt (wipe t i) l := by
  have hn := List.nodup_cons.1 h.nd
  refine ⟨hn.2, fun x hx => ?_⟩
  obtain ⟨k, rfl, hk, hp⟩ := h.ph i List.mem_cons_self
  obtain ⟨j, rfl, hj, hq⟩ := h.ph x (List.mem_cons_of_mem _ hx)
  have hjk : j ≠ k := fun e => hn.1 (by rw [← e]; exact hx)
  refine ⟨j, rfl, by rw [wipe_chl]; exact hj, ?_⟩
  unfold St.S.c at hq ⊢
  rw [wipe_ch hI hk hp, Int.toNat_natCast, St.getD_set _ _ _ _ _ hk, if_neg hjk]
  rw [Int.toNat_natCast] at hq
  exact hq
/-- So many are taken and made free. -/
def drain : Nat → St.S → List Int → St.S × List Int × List Int
  | 0, t, l => (t, l, [])
  | _ + 1, t, [] => (t, [], [])
  | k + 1, t, i :: l => ((drain k (wipe t i) l).1, (drain k (wipe t i) l).2.1, i :: (drain k (wipe t i) l).2.2)
theorem drain_inv : ∀ (k : Nat) (t : St.S) (l : List Int) (K : Nat), St.Inv t K → Wt t l → St.Inv (drain k t l).1 (K + 2 * (l.take k).length) ∧ Wt (drain k t l).1 (l.drop k) ∧ (drain k t l).1.size = t.size ∧ (drain k t l).1.ch.length = t.ch.length
  | 0, t, l, K, hI, h => by simp [drain]; exact ⟨hI, h⟩
  | k + 1, t, [], K, hI, h => by simp [drain]; exact ⟨hI, h⟩
  | k + 1, t, i :: l, K, hI, h => by
    obtain ⟨a, b, c, d⟩ := drain_inv k (wipe t i) l (K + 2) (wipe_inv hI i) (h.tail hI)
    rw [wipe_size] at c
    rw [wipe_chl] at d
    exact ⟨by simp only [drain, List.take_succ_cons, List.length_cons]; exact a.mono (by omega), by simpa [drain] using b, c, d⟩
end Rc
end Go.Proofs.YtipkgamiejenaaaGreat

/- Blocks of bytes: arrays and slices of bytes as lists; slices of them, copy, clear, comparing, the text of them. -/
namespace Go.Proofs.YtipkgamiejenaaaGreat
open Go Go.RowKit Go.MapKept
set_option linter.unusedVariables false
set_option linter.unusedSimpArgs false
set_option maxRecDepth 100000
/-- A whole block of n bytes. -/
def byB (T : TypeId) (g n : Nat) (l : List UInt8) : HProp := fun f => l.length = n ∧ blk g (.cells (l.map u8v).toArray T (0, 0)) f
theorem byB.open {w : World} {T : TypeId} {g n : Nat} {l : List UInt8} {F : List HProp} (h : holds w (byB T g n l :: F)) : l.length = n ∧ holds w (blk g (.cells (l.map u8v).toArray T (0, 0)) :: F) := holds.open_pure h
theorem byB.shut {w : World} {T : TypeId} {g n : Nat} {l : List UInt8} {F : List HProp} (e : l.length = n) (h : holds w (blk g (.cells (l.map u8v).toArray T (0, 0)) :: F)) : holds w (byB T g n l :: F) := h.mono fun f hf => ⟨e, hf⟩
class SeesBy (F : List HProp) (g : Nat) (n : outParam Nat) (l : outParam (List UInt8)) : Prop where
  at_ : ∀ w, holds w F → l.length = n ∧ ∃ T, w.heap[g]? = some (.cells (l.map u8v).toArray T (0, 0))
instance SeesBy.here {T : TypeId} {g n : Nat} {l : List UInt8} {F : List HProp} : SeesBy (byB T g n l :: F) g n l := ⟨fun w h => ⟨(byB.open h).1, T, (byB.open h).2.get_blk⟩⟩
instance (priority := 500) SeesBy.there {g n : Nat} {l : List UInt8} {F : List HProp} {X : HProp} [h : SeesBy F g n l] : SeesBy (X :: F) g n l := ⟨fun w hw => h.at_ w hw.tail⟩
class HasBy (F : List HProp) (g : Nat) (T : outParam TypeId) (n : outParam Nat) (l : outParam (List UInt8)) (F' : outParam (List HProp)) : Prop where
  perm : F.Perm (byB T g n l :: F')
instance HasBy.here {T : TypeId} {g n : Nat} {l : List UInt8} {F : List HProp} : HasBy (byB T g n l :: F) g T n l F := ⟨.refl _⟩
instance (priority := 500) HasBy.there {T : TypeId} {g n : Nat} {l : List UInt8} {F F' : List HProp} {X : HProp} [h : HasBy F g T n l F'] : HasBy (X :: F) g T n l (X :: F') := ⟨(h.perm.cons X).trans (.swap _ _ _)⟩
theorem by_cell {w : World} {g : Nat} {T : TypeId} {l : List UInt8} (h : w.heap[g]? = some (.cells (l.map u8v).toArray T (0, 0))) (j : Nat) : w.cell? ⟨g, j, none⟩ = (l[j]?).map u8v := by
  rw [cell_of_row w g j _ T (0, 0) h]; simp
section
variable {P : Program} {n d : Nat} {Q : Exit → Act → World → Prop} {env : Env} {F F' : List HProp} {ops : Array Oper} {rest : List Oper} {ty : TypeId} {pos : String} {aft : Array Edge}
theorem GL.storeBy {t T : TypeId} {x y : Operand} {b m : Nat} {c : Array Value} {l : List UInt8} (hx : opnd env x = some (.pointer (some ⟨b, 0, none⟩))) (hy : opnd env y = some (.agg (l.map u8v).toArray)) [ht : AggT P t m] [hb : HasBlk F b c T F'] (hl : l.length = m) (ho : Nat.beq c.size m = true)
    (h : GL P n ops Q rest env (byB T b m l :: F')) : GL P n ops Q (⟨none, .store t x y, ty, pos, aft, none⟩ :: rest) env F := .mk fun a w hf hw => by
  have ho := Nat.eq_of_beq_eq_true ho
  refine wpList_store_sl rfl rfl t x y rfl (off := 0) (.agg (l.map u8v).toArray) (hf.eval hx) (hf.eval hy) ?_ ?_ (hw.perm hb.perm) ?_ fun w' hw' => h a w' hf (byB.shut hl ?_)
  · obtain ⟨i, ds, g1, g2, g3, g4⟩ := ht.ok
    simp [g1, g2, Value.cells, hl]
  · intro u hu
    simp only [Value.cells, List.mem_map] at hu
    obtain ⟨c, _, rfl⟩ := hu
    rfl
  · simp [Value.cells, hl, ho]
  · have e : c.toList.take 0 ++ (Value.agg (l.map u8v).toArray).cells.toList ++ c.toList.drop (0 + (Value.agg (l.map u8v).toArray).cells.size) = l.map u8v := by
      simp [Value.cells, hl, ho]
    rw [e] at hw'; exact hw'
theorem Runs.loadBy {t : TypeId} {x : Operand} {b m : Nat} {l : List UInt8} [ht : AggT P t m] (hx : opnd env x = some (.pointer (some ⟨b, 0, none⟩))) [hb : SeesBy F b m l] : Runs P n env F (.load t x) (.agg (l.map u8v).toArray) := .mk fun a w ty pos aft g d hf hw => by
  obtain ⟨hl, T, h⟩ := hb.at_ w hw
  have := run_loadAgg (P := P) (t := t) (b := b) (off := 0) (w := w) (vs := l.map u8v) (by simpa using hl) (fun j hj => by rw [Nat.zero_add, by_cell h]; simp)
  simp [execOp, hf.eval hx, Instr.loadAt, Instr.sureAddr, this, Result.andThen]
theorem Runs.sliceArr {t e : TypeId} {x : Operand} {lo up : Option Operand} {b m : Nat} {i j : Int} (k q : Nat) [ht : ArrT P t m e 1] (hx : opnd env x = some (.pointer (some ⟨b, 0, none⟩))) (hlo : bnd env lo 0 = some i) (hhi : bnd env up m = some j) (hi : i = (k : Nat)) (hj : j = (q : Nat)) (hkq : k ≤ q) (hqm : q ≤ m) (hkm : k < m) :
    Runs P n env F (.slice t x lo up none) (.slice (some ⟨b, k, none⟩) (q - k) (m - k)) := .mk fun ac w ty pos aft g d hf hw => by
  subst hi hj
  obtain ⟨ie, g1, g2, g3⟩ := ht.ok
  have hsl : ∀ (L H : Option Value), (L = none ∧ k = 0 ∨ L = some (.int .i64 k)) → (H = none ∧ q = m ∨ H = some (.int .i64 q)) → (Instr.sliceBounds false m m L H none).run P w = .ok (k, q, m) w := by
    rintro L H (⟨rfl, rfl⟩ | rfl) (⟨rfl, rfl⟩ | rfl) <;> simp [Instr.sliceBounds, Instr.sliceBound, asIntOf, hkq, hqm, Result.andThen]
  have hL : lo.map ac.eval = none ∧ k = 0 ∨ lo.map ac.eval = some (.int .i64 k) := by
    cases lo with
    | none => left; simp only [bnd, Option.some.injEq] at hlo; exact ⟨rfl, by omega⟩
    | some x => right; simp [hf.bound hlo]
  have hH : up.map ac.eval = none ∧ q = m ∨ up.map ac.eval = some (.int .i64 q) := by
    cases up with
    | none => left; simp only [bnd, Option.some.injEq] at hhi; exact ⟨rfl, by omega⟩
    | some x => right; simp [hf.bound hhi]
  have hm : ¬ m = k := by omega
  have := hsl _ _ hL hH
  simp [execOp, hf.eval hx, Instr.sliceAt, Instr.sureAddr, run_underlying g1, sizeOf, typeInfo, g2, g3, this, Result.andThen, hm, Addr.add]
  intro h; omega
theorem by_store {w : World} {T : TypeId} {g m k : Nat} {l s : List UInt8} {F : List HProp} (h : holds w (byB T g m l :: F)) (hk : k + s.length ≤ m) :
    ∃ w', (storeCells ⟨g, k, none⟩ (s.map u8v)).run P w = .ok () w' ∧ holds w' (byB T g m (By.splice l k s) :: F) := by
  obtain ⟨hl, hb⟩ := byB.open h
  have hst := run_storeCells_at P g k T (s.map u8v) 0 _ w hb.get_blk (by simp; omega) (fun v hv => by obtain ⟨c, _, rfl⟩ := List.mem_map.1 hv; rfl)
  have h5 := hb.turn (w' := w.setRow g ((l.map u8v).toArray.toList.take (k + 0) ++ s.map u8v ++ (l.map u8v).toArray.toList.drop (k + 0 + (s.map u8v).length)).toArray) ⟨rfl, rfl, rfl, by simp, fun k _ hk => setRow_other w g k _ (fun e => hk (by simp [e]))⟩ (setRow_heap w g _ _ T _ hb.get_blk)
  have e : (l.map u8v).toArray.toList.take (k + 0) ++ s.map u8v ++ (l.map u8v).toArray.toList.drop (k + 0 + (s.map u8v).length) = (By.splice l k s).map u8v := by
    simp [By.splice, List.map_take, List.map_drop]
  rw [e] at h5 hst
  exact ⟨_, hst, byB.shut (by rw [By.splice_len _ _ _ (by omega)]; exact hl) h5⟩
theorem GL.clearBy {t e : TypeId} {x : Operand} {g k m cp : Nat} {T : TypeId} {N bytes : Nat} {l : List UInt8} [ht : SliceT P t e 1] [hz : ZeroT P e (.int .u8 0) 1 bytes] (hx : opnd env x = some (.slice (some ⟨g, k, none⟩) m cp)) [hr : HasBy F g T N l F'] (hm : 0 < m) (hk : k + m ≤ N)
    (h : GL P n ops Q rest env (byB T g N (By.splice l k (List.replicate m 0)) :: F')) : GL P n ops Q (⟨none, .call { callee := .builtin .clear, args := #[x], argTypes := #[t] }, ty, pos, aft, none⟩ :: rest) env F := .mk fun a w hf hw => by
  obtain ⟨it, g1, g2, g3⟩ := ht.ok
  obtain ⟨iz, k1, k2, k3, k4, k5⟩ := hz.ok
  refine wpList_plain rfl fun K hK => ?_
  obtain ⟨w', h1, h2⟩ := by_store (P := P) (k := k) (s := List.replicate m 0) (hw.perm hr.perm) (by rw [List.length_replicate]; omega)
  have hzr : ∀ w, (zeroValue e).run P w = .ok (.int .u8 0) w := fun w => by simp [zeroValue, typeInfo, k1, k2, Result.andThen]
  obtain ⟨m', rfl⟩ : ∃ j, m = j + 1 := ⟨m - 1, by omega⟩
  have hzc : (Builtin.zeroCells (Value.int .u8 0).cells (m' + 1)).toList = (List.replicate (m' + 1) (0 : UInt8)).map u8v := by
    apply List.ext_getElem
    · simp [Builtin.zeroCells, Value.cells]
    · intro i h1 h2
      simp [Builtin.zeroCells, Value.cells]
      rw [Nat.mod_one]; rfl
  have hrun : (execOp a.eval ⟨none, .call { callee := .builtin .clear, args := #[x], argTypes := #[t] }, ty, pos, aft, none⟩).run P w = .ok (.value (.tuple #[])) w' := by
    have h1' : (storeCells ⟨g, k, none⟩ (List.replicate (m' + 1) (u8v 0))).run P w = .ok () w' := by rw [← List.map_replicate]; exact h1
    simp [execOp, resolve, invoke, builtin, hf.eval hx, Builtin.clear_, run_underlying g1, hzr, hzc, h1', Result.andThen]
  unfold Oper.wp
  rw [hrun]
  exact hK _ _ (h _ _ (hf.put0 _) h2)
/-- The text of a block of bytes. -/
theorem Runs.textBy {t u e : TypeId} {x : Operand} {g m : Nat} {l : List UInt8} [ht : SliceT P t e 1] [he : IntT P e .u8] [hu : StrT P u] (hx : opnd env x = some (.slice (some ⟨g, 0, none⟩) m m)) [hs : SeesBy F g m l] : Runs P n env F (.convert t u x) (.string (bs l)) := .mk fun a w ty pos aft gd d hf hw => by
  obtain ⟨it, g1, g2, g3⟩ := ht.ok
  obtain ⟨rfl, T, hb⟩ := hs.at_ w hw
  have := run_convert_bytes_back (P := P) w t u e ⟨g, 0, none⟩ l.length l g1 he.ok hu.ok (fun j hj => by
    rw [addr_add, by_cell hb, Nat.zero_add, List.getElem?_eq_getElem hj]; rfl)
  simp [execOp, hf.eval hx, this, Result.andThen]
  rfl
instance {l : List UInt8} : CellsA (l.map u8v).toArray (l.map fun c => CelV.i .u8 (c.toNat : Int)) := ⟨by unfold cellsC; rw [List.map_map]; rfl⟩
theorem by_keys : ∀ (z : List UInt8) (m : Nat), z.length = m → (z.map fun c => CelV.i .u8 (c.toNat : Int)).map CelV.k = (List.replicate m [CelK.i .u8]).flatten := fun z m hz => by
  subst hz
  induction z with
  | nil => rfl
  | cons a z ih => rw [List.length_cons, List.replicate_succ, List.flatten_cons, List.map_cons, List.map_cons, ih]; rfl
/-- `==` of arrays of bytes. -/
theorem Runs.eqlBy {t u : TypeId} {x y : Operand} {m : Nat} {l r : List UInt8} [ht : CellsT P t (List.replicate m [CelK.i .u8]).flatten] (hx : opnd env x = some (.agg (l.map u8v).toArray)) (hy : opnd env y = some (.agg (r.map u8v).toArray)) (hl : l.length = m) (hr : r.length = m) : Runs P n env F (.binOp .eql t x y u) (.bool (decide (l = r))) := by
  have h := Runs.eqlCells (P := P) (n := n) (env := env) (F := F) (t := t) (x := x) (y := y) (u := u) hx hy (by_keys l m hl) (by_keys r m hr)
  have e : decide ((l.map fun c => CelV.i .u8 (c.toNat : Int)) = (r.map fun c => CelV.i .u8 (c.toNat : Int))) = decide (l = r) := by
    rw [decide_eq_decide]
    constructor
    · intro he
      have hinj : Function.Injective (fun c : UInt8 => CelV.i .u8 (c.toNat : Int)) := fun a b h => by
        simp only [CelV.i.injEq, true_and] at h
        exact UInt8.toNat_inj.1 (by omega)
      exact (List.map_inj_right (fun a b h => hinj h)).1 he
    · rintro rfl; rfl
  rw [e] at h; exact h
end
end Go.Proofs.YtipkgamiejenaaaGreat

/- Package bytes: the walks. -/
namespace Go.Proofs.YtipkgamiejenaaaGreat
open Go Go.RowKit Go.MapKept
set_option linter.unusedVariables false
set_option linter.unusedSimpArgs false
set_option maxRecDepth 100000
set_option maxHeartbeats 2000000
def encRow (r : List UInt8) : Value := .agg (r.map u8v).toArray
instance : BuildT Tryz.prog 274 [] (By.zrow.map u8v) := ⟨fun ps r hr => by
  cases ps with
  | nil => simp only [fillL, Option.some.injEq] at hr; subst hr; kernel_rfl
  | cons p ps => simp [fillL] at hr⟩
instance : CellsT Tryz.prog 274 (List.replicate 64 [CelK.i .u8]).flatten := ⟨by kernel_rfl, by kernel_rfl, by kernel_rfl⟩
/-- The bytes tx. -/
def bytesP (b sz : Nat) (tx : List UInt8) : HProp := fun f => ∃ (m : Nat) (am : List (Int × List UInt8)), (tx.length = sz ∧ sz % 64 = 0 ∧ (1 ≤ sz ∧ sz ≤ 1048576) ∧ By.Rows am tx) ∧ sep [blk b (.cells #[.map (some m), .int .i64 (sz : Nat)] 219 (0, 0)), imap encRow m am] f
theorem bytesP.open {w : World} {b sz : Nat} {tx : List UInt8} {F : List HProp} (h : holds w (bytesP b sz tx :: F)) : ∃ (m : Nat) (am : List (Int × List UInt8)), (tx.length = sz ∧ sz % 64 = 0 ∧ (1 ≤ sz ∧ sz ≤ 1048576) ∧ By.Rows am tx) ∧ holds w (blk b (.cells #[.map (some m), .int .i64 (sz : Nat)] 219 (0, 0)) :: imap encRow m am :: F) := by
  obtain ⟨m, h⟩ := holds.open_ex h
  obtain ⟨am, h⟩ := holds.open_ex h
  obtain ⟨e, h⟩ := holds.open_pure h
  exact ⟨m, am, e, holds_sep.1 h⟩
theorem bytesP.shut {w : World} {b sz m : Nat} {tx : List UInt8} {am : List (Int × List UInt8)} {F : List HProp} (e : tx.length = sz ∧ sz % 64 = 0 ∧ (1 ≤ sz ∧ sz ≤ 1048576) ∧ By.Rows am tx) (h : holds w (blk b (.cells #[.map (some m), .int .i64 (sz : Nat)] 219 (0, 0)) :: imap encRow m am :: F)) : holds w (bytesP b sz tx :: F) :=
  (holds_sep (l := [blk b (.cells #[.map (some m), .int .i64 (sz : Nat)] 219 (0, 0)), imap encRow m am]).2 h).mono fun f hf => ⟨m, am, e, hf⟩
theorem bytes_New (sz : Nat) (h64 : sz % 64 = 0) (h0 : 1 ≤ sz) (h1 : sz ≤ 1048576) (w : World) (F : List HProp) (hw : holds w F) :
    Ct Tryz.prog 84 #[.int .i64 (sz : Nat)] w fun e w' => ∃ b : Nat, e = .returned (.pointer (some ⟨b, 0, none⟩)) ∧ holds w' (bytesP b sz (St.zeros sz) :: F) := by
  refine Ct.go (args := [.int .i64 (sz : Nat)]) Tryz.func84 rfl rfl rfl hw ?_
  repeat' (first | (first | (apply GL.isAny; refine GL.makeMap encRow rfl (fun m => ?_)) | (apply GL.isBox; refine GL.boxA (cs := #[.map (some m), .int .i64 (sz : Nat)]) rfl rfl (fun b => ?_))) | first | refine stp ?_ | (refine stpB ?_; intro _) | (refine spl ?_ ?_ <;> intro hc <;> ((try simp only [decide_eq_true_eq, decide_eq_false_iff_not, Bool.not_true, Bool.not_false, ne_eq, Classical.not_not, Int.not_lt, Int.not_le] at hc); (try (exfalso; first | omega | exact hc trivial | exact hc rfl)))))
  all_goals (first | (exfalso; omega) | (refine GE.resOne rfl (by (repeat (first | apply Res.nil | (apply Res.tmp; rfl) | (refine Res.cellA rfl rfl rfl ?_) | (refine Res.cell1 rfl rfl ?_)))) (fun w h => ?_); exact ⟨b, rfl, bytesP.shut (m := m) ⟨by simp [St.zeros], h64, ⟨h0, h1⟩, By.Rows.new sz h64⟩ h.sub⟩))
section
variable (b sz : Nat) (tx : List UInt8)
theorem bytes_Size (m : Nat) (w : World) (F : List HProp) [SeesBlk F b #[.map (some m), .int .i64 (sz : Nat)]] (hw : holds w F) :
    Ct Tryz.prog 188 #[.pointer (some ⟨b, 0, none⟩)] w fun e w' => e = .returned (.int .i64 (sz : Nat)) ∧ holds w' F := by
  refine Ct.go (args := [.pointer (some ⟨b, 0, none⟩)]) Tryz.func188 rfl rfl rfl hw ?_
  repeat' (first | refine stp ?_ | (refine stpB ?_; intro _) | (refine spl ?_ ?_ <;> intro hc <;> ((try simp only [decide_eq_true_eq, decide_eq_false_iff_not, Bool.not_true, Bool.not_false, ne_eq, Classical.not_not, Int.not_lt, Int.not_le] at hc); (try (exfalso; first | omega | exact hc trivial | exact hc rfl)))))
  refine GE.resOne rfl (by (repeat (first | apply Res.nil | (apply Res.tmp; rfl) | (refine Res.cellA rfl rfl rfl ?_) | (refine Res.cell1 rfl rfl ?_)))) (fun w h => ?_); exact ⟨rfl, h.sub⟩
theorem bytes_check (hsz : sz ≤ 1048576) (m : Nat) (k n : Int) (w : World) (F : List HProp) [SeesBlk F b #[.map (some m), .int .i64 (sz : Nat)]] (hw : holds w F) :
    Ct Tryz.prog 168 #[.pointer (some ⟨b, 0, none⟩), .int .i64 k, .int .i64 n] w fun e w' => e = .returned (.int .i64 (if k < 0 ∨ n < 0 ∨ (sz : Int) < k + n then 15 else 0)) ∧ holds w' F := by
  refine Ct.go (args := [.pointer (some ⟨b, 0, none⟩), .int .i64 k, .int .i64 n]) Tryz.func168 rfl rfl rfl hw ?_
  repeat' (first | refine stp ?_ | (refine stpB ?_; intro _) | (refine spl ?_ ?_ <;> intro hc <;> ((try simp only [decide_eq_true_eq, decide_eq_false_iff_not, Bool.not_true, Bool.not_false, ne_eq, Classical.not_not, Int.not_lt, Int.not_le] at hc); (try (exfalso; first | omega | exact hc trivial | exact hc rfl)))))
  all_goals (first | (exfalso; omega) | (refine GE.resOne rfl (by (repeat (first | apply Res.nil | (apply Res.tmp; rfl) | (refine Res.cellA rfl rfl rfl ?_) | (refine Res.cell1 rfl rfl ?_)))) (fun w h => ?_); exact ⟨by first | rw [if_pos (by omega)] | rw [if_neg (by omega)], h⟩))
end
end Go.Proofs.YtipkgamiejenaaaGreat

/- Functions of sync/atomic, which have no body: they load, store, add and swap. -/
namespace Go.Proofs.YtipkgamiejenaaaGreat
open Go Go.RowKit Go.MapKept
set_option linter.unusedVariables false
set_option linter.unusedSimpArgs false
section
variable {P : Program} {f : FuncId} {fn : Func}
class ExtLoad (P : Program) (f : FuncId) (k : outParam IntKind) : Prop where
  run : ∀ (a : Addr) (x : Int) (w : World), w.cell? a = some (.int k x) → (callFunc f #[.pointer (some a)]).run P w = .ok (.value (.int k x)) w
theorem ExtLoad.of (hf : P.funcs[f]? = some fn) (hname : (fn.name == "runtime.NumGoroutine") = false) (hb : fn.body.isNone = true) (hn : Extern.findNext fn = none) (k : IntKind) (he : Extern.find fn = some (Extern.Atomic.loadT (.int k))) : ExtLoad P f k := ⟨fun a x w hc => run_call_load hf hname hb hn k he hc⟩
class ExtStore (P : Program) (f : FuncId) : Prop where
  run : ∀ (a : Addr) (k : IntKind) (y : Int) (u : Value) (w : World), w.cell? a = some u → w.frozen? a = false → (callFunc f #[.pointer (some a), .int k y]).run P w = .ok (.value (.tuple #[])) (w.setCell a (.int k y))
theorem ExtStore.of (hf : P.funcs[f]? = some fn) (hname : (fn.name == "runtime.NumGoroutine") = false) (hb : fn.body.isNone = true) (hn : Extern.findNext fn = none) (he : Extern.find fn = some Extern.Atomic.storeT) : ExtStore P f := ⟨fun a k y u w hc hz => run_call_store hf hname hb hn he hc hz⟩
class ExtAdd (P : Program) (f : FuncId) (k : outParam IntKind) : Prop where
  run : ∀ (a : Addr) (x y : Int) (w : World), w.cell? a = some (.int k x) → w.frozen? a = false → (callFunc f #[.pointer (some a), .int k y]).run P w = .ok (.value (.int k (k.wrap (x + y)))) (w.setCell a (.int k (k.wrap (x + y))))
theorem ExtAdd.of (hf : P.funcs[f]? = some fn) (hname : (fn.name == "runtime.NumGoroutine") = false) (hb : fn.body.isNone = true) (hn : Extern.findNext fn = none) (k : IntKind) (he : Extern.find fn = some (Extern.Atomic.update (Op.intArith .add) k true)) : ExtAdd P f k := ⟨fun a x y w hc hz => run_call_add hf hname hb hn k he hc hz (by simp [Op.intArith])⟩
class ExtCas (P : Program) (f : FuncId) (k : outParam IntKind) : Prop where
  run : ∀ (a : Addr) (x y : Int) (w : World), w.cell? a = some (.int k x) → w.frozen? a = false → (callFunc f #[.pointer (some a), .int k x, .int k y]).run P w = .ok (.value (.bool true)) (w.setCell a (.int k y))
theorem ExtCas.of (hf : P.funcs[f]? = some fn) (hname : (fn.name == "runtime.NumGoroutine") = false) (hb : fn.body.isNone = true) (hn : Extern.findNext fn = none) (k : IntKind) (he : Extern.find fn = some (Extern.Atomic.casT (.int k))) : ExtCas P f k := ⟨fun a x y w hc hz => run_call_cas_hit hf hname hb hn k he hc hz⟩
end
theorem holds.notFrozen {w : World} {l : List HProp} {b o : Nat} {c : Array Value} {T : TypeId} (h : holds w (blk b (.cells c T (0, 0)) :: l)) : w.frozen? ⟨b, o, none⟩ = false := by
  simp [World.frozen?, h.get_blk]
theorem holds.cellAt {w : World} {l : List HProp} {b o : Nat} {c : Array Value} {T : TypeId} {u : Value} (h : holds w (blk b (.cells c T (0, 0)) :: l)) (hu : nthL c.toList o = some u) : w.cell? ⟨b, o, none⟩ = some u := (cell_of_row w b o c T (0, 0) h.get_blk).trans (nthL_arr hu)
theorem holds.setAt {w : World} {l : List HProp} {b o : Nat} {c : Array Value} {T : TypeId} {u : Value} (h : holds w (blk b (.cells c T (0, 0)) :: l)) : holds (w.setCell ⟨b, o, none⟩ u) (blk b (.cells (c.toList.set o u).toArray T (0, 0)) :: l) := by
  have h1 := h.setCell o u
  have : (c.toList.set o u).toArray = c.setIfInBounds o u := by apply Array.ext'; simp
  rw [this]; exact h1
section
variable {P : Program} {n d : Nat} {Q : Exit → Act → World → Prop} {env : Env} {F F' : List HProp} {ops : Array Oper} {rest : List Oper} {ty T : TypeId} {pos : String} {aft : Array Edge} {f : FuncId} {k : IntKind} {xs : List Operand} {b o : Nat} {c : Array Value} {i j : Int} {ts : Array TypeId} {u : Value}
theorem Fits.callRun {a : Act} {w w' : World} {vs : List Value} {r : Next} {d : Option Tmp} {g : Option (Nat × Bool)} (hf : Fits n a env) (hx : opnds env xs = some vs) (hr : (callFunc f vs.toArray).run P w = .ok r w') :
    (execOp a.eval ⟨d, .call { callee := .value (.func f), args := xs.toArray, argTypes := ts }, ty, pos, aft, g⟩).run P w = .ok r w' := by
  simp [execOp, resolve, Act.eval, Deferred.ofValue, invoke, hf.evals hx, Result.andThen]
  exact hr
theorem Runs.extLoad [he : ExtLoad P f k] [hb : SeesBlk F b c] (hx : opnds env xs = some [.pointer (some ⟨b, o, none⟩)]) (hu : nthL c.toList o = some (.int k i)) : Runs P n env F (.call { callee := .value (.func f), args := xs.toArray, argTypes := ts }) (.int k i) := .mk fun a w ty pos aft g d hf hw => by
  obtain ⟨T, fz, h⟩ := hb.at_ w hw
  have hc : w.cell? ⟨b, o, none⟩ = some (.int k i) := (cell_of_row w b o c T fz h).trans (nthL_arr hu)
  exact hf.callRun hx (he.run _ _ w hc)
/-- The end of a function without results. -/
theorem GE.res0 {fn : Func} {R : Ending → World → Prop} {e : Exit} (he : e = .normal ∨ e = .ret) (hr : fn.results = #[]) (hR : ∀ w, holds w F → R (.returned (.tuple #[])) w) : GE n e (bodyPost P fn R) env F := .mk fun a w hf hw => by
  have h1 : (results fn a.tmps).run P w = .ok (.tuple #[]) w := by simp [results, hr]
  rcases he with rfl | rfl <;> exact ⟨hf.defs, _, h1, hR w hw⟩
end
end Go.Proofs.YtipkgamiejenaaaGreat

/- Which types are strings. Printed by gentypes.py. -/
namespace Go.Proofs.YtipkgamiejenaaaGreat
open Go Go.RowKit
set_option maxRecDepth 100000
instance : StrT Tryz.prog 9 := ⟨by kernel_rfl⟩
end Go.Proofs.YtipkgamiejenaaaGreat
