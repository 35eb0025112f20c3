/- Words and texts of words: the walks. -/
import Derived.Test.YtoafajooffhimaaDoorDgR
namespace Go.Proofs.YtoafajooffhimaaDoor
open Go Go.RowKit Go.MapKept
set_option linter.unusedVariables false
set_option linter.unusedSimpArgs false
set_option maxRecDepth 100000
set_option maxHeartbeats 4000000
def encS (l : List UInt8) : List Value := [.string (bs l)]
instance : Enc encS 1 := ⟨fun _ => rfl, fun _ => by simp [encS, Value.oneCell'], by omega⟩
theorem holds.rowS {α : Type} {enc : α → List Value} {m : Nat} [he : Enc enc m] {w : World} {F : List HProp} {e : TypeId} {g k : Nat} (l : List α) (hk : l.length = k) (hl : k ≤ maxLen) (h : holds w (blk g (.cells (l.flatMap enc).toArray e (0, 0)) :: F)) : holds w (owns e enc m (.slice (some ⟨g, 0, none⟩) k k) l :: F) := by
  subst hk
  have h1 := h.mkRow (size := m) (n := l.length) (cap := l.length) (Nat.le_refl _) hl (by rw [List.size_toArray, Enc.flat_len])
  have h2 : (l.flatMap enc).toArray.toList.take (l.length * m) = l.flatMap enc := by
    exact List.take_of_length_le (by rw [Enc.flat_len]; exact Nat.le_refl _)
  rw [h2] at h1
  exact h1
theorem bs_back (x : ByteArray) : bs x.data.toList = x := by cases x; simp [bs]
theorem splitB_parts (s : List UInt8) : (Lib.splitB (bs [32]) 0 (Lib.countB (bs s) (bs [32])) (bs s)).map Value.string = (Dg.parts 32 s).flatMap encS ∧ (Dg.parts 32 s).length = Lib.countB (bs s) (bs [32]) + 1 := by
  have h1 := Lib.splitB_data (bs [32]) 0 (Lib.countB (bs s) (bs [32])) (bs s)
  have h2 := Lib.splitB_all (bs [32]) (by decide) 0 _ (bs s) rfl
  have h3 : Lib.splitK [32] 0 (Lib.countB (bs s) (bs [32])) s = Dg.parts 32 s := by
    rw [← Dg.split_parts]; unfold Lib.split Lib.countB; rw [bs_data, bs_data]
  rw [bs_data, bs_data, h3] at h1
  constructor
  · rw [← h1]
    generalize Lib.splitB _ _ _ _ = L
    induction L with
    | nil => rfl
    | cons x L ih => rw [List.map_cons, List.map_cons, List.flatMap_cons, ← ih]; unfold encS; rw [bs_back]; rfl
  · rw [← h1, List.length_map, h2]
namespace Dg
theorem join_snoc (sep x : List UInt8) : ∀ l, Lib.join (l ++ [x]) sep = (if l = [] then [] else Lib.join l sep ++ sep) ++ x
  | [] => by simp [Lib.join_one]
  | [y] => by rw [if_neg (by simp), Lib.join_one]; show Lib.join [y, x] sep = _; rw [join_cons2, Lib.join_one]
  | y :: z :: r => by
    have ih := join_snoc sep x (z :: r)
    rw [if_neg (by simp)] at ih ⊢
    rw [List.cons_append, List.cons_append, join_cons2, join_cons2]
    rw [List.cons_append] at ih
    rw [ih]; simp
theorem join_take (sep : List UInt8) (l : List (List UInt8)) (k : Nat) : (Lib.join (l.take k) sep).length ≤ (Lib.join l sep).length := by
  induction l generalizing k with
  | nil => simp
  | cons x l ih =>
    cases k with
    | zero => simp [Lib.join_nil]
    | succ k =>
      rw [List.take_succ_cons, Lib.join_cons, Lib.join_cons, List.length_append, List.length_append]
      have : (Lib.joinTail sep (l.take k)).length ≤ (Lib.joinTail sep l).length := by
        unfold Lib.joinTail
        conv => rhs; rw [← List.take_append_drop k l]
        rw [List.map_append, List.flatten_append, List.length_append]; omega
      omega
theorem parts_len (d : UInt8) : ∀ s, (parts d s).length ≤ s.length + 1
  | [] => by simp [parts]
  | c :: l => by
    have ih := parts_len d l
    unfold parts
    split
    · simp; omega
    · split
      · rename_i h; rw [h] at ih; simp at ih ⊢; omega
      · simp
end Dg
section
variable {W : World}
theorem split_ct (hL : LibW W) (s : List UInt8) (hs : s.length ≤ 1048576) (w : World) (F : List HProp) {F' : List HProp} [hp : Has F (allOf W) F'] (hw : holds w F) :
    Ct Tryd.prog 25 #[.string (bs s), .string (bs [32])] w fun e w' => ∃ v : Value, e = .returned v ∧ holds w' (owns 9 encS 1 v (Dg.parts 32 s) :: F) := by
  obtain ⟨m, hm⟩ := (hL.at hw).mx
  obtain ⟨h1, h2⟩ := splitB_parts s
  have hl := Dg.parts_len 32 s
  exact ⟨(Any.strings_Split { Tryd.lays146 with } Tryd.lays146.i9 (bs s) (bs [32]) m w (by rw [bs_size]; omega) hm (by decide)).mono fun e w' ⟨he, hk⟩ => ⟨_, he, by
    subst hk
    rw [h1]
    exact holds.rowS (Dg.parts 32 s) h2 (by unfold maxLen; omega) (hw.alloc _)⟩⟩
theorem digits_Words (hL : LibW W) (s : List UInt8) (hs : s.length ≤ 1048576) (w : World) (F : List HProp) {F' : List HProp} [hp : Has F (allOf W) F'] (hw : holds w F) :
    Ct Tryd.prog 8 #[.string (bs s)] w fun e w' => ∃ v : Value, e = .returned (.tuple #[v, .bool (Dg.words s).isSome]) ∧ holds w' (owns 9 encS 1 v ((Dg.words s).getD []) :: F) := by
  refine Ct.go (args := [.string (bs s)]) Tryd.func8 rfl rfl rfl hw ?_
  by_cases h0 : s = []
  · subst h0
    repeat' (first | (first | (apply GL.isAny; refine GL.run (by first | exact Runs.strEq rfl rfl | exact Runs.strNe rfl rfl | exact Runs.strLen rfl | exact Runs.strAt (k := 0) rfl rfl rfl (by omega) | exact Runs.strAt rfl rfl rfl (by omega) | exact Runs.neqIfaceNil rfl | exact Runs.neqNilNil rfl) rfl ?_) | (apply GD.isAny; refine GD.run (by first | exact Runs.strNe rfl rfl | exact Runs.strEq rfl rfl) rfl ?_)) | first | refine stp ?_ | (refine stpB ?_; intro _) | (refine spl ?_ ?_ <;> intro hc <;> ((try simp only [decide_eq_true_eq, decide_eq_false_iff_not, Bool.not_true, Bool.not_false, ne_eq, Classical.not_not, Int.not_lt, Int.not_le] at hc); (try (exfalso; first | omega | exact hc trivial | exact hc rfl)))))
    all_goals (first | (exact absurd rfl (by assumption)) | (refine GE.resMany rfl (by (repeat (first | apply Res.nil | (apply Res.tmp; rfl) | (refine Res.cellA rfl rfl rfl ?_) | (refine Res.cell1 rfl rfl ?_)))) (fun w h => ?_); exact ⟨_, rfl, (h.sub : holds _ F).nilOwn 9 encS 1⟩))
  · repeat' (first | (first | first | (apply GL.isAny; refine GL.run (by first | exact Runs.strEq rfl rfl | exact Runs.strNe rfl rfl | exact Runs.strLen rfl | exact Runs.strAt (k := 0) rfl rfl rfl (by omega) | exact Runs.strAt rfl rfl rfl (by omega) | exact Runs.neqIfaceNil rfl | exact Runs.neqNilNil rfl) rfl ?_) | (apply GD.isAny; refine GD.run (by first | exact Runs.strNe rfl rfl | exact Runs.strEq rfl rfl) rfl ?_) | (apply GL.isCall; refine GL.call rfl rfl (fun w h => split_ct hL s hs w _ h) (fun x => ?_))) | first | refine stp ?_ | (refine stpB ?_; intro _) | (refine spl ?_ ?_ <;> intro hc <;> ((try simp only [decide_eq_true_eq, decide_eq_false_iff_not, Bool.not_true, Bool.not_false, ne_eq, Classical.not_not, Int.not_lt, Int.not_le] at hc); (try (exfalso; first | omega | exact hc trivial | exact hc rfl)))))
    all_goals (first | (exact absurd (by assumption) h0) | skip)
    have hl := Dg.parts_len 32 s
    refine G.loopK [0, 4, 11, 12] (Nat) (fun k => [(13, .int .i64 k)]) (fun k => owns 9 encS 1 x (Dg.parts 32 s) :: F) (fun k => k ≤ (Dg.parts 32 s).length ∧ ∀ i (hi : i < (Dg.parts 32 s).length), i < k → Dg.word (Dg.parts 32 s)[i] = true) (fun k => (Dg.parts 32 s).length - k) (0) (⟨by omega, fun i _ h => absurd h (Nat.not_lt_zero i)⟩) (by repeat (first | exact trivial | refine And.intro rfl ?_)) (fun w h => by (try dsimp only); first | exact h | exact h.sub | ((try simp only [List.take_zero, List.drop_zero, List.map_nil, List.nil_append, List.zipIdx_nil, List.filter_nil]); exact h.sub)) ?_
    rintro k ⟨hk, hI⟩
    by_cases hlt : k < (Dg.parts 32 s).length
    · repeat' (first | (first | first | (apply GL.isAny; refine GL.run (by first | exact Runs.strEq rfl rfl | exact Runs.strNe rfl rfl | exact Runs.strLen rfl | exact Runs.strAt (k := 0) rfl rfl rfl (by omega) | exact Runs.strAt rfl rfl rfl (by omega) | exact Runs.neqIfaceNil rfl | exact Runs.neqNilNil rfl) rfl ?_) | (apply GD.isAny; refine GD.run (by first | exact Runs.strNe rfl rfl | exact Runs.strEq rfl rfl) rfl ?_) | (apply GL.isCall; refine GL.call1 rfl rfl (fun w h => digits_Word (Dg.parts 32 s)[k] w _ h) ?_)) | first | refine stp ?_ | (refine stpB ?_; intro _) | (refine spl ?_ ?_ <;> intro hc <;> ((try simp only [decide_eq_true_eq, decide_eq_false_iff_not, Bool.not_true, Bool.not_false, ne_eq, Classical.not_not, Int.not_lt, Int.not_le] at hc); (try (exfalso; first | omega | exact hc trivial | exact hc rfl)))))
      · have hf : Dg.words s = none := by
          unfold Dg.words
          rw [if_neg h0, if_neg]
          intro h1
          rw [List.all_eq_true] at h1
          rw [h1 _ (List.getElem_mem hlt)] at hc
          cases hc
        rw [hf]
        refine GE.resMany rfl (by (repeat (first | apply Res.nil | (apply Res.tmp; rfl) | (refine Res.cellA rfl rfl rfl ?_) | (refine Res.cell1 rfl rfl ?_)))) (fun w h => ?_)
        exact ⟨_, rfl, (h.sub : holds _ F).nilOwn 9 encS 1⟩
      · have hw1 : Dg.word (Dg.parts 32 s)[k] = true := by simpa using hc
        refine GE.round (k + 1) (⟨by omega, fun i hi h => by rcases Nat.lt_or_ge i k with h1 | h1 ; (exact hI i hi h1) ; (obtain rfl : i = k := by omega) ; exact hw1⟩) (by repeat (first | exact trivial | refine And.intro rfl ?_)) (fun w h => by (try dsimp only); exact h.sub) (by (try dsimp only); omega)
    · have ha : (Dg.parts 32 s).all Dg.word = true := by
        rw [List.all_eq_true]
        intro x hx
        obtain ⟨i, hi, rfl⟩ := List.getElem_of_mem hx
        exact hI i hi (by omega)
      have hwd : Dg.words s = some (Dg.parts 32 s) := by unfold Dg.words; rw [if_neg h0, if_pos ha]
      rw [hwd]
      repeat' (first | (first | (apply GL.isAny; refine GL.run (by first | exact Runs.strEq rfl rfl | exact Runs.strNe rfl rfl | exact Runs.strLen rfl | exact Runs.strAt (k := 0) rfl rfl rfl (by omega) | exact Runs.strAt rfl rfl rfl (by omega) | exact Runs.neqIfaceNil rfl | exact Runs.neqNilNil rfl) rfl ?_) | (apply GD.isAny; refine GD.run (by first | exact Runs.strNe rfl rfl | exact Runs.strEq rfl rfl) rfl ?_)) | first | refine stp ?_ | (refine stpB ?_; intro _) | (refine spl ?_ ?_ <;> intro hc <;> ((try simp only [decide_eq_true_eq, decide_eq_false_iff_not, Bool.not_true, Bool.not_false, ne_eq, Classical.not_not, Int.not_lt, Int.not_le] at hc); (try (exfalso; first | omega | exact hc trivial | exact hc rfl)))))
      refine GE.resMany rfl (by (repeat (first | apply Res.nil | (apply Res.tmp; rfl) | (refine Res.cellA rfl rfl rfl ?_) | (refine Res.cell1 rfl rfl ?_)))) (fun w h => ?_)
      exact ⟨_, rfl, (h.sub : holds _ (owns 9 encS 1 x (Dg.parts 32 s) :: F))⟩
theorem join_ct (l : List (List UInt8)) (v : Value) (hl : (Lib.join l [32]).length ≤ 1048576) (hn : l.length ≤ 1048576) (w : World) (F : List HProp) [hr : Reads F v encS 1 l] (hw : holds w F) :
    Ct Tryd.prog 27 #[v, .string (bs [32])] w fun e w' => e = .returned (.string (bs (Lib.join l [32]))) ∧ holds w' F := by
  have h0 := hr.at_ w hw
  obtain ⟨a, cap, hv, hc⟩ := h0.form
  have e1 : (l.map bs).map (·.data.toList) = l := by rw [List.map_map]; conv => rhs; rw [← List.map_id l]
                                                     apply List.map_congr_left; intro x _; exact bs_data x
  cases l with
  | nil =>
    subst hv
    exact ⟨(Any.strings_Join_none Tryd.lays156 Tryd.Builder_Extra_156 a cap (bs [32]) w).mono fun e w' ⟨he, hk⟩ => ⟨he, hk ▸ hw⟩⟩
  | cons x r =>
    obtain ⟨_, a2, cap2, hv2, _, hz⟩ := id h0
    rcases hz with hz | ⟨b, off, rfl, hz⟩
    · simp at hz
    · rw [hv] at hv2; cases hv2
      have hcell : ∀ (j : Nat) y, ((x :: r).map bs)[j]? = some y → w.cell? ⟨b, off + j, none⟩ = some (.string y) := fun j y hj => by
        rw [List.getElem?_map] at hj
        obtain ⟨z, hz1, rfl⟩ := Option.map_eq_some_iff.1 hj
        obtain ⟨hjl, hz2⟩ := List.getElem?_eq_some_iff.1 hz1
        have := h0.cellAt (i := j) hjl (f := 0) (u := .string (bs (x :: r)[j])) rfl
        rw [hv] at this
        simp only [rowB, rowO, Nat.mul_one, Nat.add_zero] at this
        rw [this, hz2]
      have hlt : b < w.heap.size := Lib.lt_of_cell (hcell 0 (bs x) rfl)
      subst hv
      have C := Any.strings_Join Tryd.lays156 Tryd.Builder_Extra_156 b off cap ((x :: r).map bs) (bs [32]) w hcell hlt (by rw [List.length_map]; omega) (by rw [List.length_map]; exact hc) (by rw [e1, bs_data]; omega)
      rw [List.length_map, e1, bs_data] at C
      exact ⟨C.mono fun e w' ⟨he, hb⟩ => ⟨he, hw.below hb⟩⟩
theorem digits_Join (l : List (List UInt8)) (v : Value) (hl : (Lib.join l [32]).length ≤ 1048576) (hn : l.length ≤ 1048576) (w : World) (F : List HProp) [hr : Reads F v encS 1 l] (hw : holds w F) :
    Ct Tryd.prog 13 #[v] w fun e w' => e = .returned (.string (bs (Lib.join l [32]))) ∧ holds w' F := by
  refine Ct.go (args := [v]) Tryd.func13 rfl rfl rfl hw ?_
  repeat' (first | ((apply GL.isCall; refine GL.call1 rfl rfl (fun w h => join_ct l v hl hn w _ h) ?_)) | first | refine stp ?_ | (refine stpB ?_; intro _) | (refine spl ?_ ?_ <;> intro hc <;> ((try simp only [decide_eq_true_eq, decide_eq_false_iff_not, Bool.not_true, Bool.not_false, ne_eq, Classical.not_not, Int.not_lt, Int.not_le] at hc); (try (exfalso; first | omega | exact hc trivial | exact hc rfl)))))
  refine GE.resOne rfl (by (repeat (first | apply Res.nil | (apply Res.tmp; rfl) | (refine Res.cellA rfl rfl rfl ?_) | (refine Res.cell1 rfl rfl ?_)))) (fun w h => ?_); exact ⟨rfl, h.sub⟩
theorem base_SameTexts (v u : Value) (l m : List (List UInt8)) (hn : l.length ≤ 1048576) (hm : m.length ≤ 1048576) (w : World) (F : List HProp) [Reads F v encS 1 l] [Reads F u encS 1 m] (hw : holds w F) :
    Ct Tryd.prog 12 #[v, u] w fun e w' => e = .returned (.bool (decide (l = m))) ∧ holds w' F := by
  refine Ct.go (args := [v, u]) Tryd.func12 rfl rfl rfl hw ?_
  repeat' (first | refine stp ?_ | (refine stpB ?_; intro _) | (refine spl ?_ ?_ <;> intro hc <;> ((try simp only [decide_eq_true_eq, decide_eq_false_iff_not, Bool.not_true, Bool.not_false, ne_eq, Classical.not_not, Int.not_lt, Int.not_le] at hc); (try (exfalso; first | omega | exact hc trivial | exact hc rfl)))))
  · refine GE.resOne rfl (by (repeat (first | apply Res.nil | (apply Res.tmp; rfl) | (refine Res.cellA rfl rfl rfl ?_) | (refine Res.cell1 rfl rfl ?_)))) (fun w h => ?_)
    rw [decide_eq_false (fun e => by subst e; omega)]
    exact ⟨rfl, h.sub⟩
  refine G.loopK [0, 1] (Nat) (fun i => [(5, .int .i64 i)]) (fun i => F) (fun i => i ≤ l.length ∧ l.take i = m.take i) (fun i => l.length - i) (0) (⟨by omega, by simp⟩) (by repeat (first | exact trivial | refine And.intro rfl ?_)) (fun w h => by (try dsimp only); first | exact h | exact h.sub | ((try simp only [List.take_zero, List.drop_zero, List.map_nil, List.nil_append, List.zipIdx_nil, List.filter_nil]); exact h.sub)) ?_
  rintro i ⟨hi, hlo⟩
  repeat' (first | (first | (apply GL.isAny; refine GL.run (by first | exact Runs.strEq rfl rfl | exact Runs.strNe rfl rfl | exact Runs.strLen rfl | exact Runs.strAt (k := 0) rfl rfl rfl (by omega) | exact Runs.strAt rfl rfl rfl (by omega) | exact Runs.neqIfaceNil rfl | exact Runs.neqNilNil rfl) rfl ?_) | (apply GD.isAny; refine GD.run (by first | exact Runs.strNe rfl rfl | exact Runs.strEq rfl rfl) rfl ?_)) | first | refine stp ?_ | (refine stpB ?_; intro _) | (refine spl ?_ ?_ <;> intro hc <;> ((try simp only [decide_eq_true_eq, decide_eq_false_iff_not, Bool.not_true, Bool.not_false, ne_eq, Classical.not_not, Int.not_lt, Int.not_le] at hc); (try (exfalso; first | omega | exact hc trivial | exact hc rfl)))))
  · refine GE.resOne rfl (by (repeat (first | apply Res.nil | (apply Res.tmp; rfl) | (refine Res.cellA rfl rfl rfl ?_) | (refine Res.cell1 rfl rfl ?_)))) (fun w h => ?_)
    rename_i hc1 _ _ _ _
    rw [decide_eq_false (fun e => by subst e; exact hc rfl)]
    exact ⟨rfl, h.sub⟩
  · refine GE.round (i + 1) (⟨by omega, by rw [List.take_succ_eq_append_getElem (by omega), List.take_succ_eq_append_getElem (by omega), hlo, hc]⟩) (by repeat (first | exact trivial | refine And.intro rfl ?_)) (fun w h => by (try dsimp only); exact h.sub) (by (try dsimp only); omega)
  · refine GE.resOne rfl (by (repeat (first | apply Res.nil | (apply Res.tmp; rfl) | (refine Res.cellA rfl rfl rfl ?_) | (refine Res.cell1 rfl rfl ?_)))) (fun w h => ?_)
    rw [List.take_of_length_le (by omega), List.take_of_length_le (by omega)] at hlo
    rw [decide_eq_true hlo]
    exact ⟨rfl, h.sub⟩
theorem ref11_Join (l : List (List UInt8)) (v : Value) (hl : (Lib.join l [32]).length ≤ 1048576) (hn : l.length ≤ 1048576) (w : World) (F : List HProp) [hr : Reads F v encS 1 l] (hw : holds w F) :
    Ct Tryd.prog 14 #[v] w fun e w' => e = .returned (.string (bs (Lib.join l [32]))) ∧ holds w' F := by
  refine Ct.go (args := [v]) Tryd.func14 rfl rfl rfl hw ?_
  repeat' (first | refine stp ?_ | (refine stpB ?_; intro _) | (refine spl ?_ ?_ <;> intro hc <;> ((try simp only [decide_eq_true_eq, decide_eq_false_iff_not, Bool.not_true, Bool.not_false, ne_eq, Classical.not_not, Int.not_lt, Int.not_le] at hc); (try (exfalso; first | omega | exact hc trivial | exact hc rfl)))))
  refine G.loopK [0] (Nat × List UInt8) (fun x => [(4, .int .i64 x.1), (3, .string (bs x.2))]) (fun x => F) (fun x => x.1 ≤ l.length ∧ x.2 = Lib.join (l.take x.1) [32]) (fun x => l.length - x.1) ((0, [])) (⟨Nat.zero_le _, rfl⟩) (by repeat (first | exact trivial | refine And.intro rfl ?_)) (fun w h => by (try dsimp only); first | exact h | exact h.sub | ((try simp only [List.take_zero, List.drop_zero, List.map_nil, List.nil_append, List.zipIdx_nil, List.filter_nil]); exact h.sub)) ?_
  rintro ⟨k, t⟩ ⟨hk, he⟩
  dsimp only at hk he ⊢
  by_cases hlt : k < l.length
  · have hk1 := Dg.join_take [32] l (k + 1)
    have ht : l.take (k + 1) = l.take k ++ [l[k]] := List.take_succ_eq_append_getElem hlt
    have hj := Dg.join_snoc [32] l[k] (l.take k)
    rw [← ht] at hj
    rw [hj] at hk1
    have e1 : (l.take k = []) ↔ k = 0 := by rw [List.take_eq_nil_iff]; constructor <;> intro h <;> (first | (rcases h with h | h ; exact h ; subst h; simp at hlt) | exact .inl h)
    rw [← he] at hj hk1
    by_cases h0 : k = 0
    · have ht0 : t = [] := by rw [he, e1.2 h0]; rfl
      rw [if_pos (e1.2 h0)] at hk1 hj
      subst ht0
      simp only [List.length_append, List.length_nil] at hk1
      repeat' (first | (first | first | (apply GL.isAny; refine GL.run (by first | exact Runs.strEq rfl rfl | exact Runs.strNe rfl rfl | exact Runs.strLen rfl | exact Runs.strAt (k := 0) rfl rfl rfl (by omega) | exact Runs.strAt rfl rfl rfl (by omega) | exact Runs.neqIfaceNil rfl | exact Runs.neqNilNil rfl) rfl ?_) | (apply GD.isAny; refine GD.run (by first | exact Runs.strNe rfl rfl | exact Runs.strEq rfl rfl) rfl ?_) | (apply GL.isAny; refine GL.run (Runs.strAdd (l := []) (m := l[k]) rfl rfl (by simp only [List.length_nil]; omega)) rfl ?_)) | first | refine stp ?_ | (refine stpB ?_; intro _) | (refine spl ?_ ?_ <;> intro hc <;> ((try simp only [decide_eq_true_eq, decide_eq_false_iff_not, Bool.not_true, Bool.not_false, ne_eq, Classical.not_not, Int.not_lt, Int.not_le] at hc); (try (exfalso; first | omega | exact hc trivial | exact hc rfl)))))
      refine GE.round ((k + 1, [] ++ l[k])) (⟨by dsimp only; omega, hj.symm⟩) (by repeat (first | exact trivial | refine And.intro rfl ?_)) (fun w h => by (try dsimp only); exact h.sub) (by (try dsimp only); omega)
    · rw [if_neg (fun h => h0 (e1.1 h))] at hk1 hj
      simp only [List.length_append, List.length_cons, List.length_nil] at hk1
      repeat' (first | (first | first | (apply GL.isAny; refine GL.run (by first | exact Runs.strEq rfl rfl | exact Runs.strNe rfl rfl | exact Runs.strLen rfl | exact Runs.strAt (k := 0) rfl rfl rfl (by omega) | exact Runs.strAt rfl rfl rfl (by omega) | exact Runs.neqIfaceNil rfl | exact Runs.neqNilNil rfl) rfl ?_) | (apply GD.isAny; refine GD.run (by first | exact Runs.strNe rfl rfl | exact Runs.strEq rfl rfl) rfl ?_) | (apply GL.isAny; refine GL.run (Runs.strAdd (l := t) (m := [32]) rfl rfl (by simp only [List.length_cons, List.length_nil]; omega)) rfl ?_) | (apply GL.isAny; refine GL.run (Runs.strAdd (l := t ++ [32]) (m := l[k]) rfl rfl (by simp only [List.length_append, List.length_cons, List.length_nil]; omega)) rfl ?_)) | first | refine stp ?_ | (refine stpB ?_; intro _) | (refine spl ?_ ?_ <;> intro hc <;> ((try simp only [decide_eq_true_eq, decide_eq_false_iff_not, Bool.not_true, Bool.not_false, ne_eq, Classical.not_not, Int.not_lt, Int.not_le] at hc); (try (exfalso; first | omega | exact hc trivial | exact hc rfl)))))
      refine GE.round ((k + 1, t ++ [32] ++ l[k])) (⟨by dsimp only; omega, hj.symm⟩) (by repeat (first | exact trivial | refine And.intro rfl ?_)) (fun w h => by (try dsimp only); exact h.sub) (by (try dsimp only); omega)
  · repeat' (first | (first | (apply GL.isAny; refine GL.run (by first | exact Runs.strEq rfl rfl | exact Runs.strNe rfl rfl | exact Runs.strLen rfl | exact Runs.strAt (k := 0) rfl rfl rfl (by omega) | exact Runs.strAt rfl rfl rfl (by omega) | exact Runs.neqIfaceNil rfl | exact Runs.neqNilNil rfl) rfl ?_) | (apply GD.isAny; refine GD.run (by first | exact Runs.strNe rfl rfl | exact Runs.strEq rfl rfl) rfl ?_)) | first | refine stp ?_ | (refine stpB ?_; intro _) | (refine spl ?_ ?_ <;> intro hc <;> ((try simp only [decide_eq_true_eq, decide_eq_false_iff_not, Bool.not_true, Bool.not_false, ne_eq, Classical.not_not, Int.not_lt, Int.not_le] at hc); (try (exfalso; first | omega | exact hc trivial | exact hc rfl)))))
    refine GE.resOne rfl (by (repeat (first | apply Res.nil | (apply Res.tmp; rfl) | (refine Res.cellA rfl rfl rfl ?_) | (refine Res.cell1 rfl rfl ?_)))) (fun w h => ?_)
    rw [he, List.take_of_length_le (by omega)]
    exact ⟨rfl, h.sub⟩
theorem ref11_Word (s : List UInt8) (hs : s.length ≤ 9223372036854775806) (w : World) (F : List HProp) (hw : holds w F) :
    Ct Tryd.prog 11 #[.string (bs s)] w fun e w' => e = .returned (.bool (Dg.word s)) ∧ holds w' F := by
  refine Ct.go (args := [.string (bs s)]) Tryd.func11 rfl rfl rfl hw ?_
  repeat' (first | refine stp ?_ | (refine stpB ?_; intro _) | (refine spl ?_ ?_ <;> intro hc <;> ((try simp only [decide_eq_true_eq, decide_eq_false_iff_not, Bool.not_true, Bool.not_false, ne_eq, Classical.not_not, Int.not_lt, Int.not_le] at hc); (try (exfalso; first | omega | exact hc trivial | exact hc rfl)))))
  refine G.loopK [0] (Nat) (fun i => [(3, .int .i64 i)]) (fun i => F) (fun k => k ≤ s.length ∧ ∀ i (hi : i < s.length), i < k → Dg.isW s[i] = true) (fun i => s.length - i) (0) (⟨by omega, fun i _ h => absurd h (Nat.not_lt_zero i)⟩) (by repeat (first | exact trivial | refine And.intro rfl ?_)) (fun w h => by (try dsimp only); first | exact h | exact h.sub | ((try simp only [List.take_zero, List.drop_zero, List.map_nil, List.nil_append, List.zipIdx_nil, List.filter_nil]); exact h.sub)) ?_
  rintro k ⟨hk, hI⟩
  by_cases hlt : k < s.length
  · repeat' (first | (first | (apply GL.isAny; refine GL.run (by first | exact Runs.strEq rfl rfl | exact Runs.strNe rfl rfl | exact Runs.strLen rfl | exact Runs.strAt (k := 0) rfl rfl rfl (by omega) | exact Runs.strAt rfl rfl rfl (by omega) | exact Runs.neqIfaceNil rfl | exact Runs.neqNilNil rfl) rfl ?_) | (apply GD.isAny; refine GD.run (by first | exact Runs.strNe rfl rfl | exact Runs.strEq rfl rfl) rfl ?_)) | first | refine stp ?_ | (refine stpB ?_; intro _) | (refine spl ?_ ?_ <;> intro hc <;> ((try simp only [decide_eq_true_eq, decide_eq_false_iff_not, Bool.not_true, Bool.not_false, ne_eq, Classical.not_not, Int.not_lt, Int.not_le] at hc); (try (exfalso; first | omega | exact hc trivial | exact hc rfl)))))
    all_goals first
      | (refine GE.resOne rfl (by (repeat (first | apply Res.nil | (apply Res.tmp; rfl) | (refine Res.cellA rfl rfl rfl ?_) | (refine Res.cell1 rfl rfl ?_)))) (fun w h => ?_); refine ⟨?_, h.sub⟩; rw [Dg.word_no hlt (by unfold Dg.isW; simp; omega)])
      | (have hw : Dg.isW s[k] = true := by unfold Dg.isW; simp; omega
         refine GE.round (k + 1) (⟨by omega, fun i hi h => by rcases Nat.lt_or_ge i k with h1 | h1 ; (exact hI i hi h1) ; (obtain rfl : i = k := by omega) ; exact hw⟩) (by repeat (first | exact trivial | refine And.intro rfl ?_)) (fun w h => by (try dsimp only); exact h.sub) (by (try dsimp only); omega))
  · repeat' (first | (first | (apply GL.isAny; refine GL.run (by first | exact Runs.strEq rfl rfl | exact Runs.strNe rfl rfl | exact Runs.strLen rfl | exact Runs.strAt (k := 0) rfl rfl rfl (by omega) | exact Runs.strAt rfl rfl rfl (by omega) | exact Runs.neqIfaceNil rfl | exact Runs.neqNilNil rfl) rfl ?_) | (apply GD.isAny; refine GD.run (by first | exact Runs.strNe rfl rfl | exact Runs.strEq rfl rfl) rfl ?_)) | first | refine stp ?_ | (refine stpB ?_; intro _) | (refine spl ?_ ?_ <;> intro hc <;> ((try simp only [decide_eq_true_eq, decide_eq_false_iff_not, Bool.not_true, Bool.not_false, ne_eq, Classical.not_not, Int.not_lt, Int.not_le] at hc); (try (exfalso; first | omega | exact hc trivial | exact hc rfl)))))
    refine GE.resOne rfl (by (repeat (first | apply Res.nil | (apply Res.tmp; rfl) | (refine Res.cellA rfl rfl rfl ?_) | (refine Res.cell1 rfl rfl ?_)))) (fun w h => ?_)
    refine ⟨?_, h.sub⟩
    rw [Dg.word_pre fun i hi _ => hI i hi (by omega)]
    cases s <;> simp
theorem ref11_Within (s : List UInt8) (lo hi : Int) (hs : s.length ≤ 9223372036854775807) (w : World) (F : List HProp) (hw : holds w F) :
    Ct Tryd.prog 19 #[.string (bs s), .int .i64 lo, .int .i64 hi] w fun e w' => e = .returned (.tuple #[.int .i64 ((Dg.within s lo hi).getD 0), .bool (Dg.within s lo hi).isSome]) ∧ holds w' F := by
  refine Ct.go (args := [.string (bs s), .int .i64 lo, .int .i64 hi]) Tryd.func19 rfl rfl rfl hw ?_
  have C := ref11_Read s hs
  unfold Dg.within
  cases hr : Dg.read s with
  | none =>
    rw [hr] at C
    repeat' (first | (first | (apply GL.isCall; refine GL.call1 rfl rfl (fun w h => C w _ h) ?_)) | first | refine stp ?_ | (refine stpB ?_; intro _) | (refine spl ?_ ?_ <;> intro hc <;> ((try simp only [decide_eq_true_eq, decide_eq_false_iff_not, Bool.not_true, Bool.not_false, ne_eq, Classical.not_not, Int.not_lt, Int.not_le] at hc); (try (exfalso; first | omega | exact hc trivial | exact hc rfl)))))
    all_goals (refine GE.resMany rfl (by (repeat (first | apply Res.nil | (apply Res.tmp; rfl) | (refine Res.cellA rfl rfl rfl ?_) | (refine Res.cell1 rfl rfl ?_)))) (fun w h => ?_); exact ⟨rfl, h.sub⟩)
  | some v =>
    rw [hr] at C
    repeat' (first | (first | (apply GL.isCall; refine GL.call1 (v := .tuple #[.int .i64 v, .bool true]) rfl rfl (fun w h => C w _ h) ?_)) | first | refine stp ?_ | (refine stpB ?_; intro _) | (refine spl ?_ ?_ <;> intro hc <;> ((try simp only [decide_eq_true_eq, decide_eq_false_iff_not, Bool.not_true, Bool.not_false, ne_eq, Classical.not_not, Int.not_lt, Int.not_le] at hc); (try (exfalso; first | omega | exact hc trivial | exact hc rfl)))))
    all_goals (refine GE.resMany rfl (by (repeat (first | apply Res.nil | (apply Res.tmp; rfl) | (refine Res.cellA rfl rfl rfl ?_) | (refine Res.cell1 rfl rfl ?_)))) (fun w h => ?_); refine ⟨?_, h.sub⟩; dsimp only; split <;> first | rfl | (exfalso; omega))
theorem ref11_Words (s : List UInt8) (hs : s.length ≤ 1048576) (w : World) (F : List HProp) (hw : holds w F) :
    Ct Tryd.prog 9 #[.string (bs s)] w fun e w' => ∃ v : Value, e = .returned (.tuple #[v, .bool (Dg.words s).isSome]) ∧ holds w' (owns 9 encS 1 v ((Dg.words s).getD []) :: F) := by
  refine Ct.go (args := [.string (bs s)]) Tryd.func9 rfl rfl rfl hw ?_
  by_cases h0 : s = []
  · subst h0
    repeat' (first | (first | (apply GL.isAny; refine GL.run (by first | exact Runs.strEq rfl rfl | exact Runs.strNe rfl rfl | exact Runs.strLen rfl | exact Runs.strAt (k := 0) rfl rfl rfl (by omega) | exact Runs.strAt rfl rfl rfl (by omega) | exact Runs.neqIfaceNil rfl | exact Runs.neqNilNil rfl) rfl ?_) | (apply GD.isAny; refine GD.run (by first | exact Runs.strNe rfl rfl | exact Runs.strEq rfl rfl) rfl ?_)) | first | refine stp ?_ | (refine stpB ?_; intro _) | (refine spl ?_ ?_ <;> intro hc <;> ((try simp only [decide_eq_true_eq, decide_eq_false_iff_not, Bool.not_true, Bool.not_false, ne_eq, Classical.not_not, Int.not_lt, Int.not_le] at hc); (try (exfalso; first | omega | exact hc trivial | exact hc rfl)))))
    all_goals (first | (exact absurd rfl (by assumption)) | (refine GE.resMany rfl (by (repeat (first | apply Res.nil | (apply Res.tmp; rfl) | (refine Res.cellA rfl rfl rfl ?_) | (refine Res.cell1 rfl rfl ?_)))) (fun w h => ?_); exact ⟨_, rfl, (h.sub : holds _ F).nilOwn 9 encS 1⟩))
  · repeat' (first | (first | (apply GL.isAny; refine GL.run (by first | exact Runs.strEq rfl rfl | exact Runs.strNe rfl rfl | exact Runs.strLen rfl | exact Runs.strAt (k := 0) rfl rfl rfl (by omega) | exact Runs.strAt rfl rfl rfl (by omega) | exact Runs.neqIfaceNil rfl | exact Runs.neqNilNil rfl) rfl ?_) | (apply GD.isAny; refine GD.run (by first | exact Runs.strNe rfl rfl | exact Runs.strEq rfl rfl) rfl ?_)) | first | refine stp ?_ | (refine stpB ?_; intro _) | (refine spl ?_ ?_ <;> intro hc <;> ((try simp only [decide_eq_true_eq, decide_eq_false_iff_not, Bool.not_true, Bool.not_false, ne_eq, Classical.not_not, Int.not_lt, Int.not_le] at hc); (try (exfalso; first | omega | exact hc trivial | exact hc rfl)))))
    all_goals (first | (exact absurd (by assumption) h0) | skip)
    refine G.imp ?_ (fun w hw => hw.nilOwn 9 encS 1)
    refine G.loopK [0] (Nat × Nat × List (List UInt8) × Value) (fun x => [(6, .int .i64 x.1), (5, .int .i64 x.2.1), (4, x.2.2.2)]) (fun x => owns 9 encS 1 x.2.2.2 x.2.2.1 :: F) (fun x => (x.1 ≤ s.length ∧ Dg.WInv s x.1 x.2.1 x.2.2.1) ∨ (x.1 = s.length + 1 ∧ Dg.words s = some x.2.2.1)) (fun x => s.length + 1 - x.1) ((0, 0, [], .slice none 0 0)) (.inl ⟨by omega, .start s⟩) (by repeat (first | exact trivial | refine And.intro rfl ?_)) (fun w h => by (try dsimp only); first | exact h | exact h.sub | ((try simp only [List.take_zero, List.drop_zero, List.map_nil, List.nil_append, List.zipIdx_nil, List.filter_nil]); exact h.sub)) ?_
    rintro ⟨k, f, out, v⟩ hI
    dsimp only at hI ⊢
    rcases hI with ⟨hk, hI⟩ | ⟨hk, hI⟩
    · have hfk := hI.le
      have ho : out.length ≤ s.length + 1 := by
        have h1 := Dg.parts_len 32 s
        have h2 := congrArg List.length hI.eq
        rw [List.length_append] at h2; omega
      have hend : ∀ h : k = s.length, Dg.words s = if Dg.word ((s.drop f).take (k - f)) = true then some (out ++ [(s.drop f).take (k - f)]) else none := fun h => by
        subst h; exact hI.end_ h0
      have hcut : ∀ (h : k < s.length), s[k] = 32 → Dg.word ((s.drop f).take (k - f)) = false → Dg.words s = none := fun h h1 h2 => hI.bad h h1 h2
      have hgo : ∀ (h : k < s.length), s[k] = 32 → Dg.word ((s.drop f).take (k - f)) = true → Dg.WInv s (k + 1) (k + 1) (out ++ [(s.drop f).take (k - f)]) := fun h h1 h2 => hI.word h h1 h2
      generalize ht : (s.drop f).take (k - f) = t at hend hcut hgo
      have htl : t.length ≤ s.length := by rw [← ht, List.length_take, List.length_drop]; omega
      have hcutW : ∀ (env : Env) (n : Nat) (F : List HProp) (x lo hi : Operand), opnd env x = some (.string (bs s)) → opnd env lo = some (.int .i64 f) → opnd env hi = some (.int .i64 k) → Runs Tryd.prog n env F (.slice 9 x (some lo) (some hi) none) (.string (bs t)) := fun env n F x lo hi h1 h2 h3 => by
        rw [← ht]; exact Runs.strCut h1 h2 h3 rfl rfl hfk hk
      by_cases hlt : k < s.length
      · by_cases h32 : s[k] = 32
        · have h32' : s[k].toNat = 32 := by rw [h32]; rfl
          repeat' (first | (first | first | (apply GL.isAny; refine GL.run (by first | exact Runs.strEq rfl rfl | exact Runs.strNe rfl rfl | exact Runs.strLen rfl | exact Runs.strAt (k := 0) rfl rfl rfl (by omega) | exact Runs.strAt rfl rfl rfl (by omega) | exact Runs.neqIfaceNil rfl | exact Runs.neqNilNil rfl) rfl ?_) | (apply GD.isAny; refine GD.run (by first | exact Runs.strNe rfl rfl | exact Runs.strEq rfl rfl) rfl ?_) | (apply GL.isAny; refine GL.run (hcutW _ _ _ _ _ _ rfl rfl rfl) rfl ?_) | (apply GL.isCall; refine GL.call1 rfl rfl (fun w h => ref11_Word t (by omega) w _ h) ?_) | refine GL.append1 (t) rfl rfl rfl rfl (by rfl) (by omega) (by omega) rfl (fun _ => ?_)) | first | refine stp ?_ | (refine stpB ?_; intro _) | (refine spl ?_ ?_ <;> intro hc <;> ((try simp only [decide_eq_true_eq, decide_eq_false_iff_not, Bool.not_true, Bool.not_false, ne_eq, Classical.not_not, Int.not_lt, Int.not_le] at hc); (try (exfalso; first | omega | exact hc trivial | exact hc rfl)))))
          · have hf := hcut hlt h32 (by simpa using hc)
            rw [hf]
            refine GE.resMany rfl (by (repeat (first | apply Res.nil | (apply Res.tmp; rfl) | (refine Res.cellA rfl rfl rfl ?_) | (refine Res.cell1 rfl rfl ?_)))) (fun w h => ?_)
            exact ⟨_, rfl, (h.sub : holds _ F).nilOwn 9 encS 1⟩
          · have hw1 : Dg.word t = true := by simpa using hc
            have hg := hgo hlt h32 hw1
            refine GE.round ((k + 1, k + 1, out ++ [t], _)) (.inl ⟨by dsimp only; omega, hg⟩) (by repeat (first | exact trivial | refine And.intro rfl ?_)) (fun w h => by (try dsimp only); exact h.sub) (by (try dsimp only); omega)
        · have h32' : s[k].toNat ≠ 32 := fun h => h32 (by apply UInt8.toNat_inj.1; exact h)
          repeat' (first | (first | (apply GL.isAny; refine GL.run (by first | exact Runs.strEq rfl rfl | exact Runs.strNe rfl rfl | exact Runs.strLen rfl | exact Runs.strAt (k := 0) rfl rfl rfl (by omega) | exact Runs.strAt rfl rfl rfl (by omega) | exact Runs.neqIfaceNil rfl | exact Runs.neqNilNil rfl) rfl ?_) | (apply GD.isAny; refine GD.run (by first | exact Runs.strNe rfl rfl | exact Runs.strEq rfl rfl) rfl ?_)) | first | refine stp ?_ | (refine stpB ?_; intro _) | (refine spl ?_ ?_ <;> intro hc <;> ((try simp only [decide_eq_true_eq, decide_eq_false_iff_not, Bool.not_true, Bool.not_false, ne_eq, Classical.not_not, Int.not_lt, Int.not_le] at hc); (try (exfalso; first | omega | exact hc trivial | exact hc rfl)))))
          refine GE.round ((k + 1, f, out, v)) (.inl ⟨by dsimp only; omega, hI.next hlt h32⟩) (by repeat (first | exact trivial | refine And.intro rfl ?_)) (fun w h => by (try dsimp only); exact h.sub) (by (try dsimp only); omega)
      · have hke : k = s.length := by omega
        repeat' (first | (first | first | (apply GL.isAny; refine GL.run (by first | exact Runs.strEq rfl rfl | exact Runs.strNe rfl rfl | exact Runs.strLen rfl | exact Runs.strAt (k := 0) rfl rfl rfl (by omega) | exact Runs.strAt rfl rfl rfl (by omega) | exact Runs.neqIfaceNil rfl | exact Runs.neqNilNil rfl) rfl ?_) | (apply GD.isAny; refine GD.run (by first | exact Runs.strNe rfl rfl | exact Runs.strEq rfl rfl) rfl ?_) | (apply GL.isAny; refine GL.run (hcutW _ _ _ _ _ _ rfl rfl rfl) rfl ?_) | (apply GL.isCall; refine GL.call1 rfl rfl (fun w h => ref11_Word t (by omega) w _ h) ?_) | refine GL.append1 (t) rfl rfl rfl rfl (by rfl) (by omega) (by omega) rfl (fun _ => ?_)) | first | refine stp ?_ | (refine stpB ?_; intro _) | (refine spl ?_ ?_ <;> intro hc <;> ((try simp only [decide_eq_true_eq, decide_eq_false_iff_not, Bool.not_true, Bool.not_false, ne_eq, Classical.not_not, Int.not_lt, Int.not_le] at hc); (try (exfalso; first | omega | exact hc trivial | exact hc rfl)))))
        · have hf := hend hke
          rw [if_neg (by simpa using hc)] at hf
          rw [hf]
          refine GE.resMany rfl (by (repeat (first | apply Res.nil | (apply Res.tmp; rfl) | (refine Res.cellA rfl rfl rfl ?_) | (refine Res.cell1 rfl rfl ?_)))) (fun w h => ?_)
          exact ⟨_, rfl, (h.sub : holds _ F).nilOwn 9 encS 1⟩
        · have hf := hend hke
          rw [if_pos (by simpa using hc)] at hf
          refine GE.round ((k + 1, k + 1, out ++ [t], _)) (.inr ⟨by dsimp only; omega, hf⟩) (by repeat (first | exact trivial | refine And.intro rfl ?_)) (fun w h => by (try dsimp only); exact h.sub) (by (try dsimp only); omega)
    · rw [hI]
      repeat' (first | (first | (apply GL.isAny; refine GL.run (by first | exact Runs.strEq rfl rfl | exact Runs.strNe rfl rfl | exact Runs.strLen rfl | exact Runs.strAt (k := 0) rfl rfl rfl (by omega) | exact Runs.strAt rfl rfl rfl (by omega) | exact Runs.neqIfaceNil rfl | exact Runs.neqNilNil rfl) rfl ?_) | (apply GD.isAny; refine GD.run (by first | exact Runs.strNe rfl rfl | exact Runs.strEq rfl rfl) rfl ?_)) | first | refine stp ?_ | (refine stpB ?_; intro _) | (refine spl ?_ ?_ <;> intro hc <;> ((try simp only [decide_eq_true_eq, decide_eq_false_iff_not, Bool.not_true, Bool.not_false, ne_eq, Classical.not_not, Int.not_lt, Int.not_le] at hc); (try (exfalso; first | omega | exact hc trivial | exact hc rfl)))))
      refine GE.resMany rfl (by (repeat (first | apply Res.nil | (apply Res.tmp; rfl) | (refine Res.cellA rfl rfl rfl ?_) | (refine Res.cell1 rfl rfl ?_)))) (fun w h => ?_)
      exact ⟨_, rfl, (h.sub : holds _ (owns 9 encS 1 v out :: F))⟩
end
end Go.Proofs.YtoafajooffhimaaDoor
