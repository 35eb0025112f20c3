/- The reference of chapter 6 does what slots do: one state, said twice. -/
import Derived.Test.YtfiggkbclldccaaRef06E
import Derived.Test.YtfiggkbclldccaaSlotsC
import Derived.Test.YtfiggkbclldccaaAscend
namespace Go.Proofs.Ytfiggkbclldccaa
open Go Go.RowKit Go.MapKept
set_option maxRecDepth 100000
set_option linter.unusedVariables false
set_option linter.unusedSimpArgs false

def openBools (s : SlotsM) : List Bool := (List.range s.gens.length).map fun (i : Nat) => (alGet s.opn (i : Int)).getD false
theorem ob_len (s : SlotsM) : (openBools s).length = s.gens.length := by simp [openBools]
theorem ob_get (s : SlotsM) (i : Nat) (h : i < (openBools s).length) : (openBools s)[i] = (alGet s.opn (i : Int)).getD false := by simp [openBools]
theorem ob_getD (s : SlotsM) (hok : s.ok) (i : Nat) : (openBools s).getD i false = (alGet s.opn (i : Int)).getD false := by
  by_cases h : i < (openBools s).length
  · rw [List.getD_eq_getElem?_getD, List.getElem?_eq_getElem h, Option.getD_some, ob_get]
  · rw [List.getD_eq_getElem?_getD, List.getElem?_eq_none (by omega), Option.getD_none]
    cases hg : alGet s.opn (i : Int) with
    | none => rfl
    | some b => have := (hok.opn _ _ hg).2; rw [ob_len] at h; omega
theorem ob_right {s : SlotsM} (hok : s.ok) (p g : Int) : sRight (openBools s) s.gens p g = s.right p g := by
  unfold sRight SlotsM.right
  rw [ob_len]
  by_cases h : 0 ≤ p ∧ p < s.gens.length
  · obtain ⟨n, rfl⟩ := Int.eq_ofNat_of_zero_le h.1
    rw [decide_eq_true h, Bool.true_and, Int.toNat_natCast, ob_getD s hok]
  · rw [decide_eq_false h, Bool.false_and]
    cases hg : alGet s.opn p with
    | none => rfl
    | some b => exact absurd (hok.opn _ _ hg) h
theorem ob_new (n : Nat) : openBools (SlotsM.new n) = List.replicate n false := by
  apply List.ext_getElem
  · simp [ob_len, SlotsM.new]
  · intro i h1 h2
    rw [ob_get, List.getElem_replicate]
    rfl
theorem ob_set {s s' : SlotsM} (p : Nat) (x : Bool) (hl : s'.gens.length = s.gens.length) (h : ∀ q : Int, 0 ≤ q → (alGet s'.opn q).getD false = if q = p then x else (alGet s.opn q).getD false) : openBools s' = (openBools s).set p x := by
  apply List.ext_getElem
  · simp [ob_len, hl]
  · intro i h1 h2
    rw [ob_get, h i (by omega), List.getElem_set, ob_get]
    by_cases e : i = p
    · subst e; simp
    · rw [if_neg (by omega), if_neg (by omega)]
theorem ob_close {s : SlotsM} (hok : s.ok) (p : Nat) : openBools (s.closeAt p) = (openBools s).set p false := by
  refine ob_set p false (by simp [SlotsM.closeAt]) fun q hq => ?_
  simp only [SlotsM.closeAt]
  rw [alGet_del _ _ _ hok.nodup]
  by_cases e : q = (p : Int)
  · rw [if_pos e, if_pos e]; rfl
  · rw [if_neg e, if_neg e]
theorem ob_open {s s' : SlotsM} (p : Nat) (hg : s'.gens = s.gens) (ho : s'.opn = alSet s.opn (p : Int) true) : openBools s' = (openBools s).set p true := by
  refine ob_set p true (by rw [hg]) fun q hq => ?_
  rw [ho, alGet_set]
  by_cases e : q = (p : Int)
  · rw [if_pos e, if_pos e]; rfl
  · rw [if_neg e, if_neg e]
theorem openTo_rises (O : List Bool) (k : Nat) : (openTo O k).Pairwise (· < ·) := by
  unfold openTo
  rw [List.pairwise_map]
  refine List.Pairwise.filter _ ?_
  exact (List.pairwise_lt_range).imp fun h => by omega
theorem openTo_ob {s : SlotsM} {k : Nat} (h : s.Good k) : openTo (openBools s) (openBools s).length = sortInts (alKeys s.opn) := by
  refine rising_eq _ _ (openTo_rises _ _) (sortInts_rises h.ok.nodup) fun x => ?_
  rw [mem_sortInts]
  unfold openTo
  simp only [List.mem_map, List.mem_filter, List.mem_range]
  constructor
  · rintro ⟨i, ⟨hi, hb⟩, rfl⟩
    rw [ob_getD s h.ok] at hb
    cases hg : alGet s.opn (i : Int) with
    | none => rw [hg] at hb; simp at hb
    | some b => exact alGet_mem hg
  · intro hx
    obtain ⟨b, hb⟩ := alGet_of_mem hx
    have hr := h.ok.opn _ _ hb
    obtain ⟨n, rfl⟩ := Int.eq_ofNat_of_zero_le hr.1
    refine ⟨n, ⟨by rw [ob_len]; omega, ?_⟩, rfl⟩
    rw [ob_getD s h.ok, hb]
    exact h.val _ _ hb
theorem alKeys_len {β : Type} (m : List (Int × β)) : (alKeys m).length = m.length := by simp [alKeys]
theorem ob_opens {s : SlotsM} {k : Nat} (h : s.Good k) : (openTo (openBools s) (openBools s).length).length = s.opn.length := by
  rw [openTo_ob h, sortInts, List.length_mergeSort, alKeys_len]




end Go.Proofs.Ytfiggkbclldccaa
