/- Slots that were opened one behind the other. -/
import Derived.Test.YtdcekeclemgkcaaSlotsB
namespace Go.Proofs.Ytdcekeclemgkcaa
open Go Go.RowKit Go.MapKept
set_option maxRecDepth 100000

/-- After i fresh slots. -/
def SlotsM.firsts (n i : Nat) : SlotsM := ⟨List.replicate n 0, (List.range i).map (fun (k : Nat) => ((k : Int), true)), [], i⟩

theorem alGet_range (i k : Nat) : alGet ((List.range i).map (fun (k : Nat) => ((k : Int), true))) k = if k < i then some true else none := by
  induction i with
  | zero => simp [alGet_nil]
  | succ i ih =>
    have hs : ∀ (m : List (Int × Bool)) (a x : Int) (v : Bool), alGet (m ++ [(a, v)]) x = (alGet m x).or (if x = a then some v else none) := by
      intro m a x v
      induction m with
      | nil => simp [alGet_cons, alGet_nil]
      | cons p m ihm => obtain ⟨p1, p2⟩ := p; simp only [List.cons_append, alGet_cons, ihm]; split <;> simp
    rw [List.range_succ, List.map_append, List.map_singleton, hs, ih]
    by_cases h : k < i
    · have : k < i + 1 := by omega
      simp [h, this]
    · by_cases h2 : k = i
      · subst h2; simp
      · have h3 : ¬ k < i + 1 := by omega
        have h4 : ¬ (k : Int) = i := by omega
        simp [h, h3, h4]

theorem alSet_range (i : Nat) : alSet ((List.range i).map (fun (k : Nat) => ((k : Int), true))) i true = (List.range (i + 1)).map (fun (k : Nat) => ((k : Int), true)) := by
  have h := alGet_range i i
  rw [if_neg (by omega)] at h
  have h2 := (alFind_none (i : Int) ((List.range i).map (fun (k : Nat) => ((k : Int), true))) (by
    unfold alGet at h
    simpa using h)).2.1 true
  rw [h2, List.range_succ, List.map_append, List.map_singleton]

theorem SlotsM.firsts_ok (n i : Nat) (hn : n ≤ 1048576) (hi : i ≤ n) : (SlotsM.firsts n i).ok := by
  refine ⟨fun p b hp => ?_, by simpa [SlotsM.firsts] using hn, by simp [SlotsM.firsts]; omega, by simp [SlotsM.firsts], ?_⟩
  · have : p ∈ alKeys (SlotsM.firsts n i).opn := by
      apply Classical.byContradiction
      intro hc
      rw [(alGet_none _ _).2 hc] at hp
      cases hp
    simp only [SlotsM.firsts, alKeys, List.map_map, List.mem_map, List.mem_range, Function.comp_apply] at this
    obtain ⟨a, ha, rfl⟩ := this
    simp [SlotsM.firsts]; omega
  · simp only [SlotsM.firsts, alKeys, List.map_map]
    refine List.Pairwise.map _ (fun a b h => ?_) List.nodup_range
    simp only [Function.comp_apply]
    omega

theorem SlotsM.firsts_pick (n i : Nat) (hi : i < n) : (SlotsM.firsts n i).told = ((i : Int), 0, true) ∧ (SlotsM.firsts n i).opened = SlotsM.firsts n (i + 1) := by
  have hp : (SlotsM.firsts n i).pick = some ((i : Int), { SlotsM.firsts n i with fresh := i + 1 }) := by
    unfold SlotsM.pick
    rw [if_neg (by simp [SlotsM.firsts]), if_pos (by simp [SlotsM.firsts]; omega)]
    simp [SlotsM.firsts]
  refine ⟨by simp only [SlotsM.told, hp]; simp [SlotsM.firsts, hi], ?_⟩
  simp only [SlotsM.opened, hp]
  simp only [SlotsM.firsts, alSet_range, SlotsM.mk.injEq, true_and]
  omega

theorem SlotsM.firsts_full (n : Nat) : (SlotsM.firsts n n).told = (0, 0, false) ∧ (SlotsM.firsts n n).opened = SlotsM.firsts n n := by
  have hp : (SlotsM.firsts n n).pick = none := by
    unfold SlotsM.pick
    rw [if_neg (by simp [SlotsM.firsts]), if_neg (by simp [SlotsM.firsts])]
  exact ⟨by simp [SlotsM.told, hp], by simp [SlotsM.opened, hp]⟩

theorem SlotsM.firsts_right (n i : Nat) (hi : i < n) : (SlotsM.firsts n (i + 1)).right i 0 = true := by
  have := alGet_range (i + 1) i
  rw [if_pos (by omega)] at this
  simp [SlotsM.right, SlotsM.firsts, this, hi]
end Go.Proofs.Ytdcekeclemgkcaa
