/- The laws of chapter 06. -/
import Derived.Test.YtleocobenpbicaaSlotsB
namespace Go.Proofs.Ytleocobenpbicaa
open Go Go.RowKit Go.MapKept

set_option maxRecDepth 100000 in
theorem law06_works (w : World) (F : List HProp) (hw : holds w F) :
    Calls Try.prog 9 #[] w fun e w' => e = .returned (.bool true) ∧ holds w' F := by
  go_enter Try.func9, Try.ntmps9
  go_wp2_with fail
  refine (slots_New _ _ F (by omega) (by omega) hw).mono ?_
  rintro e w1 ⟨v, rfl, h1⟩
  have k0 : (SlotsM.new (Int.toNat 3)).ok := SlotsM.new_ok 3 (by omega)
  go_wp2_with fail
  refine (slots_Open _ v _ F k0 h1).mono ?_
  rw [show (SlotsM.new (Int.toNat 3)).told = (0, 0, true) from rfl, show (SlotsM.new (Int.toNat 3)).opened = ⟨[0, 0, 0], [(0, true)], [], 1⟩ from rfl]
  rintro e w2 ⟨rfl, h2⟩
  have k1 : (⟨[0, 0, 0], [(0, true)], [], 1⟩ : SlotsM).ok := SlotsM.opened_ok k0
  go_wp2_with fail
  refine (slots_Open _ v _ F k1 h2).mono ?_
  rw [show (⟨[0, 0, 0], [(0, true)], [], 1⟩ : SlotsM).told = (1, 0, true) from rfl, show (⟨[0, 0, 0], [(0, true)], [], 1⟩ : SlotsM).opened = ⟨[0, 0, 0], [(0, true), (1, true)], [], 2⟩ from rfl]
  rintro e w3 ⟨rfl, h3⟩
  have k2 : (⟨[0, 0, 0], [(0, true), (1, true)], [], 2⟩ : SlotsM).ok := SlotsM.opened_ok k1
  go_wp2_with fail
  refine (slots_Close _ v _ 0 0 F k2 (by decide) (by decide) h3).mono ?_
  rw [show (⟨[0, 0, 0], [(0, true), (1, true)], [], 2⟩ : SlotsM).right 0 0 = true from rfl, if_pos rfl, show (⟨[0, 0, 0], [(0, true), (1, true)], [], 2⟩ : SlotsM).closeAt 0 = ⟨[1, 0, 0], [(1, true)], [0], 2⟩ from rfl]
  rintro e w4 ⟨rfl, h4⟩
  have k3 : (⟨[1, 0, 0], [(1, true)], [0], 2⟩ : SlotsM).ok := SlotsM.close_ok (p := 0) (g := 0) k2 rfl
  go_wp2_with fail
  refine (slots_Open _ v _ F k3 h4).mono ?_
  rw [show (⟨[1, 0, 0], [(1, true)], [0], 2⟩ : SlotsM).told = (0, 1, true) from rfl, show (⟨[1, 0, 0], [(1, true)], [0], 2⟩ : SlotsM).opened = ⟨[1, 0, 0], [(1, true), (0, true)], [], 2⟩ from rfl]
  rintro e w5 ⟨rfl, h5⟩
  have k4 : (⟨[1, 0, 0], [(1, true), (0, true)], [], 2⟩ : SlotsM).ok := SlotsM.opened_ok k3
  go_wp2_with fail
  refine (slots_Right _ v _ 0 0 F k4 h5).mono ?_
  rw [show (⟨[1, 0, 0], [(1, true), (0, true)], [], 2⟩ : SlotsM).right 0 0 = false from rfl]
  rintro e w6 ⟨rfl, h6⟩
  go_wp2_with fail
  refine (slots_Right _ v _ 0 1 F k4 h6).mono ?_
  rw [show (⟨[1, 0, 0], [(1, true), (0, true)], [], 2⟩ : SlotsM).right 0 1 = true from rfl]
  rintro e w7 ⟨rfl, h7⟩
  go_wp2_with fail
  refine (slots_Len _ v _ F h7).mono ?_
  rintro e w8 ⟨rfl, h8⟩
  go_wp2_with fail
  go_ret
  exact ⟨rfl, h8.tail⟩

/-- After i fresh slots. -/
def SlotsM.firsts (n i : Nat) : SlotsM := ⟨List.replicate n 0, (List.range i).map (fun (k : Nat) => ((k : Int), true)), [], i⟩

theorem alGet_range (i k : Nat) : alGet ((List.range i).map (fun (k : Nat) => ((k : Int), true))) k = if k < i then some true else none := by
  induction i with
  | zero => simp [alGet_nil]
  | succ i ih =>
    have hs : ∀ (m : List (Int × Bool)) (a x : Int) (v : Bool), alGet (m ++ [(a, v)]) x = (alGet m x).or (if x = a then some v else none) := by
      intro m a x v
      induction m with
      | nil => simp [alGet_cons, alGet_nil]
      | cons p m ihm => obtain ⟨p1, p2⟩ := p; simp only [List.cons_append, alGet_cons, ihm]; split <;> simp
    rw [List.range_succ, List.map_append, List.map_singleton, hs, ih]
    by_cases h : k < i
    · have : k < i + 1 := by omega
      simp [h, this]
    · by_cases h2 : k = i
      · subst h2; simp
      · have h3 : ¬ k < i + 1 := by omega
        have h4 : ¬ (k : Int) = i := by omega
        simp [h, h3, h4]

theorem alSet_range (i : Nat) : alSet ((List.range i).map (fun (k : Nat) => ((k : Int), true))) i true = (List.range (i + 1)).map (fun (k : Nat) => ((k : Int), true)) := by
  have h := alGet_range i i
  rw [if_neg (by omega)] at h
  have h2 := (alFind_none (i : Int) ((List.range i).map (fun (k : Nat) => ((k : Int), true))) (by
    unfold alGet at h
    simpa using h)).2.1 true
  rw [h2, List.range_succ, List.map_append, List.map_singleton]

theorem SlotsM.firsts_ok (n i : Nat) (hn : n ≤ 1048576) (hi : i ≤ n) : (SlotsM.firsts n i).ok := by
  refine ⟨fun p b hp => ?_, by simpa [SlotsM.firsts] using hn, by simp [SlotsM.firsts]; omega, by simp [SlotsM.firsts], ?_⟩
  · have : p ∈ alKeys (SlotsM.firsts n i).opn := by
      apply Classical.byContradiction
      intro hc
      rw [(alGet_none _ _).2 hc] at hp
      cases hp
    simp only [SlotsM.firsts, alKeys, List.map_map, List.mem_map, List.mem_range, Function.comp_apply] at this
    obtain ⟨a, ha, rfl⟩ := this
    simp [SlotsM.firsts]; omega
  · simp only [SlotsM.firsts, alKeys, List.map_map]
    refine List.Pairwise.map _ (fun a b h => ?_) List.nodup_range
    simp only [Function.comp_apply]
    omega

theorem SlotsM.firsts_pick (n i : Nat) (hi : i < n) : (SlotsM.firsts n i).told = ((i : Int), 0, true) ∧ (SlotsM.firsts n i).opened = SlotsM.firsts n (i + 1) := by
  have hp : (SlotsM.firsts n i).pick = some ((i : Int), { SlotsM.firsts n i with fresh := i + 1 }) := by
    unfold SlotsM.pick
    rw [if_neg (by simp [SlotsM.firsts]), if_pos (by simp [SlotsM.firsts]; omega)]
    simp [SlotsM.firsts]
  refine ⟨by simp only [SlotsM.told, hp]; simp [SlotsM.firsts, hi], ?_⟩
  simp only [SlotsM.opened, hp]
  simp only [SlotsM.firsts, alSet_range, SlotsM.mk.injEq, true_and]
  omega

theorem SlotsM.firsts_full (n : Nat) : (SlotsM.firsts n n).told = (0, 0, false) ∧ (SlotsM.firsts n n).opened = SlotsM.firsts n n := by
  have hp : (SlotsM.firsts n n).pick = none := by
    unfold SlotsM.pick
    rw [if_neg (by simp [SlotsM.firsts]), if_neg (by simp [SlotsM.firsts])]
  exact ⟨by simp [SlotsM.told, hp], by simp [SlotsM.opened, hp]⟩

theorem SlotsM.firsts_right (n i : Nat) (hi : i < n) : (SlotsM.firsts n (i + 1)).right i 0 = true := by
  have := alGet_range (i + 1) i
  rw [if_pos (by omega)] at this
  simp [SlotsM.right, SlotsM.firsts, this, hi]

theorem law_SlotsFirst (n : Int) (hn0 : 0 ≤ n) (hn : n ≤ 255) (w : World) (F : List HProp) (hw : holds w F) :
    Calls Try.prog 3 #[.int .u8 n] w fun e w' => e = .returned (.bool true) ∧ holds w' F := by
  obtain ⟨n, rfl⟩ := Int.eq_ofNat_of_zero_le hn0
  go_enter Try.func3, Try.ntmps3
  go_wp2_with fail
  refine (slots_New _ _ F (by omega) (by omega) hw).mono ?_
  rintro e w1 ⟨v, rfl, h1⟩
  rw [Int.toNat_natCast, show SlotsM.new n = SlotsM.firsts n 0 from rfl] at h1
  obtain ⟨b, bm, vg, vc, rfl, _⟩ := open_slots h1
  go_wp2_with fail
  go_loopw [4] (fun i wr => ∃ k : Nat, k ≤ n ∧ i = .int .i64 k ∧ holds wr (slotsAt (.pointer (some ⟨b, 0, none⟩)) (SlotsM.firsts n k) :: F)) (fun i _ => n - (intOf i).toNat)
  case atStart => exact ⟨0, Nat.zero_le _, rfl, h1⟩
  case round =>
    obtain ⟨k, hk, rfl, h2⟩ := hrel
    have hok := SlotsM.firsts_ok n k (by omega) hk
    by_cases hlt : k < n
    · obtain ⟨t1, t2⟩ := SlotsM.firsts_pick n k hlt
      have hr := SlotsM.firsts_right n k hlt
      have hok2 := SlotsM.firsts_ok n (k + 1) (by omega) hlt
      have T1 := Lib.hid t1
      have T2 := Lib.hid t2
      have HR := Lib.hid hr
      clear t1 t2 hr
      go_wp2_with fail
      refine (slots_Open _ _ _ F hok h2).mono ?_
      rw [T1.out, T2.out]
      rintro e w3 ⟨rfl, h3⟩
      go_wp2_with fail
      refine (slots_Right _ _ _ _ _ F hok2 h3).mono ?_
      rw [HR.out]
      rintro e w4 ⟨rfl, h4⟩
      go_wp2_with fail
      go_roundw
      case rel => exact ⟨k + 1, by omega, by go_num, h4⟩
      case measure => simp [intOf]; omega
    · have hkn : n = k := by omega
      subst hkn
      obtain ⟨t1, t2⟩ := SlotsM.firsts_full n
      have T1 := Lib.hid t1
      have T2 := Lib.hid t2
      clear t1 t2
      go_wp2_with fail
      refine (slots_Open _ _ _ F hok h2).mono ?_
      rw [T1.out, T2.out]
      rintro e w3 ⟨rfl, h3⟩
      go_wp2_with fail
      refine (slots_Len _ _ _ F h3).mono ?_
      rw [show (SlotsM.firsts n n).opn.length = n by simp [SlotsM.firsts]]
      rintro e w4 ⟨rfl, h4⟩
      go_wp2_with fail
      refine (law06_works _ F h4.tail).mono ?_
      rintro e w5 ⟨rfl, h5⟩
      go_wp2_with fail
      go_ret
      exact ⟨rfl, h5⟩

end Go.Proofs.Ytleocobenpbicaa
