/- More contracts of the reference of chapter 6. -/
import Derived.Test.YtfiggkbclldccaaGreatRef06
namespace Go.Proofs.YtfiggkbclldccaaGreat
open Go Go.RowKit Go.MapKept
set_option maxRecDepth 100000
set_option linter.unusedVariables false
set_option linter.unusedSimpArgs false
attribute [local go_sem] exactUpon looseUpon

def sRight (O : List Bool) (G : List Int) (p g : Int) : Bool := decide (0 ≤ p ∧ p < O.length) && (O.getD p.toNat false && G.getD p.toNat 0 == g)

theorem ref06_Right (w : World) (vo vg : Value) (a4 : Option Addr) (n4 c4 : Nat) (O : List Bool) (G : List Int) (fr : Int) (p g : Int) (F : List HProp) (hO : O.length ≤ 1048576) (hOG : O.length = G.length) (hw : holds w (roBools vo O :: roInts vg G :: F)) :
    Calls Tryz.prog 250 #[.agg #[vo, vg, .slice a4 n4 c4, .int .i64 fr], .int .i64 p, .int .i64 g] w fun e w' => e = .returned (.bool (sRight O G p g)) ∧ holds w' (roBools vo O :: roInts vg G :: F) := by
  obtain ⟨a, cap, rfl, hcap⟩ := roBools_form hw
  obtain ⟨a2, cap2, rfl, hcap2⟩ := roInts_form (hw.pick 1)
  have hb := hw.alloc (.cells #[.slice a O.length cap, .slice a2 G.length cap2, .slice a4 n4 c4, .int .i64 fr] 30 (0, 0))
  have ho1 : O.length ≤ G.length := by omega
  have ho2 : G.length ≤ O.length := by omega
  clear hOG
  by_cases h0 : 0 ≤ p
  · obtain ⟨p, rfl⟩ := Int.eq_ofNat_of_zero_le h0
    by_cases h1 : p < O.length
    · have h1' : (p : Int) < O.length := by omega
      obtain ⟨g1, off1, cp1, hv1, _, hcs1⟩ := (hb.pick 1).roBoolAt (by omega)
      cases hv1
      obtain ⟨g2, off2, cp2, hv2, _, hcs2⟩ := (hb.pick 2).roIntAt (by omega)
      have ha2 : a2 = some ⟨g2, off2, none⟩ := by injection hv2
      subst ha2
      have x1 := hcs1 p h1
      have x2 := hcs2 p (by omega)
      have hp2 : p < G.length := by omega
      have e : sRight O G p g = (O[p] && G[p] == g) := by
        unfold sRight
        rw [decide_eq_true (show 0 ≤ (p : Int) ∧ (p : Int) < O.length by omega)]
        simp [h1, hp2]
      rw [e]
      clear hcs1 hcs2 hv2 e
      generalize O[p] = y at x1 ⊢
      generalize G[p] = z at x2 ⊢
      cases y with
      | false =>
        go_enter Tryz.func250, Tryz.ntmps250
        go_wp2_with fail
        go_ret
        exact ⟨rfl, hb.tail⟩
      | true =>
        obtain ⟨r, hr⟩ : ∃ r, (z == g) = r := ⟨_, rfl⟩
        rw [hr]
        go_enter Tryz.func250, Tryz.ntmps250
        go_wp2_with fail
        go_ret
        exact ⟨rfl, hb.tail⟩
    · have h1' : (O.length : Int) ≤ p := by omega
      have e : sRight O G p g = false := by
        unfold sRight
        rw [decide_eq_false (show ¬ (0 ≤ (p : Int) ∧ (p : Int) < O.length) by omega)]
        rfl
      rw [e]
      have hd : decide ((p : Int) < O.length) = false := decide_eq_false (by omega)
      clear e
      go_enter Tryz.func250, Tryz.ntmps250
      go_wp2_with fail
      go_ret
      exact ⟨rfl, hb.tail⟩
  · have e : sRight O G p g = false := by
      unfold sRight
      rw [decide_eq_false (show ¬ (0 ≤ p ∧ p < O.length) by omega)]
      rfl
    rw [e]
    have hd : decide ((0 : Int) ≤ p) = false := decide_eq_false h0
    clear e
    go_enter Tryz.func250, Tryz.ntmps250
    go_wp2_with fail
    go_ret
    exact ⟨rfl, hb.tail⟩

/-- The places that are open, rising. -/
def openTo (O : List Bool) (k : Nat) : List Int := ((List.range k).filter fun i => O.getD i false).map fun (i : Nat) => (i : Int)
theorem openTo_succ (O : List Bool) (k : Nat) : openTo O (k + 1) = openTo O k ++ (if O.getD k false then [(k : Int)] else []) := by
  unfold openTo
  rw [List.range_succ, List.filter_append, List.map_append]
  congr 1
  cases h : O.getD k false
  · rw [List.filter_cons_of_neg (by simp only [h]; decide)]; rfl
  · rw [List.filter_cons_of_pos (by simp only [h])]; rfl
theorem openTo_len (O : List Bool) (k : Nat) : (openTo O k).length ≤ k := by
  unfold openTo
  rw [List.length_map]
  exact Nat.le_trans (List.length_filter_le _ _) (by simp)

theorem ref06_Places (w : World) (vo vg : Value) (a4 : Option Addr) (n4 c4 : Nat) (O : List Bool) (fr : Int) (F : List HProp) (a2 : Option Addr) (n2 c2 : Nat) (hO : O.length ≤ 1048576) (hw : holds w (roBools vo O :: F)) :
    Calls Tryz.prog 101 #[.agg #[vo, .slice a2 n2 c2, .slice a4 n4 c4, .int .i64 fr]] w fun e w' => ∃ a c, e = .returned (.slice a (openTo O O.length).length c) ∧ holds w' (roInts (.slice a (openTo O O.length).length c) (openTo O O.length) :: roBools vo O :: F) := by
  obtain ⟨a, cap, rfl, hcap⟩ := roBools_form hw
  have hb := hw.alloc (.cells #[.slice a O.length cap, .slice a2 n2 c2, .slice a4 n4 c4, .int .i64 fr] 30 (0, 0))
  have h2 : holds _ (_ :: _ :: _ :: F) := holds_ownRow_nil hb 3 1
  go_enter Tryz.func101, Tryz.ntmps101
  go_wp2_with fail
  go_loopw [3, 4] (fun out i wr => ∃ k : Nat, k ≤ O.length ∧ i = .int .i64 k ∧ holds wr (ownInts out (openTo O k) :: blk w.heap.size (.cells #[.slice a O.length cap, .slice a2 n2 c2, .slice a4 n4 c4, .int .i64 fr] 30 (0, 0)) :: roBools (.slice a O.length cap) O :: F)) (fun _ i _ => O.length - (intOf i).toNat)
  case atStart => exact ⟨0, Nat.zero_le _, rfl, h2⟩
  case round =>
    obtain ⟨k, hk, rfl, h3⟩ := hrel
    clear h2 hb
    obtain ⟨a3, c3, rfl⟩ := ownInts_form h3
    have c0 := cellAt (h3.pick 1).get_blk 0
    simp only [List.getElem?_toArray, List.getElem?_cons_succ, List.getElem?_cons_zero] at c0
    by_cases hlt : k < O.length
    · obtain ⟨g1, off1, cp1, hv1, _, hcs1⟩ := (h3.pick 2).roBoolAt (by omega)
      have ha : a = some ⟨g1, off1, none⟩ := by injection hv1
      subst ha
      have x1 := hcs1 k hlt
      have hs := openTo_succ O k
      rw [show O.getD k false = O[k] from by simp [hlt]] at hs
      have hle := openTo_len O k
      have HS := Lib.hid hs
      clear hcs1 hv1 hs
      generalize O[k] = y at x1 HS
      cases y with
      | false =>
        go_wp2_with fail
        go_roundw
        case rel => exact ⟨k + 1, by omega, by go_num, by rw [HS.out]; simpa using h3⟩
        case measure => simp [intOf]; omega
      | true =>
        go_wp2_with (at_builtin; refine wpList_appendInt (nb := wr.heap.size) rfl _ _ rfl rfl ((h3.alloc (.cells #[.int .i64 k] 3)).order [1, 0]) rfl (cellAt (h3.alloc (.cells #[.int .i64 k] 3)).get_blk 0) (by omega) ?_; intro v6 w6 h6)
        have h7 : holds w6 (ownInts v6 (openTo O k ++ [(k : Int)]) :: blk wr.heap.size (.cells #[.int .i64 k] 3) :: blk w.heap.size (.cells #[.slice (some ⟨g1, off1, none⟩) O.length cap, .slice a2 n2 c2, .slice a4 n4 c4, .int .i64 fr] 30 (0, 0)) :: roBools (.slice (some ⟨g1, off1, none⟩) O.length cap) O :: F) := h6
        go_roundw
        case rel => exact ⟨k + 1, by omega, by go_num, by rw [HS.out]; exact h7.sel 4 [0, 2, 3]⟩
        case measure => simp [intOf]; omega
    · have hkl : k = O.length := by omega
      subst hkl
      go_wp2_with fail
      go_ret
      exact ⟨_, _, rfl, h3.shareInts.sel 3 [0, 2]⟩
end Go.Proofs.YtfiggkbclldccaaGreat
