/- Digits to the base 16: read and written, by the program and by the reference. -/
import Derived.Test.YtoafajooffhimaaDoorHxX
import Derived.Test.YtoafajooffhimaaDoorDgL
namespace Go.Proofs.YtoafajooffhimaaDoor
open Go Go.RowKit Go.MapKept
set_option linter.unusedVariables false
set_option linter.unusedSectionVars false
set_option linter.unusedSimpArgs false
set_option maxRecDepth 100000
set_option maxHeartbeats 4000000
theorem Hx.hexL_cuts : ∀ k : Fin 16, (hexL.drop k.val).take (k.val + 1 - k.val) = [hexd k.val] := by decide +kernel
theorem Hx.hexL_cut (k : Nat) (h : k < 16) : (hexL.drop k).take (k + 1 - k) = [hexd k] := Hx.hexL_cuts ⟨k, h⟩
section
variable {W : World}
theorem hx_repeat (c : Int) (k : Nat) (hc : c = (k : Int)) (hk : k ≤ 16) (w : World) (F : List HProp) (hw : holds w F) :
    Ct Tryd.prog 32 #[.string (bs [48]), .int .i64 c] w fun e w' => e = .returned (.string (bs (List.replicate k 48))) ∧ holds w' F := by
  subst hc
  have e1 : ∀ k : Nat, Lib.repeatL [48] k = List.replicate k 48 := by
    intro k; induction k with
    | zero => rfl
    | succ k ih => rw [Lib.repeatL, ih]; rfl
  exact ⟨(Any.strings_Repeat Tryd.lays105 Tryd.Builder_Extra_105 (bs [48]) k w (by omega) (by rw [bs_size]; simp; omega)).mono fun e w' ⟨he, hk⟩ => ⟨by rw [he, bs_data, e1]; rfl, hw.below hk⟩⟩
theorem digits_Hex (hL : LibH W) (n wide : Int) (hn : n ≤ 9223372036854775807) (w : World) (F : List HProp) {F' : List HProp} [hp : Has F (allOf W) F'] (hw : holds w F) :
    Ct Tryd.prog 23 #[.int .i64 n, .int .i64 wide] w fun e w' => e = .returned (.string (bs (Hx.hex n wide))) ∧ holds w' F := by
  refine Ct.go (args := [.int .i64 n, .int .i64 wide]) Tryd.func23 rfl rfl rfl hw ?_
  by_cases hb : n < 0 ∨ wide < 1 ∨ 16 < wide
  · have hr : Hx.hex n wide = [] := by unfold Hx.hex; rw [if_pos hb]
    rw [hr]
    repeat' (first | ((apply GL.isAny; refine GL.run (by first | exact Runs.strEq rfl rfl | exact Runs.strNe rfl rfl | exact Runs.strLen rfl | exact Runs.eqBo rfl rfl | exact Runs.strAdd rfl rfl (by first | omega | (rw [hrl] ; omega)) | exact Runs.strAt rfl rfl rfl (by omega)) rfl ?_)) | first | refine stp ?_ | (refine stpB ?_; intro _) | (refine spl ?_ ?_ <;> intro hc <;> ((try simp only [decide_eq_true_eq, decide_eq_false_iff_not, Bool.not_true, Bool.not_false, ne_eq, Classical.not_not, Int.not_lt, Int.not_le] at hc); (try (exfalso; first | omega | exact hc trivial | exact hc rfl)))))
    all_goals (first | (exfalso; omega) | (refine GE.resOne rfl (by (repeat (first | apply Res.nil | (apply Res.tmp; rfl) | (refine Res.cellA rfl rfl rfl ?_) | (refine Res.cell1 rfl rfl ?_)))) (fun w h => ?_); exact ⟨rfl, h.sub⟩))
  · obtain ⟨u, rfl⟩ := Int.eq_ofNat_of_zero_le (show 0 ≤ n by omega)
    obtain ⟨m, rfl⟩ := Int.eq_ofNat_of_zero_le (show 0 ≤ wide by omega)
    have hl := Hx.hexD_len 15 u (by rw [show 16 ^ (15 + 1) = 18446744073709551616 by decide]; omega)
    have hr : Hx.hex (u : Int) (m : Int) = List.replicate (m - (Hx.hexD u).length) 48 ++ Hx.hexD u := by
      unfold Hx.hex; rw [if_neg hb, Int.toNat_natCast, Int.toNat_natCast, Hx.hx_pad m u (by omega)]
    have hrl : (List.replicate (m - (Hx.hexD u).length) (48 : UInt8)).length = m - (Hx.hexD u).length := List.length_replicate
    rw [hr]
    repeat' (first | (first | (apply GL.isAny; refine GL.run (by first | exact Runs.strEq rfl rfl | exact Runs.strNe rfl rfl | exact Runs.strLen rfl | exact Runs.eqBo rfl rfl | exact Runs.strAdd rfl rfl (by first | omega | (rw [hrl] ; omega)) | exact Runs.strAt rfl rfl rfl (by omega)) rfl ?_) | (apply GL.isCall; refine GL.call1 rfl rfl (fun w h => hx_FormatInt hL u (by omega) w _ h) ?_) | (apply GL.isCall; refine GL.call1 rfl rfl (fun w h => hx_repeat _ (m - (Hx.hexD u).length) (by omega) (by omega) w _ h) ?_) | (apply GL.isAny; refine GL.run (Runs.max2 rfl rfl) rfl ?_)) | first | refine stp ?_ | (refine stpB ?_; intro _) | (refine spl ?_ ?_ <;> intro hc <;> ((try simp only [decide_eq_true_eq, decide_eq_false_iff_not, Bool.not_true, Bool.not_false, ne_eq, Classical.not_not, Int.not_lt, Int.not_le] at hc); (try (exfalso; first | omega | exact hc trivial | exact hc rfl)))))
    all_goals (first | (exfalso; omega) | (refine GE.resOne rfl (by (repeat (first | apply Res.nil | (apply Res.tmp; rfl) | (refine Res.cellA rfl rfl rfl ?_) | (refine Res.cell1 rfl rfl ?_)))) (fun w h => ?_); exact ⟨rfl, h.sub⟩))
theorem digits_ReadHex (s : List UInt8) (w : World) (F : List HProp) (hw : holds w F) :
    Ct Tryd.prog 21 #[.string (bs s)] w fun e w' => e = .returned (.tuple #[.int .i64 ((Hx.readHex s).getD 0), .bool (Hx.readHex s).isSome]) ∧ holds w' F := by
  refine Ct.go (args := [.string (bs s)]) Tryd.func21 rfl rfl rfl hw ?_
  repeat' (first | ((apply GL.isAny; refine GL.rangeStr rfl rfl (fun b => ?_))) | first | refine stp ?_ | (refine stpB ?_; intro _) | (refine spl ?_ ?_ <;> intro hc <;> ((try simp only [decide_eq_true_eq, decide_eq_false_iff_not, Bool.not_true, Bool.not_false, ne_eq, Classical.not_not, Int.not_lt, Int.not_le] at hc); (try (exfalso; first | omega | exact hc trivial | exact hc rfl)))))
  refine G.loopK [0, 9] (Nat × Int) (fun y => [(4, .int .i64 y.2)]) (fun y => blk b (.stringIter (bs s) y.1) :: F) (fun y => y.1 ≤ s.length ∧ Hx.hexF 0 (s.take y.1) = some y.2 ∧ 0 ≤ y.2 ∧ y.2 ≤ 9223372036854775807) (fun y => s.length - y.1) ((0, 0)) (⟨Nat.zero_le _, rfl, by omega, by omega⟩) (by repeat (first | exact trivial | refine And.intro rfl ?_)) (fun w h => by (try dsimp only); first | exact h | exact h.sub | ((try simp only [List.take_zero, List.drop_zero, List.map_nil, List.nil_append, List.zipIdx_nil, List.filter_nil]); exact h.sub)) ?_
  rintro ⟨k, n⟩ ⟨hk, hI, h0, h1⟩
  dsimp only at hk hI h0 h1 ⊢
  by_cases hlt : k < s.length
  · have hT := Hx.hexF_take s k hlt n hI
    have hid := Hx.idx_is s[k]
    by_cases ha : s[k].toNat < 128
    · have hi15 : -1 ≤ Hx.idx s[k] ∧ Hx.idx s[k] ≤ 15 := by rw [hid]; split <;> (try split) <;> omega
      repeat' (first | (first | (apply GL.isAny; refine GL.nextA rfl rfl hlt ha ?_) | (apply GL.isCall; refine GL.call1 (vs := [.string (bs Hx.hexL), .int .i32 (s[k].toNat : Int)]) (v := .int .i64 (Hx.idx s[k])) rfl rfl (fun w h => hx_low s[k] ha w _ h) ?_)) | first | refine stp ?_ | (refine stpB ?_; intro _) | (refine spl ?_ ?_ <;> intro hc <;> ((try simp only [decide_eq_true_eq, decide_eq_false_iff_not, Bool.not_true, Bool.not_false, ne_eq, Classical.not_not, Int.not_lt, Int.not_le] at hc); (try (exfalso; first | omega | exact hc trivial | exact hc rfl)))))
      all_goals first
        | (rw [Hx.read_none (s := s) (k := k + 1) (by rw [hT, if_pos (by omega)])]
           refine GE.resMany rfl (by (repeat (first | apply Res.nil | (apply Res.tmp; rfl) | (refine Res.cellA rfl rfl rfl ?_) | (refine Res.cell1 rfl rfl ?_)))) (fun w h => ?_)
           exact ⟨rfl, h.sub⟩)
        | (rw [if_neg (by omega)] at hT
           refine GE.round ((k + 1, 16 * n + Hx.idx s[k])) (⟨by dsimp only; omega, hT, by dsimp only; omega, by dsimp only; omega⟩) (by repeat (first | exact trivial | refine And.intro rfl ?_)) (fun w h => by (try dsimp only); exact h.sub) (by (try dsimp only); omega))
    · repeat' (first | (first | (apply GL.isAny; refine GL.nextB rfl rfl hlt (by omega) (fun c j hc hj => ?_)) | (apply GL.isCall; refine GL.call1 (vs := [.string (bs Hx.hexL), .int .i32 (c : Int)]) (v := .int .i64 (-1)) rfl rfl (fun w h => hx_high c hc w _ h) ?_)) | first | refine stp ?_ | (refine stpB ?_; intro _) | (refine spl ?_ ?_ <;> intro hc <;> ((try simp only [decide_eq_true_eq, decide_eq_false_iff_not, Bool.not_true, Bool.not_false, ne_eq, Classical.not_not, Int.not_lt, Int.not_le] at hc); (try (exfalso; first | omega | exact hc trivial | exact hc rfl)))))
      have hi1 : Hx.idx s[k] < 0 := by rw [hid]; split <;> (try split) <;> omega
      rw [Hx.read_none (s := s) (k := k + 1) (by rw [hT, if_pos (by omega)])]
      refine GE.resMany rfl (by (repeat (first | apply Res.nil | (apply Res.tmp; rfl) | (refine Res.cellA rfl rfl rfl ?_) | (refine Res.cell1 rfl rfl ?_)))) (fun w h => ?_)
      exact ⟨rfl, h.sub⟩
  · have hr : Hx.readHex s = if s.length < 1 ∨ 16 < s.length then none else some n := by
      rw [List.take_of_length_le (by omega)] at hI
      unfold Hx.readHex
      rw [hI]
    repeat' (first | (first | (apply GL.isAny; refine GL.nextE (l := s) (k := k) rfl rfl (by omega) ?_) | (apply GL.isAny; refine GL.run (by first | exact Runs.strEq rfl rfl | exact Runs.strNe rfl rfl | exact Runs.strLen rfl | exact Runs.eqBo rfl rfl | exact Runs.strAdd rfl rfl (by first | omega | (rw [hrl] ; omega)) | exact Runs.strAt rfl rfl rfl (by omega)) rfl ?_)) | first | refine stp ?_ | (refine stpB ?_; intro _) | (refine spl ?_ ?_ <;> intro hc <;> ((try simp only [decide_eq_true_eq, decide_eq_false_iff_not, Bool.not_true, Bool.not_false, ne_eq, Classical.not_not, Int.not_lt, Int.not_le] at hc); (try (exfalso; first | omega | exact hc trivial | exact hc rfl)))))
    all_goals first
      | (rw [hr, if_pos (by omega)]
         refine GE.resMany rfl (by (repeat (first | apply Res.nil | (apply Res.tmp; rfl) | (refine Res.cellA rfl rfl rfl ?_) | (refine Res.cell1 rfl rfl ?_)))) (fun w h => ?_)
         exact ⟨rfl, h.sub⟩)
      | (rw [hr, if_neg (by omega)]
         refine GE.resMany rfl (by (repeat (first | apply Res.nil | (apply Res.tmp; rfl) | (refine Res.cellA rfl rfl rfl ?_) | (refine Res.cell1 rfl rfl ?_)))) (fun w h => ?_)
         exact ⟨rfl, h.sub⟩)
theorem ref11_Hex (n wide : Int) (hn : n ≤ 9223372036854775807) (w : World) (F : List HProp) (hw : holds w F) :
    Ct Tryd.prog 24 #[.int .i64 n, .int .i64 wide] w fun e w' => e = .returned (.string (bs (Hx.hex n wide))) ∧ holds w' F := by
  refine Ct.go (args := [.int .i64 n, .int .i64 wide]) Tryd.func24 rfl rfl rfl hw ?_
  by_cases hb : n < 0 ∨ wide < 1 ∨ 16 < wide
  · have hr : Hx.hex n wide = [] := by unfold Hx.hex; rw [if_pos hb]
    rw [hr]
    repeat' (first | ((apply GL.isAny; refine GL.run (by first | exact Runs.strEq rfl rfl | exact Runs.strNe rfl rfl | exact Runs.strLen rfl | exact Runs.eqBo rfl rfl | exact Runs.strAdd rfl rfl (by first | omega | (rw [hrl] ; omega)) | exact Runs.strAt rfl rfl rfl (by omega)) rfl ?_)) | first | refine stp ?_ | (refine stpB ?_; intro _) | (refine spl ?_ ?_ <;> intro hc <;> ((try simp only [decide_eq_true_eq, decide_eq_false_iff_not, Bool.not_true, Bool.not_false, ne_eq, Classical.not_not, Int.not_lt, Int.not_le] at hc); (try (exfalso; first | omega | exact hc trivial | exact hc rfl)))))
    all_goals (first | (exfalso; omega) | (refine GE.resOne rfl (by (repeat (first | apply Res.nil | (apply Res.tmp; rfl) | (refine Res.cellA rfl rfl rfl ?_) | (refine Res.cell1 rfl rfl ?_)))) (fun w h => ?_); exact ⟨rfl, h.sub⟩))
  · obtain ⟨u, rfl⟩ := Int.eq_ofNat_of_zero_le (show 0 ≤ n by omega)
    obtain ⟨m, rfl⟩ := Int.eq_ofNat_of_zero_le (show 0 ≤ wide by omega)
    have hr : Hx.hex (u : Int) (m : Int) = Hx.hx u m := by
      unfold Hx.hex; rw [if_neg hb, Int.toNat_natCast, Int.toNat_natCast]
    have hm16 : (Hx.hx u m).length ≤ 16 := (Hx.hx_len (by omega) (by omega) (by omega)).2
    rw [hr]
    repeat' (first | ((apply GL.isAny; refine GL.run (by first | exact Runs.strEq rfl rfl | exact Runs.strNe rfl rfl | exact Runs.strLen rfl | exact Runs.eqBo rfl rfl | exact Runs.strAdd rfl rfl (by first | omega | (rw [hrl] ; omega)) | exact Runs.strAt rfl rfl rfl (by omega)) rfl ?_)) | first | refine stp ?_ | (refine stpB ?_; intro _) | (refine spl ?_ ?_ <;> intro hc <;> ((try simp only [decide_eq_true_eq, decide_eq_false_iff_not, Bool.not_true, Bool.not_false, ne_eq, Classical.not_not, Int.not_lt, Int.not_le] at hc); (try (exfalso; first | omega | exact hc trivial | exact hc rfl)))))
    all_goals (first | (exfalso; omega) | skip)
    refine G.loopK [1, 5] (Nat × List UInt8) (fun y => [(0, .int .i64 (y.1 : Nat)), (6, .string (bs y.2))]) (fun _ => F) (fun y => y.1 ≤ u ∧ y.2.length ≤ 16 ∧ Hx.hx u m = Hx.hx y.1 (m - y.2.length) ++ y.2) (fun y => y.1 + (m - y.2.length)) ((u, [])) (⟨Nat.le_refl _, by simp, by simp⟩) (by repeat (first | exact trivial | refine And.intro rfl ?_)) (fun w h => by (try dsimp only); first | exact h | exact h.sub | ((try simp only [List.take_zero, List.drop_zero, List.map_nil, List.nil_append, List.zipIdx_nil, List.filter_nil]); exact h.sub)) ?_
    rintro ⟨v, l⟩ ⟨hv, hl, he⟩
    dsimp only at hv hl he ⊢
    repeat' (first | (first | (apply GL.isAny; refine GL.run (by first | exact Runs.strEq rfl rfl | exact Runs.strNe rfl rfl | exact Runs.strLen rfl | exact Runs.eqBo rfl rfl | exact Runs.strAdd rfl rfl (by first | omega | (rw [hrl] ; omega)) | exact Runs.strAt rfl rfl rfl (by omega)) rfl ?_) | (apply GL.isAny; refine GL.run (v := .string (bs [Hx.hexd (v % 16)])) ((Hx.hexL_cut (v % 16) (by omega)) ▸ (Runs.strCut (l := Hx.hexL) (a := v % 16) (b := v % 16 + 1) rfl rfl rfl (by omega) (by omega) (by omega) (by show v % 16 + 1 ≤ 16; omega))) rfl ?_) | (apply GL.isAny; refine GL.run (Runs.strAdd rfl rfl (by show 1 + l.length ≤ _; omega)) rfl ?_)) | first | refine stp ?_ | (refine stpB ?_; intro _) | (refine spl ?_ ?_ <;> intro hc <;> ((try simp only [decide_eq_true_eq, decide_eq_false_iff_not, Bool.not_true, Bool.not_false, ne_eq, Classical.not_not, Int.not_lt, Int.not_le] at hc); (try (exfalso; first | omega | exact hc trivial | exact hc rfl)))))
    all_goals first
      | (have hs := Hx.hx_step (u := v) (k := m - l.length) (by omega)
         rw [hs, show m - l.length - 1 = m - (l.length + 1) by omega, List.append_assoc] at he
         have hle := congrArg List.length he
         rw [List.length_append, List.length_append, List.length_singleton] at hle
         refine GE.round (v / 16, [Hx.hexd (v % 16)] ++ l) ⟨by dsimp only; omega, by show l.length + 1 ≤ 16; omega, he⟩ (by repeat (first | exact trivial | refine And.intro rfl ?_)) (fun w h => by (try dsimp only); exact h.sub) (by show v / 16 + (m - (l.length + 1)) < v + (m - l.length); omega))
      | (obtain rfl : v = 0 := by omega
         rw [show m - l.length = 0 by omega] at he
         rw [he, show Hx.hx 0 0 = [] from rfl, List.nil_append]
         refine GE.resOne rfl (by (repeat (first | apply Res.nil | (apply Res.tmp; rfl) | (refine Res.cellA rfl rfl rfl ?_) | (refine Res.cell1 rfl rfl ?_)))) (fun w h => ?_); exact ⟨rfl, h.sub⟩)
theorem ref11_ReadHex (s : List UInt8) (w : World) (F : List HProp) (hw : holds w F) :
    Ct Tryd.prog 22 #[.string (bs s)] w fun e w' => e = .returned (.tuple #[.int .i64 ((Hx.readHex s).getD 0), .bool (Hx.readHex s).isSome]) ∧ holds w' F := by
  refine Ct.go (args := [.string (bs s)]) Tryd.func22 rfl rfl rfl hw ?_
  by_cases hb : s.length < 1 ∨ 16 < s.length
  · have hr : Hx.readHex s = none := by unfold Hx.readHex; rw [if_pos hb]
    rw [hr]
    repeat' (first | ((apply GL.isAny; refine GL.run (by first | exact Runs.strEq rfl rfl | exact Runs.strNe rfl rfl | exact Runs.strLen rfl | exact Runs.eqBo rfl rfl | exact Runs.strAdd rfl rfl (by first | omega | (rw [hrl] ; omega)) | exact Runs.strAt rfl rfl rfl (by omega)) rfl ?_)) | first | refine stp ?_ | (refine stpB ?_; intro _) | (refine spl ?_ ?_ <;> intro hc <;> ((try simp only [decide_eq_true_eq, decide_eq_false_iff_not, Bool.not_true, Bool.not_false, ne_eq, Classical.not_not, Int.not_lt, Int.not_le] at hc); (try (exfalso; first | omega | exact hc trivial | exact hc rfl)))))
    all_goals (first | (exfalso; omega) | (refine GE.resMany rfl (by (repeat (first | apply Res.nil | (apply Res.tmp; rfl) | (refine Res.cellA rfl rfl rfl ?_) | (refine Res.cell1 rfl rfl ?_)))) (fun w h => ?_); exact ⟨rfl, h.sub⟩))
  · have hr : Hx.readHex s = Hx.hexF 0 s := by unfold Hx.readHex; rw [if_neg hb]
    repeat' (first | ((apply GL.isAny; refine GL.run (by first | exact Runs.strEq rfl rfl | exact Runs.strNe rfl rfl | exact Runs.strLen rfl | exact Runs.eqBo rfl rfl | exact Runs.strAdd rfl rfl (by first | omega | (rw [hrl] ; omega)) | exact Runs.strAt rfl rfl rfl (by omega)) rfl ?_)) | first | refine stp ?_ | (refine stpB ?_; intro _) | (refine spl ?_ ?_ <;> intro hc <;> ((try simp only [decide_eq_true_eq, decide_eq_false_iff_not, Bool.not_true, Bool.not_false, ne_eq, Classical.not_not, Int.not_lt, Int.not_le] at hc); (try (exfalso; first | omega | exact hc trivial | exact hc rfl)))))
    all_goals (first | (exfalso; omega) | skip)
    refine G.loopK [0] (Nat × Int) (fun y => [(5, .int .i64 (y.1 : Nat)), (4, .int .i64 y.2)]) (fun y => F) (fun y => y.1 ≤ s.length ∧ Hx.hexF 0 (s.take y.1) = some y.2 ∧ 0 ≤ y.2 ∧ y.2 ≤ 9223372036854775807) (fun y => s.length - y.1) ((0, 0)) (⟨Nat.zero_le _, rfl, by omega, by omega⟩) (by repeat (first | exact trivial | refine And.intro rfl ?_)) (fun w h => by (try dsimp only); first | exact h | exact h.sub | ((try simp only [List.take_zero, List.drop_zero, List.map_nil, List.nil_append, List.zipIdx_nil, List.filter_nil]); exact h.sub)) ?_
    rintro ⟨k, n⟩ ⟨hk, hI, h0, h1⟩
    dsimp only at hk hI h0 h1 ⊢
    by_cases hlt : k < s.length
    · have hT := Hx.hexF_take s k hlt n hI
      have hid : (48 ≤ s[k].toNat ∧ s[k].toNat ≤ 57 ∧ Hx.idx s[k] = (s[k].toNat : Int) - 48) ∨ (97 ≤ s[k].toNat ∧ s[k].toNat ≤ 102 ∧ Hx.idx s[k] = (s[k].toNat : Int) - 87) ∨ (¬ (48 ≤ s[k].toNat ∧ s[k].toNat ≤ 57) ∧ ¬ (97 ≤ s[k].toNat ∧ s[k].toNat ≤ 102) ∧ Hx.idx s[k] = -1) := by
        rw [Hx.idx_is]
        split
        · left; omega
        · split
          · right; left; omega
          · right; right; omega
      repeat' (first | (first | (apply GL.isAny; refine GL.run (by first | exact Runs.strEq rfl rfl | exact Runs.strNe rfl rfl | exact Runs.strLen rfl | exact Runs.eqBo rfl rfl | exact Runs.strAdd rfl rfl (by first | omega | (rw [hrl] ; omega)) | exact Runs.strAt rfl rfl rfl (by omega)) rfl ?_) | (apply GL.isAny; refine GL.run (Runs.convE rfl (by rw [IntWalk.i64_in _ (by omega)])) rfl ?_)) | first | refine stp ?_ | (refine stpB ?_; intro _) | (refine spl ?_ ?_ <;> intro hc <;> ((try simp only [decide_eq_true_eq, decide_eq_false_iff_not, Bool.not_true, Bool.not_false, ne_eq, Classical.not_not, Int.not_lt, Int.not_le] at hc); (try (exfalso; first | omega | exact hc trivial | exact hc rfl)))))
      all_goals first
        | (rw [Hx.read_none (s := s) (k := k + 1) (by rw [hT, if_pos (by omega)])]
           refine GE.resMany rfl (by (repeat (first | apply Res.nil | (apply Res.tmp; rfl) | (refine Res.cellA rfl rfl rfl ?_) | (refine Res.cell1 rfl rfl ?_)))) (fun w h => ?_)
           exact ⟨rfl, h.sub⟩)
        | (rw [if_neg (by omega), show Hx.idx s[k] = (s[k].toNat : Int) - 48 by omega] at hT
           refine GE.round ((k + 1, 16 * n + ((s[k].toNat : Int) - 48))) (⟨by dsimp only; omega, hT, by dsimp only; omega, by dsimp only; omega⟩) (by repeat (first | exact trivial | refine And.intro rfl ?_)) (fun w h => by (try dsimp only); exact h.sub) (by (try dsimp only); omega))
        | (rw [if_neg (by omega), show Hx.idx s[k] = (s[k].toNat : Int) - 87 by omega] at hT
           refine GE.round ((k + 1, 16 * n + ((s[k].toNat : Int) - 87))) (⟨by dsimp only; omega, hT, by dsimp only; omega, by dsimp only; omega⟩) (by repeat (first | exact trivial | refine And.intro rfl ?_)) (fun w h => by (try dsimp only); exact h.sub) (by (try dsimp only); omega))
    · rw [List.take_of_length_le (by omega)] at hI
      rw [hr, hI]
      repeat' (first | ((apply GL.isAny; refine GL.run (by first | exact Runs.strEq rfl rfl | exact Runs.strNe rfl rfl | exact Runs.strLen rfl | exact Runs.eqBo rfl rfl | exact Runs.strAdd rfl rfl (by first | omega | (rw [hrl] ; omega)) | exact Runs.strAt rfl rfl rfl (by omega)) rfl ?_)) | first | refine stp ?_ | (refine stpB ?_; intro _) | (refine spl ?_ ?_ <;> intro hc <;> ((try simp only [decide_eq_true_eq, decide_eq_false_iff_not, Bool.not_true, Bool.not_false, ne_eq, Classical.not_not, Int.not_lt, Int.not_le] at hc); (try (exfalso; first | omega | exact hc trivial | exact hc rfl)))))
      all_goals (first | (exfalso; omega) | (refine GE.resMany rfl (by (repeat (first | apply Res.nil | (apply Res.tmp; rfl) | (refine Res.cellA rfl rfl rfl ?_) | (refine Res.cell1 rfl rfl ?_)))) (fun w h => ?_); exact ⟨rfl, h.sub⟩))
theorem law11_DigitsHex (hL : LibH W) (n wide : Int) (hn : n ≤ 9223372036854775807) (s : List UInt8) (w : World) (F : List HProp) {F' : List HProp} [hp : Has F (allOf W) F'] (hw : holds w F) (hs : s.length ≤ 9223372036854775807) :
    Ct Tryd.prog 6 #[.int .i64 n, .int .i64 wide, .string (bs s)] w fun e w' => e = .returned (.bool true) ∧ holds w' F := by
  refine Ct.go (args := [.int .i64 n, .int .i64 wide, .string (bs s)]) Tryd.func6 rfl rfl rfl hw ?_
  have C0 := law11_works hL.lib
  have C5 := digits_ReadHex (Hx.hex n wide)
  by_cases h0 : Hx.hex n wide = []
  · repeat' (first | (first | (apply GL.isAny; refine GL.run (by first | exact Runs.strEq rfl rfl | exact Runs.strNe rfl rfl | exact Runs.strLen rfl | exact Runs.eqBo rfl rfl | exact Runs.strAdd rfl rfl (by first | omega | (rw [hrl] ; omega)) | exact Runs.strAt rfl rfl rfl (by omega)) rfl ?_) | (apply GL.isCall; refine GL.call1 rfl rfl (fun w h => C0 w _ h) ?_) | (apply GL.isCall; refine GL.call1 rfl rfl (fun w h => digits_ReadHex s w _ h) ?_) | (apply GL.isCall; refine GL.call1 rfl rfl (fun w h => ref11_ReadHex s w _ h) ?_) | (apply GL.isCall; refine GL.call1 rfl rfl (fun w h => digits_Hex hL n wide hn w _ h) ?_) | (apply GL.isCall; refine GL.call1 rfl rfl (fun w h => ref11_Hex n wide hn w _ h) ?_) | (apply GL.isCall; refine GL.call1 rfl rfl (fun w h => C5 w _ h) ?_)) | first | refine stp ?_ | (refine stpB ?_; intro _) | (refine spl ?_ ?_ <;> intro hc <;> ((try simp only [decide_eq_true_eq, decide_eq_false_iff_not, Bool.not_true, Bool.not_false, ne_eq, Classical.not_not, Int.not_lt, Int.not_le] at hc); (try (exfalso; first | omega | exact hc trivial | exact hc rfl)))))
    all_goals (first | (exact absurd rfl (by assumption)) | (exact absurd h0 (by assumption)) | (refine GE.resOne rfl (by (repeat (first | apply Res.nil | (apply Res.tmp; rfl) | (refine Res.cellA rfl rfl rfl ?_) | (refine Res.cell1 rfl rfl ?_)))) (fun w h => ?_); exact ⟨rfl, h.sub⟩) | skip)
  · have hrd := Hx.read_hex hn h0
    rw [hrd] at C5
    repeat' (first | (first | (apply GL.isAny; refine GL.run (by first | exact Runs.strEq rfl rfl | exact Runs.strNe rfl rfl | exact Runs.strLen rfl | exact Runs.eqBo rfl rfl | exact Runs.strAdd rfl rfl (by first | omega | (rw [hrl] ; omega)) | exact Runs.strAt rfl rfl rfl (by omega)) rfl ?_) | (apply GL.isCall; refine GL.call1 rfl rfl (fun w h => C0 w _ h) ?_) | (apply GL.isCall; refine GL.call1 rfl rfl (fun w h => digits_ReadHex s w _ h) ?_) | (apply GL.isCall; refine GL.call1 rfl rfl (fun w h => ref11_ReadHex s w _ h) ?_) | (apply GL.isCall; refine GL.call1 rfl rfl (fun w h => digits_Hex hL n wide hn w _ h) ?_) | (apply GL.isCall; refine GL.call1 rfl rfl (fun w h => ref11_Hex n wide hn w _ h) ?_) | (apply GL.isCall; refine GL.call1 rfl rfl (fun w h => C5 w _ h) ?_)) | first | refine stp ?_ | (refine stpB ?_; intro _) | (refine spl ?_ ?_ <;> intro hc <;> ((try simp only [decide_eq_true_eq, decide_eq_false_iff_not, Bool.not_true, Bool.not_false, ne_eq, Classical.not_not, Int.not_lt, Int.not_le] at hc); (try (exfalso; first | omega | exact hc trivial | exact hc rfl)))))
    all_goals (first | (exact absurd rfl (by assumption)) | (exact absurd (by assumption) h0) | (refine GE.resOne rfl (by (repeat (first | apply Res.nil | (apply Res.tmp; rfl) | (refine Res.cellA rfl rfl rfl ?_) | (refine Res.cell1 rfl rfl ?_)))) (fun w h => ?_); exact ⟨rfl, h.sub⟩) | skip)
end
end Go.Proofs.YtoafajooffhimaaDoor
