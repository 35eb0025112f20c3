/- The making of waits; waits that New did not give; the document's answer. -/
import Derived.Test.YtfkpcmlajdmnfaaWaitsB
import Derived.Test.YtfkpcmlajdmnfaaLaw04C
namespace Go.Proofs.Ytfkpcmlajdmnfaa
open Go Go.RowKit Go.MapKept
set_option maxRecDepth 100000
set_option linter.unusedVariables false
attribute [local go_sem] exactUpon looseUpon

theorem waits_New_no (w : World) (n : Int) (F : List HProp) (hn : n < 0 ∨ 1048576 < n) (hw : holds w F) :
    Calls Try.prog 49 #[.int .i64 n] w fun e w' => e = .returned (.pointer none) ∧ holds w' F := by
  have H := Lib.hid (ring_New_no w n F hn hw)
  clear hn
  go_enter Try.func49, Try.ntmps49
  go_wp2_with fail
  refine H.out.mono ?_
  rintro e w1 ⟨rfl, h1⟩
  go_wp2_with fail
  go_ret
  exact ⟨rfl, h1⟩

theorem WaitsOk.new (n : Nat) (h : n ≤ 1048576) : WaitsOk n (List.replicate n (-1)) 0 0 [] :=
  ⟨by simp, h, by simp, by simp, by omega, by simp, fun j hj => by simp at hj, fun i hi _ => by simp [hi]⟩
theorem fill_set (n k : Nat) (h : k < n) : (List.replicate k (-1 : Int) ++ List.replicate (n - k) 0).set k (-1) = List.replicate (k + 1) (-1) ++ List.replicate (n - (k + 1)) 0 := by
  apply List.ext_getElem
  · simp; omega
  · intro i h1 h2
    simp only [List.getElem_set, List.getElem_append, List.length_replicate, List.getElem_replicate]
    repeat' split
    all_goals first | rfl | omega

theorem waits_New (w : World) (n : Nat) (F : List HProp) (hn : n ≤ 1048576) (hw : holds w F) :
    Calls Try.prog 49 #[.int .i64 (n : Nat)] w fun e w' => ∃ b, e = .returned (.pointer (some ⟨b, 0, none⟩)) ∧ holds w' (waitsAt (.pointer (some ⟨b, 0, none⟩)) n [] 0 :: F) := by
  have H := Lib.hid (ring_New w n F (by omega) (by omega) hw)
  obtain ⟨i0, hi, hz0, hz1, hz2⟩ := info_parts Try.infoInt
  have hm := fun (w : World) (G : List HProp) (hw : holds w G) => run_make_sl (P := Try.prog) (t := 30) Try.underlying30 hi hz0 hz1 hw .i64 .i64 (x := n) (c := n) (by omega) (by omega) (by rw [hz2]; omega) (by omega)
  simp only [Int.toNat_natCast, Nat.mul_one] at hm
  have HM := Lib.hid hm
  clear hm hi hz0 hz1 hz2
  go_enter Try.func49, Try.ntmps49
  go_wp2_with fail
  refine H.out.mono ?_
  rintro e w1 ⟨v, rfl, h1⟩
  rw [Int.toNat_natCast] at h1
  obtain ⟨rb, rfl⟩ : ∃ b, v = .pointer (some ⟨b, 0, none⟩) := by obtain ⟨b, _, _, _, _, e, _⟩ := open_ring h1; exact ⟨b, e⟩
  have hm1 := (HM.out w1 _ h1).1
  have h2 := h1.madeInts n (by unfold maxLen; omega)
  go_wp2_with fail
  clear hm1 HM H
  generalize w1.heap.size = g at h2 ⊢
  go_loopw [14] (fun i wr => ∃ k : Nat, k ≤ n ∧ i = .int .i64 k ∧ holds wr (ownInts (.slice (some ⟨g, 0, none⟩) n n) (List.replicate k (-1) ++ List.replicate (n - k) 0) :: ringAt (.pointer (some ⟨rb, 0, none⟩)) n [] :: F)) (fun i _ => n - (intOf i).toNat)
  case atStart => exact ⟨0, Nat.zero_le _, rfl, by simpa using h2⟩
  case round =>
    obtain ⟨k, hk, rfl, h3⟩ := hrel
    clear h1 h2
    by_cases hlt : k < n
    · go_wp2_with (
        refine wpList_setInt rfl rfl _ _ rfl (i := k) rfl rfl h3 (by simp; omega) fun w' hw' => ?_
        clear h3)
      go_roundw
      case rel => exact ⟨k + 1, by omega, by go_num, by rw [← fill_set n k hlt]; exact hw'⟩
      case measure => simp [intOf]; omega
    · have hkn : k = n := by omega
      subst hkn
      go_wp2_with fail
      go_ret
      have h4 := h3.alloc (.cells #[.pointer (some ⟨rb, 0, none⟩), .slice (some ⟨g, 0, none⟩) k k, .int .i64 0, .int .i64 0] 83 (0, 0))
      rw [Nat.sub_self, List.replicate_zero, List.append_nil] at h4
      exact ⟨_, rfl, shut_waits (WaitsOk.new k hn) (h4.sel 3 [0, 2, 1])⟩

/-! ### Waits that New did not give -/
def noLine (w : World) (v : Value) : Prop := v = .pointer none ∨ ∃ b, v = .pointer (some ⟨b, 0, none⟩) ∧ w.cell? ⟨b, 0, none⟩ = some (.pointer none) ∧ w.cell? ⟨b, 2, none⟩ = some (.int .i64 0)
theorem no_is (w : World) (v : Value) (h : noLine w v) :
    Calls Try.prog 90 #[v] w fun e w' => e = .returned (.bool false) ∧ w' = w := by
  rcases h with rfl | ⟨b, rfl, c0, c2⟩
  · go_enter Try.func90, Try.ntmps90
    go_wp2
    go_ret
    exact ⟨rfl, rfl⟩
  · go_enter Try.func90, Try.ntmps90
    go_wp2
    go_ret
    exact ⟨rfl, rfl⟩
theorem no_Take (w : World) (v : Value) (h : noLine w v) :
    Calls Try.prog 51 #[v] w fun e w' => e = .returned (.tuple #[.int .i64 0, .int .i64 16]) ∧ w' = w := by
  have H := Lib.hid (no_is w v h)
  clear h
  go_enter Try.func51, Try.ntmps51
  go_wp2_with fail
  refine H.out.mono ?_
  rintro e w1 ⟨rfl, rfl⟩
  go_wp2_with fail
  go_ret2
  exact ⟨rfl, rfl⟩
theorem no_Put (w : World) (v : Value) (i : Int) (h : noLine w v) :
    Calls Try.prog 53 #[v, .int .i64 i] w fun e w' => e = .returned (.int .i64 16) ∧ w' = w := by
  have H := Lib.hid (no_is w v h)
  clear h
  go_enter Try.func53, Try.ntmps53
  go_wp2_with fail
  refine H.out.mono ?_
  rintro e w1 ⟨rfl, rfl⟩
  go_wp2_with fail
  go_ret
  exact ⟨rfl, rfl⟩
theorem no_Ahead (w : World) (v : Value) (i : Int) (h : noLine w v) :
    Calls Try.prog 55 #[v, .int .i64 i] w fun e w' => e = .returned (.int .i64 (-1)) ∧ w' = w := by
  have H := Lib.hid (no_is w v h)
  clear h
  go_enter Try.func55, Try.ntmps55
  go_wp2_with fail
  refine H.out.mono ?_
  rintro e w1 ⟨rfl, rfl⟩
  go_wp2_with fail
  go_ret
  exact ⟨rfl, rfl⟩
theorem no_Len (w : World) (v : Value) (h : noLine w v) :
    Calls Try.prog 54 #[v] w fun e w' => e = .returned (.int .i64 0) ∧ w' = w := by
  have H := Lib.hid (no_is w v h)
  clear h
  go_enter Try.func54, Try.ntmps54
  go_wp2_with fail
  refine H.out.mono ?_
  rintro e w1 ⟨rfl, rfl⟩
  go_wp2_with fail
  go_ret
  exact ⟨rfl, rfl⟩
theorem no_List (w : World) (v : Value) (h : noLine w v) :
    Calls Try.prog 56 #[v] w fun e w' => e = .returned (.slice none 0 0) ∧ w' = w := by
  have H := Lib.hid (no_is w v h)
  clear h
  go_enter Try.func56, Try.ntmps56
  go_wp2_with fail
  refine H.out.mono ?_
  rintro e w1 ⟨rfl, rfl⟩
  go_wp2_with fail
  go_ret
  exact ⟨rfl, rfl⟩
theorem no_Count (w : World) (v : Value) (h : noLine w v) :
    Calls Try.prog 57 #[v] w fun e w' => e = .returned (.int .i64 0) ∧ w' = w := by
  rcases h with rfl | ⟨b, rfl, c0, c2⟩
  · go_enter Try.func57, Try.ntmps57
    go_wp2
    go_ret
    exact ⟨rfl, rfl⟩
  · go_enter Try.func57, Try.ntmps57
    go_wp2
    go_ret
    exact ⟨rfl, rfl⟩

/-! ### The document's answer -/
theorem ref21_Take (w : World) (v : Value) (l : List Int) (F : List HProp) (hl : l.length ≤ 1000000000) (hw : holds w (roInts v l :: F)) :
    Calls Try.prog 50 #[v] w fun e w' => ∃ v', e = .returned (.tuple #[v', .int .i64 (ringGet l 0).1, .int .i64 (if (ringGet l 0).2 then 0 else 20)]) ∧ holds w' (roInts v' (l.drop 1) :: F) := by
  cases l with
  | nil =>
    have e : ringGet [] 0 = (0, false) := by simp [ringGet]
    have hd : holds w (roInts v [] :: roInts v [] :: F) := hw.dupInts
    have H := Lib.hid (ref04_Take w v [] _ hl hd)
    rw [e] at H ⊢
    dsimp only at H ⊢
    clear e
    obtain ⟨a, cap, rfl, hcap⟩ := roInts_form hw
    go_enter Try.func50, Try.ntmps50
    go_wp2_with fail
    refine H.out.mono ?_
    rintro e w1 ⟨v1, rfl, h1⟩
    obtain ⟨a1, c1, rfl, _⟩ := roInts_form h1
    go_wp2_with fail
    go_ret3
    exact ⟨_, rfl, h1.tail⟩
  | cons x l =>
    have e : ringGet (x :: l) 0 = (x, true) := by simp [ringGet]
    have H := Lib.hid (ref04_Take w v (x :: l) _ hl hw)
    rw [e] at H ⊢
    dsimp only at H ⊢
    clear e
    obtain ⟨a, cap, rfl, hcap⟩ := roInts_form hw
    go_enter Try.func50, Try.ntmps50
    go_wp2_with fail
    refine H.out.mono ?_
    rintro e w1 ⟨v1, rfl, h1⟩
    obtain ⟨a1, c1, rfl, _⟩ := roInts_form h1
    go_wp2_with fail
    go_ret3
    exact ⟨_, rfl, h1⟩

theorem ref21_Put (w : World) (v : Value) (n : Nat) (l : List Int) (i : Int) (F : List HProp) (hl : l.length ≤ 1000000000) (hw : holds w (roInts v l :: F)) :
    Calls Try.prog 52 #[v, .int .i64 (n : Nat), .int .i64 i] w fun e w' => ∃ v', e = .returned (.tuple #[v', .int .i64 (Waits.put n l i).1]) ∧ holds w' (roInts v' (Waits.put n l i).2 :: F) := by
  obtain ⟨a, cap, rfl, hcap⟩ := roInts_form hw
  by_cases h0 : i < 0 ∨ n ≤ i
  · have e : Waits.put n l i = (2, l) := by unfold Waits.put; rw [if_pos h0]
    rw [e]
    dsimp only
    clear e
    by_cases hneg : i < 0
    · clear h0
      go_enter Try.func52, Try.ntmps52
      go_wp2_with fail
      go_ret2
      exact ⟨_, rfl, hw⟩
    · have h00 : (n : Int) ≤ i := by omega
      clear h0
      go_enter Try.func52, Try.ntmps52
      go_wp2_with fail
      go_ret2
      exact ⟨_, rfl, hw⟩
  · have h00 : ¬ i < 0 := by omega
    have h01 : ¬ (n : Int) ≤ i := by omega
    have H := Lib.hid (ref04_Place w _ l i _ hl hw)
    by_cases hin : i ∈ l
    · have e : Waits.put n l i = (19, l) := by unfold Waits.put; rw [if_neg h0, if_pos hin]
      have hp : placeOf l i = ((l.idxOf i : Nat) : Int) := by unfold placeOf; rw [if_pos hin]
      rw [e]
      rw [hp] at H
      dsimp only
      clear e hp hin h0
      generalize l.idxOf i = j at H
      go_enter Try.func52, Try.ntmps52
      go_wp2_with fail
      refine H.out.mono ?_
      rintro e w1 ⟨rfl, h1⟩
      have hj : (0 : Int) ≤ j := by omega
      go_wp2_with fail
      go_ret2
      exact ⟨_, rfl, h1⟩
    · have e : Waits.put n l i = (0, l ++ [i]) := by unfold Waits.put; rw [if_neg h0, if_neg hin]
      have hp : placeOf l i = -1 := by unfold placeOf; rw [if_neg hin]
      rw [e]
      rw [hp] at H
      dsimp only
      clear e hp hin h0
      go_enter Try.func52, Try.ntmps52
      go_wp2_with fail
      refine H.out.mono ?_
      rintro e w1 ⟨rfl, h1⟩
      have h2 := h1.emptyInts
      have hr := holds.roReads (h2.pick 1)
      go_wp2_with (first
        | (at_builtin; refine wpList_appendInts (l := []) (m := l) rfl _ _ rfl rfl h2 rfl hr (by simp; omega) ?_; clear hr; intro v3 w3 h3)
        | (at_builtin; refine wpList_appendInt (nb := w3.heap.size) rfl _ _ rfl rfl ((h3.alloc (.cells #[.int .i64 i] 3)).order [1, 0]) rfl (cellAt (h3.alloc (.cells #[.int .i64 i] 3)).get_blk 0) (by simp; omega) ?_; intro v4 w4 h4))
      go_ret2
      have h5 : holds w4 (ownInts v4 (l ++ [i]) :: blk w3.heap.size (.cells #[.int .i64 i] 3) :: roInts (.slice a l.length cap) l :: F) := h4
      exact ⟨_, rfl, (holds.shareInts h5).sel 3 [0]⟩
end Go.Proofs.Ytfkpcmlajdmnfaa
