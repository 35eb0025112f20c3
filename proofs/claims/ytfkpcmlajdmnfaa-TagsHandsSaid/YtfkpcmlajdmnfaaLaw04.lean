/- The example of chapter 4. -/
import Derived.Test.YtfkpcmlajdmnfaaRef04
import Derived.Test.YtfkpcmlajdmnfaaPairs
namespace Go.Proofs.Ytfkpcmlajdmnfaa
open Go Go.RowKit Go.MapKept
set_option maxRecDepth 100000
set_option linter.unusedVariables false

theorem ring_List (w : World) (v : Value) (n : Nat) (l : List Int) (F : List HProp) (hw : holds w (ringAt v n l :: F)) :
    Calls Try.prog 31 #[v] w fun e W' => ∃ a, e = .returned (.slice a l.length l.length) ∧ holds W' (roInts (.slice a l.length l.length) l :: ringAt v n l :: F) := by
  obtain ⟨b, a, c, cs, hd, rfl, hm, h⟩ := open_ring hw
  exact ringQ_List w _ l _ (RingIn.of hw) hw
theorem ring_Place (w : World) (v : Value) (n : Nat) (l : List Int) (x : Int) (F : List HProp) (hw : holds w (ringAt v n l :: F)) :
    Calls Try.prog 32 #[v, .int .i64 x] w fun e W' => e = .returned (.int .i64 (placeOf l x)) ∧ holds W' (ringAt v n l :: F) := by
  obtain ⟨b, a, c, cs, hd, rfl, hm, h⟩ := open_ring hw
  exact (ringQ_Place w _ l x (RingIn.of hw)).mono fun e w' ⟨he, hb⟩ => ⟨he, hw.below hb⟩

theorem holds.newInts {w : World} {F : List HProp} {n : Nat} {cur : Array Value} (l : List Int) (h : holds w (blk n (.cells cur 3 (0, 0)) :: F)) (hc : cur.toList = ints l) (hl : cur.size = l.length) :
    holds w (roInts (.slice (some ⟨n, 0, none⟩) l.length l.length) l :: F) := by
  have h2 := h.share.mkRo (size := 1) (off := 0) (n := l.length) (cap := l.length) (Nat.le_refl _) (by omega)
  rw [List.drop_zero, List.take_of_length_le (by simp; omega), hc] at h2
  exact h2

set_option maxHeartbeats 400000 in
theorem law04_works (w : World) (F : List HProp) (hw : holds w F) :
    Calls Try.prog 19 #[] w fun e w' => e = .returned (.bool true) ∧ holds w' F := by
  have s1 : ringGet [7, 8] 0 = (7, true) := by decide
  have s2 : placeOf [8, 9] 9 = 1 := by decide
  have S := Lib.hid (And.intro s1 s2)
  clear s1 s2
  go_enter Try.func19, Try.ntmps19
  go_wp2_with fail
  refine (ring_New _ 2 _ (by decide) (by decide) hw).mono ?_
  rintro e w1 ⟨v, rfl, h1⟩
  rw [show (2 : Int).toNat = 2 from rfl] at h1
  go_wp2_with fail
  refine (ring_Put _ _ _ _ 7 _ (by decide) h1).mono ?_
  rintro e w2 ⟨rfl, h2⟩
  go_wp2_with fail
  refine (ring_Put _ _ _ _ 8 _ (by decide) h2).mono ?_
  rintro e w3 ⟨rfl, h3⟩
  go_wp2_with fail
  refine (ring_Put_full _ _ _ _ 9 _ (by decide) h3).mono ?_
  rintro e w4 ⟨rfl, h4⟩
  go_wp2_with fail
  have o1 := ring_Take _ _ _ _ _ h4
  rw [show ([] ++ [(7 : Int)] ++ [8]) = [7, 8] from rfl, S.out.1] at o1
  refine o1.mono ?_
  clear o1
  rintro e w5 ⟨rfl, h5⟩
  rw [show List.drop 1 [(7 : Int), 8] = [8] from rfl] at h5
  go_wp2_with fail
  refine (ring_Put _ _ _ _ 9 _ (by decide) h5).mono ?_
  rintro e w6 ⟨rfl, h6⟩
  rw [show ([(8 : Int)] ++ [9]) = [8, 9] from rfl] at h6
  go_wp2_with fail
  refine (ring_List _ _ _ _ _ h6).mono ?_
  rintro e w7 ⟨a7, rfl, h7⟩
  go_wp2_with fail
  have h8 : holds _ (roInts (.slice a7 2 2) [8, 9] :: roInts (.slice (some ⟨w7.heap.size, 0, none⟩) 2 2) [8, 9] :: ringAt v 2 [8, 9] :: F) := ((holds.newInts [8, 9] (h7.alloc (.cells #[.int .i64 8, .int .i64 9] 3 (0, 0))) rfl rfl)).order [1, 0]
  refine (base_SameInts _ _ _ _ _ _ (by simp) h8).mono ?_
  rintro e w8 ⟨rfl, h9⟩
  have h10 := h9.tail.tail
  go_wp2_with fail
  have o1 := ring_Place _ _ _ _ 9 _ h10
  rw [S.out.2] at o1
  refine o1.mono ?_
  clear o1
  rintro e w9 ⟨rfl, h11⟩
  go_wp2_with fail
  refine (ring_Room _ _ _ _ _ h11).mono ?_
  rintro e w10 ⟨rfl, h12⟩
  go_wp2_with fail
  go_ret
  exact ⟨rfl, h12.tail⟩
end Go.Proofs.Ytfkpcmlajdmnfaa
