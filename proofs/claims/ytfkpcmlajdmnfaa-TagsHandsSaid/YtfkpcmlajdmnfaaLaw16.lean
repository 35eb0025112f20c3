/- The example of chapter 16. -/
import Derived.Test.YtfkpcmlajdmnfaaRef16C
import Derived.Test.YtfkpcmlajdmnfaaBase
namespace Go.Proofs.Ytfkpcmlajdmnfaa
open Go Go.RowKit Go.MapKept
set_option maxRecDepth 100000
set_option linter.unusedVariables false

theorem holds.newInts16 {w : World} {F : List HProp} {n : Nat} {cur : Array Value} (l : List Int) (h : holds w (blk n (.cells cur 3 (0, 0)) :: F)) (hc : cur.toList = ints l) (hl : cur.size = l.length) :
    holds w (roInts (.slice (some ⟨n, 0, none⟩) l.length l.length) l :: F) := by
  have h2 := h.share.mkRo (size := 1) (off := 0) (n := l.length) (cap := l.length) (Nat.le_refl _) (by omega)
  rw [List.drop_zero, List.take_of_length_le (by simp; omega), hc] at h2
  exact h2

theorem law16_works (w : World) (F : List HProp) (hw : holds w F) :
    Calls Try.prog 34 #[] w fun e w' => e = .returned (.bool true) ∧ holds w' F := by
  have s1 : Tags.own [(0, 0), (0, 0), (0, 0), (0, 0)] 2 7 = (0, [(0, 0), (0, 0), (7, 0), (0, 0)]) := by decide
  have s2 : Tags.own [(0, 0), (0, 0), (7, 0), (0, 0)] 0 7 = (0, [(7, 0), (0, 0), (7, 0), (0, 0)]) := by decide
  have s3 : Tags.own [(7, 0), (0, 0), (7, 0), (0, 0)] 0 8 = (19, [(7, 0), (0, 0), (7, 0), (0, 0)]) := by decide
  have s4 : ofs (([(7, 0), (0, 0), (7, 0), (0, 0)] : List (Int × Int)).map (·.1)) 7 = [0, 2] := by decide
  have s5 : Tags.leave [(7, 0), (0, 0), (7, 0), (0, 0)] 0 = (0, [(0, 0), (0, 0), (7, 0), (0, 0)]) := by decide
  have s6 : Tags.raise [(0, 0), (0, 0), (7, 0), (0, 0)] 0 = (0, [(0, 1), (0, 0), (7, 0), (0, 0)]) := by decide
  have s8 : cnt [(0, 1), (0, 0), (7, 0), (0, 0)] 7 = 1 := by decide
  have S := Lib.hid (And.intro s1 (And.intro s2 (And.intro s3 (And.intro s4 (And.intro s5 (And.intro s6 s8))))))
  clear s1 s2 s3 s4 s5 s6 s8
  go_enter Try.func34, Try.ntmps34
  go_wp2_with fail
  refine (tags_New _ 4 _ (by decide) (by decide) hw).mono ?_
  rintro e w1 ⟨v, rfl, h1⟩
  rw [show List.replicate (4 : Int).toNat ((0 : Int), (0 : Int)) = [(0, 0), (0, 0), (0, 0), (0, 0)] from rfl] at h1
  go_wp2_with fail
  have o1 := tags_Own _ _ _ 2 7 _ (by decide) h1
  rw [S.out.1] at o1
  refine o1.mono ?_
  clear o1
  rintro e w2 ⟨rfl, h2⟩
  go_wp2_with fail
  have o1 := tags_Own _ _ _ 0 7 _ (by decide) h2
  rw [S.out.2.1] at o1
  refine o1.mono ?_
  clear o1
  rintro e w3 ⟨rfl, h3⟩
  go_wp2_with fail
  have o1 := tags_Own _ _ _ 0 8 _ (by decide) h3
  rw [S.out.2.2.1] at o1
  refine o1.mono ?_
  clear o1
  rintro e w4 ⟨rfl, h4⟩
  go_wp2_with fail
  have o1 := tags_Of _ _ _ 7 _ (by decide) h4
  rw [S.out.2.2.2.1] at o1
  refine o1.mono ?_
  clear o1
  rintro e w5 ⟨v5, rfl, h5⟩
  go_wp2_with fail
  have h6 := ((holds.newInts16 [0, 2] (h5.shareInts.alloc (.cells #[.int .i64 0, .int .i64 2] 3 (0, 0))) rfl rfl)).order [1, 0]
  refine (base_SameInts _ _ _ _ _ _ (by simp) h6).mono ?_
  rintro e w6 ⟨rfl, h7⟩
  have h8 := h7.tail.tail
  go_wp2_with fail
  have o1 := tags_Leave _ _ _ 0 _ (by decide) h8
  rw [S.out.2.2.2.2.1] at o1
  refine o1.mono ?_
  clear o1
  rintro e w7 ⟨rfl, h9⟩
  go_wp2_with fail
  have o1 := tags_Raise _ _ _ 0 _ (by decide) (by decide) h9
  rw [S.out.2.2.2.2.2.1] at o1
  refine o1.mono ?_
  clear o1
  rintro e w8 ⟨rfl, h10⟩
  go_wp2_with fail
  refine (tags_Gen _ _ _ 0 _ (by decide) h10).mono ?_
  rintro e w9 ⟨rfl, h11⟩
  go_wp2_with fail
  have o1 := tags_Count _ _ _ 7 _ h11
  rw [S.out.2.2.2.2.2.2] at o1
  refine o1.mono ?_
  clear o1
  rintro e w10 ⟨rfl, h12⟩
  go_wp2_with fail
  go_ret
  exact ⟨rfl, h12.tail⟩

end Go.Proofs.Ytfkpcmlajdmnfaa
