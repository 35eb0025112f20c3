/- Contracts for the laws of chapter 41: the reference's Add, at any piece; the program's tellers, of what the reference tells. -/
import Derived.Test.YtlniadnlomnlaaaLvA
import Derived.Test.YtlniadnlomnlaaaLvEq
import Derived.Test.YtlniadnlomnlaaaLvZ
import Derived.Test.YtlniadnlomnlaaaGoRow
namespace Go.Proofs.Ytlniadnlomnlaaa
open Go Go.RowKit Go.MapKept
set_option linter.unusedVariables false
set_option linter.unusedSimpArgs false
set_option maxRecDepth 100000
set_option maxHeartbeats 4000000

theorem ref41_Add (v : Value) (l : List LaidM) (x : LaidM) (hl : l.length < 1099511627776) (hs : ∀ (j : Nat) (h : j < l.length), SpOk ⟨l[j].pos, l[j].len⟩) (w : World) (F : List HProp) (hw : holds w (owns 28 encLaid 5 v l :: F)) :
    Ct Try.prog 13 #[v, .agg (encLaid x).toArray] w fun e w' => ∃ r : {s : List LaidM × Int × Int // Lv.RefAdd l x s} × Value, e = .returned (.tuple #[r.2, .int .i64 r.1.1.2.1, .int .i64 r.1.1.2.2]) ∧ holds w' (owns 28 encLaid 5 r.2 r.1.1.1 :: F) := by
  by_cases hb : Live.Bad x
  · exact (ref41_Add_bad v l x hb w _ hw).mono fun e w' h => ⟨(⟨_, .bad hb⟩, v), h⟩
  have hg := Lv.good_of_not_bad hb
  by_cases h1 : ∃ (j : Nat) (hj : j < l.length), Live.Old x l[j]
  · obtain ⟨j, hj, ho⟩ := h1
    exact (ref41_Add_old v l x hb hl j hj ho w _ hw).mono fun e w' h => ⟨(⟨_, .old hb j hj ho⟩, v), h⟩
  have hno : ∀ (j : Nat) (h : j < l.length), ¬ Live.Old x l[j] := fun j h ho => h1 ⟨j, h, ho⟩
  by_cases h2 : ∃ (j : Nat) (hj : j < l.length), Live.Twice x l[j]
  · obtain ⟨j, hj, ht⟩ := h2
    exact (ref41_Add_twice v l x hb hl (Lv.SpOk.of_good hg) hs hno j hj ht w _ hw).mono fun e w' h => ⟨(⟨_, .twice hb hno j hj ht⟩, v), h⟩
  have hnt : ∀ (j : Nat) (h : j < l.length), ¬ Live.Twice x l[j] := fun j h ho => h2 ⟨j, h, ho⟩
  refine (ref41_Add_yes v l x hb hl (Lv.SpOk.of_good hg) hs hno hnt w _ hw).mono fun e w' h => ?_
  obtain ⟨y, h3, h4⟩ := h
  exact ⟨(⟨_, .yes hb hno hnt y.1.1 y.1.2⟩, y.2), h3, h4.sub⟩
theorem Hdl.put_lt (k c g o : Int) (hk : k ≤ 3) : (Hdl.put k c g o).1 < 4611686018427387904 := by
  unfold Hdl.put
  split
  · simp
  · split
    · simp
    · unfold Hdl.Beyond at *; simp only; omega
theorem Lv.RefAdd.lt {l : List LaidM} {x : LaidM} {s : List LaidM × Int × Int} (h : Lv.RefAdd l x s) : s.2.1 < 4611686018427387904 := by
  cases h with
  | yes _ _ _ a ha => exact Hdl.put_lt _ _ _ _ (by omega)
  | _ => simp
section
variable {M : LvM} {l : List LaidM} (p : Nat) (hI : Lv.Inv M l)
include hI
theorem liv_Find (x : Int) (hx : x < 9223372036854775808) (w : World) (F : List HProp) (hw : holds w (livP p M :: F)) :
    Ct Try.prog 15 #[.pointer (some ⟨p, 0, none⟩), .int .i64 x] w fun e w' => e = .returned (.tuple #[.agg (encLaid (Live.find l x).1).toArray, .int .i64 (Live.find l x).2]) ∧ holds w' (livP p M :: F) := by
  have := live_Find p M hI.ok x hx w F hw
  rw [hI.find] at this
  exact this
theorem liv_In (i : Int) (w : World) (F : List HProp) (hw : holds w (livP p M :: F)) :
    Ct Try.prog 18 #[.pointer (some ⟨p, 0, none⟩), .int .i64 i] w fun e w' => ∃ u, e = .returned u ∧ holds w' (owns 28 encLaid 5 u (Live.lin l i) :: livP p M :: F) := by
  have := live_In p M hI.ok i w F hw
  rw [← hI.ins] at this
  exact this
theorem liv_Drop (i : Int) (w : World) (F : List HProp) (hw : holds w (livP p M :: F)) :
    Ct Try.prog 12 #[.pointer (some ⟨p, 0, none⟩), .int .i64 i] w fun e w' => e = .returned (.int .i64 (Live.lin l i).length) ∧ holds w' (livP p (alDel M i) :: F) := by
  have := live_Drop p M hI.ok i w F hw
  rw [← hI.ins] at this
  exact this
theorem liv_All (hl : l.length ≤ 1000000) (w : World) (F : List HProp) (hw : holds w (livP p M :: F)) :
    Ct Try.prog 19 #[.pointer (some ⟨p, 0, none⟩)] w fun e w' => ∃ u, e = .returned u ∧ holds w' (owns 28 encLaid 5 u l :: livP p M :: F) := by
  have hc := hI.count
  have he : Lv.all M = l := hI.all
  have := live_All p M hI.ok hI.keyOk (by omega) (by rw [he]; exact hl) w F hw
  rw [he] at this
  exact this
theorem liv_Len (hl : l.length ≤ 1000000) (w : World) (F : List HProp) (hw : holds w (livP p M :: F)) :
    Ct Try.prog 20 #[.pointer (some ⟨p, 0, none⟩)] w fun e w' => e = .returned (.int .i64 l.length) ∧ holds w' (livP p M :: F) := by
  have hc := hI.count
  have he : Lv.all M = l := hI.all
  have := live_Len p M hI.ok hI.keyOk (by omega) (by rw [he]; exact hl) w F hw
  rw [he] at this
  exact this
theorem liv_Bytes (hl : l.length ≤ 64) (w : World) (F : List HProp) (hw : holds w (livP p M :: F)) :
    Ct Try.prog 21 #[.pointer (some ⟨p, 0, none⟩)] w fun e w' => e = .returned (.int .i64 (Live.bytes l)) ∧ holds w' (livP p M :: F) := by
  have hc := hI.count
  have he : Lv.all M = l := hI.all
  have := live_Bytes p M hI.ok hI.keyOk (by omega) (by rw [he]; exact hl) (by rw [he]; exact fun x hx => ⟨by have := (hI.good x hx).l0; omega, (hI.good x hx).l0.2⟩) w F hw
  rw [he] at this
  exact this
theorem liv_Of (hl : l.length ≤ 1000000) (r : Int) (w : World) (F : List HProp) (hw : holds w (livP p M :: F)) :
    Ct Try.prog 29 #[.pointer (some ⟨p, 0, none⟩), .int .i64 r] w fun e w' => ∃ u, e = .returned u ∧ holds w' (owns 28 encLaid 5 u (l.filter fun x => decide (x.region = r)) :: livP p M :: F) := by
  have hc := hI.count
  have he : Lv.all M = l := hI.all
  have := live_Of p M hI.ok hI.keyOk (by omega) (by rw [he]; exact hl) r w F hw
  rw [he] at this
  exact this
theorem liv_At (i x : Int) (hx : x ≤ 9223372036854775807) (w : World) (F : List HProp) (hw : holds w (livP p M :: F)) :
    Ct Try.prog 24 #[.pointer (some ⟨p, 0, none⟩), .int .i64 i, .int .i64 x] w fun e w' => e = .returned (.tuple #[.int .i64 (Live.atOf l i x).1, .int .i64 (Live.atOf l i x).2]) ∧ holds w' (livP p M :: F) := by
  have := live_At p M hI.ok i x hx w F hw
  rw [hI.atOf] at this
  exact this
end
end Go.Proofs.Ytlniadnlomnlaaa
