import Derived.Test.YtipkgamiejenaaaGreatMg18

import Derived.Test.YtipkgamiejenaaaGreatTypes
import Derived.Test.YtipkgamiejenaaaGreatChecked
import Derived.Test.YtipkgamiejenaaaGreatMg6
/- Spans: what is added, which has a number. -/
namespace Go.Proofs.YtipkgamiejenaaaGreat
open Go Go.RowKit Go.MapKept
set_option linter.unusedVariables false
set_option linter.unusedSimpArgs false
set_option maxRecDepth 100000
set_option maxHeartbeats 4000000

theorem Spn.near {l : List SpanM} (hR : SpR l) {s : SpanM} (hs : SpOk s) {k : Nat} (hk : Spn.IsLow l s.pos k) {i : Nat} (hi : i < l.length) (hm : Spn.Meet l[i] s) :
    (∃ h : k < l.length, Spn.Meet l[k] s) ∨ (0 < k ∧ ∃ h : ((k : Int) - 1).toNat < l.length, Spn.Meet l[((k : Int) - 1).toNat] s) := by
  obtain ⟨m1, m2⟩ := hm
  by_cases h1 : i < k
  · right
    have hk1 : ((k : Int) - 1).toNat < l.length := by have := hk.le; omega
    refine ⟨by omega, hk1, ?_⟩
    by_cases h2 : i = ((k : Int) - 1).toNat
    · subst h2; exact ⟨m1, m2⟩
    · have h3 := hR.ord i _ (show i < ((k : Int) - 1).toNat by omega) hk1
      have h4 := hk.lo _ hk1 (by omega)
      exact absurd m2 (by omega)
  · left
    have hkl : k < l.length := by omega
    refine ⟨hkl, ?_⟩
    by_cases h2 : i = k
    · subst h2; exact ⟨m1, m2⟩
    · have h3 := hR.ord k i (by omega) hi
      have h4 := hk.hi k hkl (Nat.le_refl _)
      have h5 := (hR.ok k hkl).l0
      constructor <;> omega
theorem spans_Add_no (v : Value) (l : List SpanM) (s : SpanM) (hR : SpR l) (hs : SpOk s) (i : Nat) (hi : i < l.length) (hm : Spn.Meet l[i] s) (w : World) (F : List HProp) [Reads F v encSp 2 l] (hw : holds w F) :
    Ct Tryz.prog 89 #[v, .agg (encSp s).toArray] w fun e w' => e = .returned (.tuple #[.slice none 0 0, .bool false]) ∧ holds w' F := by
  have hfew := hR.few
  refine Ct.go (args := [v, .agg (encSp s).toArray]) Tryz.func89 rfl rfl rfl hw ?_
  repeat' (first | first | (apply qae; first | refine qa8 rfl ?_ | (apply qak; first | refine qaj rfl rfl rfl rfl rfl ?_ | refine qaf rfl rfl rfl rfl rfl ?_ | refine qag rfl rfl rfl rfl rfl ?_) | refine qan rfl rfl ?_ | refine qap rfl rfl rfl ?_ | refine qao rfl rfl rfl ?_ | (apply qax; first | refine qa6 rfl rfl (fun _ => ?_) | refine qa7 rfl rfl rfl (fun _ => ?_) | refine GL.box rfl rfl (fun _ => ?_)) | (apply qai; first | refine qaa rfl rfl rfl rfl rfl (fun _ => ?_) | refine qac rfl rfl rfl rfl rfl (fun _ => ?_)) | (apply qab; refine qam _ rfl rfl rfl rfl (by rfl) (by omega) (by omega) rfl (fun _ => ?_)) | (apply qal; refine GL.alloc rfl (fun _ => ?_))) | apply GL.nil | first | apply G.seq | apply G.region | apply G.block | apply G.skip | apply G.exit | apply G.ret | (apply qah; first | refine qbe rfl ?_ | refine qbf rfl ?_) | refine qbj (by kernel_rfl) (by kernel_rfl) ?_ | (apply qa4; first | apply qa5 | apply qa2 | apply qas | apply qat | apply qa3 | apply qa1 | apply qaq | refine qar rfl ?_ | apply qba) | (apply qad; first | refine qbb rfl ?_ | refine qau rfl rfl ?_ | refine qaw rfl rfl rfl ?_ | refine qav rfl rfl rfl ?_) | apply qbd | apply qbc | (apply qa0; refine qa9 rfl rfl ?_) | ((first | (apply qae; refine GL.guard rfl rfl (fun hc => ?_) (fun hc => ?_)) | (apply qah; refine G.cond rfl (fun hc => ?_) (fun hc => ?_)) | (apply qad; refine GD.guard rfl rfl (fun hc => ?_) (fun hc => ?_))) <;> ((try simp only [decide_eq_true_eq, decide_eq_false_iff_not, Bool.not_true, Bool.not_false, ne_eq, Classical.not_not, Int.not_lt, Int.not_le] at hc); (try (exfalso; first | omega | exact hc trivial | exact hc rfl)))) | (first | first | (apply qab; refine qbg rfl rfl (fun w h => spans_Right v l hR w _ h) ?_) | (apply qad; refine GD.call rfl rfl (fun w F' h => spans_Right v l hR w _ h) ?_) | first | (apply qab; refine qbg rfl rfl (fun w h => spans_whole _ hs w _ h) ?_) | (apply qad; refine GD.call rfl rfl (fun w F' h => spans_whole _ hs w _ h) ?_) | (apply qab; refine GL.call rfl rfl (fun w h => spans_place v l hR _ w _ h) (fun ⟨⟨k, hk⟩, b⟩ => ?_); dsimp only; have hn := Spn.near hR hs hk hi hm; have hkl := hk.le; have hok1 : ∀ h : k < l.length, SpOk l[k] := fun h => hR.ok k h; have hok2 : ∀ h : ((k : Int) - 1).toNat < l.length, SpOk l[((k : Int) - 1).toNat] := fun h => hR.ok _ h) | (apply qad; refine GD.call rfl rfl (fun w F' h => spans_Meet _ _ (by first | exact hok1 _ | exact hok2 _) hs w _ h) ?_)))
  all_goals first | (refine qbh rfl (by (repeat (first | apply Res.nil | (apply Res.tmp; rfl) | (refine qay rfl rfl rfl ?_) | (refine qaz rfl rfl ?_)))) (fun w h => ?_); exact ⟨rfl, h.sub⟩) | (exfalso; rcases hn with ⟨h1, h2⟩ | ⟨h0, h1, h2⟩ <;> first | exact absurd h2 (by assumption) | omega)
theorem spans_Add_yes (v : Value) (l : List SpanM) (s : SpanM) (hR : SpR l) (hs : SpOk s) (hm : ∀ (i : Nat) (hi : i < l.length), ¬ Spn.Meet l[i] s) (w : World) (F : List HProp) [Reads F v encSp 2 l] (hw : holds w F) :
    Ct Tryz.prog 89 #[v, .agg (encSp s).toArray] w fun e w' => ∃ x : {k : Nat // Spn.IsLow l s.pos k} × Value, e = .returned (.tuple #[x.2, .bool true]) ∧ holds w' (owns 165 encSp 2 x.2 (l.take x.1.1 ++ [s] ++ l.drop x.1.1) :: F) := by
  have hfew := hR.few
  refine Ct.go (args := [v, .agg (encSp s).toArray]) Tryz.func89 rfl rfl rfl hw ?_
  repeat' (first | (first | (refine qbk 6 ?_; refine G.drawTok [⟨some 4, [], some 7, 52, NU, fun u => owns 165 encSp 2 u ((l.take k).drop 0)⟩, ⟨some 6, [], some 7, 54, NU, fun u => owns 165 encSp 2 u [s]⟩, ⟨some 7, [0, 1], some 11, 55, NU, fun u => owns 165 encSp 2 u ((l.take k).drop 0 ++ [s])⟩, ⟨some 11, [2], none, 59, NU, fun u => owns 165 encSp 2 u ((l.take k).drop 0 ++ [s] ++ (l.take l.length).drop k)⟩] [] [3] (by kernel_rfl) (by kernel_rfl) rfl trivial ?_) | (apply qa0; first | refine GT.eff (i := 0) rfl rfl rfl rfl rfl (trivial) rfl (Does.call rfl (fun w F' h => spans_Clone _ _ (by first | omega | (simp only [List.length_nil, List.length_append, List.length_cons, List.length_take, List.length_drop] <;> omega)) w _ h)) rfl (fun u0 hu0 => ?_) | refine GT.eff (i := 1) rfl rfl rfl rfl rfl (trivial) rfl (Does.build1 s rfl (by decide) rfl rfl) rfl (fun u1 hu1 => ?_) | refine GT.eff (i := 2) rfl rfl rfl rfl rfl (⟨⟨_, rfl, .inr ⟨_, rfl, hu0⟩⟩, ⟨_, rfl, .inr ⟨_, rfl, hu1⟩⟩, trivial⟩) rfl (Does.append rfl rfl rfl (by first | omega | (simp only [List.length_nil, List.length_append, List.length_cons, List.length_take, List.length_drop] <;> omega)) (by first | omega | (simp only [List.length_nil, List.length_append, List.length_cons, List.length_take, List.length_drop] <;> omega))) rfl (fun u2 hu2 => ?_) | refine GT.eff (i := 3) rfl rfl rfl rfl rfl (⟨⟨_, rfl, .inr ⟨_, rfl, hu2⟩⟩, trivial⟩) rfl (Does.appendR rfl rfl rfl rfl rfl (by first | omega | (simp only [List.length_nil, List.length_append, List.length_cons, List.length_take, List.length_drop] <;> omega)) (by first | omega | (simp only [List.length_nil, List.length_append, List.length_cons, List.length_take, List.length_drop] <;> omega))) rfl (fun u3 hu3 => ?_)) | refine GT.nilE rfl ⟨⟨_, rfl, .inr ⟨_, rfl, hu3⟩⟩, trivial⟩ ?_ | first | (apply qab; refine qbg rfl rfl (fun w h => spans_Right v l hR w _ h) ?_) | (apply qad; refine GD.call rfl rfl (fun w F' h => spans_Right v l hR w _ h) ?_) | first | (apply qab; refine qbg rfl rfl (fun w h => spans_whole _ hs w _ h) ?_) | (apply qad; refine GD.call rfl rfl (fun w F' h => spans_whole _ hs w _ h) ?_) | (apply qab; refine GL.call rfl rfl (fun w h => spans_place v l hR _ w _ h) (fun ⟨⟨k, hk⟩, b⟩ => ?_); dsimp only; have hkl := hk.le; have hok1 : ∀ h : k < l.length, SpOk l[k] := fun h => hR.ok k h; have hok2 : ∀ h : ((k : Int) - 1).toNat < l.length, SpOk l[((k : Int) - 1).toNat] := fun h => hR.ok _ h) | (apply qad; refine GD.call rfl rfl (fun w F' h => spans_Meet _ _ (by first | exact hok1 _ | exact hok2 _) hs w _ h) ?_)) | first | (apply qae; first | refine qa8 rfl ?_ | (apply qak; first | refine qaj rfl rfl rfl rfl rfl ?_ | refine qaf rfl rfl rfl rfl rfl ?_ | refine qag rfl rfl rfl rfl rfl ?_) | refine qan rfl rfl ?_ | refine qap rfl rfl rfl ?_ | refine qao rfl rfl rfl ?_ | (apply qax; first | refine qa6 rfl rfl (fun _ => ?_) | refine qa7 rfl rfl rfl (fun _ => ?_) | refine GL.box rfl rfl (fun _ => ?_)) | (apply qai; first | refine qaa rfl rfl rfl rfl rfl (fun _ => ?_) | refine qac rfl rfl rfl rfl rfl (fun _ => ?_)) | (apply qab; refine qam _ rfl rfl rfl rfl (by rfl) (by omega) (by omega) rfl (fun _ => ?_)) | (apply qal; refine GL.alloc rfl (fun _ => ?_))) | apply GL.nil | first | apply G.seq | apply G.region | apply G.block | apply G.skip | apply G.exit | apply G.ret | (apply qah; first | refine qbe rfl ?_ | refine qbf rfl ?_) | refine qbj (by kernel_rfl) (by kernel_rfl) ?_ | (apply qa4; first | apply qa5 | apply qa2 | apply qas | apply qat | apply qa3 | apply qa1 | apply qaq | refine qar rfl ?_ | apply qba) | (apply qad; first | refine qbb rfl ?_ | refine qau rfl rfl ?_ | refine qaw rfl rfl rfl ?_ | refine qav rfl rfl rfl ?_) | apply qbd | apply qbc | (apply qa0; refine qa9 rfl rfl ?_) | ((first | (apply qae; refine GL.guard rfl rfl (fun hc => ?_) (fun hc => ?_)) | (apply qah; refine G.cond rfl (fun hc => ?_) (fun hc => ?_)) | (apply qad; refine GD.guard rfl rfl (fun hc => ?_) (fun hc => ?_))) <;> ((try simp only [decide_eq_true_eq, decide_eq_false_iff_not, Bool.not_true, Bool.not_false, ne_eq, Classical.not_not, Int.not_lt, Int.not_le] at hc); (try (exfalso; first | omega | exact hc trivial | exact hc rfl)))))
  all_goals first | (exfalso; exact hm _ _ hc) | skip
  all_goals
    refine qbh rfl (by (repeat (first | apply Res.nil | (apply Res.tmp; rfl) | (refine qay rfl rfl rfl ?_) | (refine qaz rfl rfl ?_)))) (fun w h => ?_)
    have h2 : holds w (owns 165 encSp 2 u3 ((l.take k).drop 0 ++ [s] ++ (l.take l.length).drop k) :: blk _ _ :: F) := h
    rw [List.drop_zero, List.take_length] at h2
    exact ⟨(⟨k, hk⟩, u3), rfl, show holds w (owns 165 encSp 2 u3 (l.take k ++ [s] ++ l.drop k) :: F) from h2.sub⟩
theorem spans_Find1 (s : SpanM) (hs : SpOk s) (x : Int) (hx : x ≤ 9223372036854775807) (b : Nat) (w : World) (F : List HProp) [SeesBlk F b #[.int .i64 x]] (hw : holds w F) :
    Ct Tryz.prog 211 #[.agg (encSp s).toArray, .pointer (some ⟨b, 0, none⟩)] w fun e w' => e = .returned (.bool (decide (s.pos ≤ x ∧ x - s.pos < s.len))) ∧ holds w' F := by
  obtain ⟨p0, p1, l0, l1⟩ := hs
  refine Ct.go (args := [.agg (encSp s).toArray, .pointer (some ⟨b, 0, none⟩)]) Tryz.func211 rfl rfl rfl hw ?_
  repeat' (first | (apply qae; first | refine qa8 rfl ?_ | (apply qak; first | refine qaj rfl rfl rfl rfl rfl ?_ | refine qaf rfl rfl rfl rfl rfl ?_ | refine qag rfl rfl rfl rfl rfl ?_) | refine qan rfl rfl ?_ | refine qap rfl rfl rfl ?_ | refine qao rfl rfl rfl ?_ | (apply qax; first | refine qa6 rfl rfl (fun _ => ?_) | refine qa7 rfl rfl rfl (fun _ => ?_) | refine GL.box rfl rfl (fun _ => ?_)) | (apply qai; first | refine qaa rfl rfl rfl rfl rfl (fun _ => ?_) | refine qac rfl rfl rfl rfl rfl (fun _ => ?_)) | (apply qab; refine qam _ rfl rfl rfl rfl (by rfl) (by omega) (by omega) rfl (fun _ => ?_)) | (apply qal; refine GL.alloc rfl (fun _ => ?_))) | apply GL.nil | first | apply G.seq | apply G.region | apply G.block | apply G.skip | apply G.exit | apply G.ret | (apply qah; first | refine qbe rfl ?_ | refine qbf rfl ?_) | refine qbj (by kernel_rfl) (by kernel_rfl) ?_ | (apply qa4; first | apply qa5 | apply qa2 | apply qas | apply qat | apply qa3 | apply qa1 | apply qaq | refine qar rfl ?_ | apply qba) | (apply qad; first | refine qbb rfl ?_ | refine qau rfl rfl ?_ | refine qaw rfl rfl rfl ?_ | refine qav rfl rfl rfl ?_) | apply qbd | apply qbc | (apply qa0; refine qa9 rfl rfl ?_) | ((first | (apply qae; refine GL.guard rfl rfl (fun hc => ?_) (fun hc => ?_)) | (apply qah; refine G.cond rfl (fun hc => ?_) (fun hc => ?_)) | (apply qad; refine GD.guard rfl rfl (fun hc => ?_) (fun hc => ?_))) <;> ((try simp only [decide_eq_true_eq, decide_eq_false_iff_not, Bool.not_true, Bool.not_false, ne_eq, Classical.not_not, Int.not_lt, Int.not_le] at hc); (try (exfalso; first | omega | exact hc trivial | exact hc rfl)))))
  all_goals
    refine qbi rfl (by (repeat (first | apply Res.nil | (apply Res.tmp; rfl) | (refine qay rfl rfl rfl ?_) | (refine qaz rfl rfl ?_)))) (fun w h => ?_)
    exact ⟨by congr 2; (first | rfl | (rw [decide_eq_decide]; omega) | (symm; rw [decide_eq_false_iff_not]; omega) | (symm; rw [decide_eq_true_eq]; omega)), h.sub⟩
end Go.Proofs.YtipkgamiejenaaaGreat

/- Spans: which has a number, holes. -/
namespace Go.Proofs.YtipkgamiejenaaaGreat
open Go Go.RowKit Go.MapKept
set_option linter.unusedVariables false
set_option linter.unusedSimpArgs false
set_option maxRecDepth 100000
set_option maxHeartbeats 4000000

abbrev Spn.Has (x : Int) (s : SpanM) : Prop := s.pos ≤ x ∧ x - s.pos < s.len
/-- The first that has the number. -/
structure Spn.IsFind (l : List SpanM) (x : Int) (r : Int) : Prop where
  no : (∀ (m : Nat) (h : m < l.length), ¬ Spn.Has x l[m]) → r = -1
  yes : ∀ (m : Nat) (h : m < l.length), Spn.Has x l[m] → (∀ (j : Nat) (h : j < l.length), j < m → ¬ Spn.Has x l[j]) → r = m
theorem spans_IndexFunc (v : Value) (l : List SpanM) (hR : SpR l) (x : Int) (hx : x ≤ 9223372036854775807) (b : Nat) (w : World) (F : List HProp) [Reads F v encSp 2 l] [SeesBlk F b #[.int .i64 x]] (hw : holds w F) :
    Ct Tryz.prog 210 #[v, .func (.func 211) #[] #[.pointer (some ⟨b, 0, none⟩)]] w fun e w' => ∃ r : {r : Int // Spn.IsFind l x r}, e = .returned (.int .i64 r.1) ∧ holds w' F := by
  have hfew := hR.few
  refine Ct.go (args := [v, .func (.func 211) #[] #[.pointer (some ⟨b, 0, none⟩)]]) Tryz.func210 rfl rfl rfl hw ?_
  repeat' (first | (apply qae; first | refine qa8 rfl ?_ | (apply qak; first | refine qaj rfl rfl rfl rfl rfl ?_ | refine qaf rfl rfl rfl rfl rfl ?_ | refine qag rfl rfl rfl rfl rfl ?_) | refine qan rfl rfl ?_ | refine qap rfl rfl rfl ?_ | refine qao rfl rfl rfl ?_ | (apply qax; first | refine qa6 rfl rfl (fun _ => ?_) | refine qa7 rfl rfl rfl (fun _ => ?_) | refine GL.box rfl rfl (fun _ => ?_)) | (apply qai; first | refine qaa rfl rfl rfl rfl rfl (fun _ => ?_) | refine qac rfl rfl rfl rfl rfl (fun _ => ?_)) | (apply qab; refine qam _ rfl rfl rfl rfl (by rfl) (by omega) (by omega) rfl (fun _ => ?_)) | (apply qal; refine GL.alloc rfl (fun _ => ?_))) | apply GL.nil | first | apply G.seq | apply G.region | apply G.block | apply G.skip | apply G.exit | apply G.ret | (apply qah; first | refine qbe rfl ?_ | refine qbf rfl ?_) | refine qbj (by kernel_rfl) (by kernel_rfl) ?_ | (apply qa4; first | apply qa5 | apply qa2 | apply qas | apply qat | apply qa3 | apply qa1 | apply qaq | refine qar rfl ?_ | apply qba) | (apply qad; first | refine qbb rfl ?_ | refine qau rfl rfl ?_ | refine qaw rfl rfl rfl ?_ | refine qav rfl rfl rfl ?_) | apply qbd | apply qbc | (apply qa0; refine qa9 rfl rfl ?_) | ((first | (apply qae; refine GL.guard rfl rfl (fun hc => ?_) (fun hc => ?_)) | (apply qah; refine G.cond rfl (fun hc => ?_) (fun hc => ?_)) | (apply qad; refine GD.guard rfl rfl (fun hc => ?_) (fun hc => ?_))) <;> ((try simp only [decide_eq_true_eq, decide_eq_false_iff_not, Bool.not_true, Bool.not_false, ne_eq, Classical.not_not, Int.not_lt, Int.not_le] at hc); (try (exfalso; first | omega | exact hc trivial | exact hc rfl)))))
  refine G.loop (α := Nat) (fun y => [(0, v), (1, .func (.func 211) #[] #[.pointer (some ⟨b, 0, none⟩)]), (7, .int .i64 l.length), (8, .int .i64 y)]) (fun y => F) (fun y => y ≤ l.length ∧ ∀ (m : Nat) (h : m < l.length), m < y → ¬ Spn.Has x l[m]) (fun y => l.length - y) 0 ⟨by simp, fun m h h0 => by simp at h0⟩ ⟨rfl, rfl, rfl, rfl, trivial⟩ (fun w h => h) ?_
  rintro k ⟨hk, hno⟩
  by_cases hlt : k < l.length
  · have hok := hR.ok k hlt
    repeat' (first | first | (apply qae; first | refine qa8 rfl ?_ | (apply qak; first | refine qaj rfl rfl rfl rfl rfl ?_ | refine qaf rfl rfl rfl rfl rfl ?_ | refine qag rfl rfl rfl rfl rfl ?_) | refine qan rfl rfl ?_ | refine qap rfl rfl rfl ?_ | refine qao rfl rfl rfl ?_ | (apply qax; first | refine qa6 rfl rfl (fun _ => ?_) | refine qa7 rfl rfl rfl (fun _ => ?_) | refine GL.box rfl rfl (fun _ => ?_)) | (apply qai; first | refine qaa rfl rfl rfl rfl rfl (fun _ => ?_) | refine qac rfl rfl rfl rfl rfl (fun _ => ?_)) | (apply qab; refine qam _ rfl rfl rfl rfl (by rfl) (by omega) (by omega) rfl (fun _ => ?_)) | (apply qal; refine GL.alloc rfl (fun _ => ?_))) | apply GL.nil | first | apply G.seq | apply G.region | apply G.block | apply G.skip | apply G.exit | apply G.ret | (apply qah; first | refine qbe rfl ?_ | refine qbf rfl ?_) | refine qbj (by kernel_rfl) (by kernel_rfl) ?_ | (apply qa4; first | apply qa5 | apply qa2 | apply qas | apply qat | apply qa3 | apply qa1 | apply qaq | refine qar rfl ?_ | apply qba) | (apply qad; first | refine qbb rfl ?_ | refine qau rfl rfl ?_ | refine qaw rfl rfl rfl ?_ | refine qav rfl rfl rfl ?_) | apply qbd | apply qbc | (apply qa0; refine qa9 rfl rfl ?_) | ((first | (apply qae; refine GL.guard rfl rfl (fun hc => ?_) (fun hc => ?_)) | (apply qah; refine G.cond rfl (fun hc => ?_) (fun hc => ?_)) | (apply qad; refine GD.guard rfl rfl (fun hc => ?_) (fun hc => ?_))) <;> ((try simp only [decide_eq_true_eq, decide_eq_false_iff_not, Bool.not_true, Bool.not_false, ne_eq, Classical.not_not, Int.not_lt, Int.not_le] at hc); (try (exfalso; first | omega | exact hc trivial | exact hc rfl)))) | ((apply qab; refine GL.callV1 (first := []) (captured := [.pointer (some ⟨b, 0, none⟩)]) rfl rfl rfl (fun w h => spans_Find1 _ hok x hx b w _ h) ?_)))
    · refine qbi rfl (by (repeat (first | apply Res.nil | (apply Res.tmp; rfl) | (refine qay rfl rfl rfl ?_) | (refine qaz rfl rfl ?_)))) (fun w h => ?_)
      refine ⟨⟨_, ⟨fun h0 => absurd hc (h0 k hlt), fun m hm h1 h2 => ?_⟩⟩, rfl, h.sub⟩
      have : k = m := by
        rcases Nat.lt_trichotomy k m with h3 | h3 | h3
        · exact absurd hc (h2 k hlt h3)
        · exact h3
        · exact absurd h1 (hno m hm h3)
      rw [this]
    · refine GE.round (k + 1) ⟨by omega, fun m h h0 => ?_⟩ ⟨rfl, rfl, rfl, rfl, trivial⟩ (fun w h => h.sub) (by omega)
      by_cases he : m = k
      · subst he; exact hc
      · exact hno m h (by omega)
  · repeat' (first | (apply qae; first | refine qa8 rfl ?_ | (apply qak; first | refine qaj rfl rfl rfl rfl rfl ?_ | refine qaf rfl rfl rfl rfl rfl ?_ | refine qag rfl rfl rfl rfl rfl ?_) | refine qan rfl rfl ?_ | refine qap rfl rfl rfl ?_ | refine qao rfl rfl rfl ?_ | (apply qax; first | refine qa6 rfl rfl (fun _ => ?_) | refine qa7 rfl rfl rfl (fun _ => ?_) | refine GL.box rfl rfl (fun _ => ?_)) | (apply qai; first | refine qaa rfl rfl rfl rfl rfl (fun _ => ?_) | refine qac rfl rfl rfl rfl rfl (fun _ => ?_)) | (apply qab; refine qam _ rfl rfl rfl rfl (by rfl) (by omega) (by omega) rfl (fun _ => ?_)) | (apply qal; refine GL.alloc rfl (fun _ => ?_))) | apply GL.nil | first | apply G.seq | apply G.region | apply G.block | apply G.skip | apply G.exit | apply G.ret | (apply qah; first | refine qbe rfl ?_ | refine qbf rfl ?_) | refine qbj (by kernel_rfl) (by kernel_rfl) ?_ | (apply qa4; first | apply qa5 | apply qa2 | apply qas | apply qat | apply qa3 | apply qa1 | apply qaq | refine qar rfl ?_ | apply qba) | (apply qad; first | refine qbb rfl ?_ | refine qau rfl rfl ?_ | refine qaw rfl rfl rfl ?_ | refine qav rfl rfl rfl ?_) | apply qbd | apply qbc | (apply qa0; refine qa9 rfl rfl ?_) | ((first | (apply qae; refine GL.guard rfl rfl (fun hc => ?_) (fun hc => ?_)) | (apply qah; refine G.cond rfl (fun hc => ?_) (fun hc => ?_)) | (apply qad; refine GD.guard rfl rfl (fun hc => ?_) (fun hc => ?_))) <;> ((try simp only [decide_eq_true_eq, decide_eq_false_iff_not, Bool.not_true, Bool.not_false, ne_eq, Classical.not_not, Int.not_lt, Int.not_le] at hc); (try (exfalso; first | omega | exact hc trivial | exact hc rfl)))))
    refine qbi rfl (by (repeat (first | apply Res.nil | (apply Res.tmp; rfl) | (refine qay rfl rfl rfl ?_) | (refine qaz rfl rfl ?_)))) (fun w h => ?_)
    exact ⟨⟨_, ⟨fun _ => rfl, fun m hm h1 _ => absurd h1 (hno m hm (by omega))⟩⟩, rfl, h.sub⟩
theorem spans_Find (v : Value) (l : List SpanM) (hR : SpR l) (x : Int) (hx : x ≤ 9223372036854775807) (w : World) (F : List HProp) [Reads F v encSp 2 l] (hw : holds w F) :
    Ct Tryz.prog 160 #[v, .int .i64 x] w fun e w' => ∃ r : {r : Int // Spn.IsFind l x r}, e = .returned (.int .i64 r.1) ∧ holds w' F := by
  refine Ct.go (args := [v, .int .i64 x]) Tryz.func160 rfl rfl rfl hw ?_
  repeat' (first | first | (apply qae; first | refine qa8 rfl ?_ | (apply qak; first | refine qaj rfl rfl rfl rfl rfl ?_ | refine qaf rfl rfl rfl rfl rfl ?_ | refine qag rfl rfl rfl rfl rfl ?_) | refine qan rfl rfl ?_ | refine qap rfl rfl rfl ?_ | refine qao rfl rfl rfl ?_ | (apply qax; first | refine qa6 rfl rfl (fun _ => ?_) | refine qa7 rfl rfl rfl (fun _ => ?_) | refine GL.box rfl rfl (fun _ => ?_)) | (apply qai; first | refine qaa rfl rfl rfl rfl rfl (fun _ => ?_) | refine qac rfl rfl rfl rfl rfl (fun _ => ?_)) | (apply qab; refine qam _ rfl rfl rfl rfl (by rfl) (by omega) (by omega) rfl (fun _ => ?_)) | (apply qal; refine GL.alloc rfl (fun _ => ?_))) | apply GL.nil | first | apply G.seq | apply G.region | apply G.block | apply G.skip | apply G.exit | apply G.ret | (apply qah; first | refine qbe rfl ?_ | refine qbf rfl ?_) | refine qbj (by kernel_rfl) (by kernel_rfl) ?_ | (apply qa4; first | apply qa5 | apply qa2 | apply qas | apply qat | apply qa3 | apply qa1 | apply qaq | refine qar rfl ?_ | apply qba) | (apply qad; first | refine qbb rfl ?_ | refine qau rfl rfl ?_ | refine qaw rfl rfl rfl ?_ | refine qav rfl rfl rfl ?_) | apply qbd | apply qbc | (apply qa0; refine qa9 rfl rfl ?_) | ((first | (apply qae; refine GL.guard rfl rfl (fun hc => ?_) (fun hc => ?_)) | (apply qah; refine G.cond rfl (fun hc => ?_) (fun hc => ?_)) | (apply qad; refine GD.guard rfl rfl (fun hc => ?_) (fun hc => ?_))) <;> ((try simp only [decide_eq_true_eq, decide_eq_false_iff_not, Bool.not_true, Bool.not_false, ne_eq, Classical.not_not, Int.not_lt, Int.not_le] at hc); (try (exfalso; first | omega | exact hc trivial | exact hc rfl)))) | (first | (apply qab; refine qbg rfl rfl (fun w h => spans_Right v l hR w _ h) ?_) | (apply qab; refine GL.call rfl rfl (fun w h => spans_IndexFunc v l hR x hx _ w _ h) (fun r => ?_))))
  refine qbi rfl (by (repeat (first | apply Res.nil | (apply Res.tmp; rfl) | (refine qay rfl rfl rfl ?_) | (refine qaz rfl rfl ?_)))) (fun w h => ?_)
  exact ⟨r, rfl, h.sub⟩
namespace Spn
def hst (e : Int) (o : List SpanM × Int) (s : SpanM) : List SpanM × Int := (o.1 ++ (if o.2 < min e s.pos then [⟨o.2, min e s.pos - o.2⟩] else []), s.pos + s.len)
def hpre (e : Int) (l : List SpanM) (k : Nat) : List SpanM × Int := (l.take k).foldl (hst e) ([], 0)
def holes (e : Int) (l : List SpanM) : List SpanM := (hpre e l l.length).1 ++ (if (hpre e l l.length).2 < e then [⟨(hpre e l l.length).2, e - (hpre e l l.length).2⟩] else [])
end Spn
end Go.Proofs.YtipkgamiejenaaaGreat

/- Contracts of package handle and of its reference: any handle of any numbers. -/
namespace Go.Proofs.YtipkgamiejenaaaGreat
open Go Go.RowKit Go.MapKept
set_option linter.unusedVariables false
set_option linter.unusedSimpArgs false
set_option maxRecDepth 100000
set_option maxHeartbeats 4000000

namespace Hdl
abbrev Beyond (n : Int) : Prop := n < 0 ∨ 1048576 ≤ n
def put (kind place gen off : Int) : Int × Int :=
  if kind < 1 ∨ 3 < kind then (0, 1) else if Beyond place ∨ Beyond gen ∨ Beyond off then (0, 6) else (((kind * 1048576 + place) * 1048576 + gen) * 1048576 + off, 0)
structure GetM where
  kind : Int
  place : Int
  gen : Int
  off : Int
  ok : Bool
def get (h : Int) : GetM := if 0 ≤ h ∧ 1 ≤ h / 1152921504606846976 ∧ h / 1152921504606846976 ≤ 3 then ⟨h / 1152921504606846976, h / 1099511627776 % 1048576, h / 1048576 % 1048576, h % 1048576, true⟩ else ⟨0, 0, 0, 0, false⟩
theorem put_k {kind place gen off : Int} (h : kind < 1 ∨ 3 < kind) : put kind place gen off = (0, 1) := by unfold put; rw [if_pos h]
theorem put_o {kind place gen off : Int} (h : ¬ (kind < 1 ∨ 3 < kind)) (h2 : Beyond place ∨ Beyond gen ∨ Beyond off) : put kind place gen off = (0, 6) := by unfold put; rw [if_neg h, if_pos h2]
theorem put_y {kind place gen off : Int} (h : ¬ (kind < 1 ∨ 3 < kind)) (h2 : ¬ (Beyond place ∨ Beyond gen ∨ Beyond off)) : put kind place gen off = (((kind * 1048576 + place) * 1048576 + gen) * 1048576 + off, 0) := by unfold put; rw [if_neg h, if_neg h2]
theorem get_n {h : Int} (hh : ¬ (0 ≤ h ∧ 1 ≤ h / 1152921504606846976 ∧ h / 1152921504606846976 ≤ 3)) : get h = ⟨0, 0, 0, 0, false⟩ := by unfold get; rw [if_neg hh]
theorem get_y {h : Int} (hh : 0 ≤ h ∧ 1 ≤ h / 1152921504606846976 ∧ h / 1152921504606846976 ≤ 3) : get h = ⟨h / 1152921504606846976, h / 1099511627776 % 1048576, h / 1048576 % 1048576, h % 1048576, true⟩ := by unfold get; rw [if_pos hh]
theorem d60 (x : Int) : x / 1152921504606846976 = x / 1048576 / 1048576 / 1048576 := by omega
theorem d40 (x : Int) : x / 1099511627776 = x / 1048576 / 1048576 := by omega
end Hdl
theorem ref07_beyond (n : Int) (w : World) (F : List HProp) (hw : holds w F) :
    Ct Tryz.prog 163 #[.int .i64 n] w fun e w' => e = .returned (.bool (decide (Hdl.Beyond n))) ∧ holds w' F := by
  refine Ct.go (args := [.int .i64 n]) Tryz.func163 rfl rfl rfl hw ?_
  repeat' (first | (apply qae; first | refine qa8 rfl ?_ | (apply qak; first | refine qaj rfl rfl rfl rfl rfl ?_ | refine qaf rfl rfl rfl rfl rfl ?_ | refine qag rfl rfl rfl rfl rfl ?_) | refine qan rfl rfl ?_ | refine qap rfl rfl rfl ?_ | refine qao rfl rfl rfl ?_ | (apply qax; first | refine qa6 rfl rfl (fun _ => ?_) | refine qa7 rfl rfl rfl (fun _ => ?_) | refine GL.box rfl rfl (fun _ => ?_)) | (apply qai; first | refine qaa rfl rfl rfl rfl rfl (fun _ => ?_) | refine qac rfl rfl rfl rfl rfl (fun _ => ?_)) | (apply qab; refine qam _ rfl rfl rfl rfl (by rfl) (by omega) (by omega) rfl (fun _ => ?_)) | (apply qal; refine GL.alloc rfl (fun _ => ?_))) | apply GL.nil | first | apply G.seq | apply G.region | apply G.block | apply G.skip | apply G.exit | apply G.ret | (apply qah; first | refine qbe rfl ?_ | refine qbf rfl ?_) | refine qbj (by kernel_rfl) (by kernel_rfl) ?_ | (apply qa4; first | apply qa5 | apply qa2 | apply qas | apply qat | apply qa3 | apply qa1 | apply qaq | refine qar rfl ?_ | apply qba) | (apply qad; first | refine qbb rfl ?_ | refine qau rfl rfl ?_ | refine qaw rfl rfl rfl ?_ | refine qav rfl rfl rfl ?_) | apply qbd | apply qbc | (apply qa0; refine qa9 rfl rfl ?_) | ((first | (apply qae; refine GL.guard rfl rfl (fun hc => ?_) (fun hc => ?_)) | (apply qah; refine G.cond rfl (fun hc => ?_) (fun hc => ?_)) | (apply qad; refine GD.guard rfl rfl (fun hc => ?_) (fun hc => ?_))) <;> ((try simp only [decide_eq_true_eq, decide_eq_false_iff_not, Bool.not_true, Bool.not_false, ne_eq, Classical.not_not, Int.not_lt, Int.not_le] at hc); (try (exfalso; first | omega | exact hc trivial | exact hc rfl)))))
  all_goals
    refine qbi rfl (by (repeat (first | apply Res.nil | (apply Res.tmp; rfl) | (refine qay rfl rfl rfl ?_) | (refine qaz rfl rfl ?_)))) (fun w h => ?_)
    refine ⟨?_, h⟩
    congr 2
    simp [Hdl.Beyond]; try omega
theorem ref07_Put (kind place gen off : Int) (w : World) (F : List HProp) (hw : holds w F) :
    Ct Tryz.prog 95 #[.int .i64 kind, .int .i64 place, .int .i64 gen, .int .i64 off] w fun e w' => e = .returned (.tuple #[.int .i64 (Hdl.put kind place gen off).1, .int .i64 (Hdl.put kind place gen off).2]) ∧ holds w' F := by
  refine Ct.go (args := [.int .i64 kind, .int .i64 place, .int .i64 gen, .int .i64 off]) Tryz.func95 rfl rfl rfl hw ?_
  repeat' (first | first | (apply qae; first | refine qa8 rfl ?_ | (apply qak; first | refine qaj rfl rfl rfl rfl rfl ?_ | refine qaf rfl rfl rfl rfl rfl ?_ | refine qag rfl rfl rfl rfl rfl ?_) | refine qan rfl rfl ?_ | refine qap rfl rfl rfl ?_ | refine qao rfl rfl rfl ?_ | (apply qax; first | refine qa6 rfl rfl (fun _ => ?_) | refine qa7 rfl rfl rfl (fun _ => ?_) | refine GL.box rfl rfl (fun _ => ?_)) | (apply qai; first | refine qaa rfl rfl rfl rfl rfl (fun _ => ?_) | refine qac rfl rfl rfl rfl rfl (fun _ => ?_)) | (apply qab; refine qam _ rfl rfl rfl rfl (by rfl) (by omega) (by omega) rfl (fun _ => ?_)) | (apply qal; refine GL.alloc rfl (fun _ => ?_))) | apply GL.nil | first | apply G.seq | apply G.region | apply G.block | apply G.skip | apply G.exit | apply G.ret | (apply qah; first | refine qbe rfl ?_ | refine qbf rfl ?_) | refine qbj (by kernel_rfl) (by kernel_rfl) ?_ | (apply qa4; first | apply qa5 | apply qa2 | apply qas | apply qat | apply qa3 | apply qa1 | apply qaq | refine qar rfl ?_ | apply qba) | (apply qad; first | refine qbb rfl ?_ | refine qau rfl rfl ?_ | refine qaw rfl rfl rfl ?_ | refine qav rfl rfl rfl ?_) | apply qbd | apply qbc | (apply qa0; refine qa9 rfl rfl ?_) | ((first | (apply qae; refine GL.guard rfl rfl (fun hc => ?_) (fun hc => ?_)) | (apply qah; refine G.cond rfl (fun hc => ?_) (fun hc => ?_)) | (apply qad; refine GD.guard rfl rfl (fun hc => ?_) (fun hc => ?_))) <;> ((try simp only [decide_eq_true_eq, decide_eq_false_iff_not, Bool.not_true, Bool.not_false, ne_eq, Classical.not_not, Int.not_lt, Int.not_le] at hc); (try (exfalso; first | omega | exact hc trivial | exact hc rfl)))) | ((apply qab; refine qbg rfl rfl (fun w h => ref07_beyond _ w _ h) ?_)))
  all_goals
    refine qbh rfl (by (repeat (first | apply Res.nil | (apply Res.tmp; rfl) | (refine qay rfl rfl rfl ?_) | (refine qaz rfl rfl ?_)))) (fun w h => ?_)
    first | (rw [Hdl.put_k (by omega)]; exact ⟨rfl, h⟩) | (rw [Hdl.put_o (by omega) (by omega)]; exact ⟨rfl, h⟩) | (rw [Hdl.put_y (by omega) (by omega)]; exact ⟨rfl, h⟩)
theorem ref07_Get (x : Int) (hx : x < 9223372036854775808) (w : World) (F : List HProp) (hw : holds w F) :
    Ct Tryz.prog 166 #[.int .i64 x] w fun e w' => e = .returned (.tuple #[.agg #[.int .i64 (Hdl.get x).kind, .int .i64 (Hdl.get x).place, .int .i64 (Hdl.get x).gen, .int .i64 (Hdl.get x).off], .bool (Hdl.get x).ok]) ∧ holds w' F := by
  refine Ct.go (args := [.int .i64 x]) Tryz.func166 rfl rfl rfl hw ?_
  repeat' (first | (apply qae; first | refine qa8 rfl ?_ | (apply qak; first | refine qaj rfl rfl rfl rfl rfl ?_ | refine qaf rfl rfl rfl rfl rfl ?_ | refine qag rfl rfl rfl rfl rfl ?_) | refine qan rfl rfl ?_ | refine qap rfl rfl rfl ?_ | refine qao rfl rfl rfl ?_ | (apply qax; first | refine qa6 rfl rfl (fun _ => ?_) | refine qa7 rfl rfl rfl (fun _ => ?_) | refine GL.box rfl rfl (fun _ => ?_)) | (apply qai; first | refine qaa rfl rfl rfl rfl rfl (fun _ => ?_) | refine qac rfl rfl rfl rfl rfl (fun _ => ?_)) | (apply qab; refine qam _ rfl rfl rfl rfl (by rfl) (by omega) (by omega) rfl (fun _ => ?_)) | (apply qal; refine GL.alloc rfl (fun _ => ?_))) | apply GL.nil | first | apply G.seq | apply G.region | apply G.block | apply G.skip | apply G.exit | apply G.ret | (apply qah; first | refine qbe rfl ?_ | refine qbf rfl ?_) | refine qbj (by kernel_rfl) (by kernel_rfl) ?_ | (apply qa4; first | apply qa5 | apply qa2 | apply qas | apply qat | apply qa3 | apply qa1 | apply qaq | refine qar rfl ?_ | apply qba) | (apply qad; first | refine qbb rfl ?_ | refine qau rfl rfl ?_ | refine qaw rfl rfl rfl ?_ | refine qav rfl rfl rfl ?_) | apply qbd | apply qbc | (apply qa0; refine qa9 rfl rfl ?_) | ((first | (apply qae; refine GL.guard rfl rfl (fun hc => ?_) (fun hc => ?_)) | (apply qah; refine G.cond rfl (fun hc => ?_) (fun hc => ?_)) | (apply qad; refine GD.guard rfl rfl (fun hc => ?_) (fun hc => ?_))) <;> ((try simp only [decide_eq_true_eq, decide_eq_false_iff_not, Bool.not_true, Bool.not_false, ne_eq, Classical.not_not, Int.not_lt, Int.not_le] at hc); (try (exfalso; first | omega | exact hc trivial | exact hc rfl)))))
  all_goals
    refine qbh rfl (by (repeat (first | apply Res.nil | (apply Res.tmp; rfl) | (refine qay rfl rfl rfl ?_) | (refine qaz rfl rfl ?_)))) (fun w h => ?_)
    first | (rw [Hdl.get_n (by omega)]; exact ⟨rfl, h.sub⟩) | (rw [Hdl.get_y (by omega), Hdl.d60, Hdl.d40]; exact ⟨rfl, h.sub⟩)
theorem handle_parts (w : World) (F : List HProp) (hw : holds w F) :
    Ct Tryz.prog 158 #[] w fun e w' => e = .returned (.agg #[.int .i64 60, .int .i64 1, .int .i64 3, .int .i64 40, .int .i64 0, .int .i64 1048575, .int .i64 20, .int .i64 0, .int .i64 1048575, .int .i64 0, .int .i64 0, .int .i64 1048575]) ∧ holds w' F := by
  refine Ct.go (args := []) Tryz.func158 rfl rfl rfl hw ?_
  repeat' (first | (apply qae; first | refine qa8 rfl ?_ | (apply qak; first | refine qaj rfl rfl rfl rfl rfl ?_ | refine qaf rfl rfl rfl rfl rfl ?_ | refine qag rfl rfl rfl rfl rfl ?_) | refine qan rfl rfl ?_ | refine qap rfl rfl rfl ?_ | refine qao rfl rfl rfl ?_ | (apply qax; first | refine qa6 rfl rfl (fun _ => ?_) | refine qa7 rfl rfl rfl (fun _ => ?_) | refine GL.box rfl rfl (fun _ => ?_)) | (apply qai; first | refine qaa rfl rfl rfl rfl rfl (fun _ => ?_) | refine qac rfl rfl rfl rfl rfl (fun _ => ?_)) | (apply qab; refine qam _ rfl rfl rfl rfl (by rfl) (by omega) (by omega) rfl (fun _ => ?_)) | (apply qal; refine GL.alloc rfl (fun _ => ?_))) | apply GL.nil | first | apply G.seq | apply G.region | apply G.block | apply G.skip | apply G.exit | apply G.ret | (apply qah; first | refine qbe rfl ?_ | refine qbf rfl ?_) | refine qbj (by kernel_rfl) (by kernel_rfl) ?_ | (apply qa4; first | apply qa5 | apply qa2 | apply qas | apply qat | apply qa3 | apply qa1 | apply qaq | refine qar rfl ?_ | apply qba) | (apply qad; first | refine qbb rfl ?_ | refine qau rfl rfl ?_ | refine qaw rfl rfl rfl ?_ | refine qav rfl rfl rfl ?_) | apply qbd | apply qbc | (apply qa0; refine qa9 rfl rfl ?_) | ((first | (apply qae; refine GL.guard rfl rfl (fun hc => ?_) (fun hc => ?_)) | (apply qah; refine G.cond rfl (fun hc => ?_) (fun hc => ?_)) | (apply qad; refine GD.guard rfl rfl (fun hc => ?_) (fun hc => ?_))) <;> ((try simp only [decide_eq_true_eq, decide_eq_false_iff_not, Bool.not_true, Bool.not_false, ne_eq, Classical.not_not, Int.not_lt, Int.not_le] at hc); (try (exfalso; first | omega | exact hc trivial | exact hc rfl)))))
  refine qbi rfl (by (repeat (first | apply Res.nil | (apply Res.tmp; rfl) | (refine qay rfl rfl rfl ?_) | (refine qaz rfl rfl ?_)))) (fun w h => ?_)
  exact ⟨rfl, h.sub⟩
theorem handle_Put (kind place gen off : Int) (w : World) (F : List HProp) (hw : holds w F) :
    Ct Tryz.prog 90 #[.int .i64 kind, .int .i64 place, .int .i64 gen, .int .i64 off] w fun e w' => e = .returned (.tuple #[.int .i64 (Hdl.put kind place gen off).1, .int .i64 (Hdl.put kind place gen off).2]) ∧ holds w' F := by
  refine Ct.go (args := [.int .i64 kind, .int .i64 place, .int .i64 gen, .int .i64 off]) Tryz.func90 rfl rfl rfl hw ?_
  repeat' (first | first | (apply qae; first | refine qa8 rfl ?_ | (apply qak; first | refine qaj rfl rfl rfl rfl rfl ?_ | refine qaf rfl rfl rfl rfl rfl ?_ | refine qag rfl rfl rfl rfl rfl ?_) | refine qan rfl rfl ?_ | refine qap rfl rfl rfl ?_ | refine qao rfl rfl rfl ?_ | (apply qax; first | refine qa6 rfl rfl (fun _ => ?_) | refine qa7 rfl rfl rfl (fun _ => ?_) | refine GL.box rfl rfl (fun _ => ?_)) | (apply qai; first | refine qaa rfl rfl rfl rfl rfl (fun _ => ?_) | refine qac rfl rfl rfl rfl rfl (fun _ => ?_)) | (apply qab; refine qam _ rfl rfl rfl rfl (by rfl) (by omega) (by omega) rfl (fun _ => ?_)) | (apply qal; refine GL.alloc rfl (fun _ => ?_))) | apply GL.nil | first | apply G.seq | apply G.region | apply G.block | apply G.skip | apply G.exit | apply G.ret | (apply qah; first | refine qbe rfl ?_ | refine qbf rfl ?_) | refine qbj (by kernel_rfl) (by kernel_rfl) ?_ | (apply qa4; first | apply qa5 | apply qa2 | apply qas | apply qat | apply qa3 | apply qa1 | apply qaq | refine qar rfl ?_ | apply qba) | (apply qad; first | refine qbb rfl ?_ | refine qau rfl rfl ?_ | refine qaw rfl rfl rfl ?_ | refine qav rfl rfl rfl ?_) | apply qbd | apply qbc | (apply qa0; refine qa9 rfl rfl ?_) | ((first | (apply qae; refine GL.guard rfl rfl (fun hc => ?_) (fun hc => ?_)) | (apply qah; refine G.cond rfl (fun hc => ?_) (fun hc => ?_)) | (apply qad; refine GD.guard rfl rfl (fun hc => ?_) (fun hc => ?_))) <;> ((try simp only [decide_eq_true_eq, decide_eq_false_iff_not, Bool.not_true, Bool.not_false, ne_eq, Classical.not_not, Int.not_lt, Int.not_le] at hc); (try (exfalso; first | omega | exact hc trivial | exact hc rfl)))) | (first | (apply qab; refine qbg rfl rfl (fun w h => handle_parts w _ h) ?_) | apply G.unroll 5))
  all_goals
    refine qbh rfl (by (repeat (first | apply Res.nil | (apply Res.tmp; rfl) | (refine qay rfl rfl rfl ?_) | (refine qaz rfl rfl ?_)))) (fun w h => ?_)
    first | (rw [Hdl.put_k (by omega)]; exact ⟨rfl, h.sub⟩) | (rw [Hdl.put_o (by omega) (by omega)]; exact ⟨rfl, h.sub⟩) | (rw [Hdl.put_y (by omega) (by omega)]; exact ⟨by congr 5; omega, h.sub⟩)
theorem handle_Get (x : Int) (hx : x < 9223372036854775808) (w : World) (F : List HProp) (hw : holds w F) :
    Ct Tryz.prog 159 #[.int .i64 x] w fun e w' => e = .returned (.tuple #[.int .i64 (Hdl.get x).kind, .int .i64 (Hdl.get x).place, .int .i64 (Hdl.get x).gen, .int .i64 (Hdl.get x).off, .bool (Hdl.get x).ok]) ∧ holds w' F := by
  refine Ct.go (args := [.int .i64 x]) Tryz.func159 rfl rfl rfl hw ?_
  repeat' (first | first | (apply qae; first | refine qa8 rfl ?_ | (apply qak; first | refine qaj rfl rfl rfl rfl rfl ?_ | refine qaf rfl rfl rfl rfl rfl ?_ | refine qag rfl rfl rfl rfl rfl ?_) | refine qan rfl rfl ?_ | refine qap rfl rfl rfl ?_ | refine qao rfl rfl rfl ?_ | (apply qax; first | refine qa6 rfl rfl (fun _ => ?_) | refine qa7 rfl rfl rfl (fun _ => ?_) | refine GL.box rfl rfl (fun _ => ?_)) | (apply qai; first | refine qaa rfl rfl rfl rfl rfl (fun _ => ?_) | refine qac rfl rfl rfl rfl rfl (fun _ => ?_)) | (apply qab; refine qam _ rfl rfl rfl rfl (by rfl) (by omega) (by omega) rfl (fun _ => ?_)) | (apply qal; refine GL.alloc rfl (fun _ => ?_))) | apply GL.nil | first | apply G.seq | apply G.region | apply G.block | apply G.skip | apply G.exit | apply G.ret | (apply qah; first | refine qbe rfl ?_ | refine qbf rfl ?_) | refine qbj (by kernel_rfl) (by kernel_rfl) ?_ | (apply qa4; first | apply qa5 | apply qa2 | apply qas | apply qat | apply qa3 | apply qa1 | apply qaq | refine qar rfl ?_ | apply qba) | (apply qad; first | refine qbb rfl ?_ | refine qau rfl rfl ?_ | refine qaw rfl rfl rfl ?_ | refine qav rfl rfl rfl ?_) | apply qbd | apply qbc | (apply qa0; refine qa9 rfl rfl ?_) | ((first | (apply qae; refine GL.guard rfl rfl (fun hc => ?_) (fun hc => ?_)) | (apply qah; refine G.cond rfl (fun hc => ?_) (fun hc => ?_)) | (apply qad; refine GD.guard rfl rfl (fun hc => ?_) (fun hc => ?_))) <;> ((try simp only [decide_eq_true_eq, decide_eq_false_iff_not, Bool.not_true, Bool.not_false, ne_eq, Classical.not_not, Int.not_lt, Int.not_le] at hc); (try (exfalso; first | omega | exact hc trivial | exact hc rfl)))) | (first | (apply qab; refine qbg rfl rfl (fun w h => handle_parts w _ h) ?_) | apply G.unroll 5))
  all_goals
    refine qbh rfl (by (repeat (first | apply Res.nil | (apply Res.tmp; rfl) | (refine qay rfl rfl rfl ?_) | (refine qaz rfl rfl ?_)))) (fun w h => ?_)
    first | (rw [Hdl.get_n (by omega)]; exact ⟨rfl, h.sub⟩) | (rw [Hdl.get_y (by omega)]; refine ⟨?_, h.sub⟩; show Ending.returned (.tuple #[.int .i64 (x / 1152921504606846976), .int .i64 (x / 1099511627776 % 1048576), .int .i64 (x / 1048576 % 1048576), .int .i64 (x / 1 % 1048576), .bool true]) = _; rw [Int.ediv_one])
end Go.Proofs.YtipkgamiejenaaaGreat

/- How a laid piece lies in cells. -/
namespace Go.Proofs.YtipkgamiejenaaaGreat
open Go Go.RowKit Go.MapKept
set_option linter.unusedSimpArgs false
structure LaidM where
  chunk : Int
  gen : Int
  region : Int
  pos : Int
  len : Int
deriving DecidableEq
def encLaid (l : LaidM) : List Value := [.int .i64 l.chunk, .int .i64 l.gen, .int .i64 l.region, .int .i64 l.pos, .int .i64 l.len]
instance {l : LaidM} : IntsL (encLaid l) [l.chunk, l.gen, l.region, l.pos, l.len] := ⟨rfl⟩
instance : Enc encLaid 5 := ⟨fun _ => rfl, fun _ => by simp [encLaid, Value.oneCell'], by omega⟩
end Go.Proofs.YtipkgamiejenaaaGreat
