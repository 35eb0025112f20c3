import Derived.Test.YtipkgamiejenaaaGreatMg20

import Derived.Test.YtipkgamiejenaaaGreatMg0
/- Contracts of the reference of chapter 41: Add. -/
namespace Go.Proofs.YtipkgamiejenaaaGreat
open Go Go.RowKit Go.MapKept
set_option linter.unusedVariables false
set_option linter.unusedSimpArgs false
set_option maxRecDepth 100000
set_option maxHeartbeats 4000000

namespace Live
abbrev Bad (x : LaidM) : Prop := ¬ (Hdl.put 3 x.chunk x.gen x.pos).2 = 0 ∨ x.len < 1 ∨ 1048576 < x.len ∨ x.region < 0
abbrev Old (x y : LaidM) : Prop := y.chunk = x.chunk ∧ ¬ y.gen = x.gen
abbrev Twice (x y : LaidM) : Prop := y.chunk = x.chunk ∧ Spn.Meet ⟨y.pos, y.len⟩ ⟨x.pos, x.len⟩
abbrev Less (x y : LaidM) : Prop := y.chunk < x.chunk ∨ y.chunk = x.chunk ∧ y.pos < x.pos
end Live
theorem ref41_Add_bad (v : Value) (l : List LaidM) (x : LaidM) (hx : Live.Bad x) (w : World) (F : List HProp) [Reads F v encLaid 5 l] (hw : holds w F) :
    Ct Tryz.prog 32 #[v, .agg (encLaid x).toArray] w fun e w' => e = .returned (.tuple #[v, .int .i64 0, .int .i64 2]) ∧ holds w' F := by
  refine Ct.go (args := [v, .agg (encLaid x).toArray]) Tryz.func32 rfl rfl rfl hw ?_
  repeat' (first | first | (apply qae; first | refine qa8 rfl ?_ | (apply qak; first | refine qaj rfl rfl rfl rfl rfl ?_ | refine qaf rfl rfl rfl rfl rfl ?_ | refine qag rfl rfl rfl rfl rfl ?_) | refine qan rfl rfl ?_ | refine qap rfl rfl rfl ?_ | refine qao rfl rfl rfl ?_ | (apply qax; first | refine qa6 rfl rfl (fun _ => ?_) | refine qa7 rfl rfl rfl (fun _ => ?_) | refine GL.box rfl rfl (fun _ => ?_)) | (apply qai; first | refine qaa rfl rfl rfl rfl rfl (fun _ => ?_) | refine qac rfl rfl rfl rfl rfl (fun _ => ?_)) | (apply qab; refine qam _ rfl rfl rfl rfl (by rfl) (by omega) (by omega) rfl (fun _ => ?_)) | (apply qal; refine GL.alloc rfl (fun _ => ?_))) | apply GL.nil | first | apply G.seq | apply G.region | apply G.block | apply G.skip | apply G.exit | apply G.ret | (apply qah; first | refine qbe rfl ?_ | refine qbf rfl ?_) | refine qbj (by kernel_rfl) (by kernel_rfl) ?_ | (apply qa4; first | apply qa5 | apply qa2 | apply qas | apply qat | apply qa3 | apply qa1 | apply qaq | refine qar rfl ?_ | apply qba) | (apply qad; first | refine qbb rfl ?_ | refine qau rfl rfl ?_ | refine qaw rfl rfl rfl ?_ | refine qav rfl rfl rfl ?_) | apply qbd | apply qbc | (apply qa0; refine qa9 rfl rfl ?_) | ((first | (apply qae; refine GL.guard rfl rfl (fun hc => ?_) (fun hc => ?_)) | (apply qah; refine G.cond rfl (fun hc => ?_) (fun hc => ?_)) | (apply qad; refine GD.guard rfl rfl (fun hc => ?_) (fun hc => ?_))) <;> ((try simp only [decide_eq_true_eq, decide_eq_false_iff_not, Bool.not_true, Bool.not_false, ne_eq, Classical.not_not, Int.not_lt, Int.not_le] at hc); (try (exfalso; first | omega | exact hc trivial | exact hc rfl)))) | (first | (apply qab; refine qbg rfl rfl (fun w h => ref07_Put _ _ _ _ w _ h) ?_) | (apply qad; refine GD.call rfl rfl (fun w F' h => ref07_Put _ _ _ _ w _ h) ?_)))
  all_goals first | (exfalso; rcases hx with hx | hx | hx | hx <;> omega) | skip
  all_goals
    refine qbh rfl (by (repeat (first | apply Res.nil | (apply Res.tmp; rfl) | (refine qay rfl rfl rfl ?_) | (refine qaz rfl rfl ?_)))) (fun w h => ?_)
    exact ⟨rfl, h.sub⟩
theorem ref41_Add_old (v : Value) (l : List LaidM) (x : LaidM) (hx : ¬ Live.Bad x) (hl : l.length < 1099511627776) (i : Nat) (hi : i < l.length) (ho : Live.Old x l[i]) (w : World) (F : List HProp) [Reads F v encLaid 5 l] (hw : holds w F) :
    Ct Tryz.prog 32 #[v, .agg (encLaid x).toArray] w fun e w' => e = .returned (.tuple #[v, .int .i64 0, .int .i64 4]) ∧ holds w' F := by
  refine Ct.go (args := [v, .agg (encLaid x).toArray]) Tryz.func32 rfl rfl rfl hw ?_
  repeat' (first | first | (apply qae; first | refine qa8 rfl ?_ | (apply qak; first | refine qaj rfl rfl rfl rfl rfl ?_ | refine qaf rfl rfl rfl rfl rfl ?_ | refine qag rfl rfl rfl rfl rfl ?_) | refine qan rfl rfl ?_ | refine qap rfl rfl rfl ?_ | refine qao rfl rfl rfl ?_ | (apply qax; first | refine qa6 rfl rfl (fun _ => ?_) | refine qa7 rfl rfl rfl (fun _ => ?_) | refine GL.box rfl rfl (fun _ => ?_)) | (apply qai; first | refine qaa rfl rfl rfl rfl rfl (fun _ => ?_) | refine qac rfl rfl rfl rfl rfl (fun _ => ?_)) | (apply qab; refine qam _ rfl rfl rfl rfl (by rfl) (by omega) (by omega) rfl (fun _ => ?_)) | (apply qal; refine GL.alloc rfl (fun _ => ?_))) | apply GL.nil | first | apply G.seq | apply G.region | apply G.block | apply G.skip | apply G.exit | apply G.ret | (apply qah; first | refine qbe rfl ?_ | refine qbf rfl ?_) | refine qbj (by kernel_rfl) (by kernel_rfl) ?_ | (apply qa4; first | apply qa5 | apply qa2 | apply qas | apply qat | apply qa3 | apply qa1 | apply qaq | refine qar rfl ?_ | apply qba) | (apply qad; first | refine qbb rfl ?_ | refine qau rfl rfl ?_ | refine qaw rfl rfl rfl ?_ | refine qav rfl rfl rfl ?_) | apply qbd | apply qbc | (apply qa0; refine qa9 rfl rfl ?_) | ((first | (apply qae; refine GL.guard rfl rfl (fun hc => ?_) (fun hc => ?_)) | (apply qah; refine G.cond rfl (fun hc => ?_) (fun hc => ?_)) | (apply qad; refine GD.guard rfl rfl (fun hc => ?_) (fun hc => ?_))) <;> ((try simp only [decide_eq_true_eq, decide_eq_false_iff_not, Bool.not_true, Bool.not_false, ne_eq, Classical.not_not, Int.not_lt, Int.not_le] at hc); (try (exfalso; first | omega | exact hc trivial | exact hc rfl)))) | (first | (apply qab; refine qbg rfl rfl (fun w h => ref07_Put _ _ _ _ w _ h) ?_) | (apply qad; refine GD.call rfl rfl (fun w F' h => ref07_Put _ _ _ _ w _ h) ?_)))
  rename_i pb hp _ _
  obtain ⟨o1, o2⟩ := ho
  refine G.loop (α := Nat) (fun y => [(0, v), (3, .pointer (some ⟨pb, 0, none⟩)), (9, .int .i64 y)]) (fun y => blk pb (.cells (encLaid x).toArray 57) :: F) (fun y => y ≤ i) (fun y => l.length - y) 0 (Nat.zero_le _) ⟨rfl, rfl, rfl, trivial⟩ (fun w h => h) ?_
  rintro k hk
  by_cases hki : k = i
  · subst hki
    repeat' (first | (apply qae; first | refine qa8 rfl ?_ | (apply qak; first | refine qaj rfl rfl rfl rfl rfl ?_ | refine qaf rfl rfl rfl rfl rfl ?_ | refine qag rfl rfl rfl rfl rfl ?_) | refine qan rfl rfl ?_ | refine qap rfl rfl rfl ?_ | refine qao rfl rfl rfl ?_ | (apply qax; first | refine qa6 rfl rfl (fun _ => ?_) | refine qa7 rfl rfl rfl (fun _ => ?_) | refine GL.box rfl rfl (fun _ => ?_)) | (apply qai; first | refine qaa rfl rfl rfl rfl rfl (fun _ => ?_) | refine qac rfl rfl rfl rfl rfl (fun _ => ?_)) | (apply qab; refine qam _ rfl rfl rfl rfl (by rfl) (by omega) (by omega) rfl (fun _ => ?_)) | (apply qal; refine GL.alloc rfl (fun _ => ?_))) | apply GL.nil | first | apply G.seq | apply G.region | apply G.block | apply G.skip | apply G.exit | apply G.ret | (apply qah; first | refine qbe rfl ?_ | refine qbf rfl ?_) | refine qbj (by kernel_rfl) (by kernel_rfl) ?_ | (apply qa4; first | apply qa5 | apply qa2 | apply qas | apply qat | apply qa3 | apply qa1 | apply qaq | refine qar rfl ?_ | apply qba) | (apply qad; first | refine qbb rfl ?_ | refine qau rfl rfl ?_ | refine qaw rfl rfl rfl ?_ | refine qav rfl rfl rfl ?_) | apply qbd | apply qbc | (apply qa0; refine qa9 rfl rfl ?_) | ((first | (apply qae; refine GL.guard rfl rfl (fun hc => ?_) (fun hc => ?_)) | (apply qah; refine G.cond rfl (fun hc => ?_) (fun hc => ?_)) | (apply qad; refine GD.guard rfl rfl (fun hc => ?_) (fun hc => ?_))) <;> ((try simp only [decide_eq_true_eq, decide_eq_false_iff_not, Bool.not_true, Bool.not_false, ne_eq, Classical.not_not, Int.not_lt, Int.not_le] at hc); (try (exfalso; first | omega | exact hc trivial | exact hc rfl)))))
    all_goals
      refine qbh rfl (by (repeat (first | apply Res.nil | (apply Res.tmp; rfl) | (refine qay rfl rfl rfl ?_) | (refine qaz rfl rfl ?_)))) (fun w h => ?_)
      exact ⟨rfl, h.sub⟩
  · repeat' (first | (apply qae; first | refine qa8 rfl ?_ | (apply qak; first | refine qaj rfl rfl rfl rfl rfl ?_ | refine qaf rfl rfl rfl rfl rfl ?_ | refine qag rfl rfl rfl rfl rfl ?_) | refine qan rfl rfl ?_ | refine qap rfl rfl rfl ?_ | refine qao rfl rfl rfl ?_ | (apply qax; first | refine qa6 rfl rfl (fun _ => ?_) | refine qa7 rfl rfl rfl (fun _ => ?_) | refine GL.box rfl rfl (fun _ => ?_)) | (apply qai; first | refine qaa rfl rfl rfl rfl rfl (fun _ => ?_) | refine qac rfl rfl rfl rfl rfl (fun _ => ?_)) | (apply qab; refine qam _ rfl rfl rfl rfl (by rfl) (by omega) (by omega) rfl (fun _ => ?_)) | (apply qal; refine GL.alloc rfl (fun _ => ?_))) | apply GL.nil | first | apply G.seq | apply G.region | apply G.block | apply G.skip | apply G.exit | apply G.ret | (apply qah; first | refine qbe rfl ?_ | refine qbf rfl ?_) | refine qbj (by kernel_rfl) (by kernel_rfl) ?_ | (apply qa4; first | apply qa5 | apply qa2 | apply qas | apply qat | apply qa3 | apply qa1 | apply qaq | refine qar rfl ?_ | apply qba) | (apply qad; first | refine qbb rfl ?_ | refine qau rfl rfl ?_ | refine qaw rfl rfl rfl ?_ | refine qav rfl rfl rfl ?_) | apply qbd | apply qbc | (apply qa0; refine qa9 rfl rfl ?_) | ((first | (apply qae; refine GL.guard rfl rfl (fun hc => ?_) (fun hc => ?_)) | (apply qah; refine G.cond rfl (fun hc => ?_) (fun hc => ?_)) | (apply qad; refine GD.guard rfl rfl (fun hc => ?_) (fun hc => ?_))) <;> ((try simp only [decide_eq_true_eq, decide_eq_false_iff_not, Bool.not_true, Bool.not_false, ne_eq, Classical.not_not, Int.not_lt, Int.not_le] at hc); (try (exfalso; first | omega | exact hc trivial | exact hc rfl)))))
    all_goals first
      | exact GE.round (k + 1) (by omega) ⟨rfl, rfl, rfl, trivial⟩ (fun w h => h) (by omega)
      | (refine qbh rfl (by (repeat (first | apply Res.nil | (apply Res.tmp; rfl) | (refine qay rfl rfl rfl ?_) | (refine qaz rfl rfl ?_)))) (fun w h => ?_); exact ⟨rfl, h.sub⟩)
theorem ref41_Add_twice (v : Value) (l : List LaidM) (x : LaidM) (hx : ¬ Live.Bad x) (hl : l.length < 1099511627776) (hx0 : SpOk ⟨x.pos, x.len⟩) (hs : ∀ (j : Nat) (h : j < l.length), SpOk ⟨l[j].pos, l[j].len⟩) (hno : ∀ (j : Nat) (h : j < l.length), ¬ Live.Old x l[j]) (i : Nat) (hi : i < l.length) (ho : Live.Twice x l[i]) (w : World) (F : List HProp) [Reads F v encLaid 5 l] (hw : holds w F) :
    Ct Tryz.prog 32 #[v, .agg (encLaid x).toArray] w fun e w' => e = .returned (.tuple #[v, .int .i64 0, .int .i64 19]) ∧ holds w' F := by
  refine Ct.go (args := [v, .agg (encLaid x).toArray]) Tryz.func32 rfl rfl rfl hw ?_
  repeat' (first | first | (apply qae; first | refine qa8 rfl ?_ | (apply qak; first | refine qaj rfl rfl rfl rfl rfl ?_ | refine qaf rfl rfl rfl rfl rfl ?_ | refine qag rfl rfl rfl rfl rfl ?_) | refine qan rfl rfl ?_ | refine qap rfl rfl rfl ?_ | refine qao rfl rfl rfl ?_ | (apply qax; first | refine qa6 rfl rfl (fun _ => ?_) | refine qa7 rfl rfl rfl (fun _ => ?_) | refine GL.box rfl rfl (fun _ => ?_)) | (apply qai; first | refine qaa rfl rfl rfl rfl rfl (fun _ => ?_) | refine qac rfl rfl rfl rfl rfl (fun _ => ?_)) | (apply qab; refine qam _ rfl rfl rfl rfl (by rfl) (by omega) (by omega) rfl (fun _ => ?_)) | (apply qal; refine GL.alloc rfl (fun _ => ?_))) | apply GL.nil | first | apply G.seq | apply G.region | apply G.block | apply G.skip | apply G.exit | apply G.ret | (apply qah; first | refine qbe rfl ?_ | refine qbf rfl ?_) | refine qbj (by kernel_rfl) (by kernel_rfl) ?_ | (apply qa4; first | apply qa5 | apply qa2 | apply qas | apply qat | apply qa3 | apply qa1 | apply qaq | refine qar rfl ?_ | apply qba) | (apply qad; first | refine qbb rfl ?_ | refine qau rfl rfl ?_ | refine qaw rfl rfl rfl ?_ | refine qav rfl rfl rfl ?_) | apply qbd | apply qbc | (apply qa0; refine qa9 rfl rfl ?_) | ((first | (apply qae; refine GL.guard rfl rfl (fun hc => ?_) (fun hc => ?_)) | (apply qah; refine G.cond rfl (fun hc => ?_) (fun hc => ?_)) | (apply qad; refine GD.guard rfl rfl (fun hc => ?_) (fun hc => ?_))) <;> ((try simp only [decide_eq_true_eq, decide_eq_false_iff_not, Bool.not_true, Bool.not_false, ne_eq, Classical.not_not, Int.not_lt, Int.not_le] at hc); (try (exfalso; first | omega | exact hc trivial | exact hc rfl)))) | (first | (apply qab; refine qbg rfl rfl (fun w h => ref07_Put _ _ _ _ w _ h) ?_) | (apply qad; refine GD.call rfl rfl (fun w F' h => ref07_Put _ _ _ _ w _ h) ?_)))
  rename_i pb hp _ _
  obtain ⟨o1, o2⟩ := ho
  refine G.loop (α := Nat) (fun y => [(0, v), (3, .pointer (some ⟨pb, 0, none⟩)), (9, .int .i64 y)]) (fun y => blk pb (.cells (encLaid x).toArray 57) :: F) (fun y => y ≤ l.length) (fun y => l.length - y) 0 (Nat.zero_le _) ⟨rfl, rfl, rfl, trivial⟩ (fun w h => h) ?_
  rintro k hk
  by_cases hkl : k < l.length
  · have hn := hno k hkl
    repeat' (first | (apply qae; first | refine qa8 rfl ?_ | (apply qak; first | refine qaj rfl rfl rfl rfl rfl ?_ | refine qaf rfl rfl rfl rfl rfl ?_ | refine qag rfl rfl rfl rfl rfl ?_) | refine qan rfl rfl ?_ | refine qap rfl rfl rfl ?_ | refine qao rfl rfl rfl ?_ | (apply qax; first | refine qa6 rfl rfl (fun _ => ?_) | refine qa7 rfl rfl rfl (fun _ => ?_) | refine GL.box rfl rfl (fun _ => ?_)) | (apply qai; first | refine qaa rfl rfl rfl rfl rfl (fun _ => ?_) | refine qac rfl rfl rfl rfl rfl (fun _ => ?_)) | (apply qab; refine qam _ rfl rfl rfl rfl (by rfl) (by omega) (by omega) rfl (fun _ => ?_)) | (apply qal; refine GL.alloc rfl (fun _ => ?_))) | apply GL.nil | first | apply G.seq | apply G.region | apply G.block | apply G.skip | apply G.exit | apply G.ret | (apply qah; first | refine qbe rfl ?_ | refine qbf rfl ?_) | refine qbj (by kernel_rfl) (by kernel_rfl) ?_ | (apply qa4; first | apply qa5 | apply qa2 | apply qas | apply qat | apply qa3 | apply qa1 | apply qaq | refine qar rfl ?_ | apply qba) | (apply qad; first | refine qbb rfl ?_ | refine qau rfl rfl ?_ | refine qaw rfl rfl rfl ?_ | refine qav rfl rfl rfl ?_) | apply qbd | apply qbc | (apply qa0; refine qa9 rfl rfl ?_) | ((first | (apply qae; refine GL.guard rfl rfl (fun hc => ?_) (fun hc => ?_)) | (apply qah; refine G.cond rfl (fun hc => ?_) (fun hc => ?_)) | (apply qad; refine GD.guard rfl rfl (fun hc => ?_) (fun hc => ?_))) <;> ((try simp only [decide_eq_true_eq, decide_eq_false_iff_not, Bool.not_true, Bool.not_false, ne_eq, Classical.not_not, Int.not_lt, Int.not_le] at hc); (try (exfalso; first | omega | exact hc trivial | exact hc rfl)))))
    all_goals exact GE.round (k + 1) (by omega) ⟨rfl, rfl, rfl, trivial⟩ (fun w h => h) (by omega)
  · repeat' (first | (apply qae; first | refine qa8 rfl ?_ | (apply qak; first | refine qaj rfl rfl rfl rfl rfl ?_ | refine qaf rfl rfl rfl rfl rfl ?_ | refine qag rfl rfl rfl rfl rfl ?_) | refine qan rfl rfl ?_ | refine qap rfl rfl rfl ?_ | refine qao rfl rfl rfl ?_ | (apply qax; first | refine qa6 rfl rfl (fun _ => ?_) | refine qa7 rfl rfl rfl (fun _ => ?_) | refine GL.box rfl rfl (fun _ => ?_)) | (apply qai; first | refine qaa rfl rfl rfl rfl rfl (fun _ => ?_) | refine qac rfl rfl rfl rfl rfl (fun _ => ?_)) | (apply qab; refine qam _ rfl rfl rfl rfl (by rfl) (by omega) (by omega) rfl (fun _ => ?_)) | (apply qal; refine GL.alloc rfl (fun _ => ?_))) | apply GL.nil | first | apply G.seq | apply G.region | apply G.block | apply G.skip | apply G.exit | apply G.ret | (apply qah; first | refine qbe rfl ?_ | refine qbf rfl ?_) | refine qbj (by kernel_rfl) (by kernel_rfl) ?_ | (apply qa4; first | apply qa5 | apply qa2 | apply qas | apply qat | apply qa3 | apply qa1 | apply qaq | refine qar rfl ?_ | apply qba) | (apply qad; first | refine qbb rfl ?_ | refine qau rfl rfl ?_ | refine qaw rfl rfl rfl ?_ | refine qav rfl rfl rfl ?_) | apply qbd | apply qbc | (apply qa0; refine qa9 rfl rfl ?_) | ((first | (apply qae; refine GL.guard rfl rfl (fun hc => ?_) (fun hc => ?_)) | (apply qah; refine G.cond rfl (fun hc => ?_) (fun hc => ?_)) | (apply qad; refine GD.guard rfl rfl (fun hc => ?_) (fun hc => ?_))) <;> ((try simp only [decide_eq_true_eq, decide_eq_false_iff_not, Bool.not_true, Bool.not_false, ne_eq, Classical.not_not, Int.not_lt, Int.not_le] at hc); (try (exfalso; first | omega | exact hc trivial | exact hc rfl)))))
    refine G.loop (α := Nat × Nat) (fun y => [(0, v), (3, .pointer (some ⟨pb, 0, none⟩)), (10, .int .i64 y.2), (11, .int .i64 y.1)]) (fun y => blk pb (.cells (encLaid x).toArray 57) :: F) (fun y => y.1 ≤ i) (fun y => l.length - y.1) (0, 0) (Nat.zero_le _) ⟨rfl, rfl, rfl, rfl, trivial⟩ (fun w h => h) ?_
    clear k hk hkl hc
    rintro ⟨k, a⟩ hk
    simp only at hk ⊢
    have hkl : k < l.length := by omega
    have hm := hs k hkl
    by_cases hki : k = i
    · subst hki
      have hd : decide (Spn.Meet ⟨l[k].pos, l[k].len⟩ ⟨x.pos, x.len⟩) = true := decide_eq_true o2
      repeat' (first | first | (apply qae; first | refine qa8 rfl ?_ | (apply qak; first | refine qaj rfl rfl rfl rfl rfl ?_ | refine qaf rfl rfl rfl rfl rfl ?_ | refine qag rfl rfl rfl rfl rfl ?_) | refine qan rfl rfl ?_ | refine qap rfl rfl rfl ?_ | refine qao rfl rfl rfl ?_ | (apply qax; first | refine qa6 rfl rfl (fun _ => ?_) | refine qa7 rfl rfl rfl (fun _ => ?_) | refine GL.box rfl rfl (fun _ => ?_)) | (apply qai; first | refine qaa rfl rfl rfl rfl rfl (fun _ => ?_) | refine qac rfl rfl rfl rfl rfl (fun _ => ?_)) | (apply qab; refine qam _ rfl rfl rfl rfl (by rfl) (by omega) (by omega) rfl (fun _ => ?_)) | (apply qal; refine GL.alloc rfl (fun _ => ?_))) | apply GL.nil | first | apply G.seq | apply G.region | apply G.block | apply G.skip | apply G.exit | apply G.ret | (apply qah; first | refine qbe rfl ?_ | refine qbf rfl ?_) | refine qbj (by kernel_rfl) (by kernel_rfl) ?_ | (apply qa4; first | apply qa5 | apply qa2 | apply qas | apply qat | apply qa3 | apply qa1 | apply qaq | refine qar rfl ?_ | apply qba) | (apply qad; first | refine qbb rfl ?_ | refine qau rfl rfl ?_ | refine qaw rfl rfl rfl ?_ | refine qav rfl rfl rfl ?_) | apply qbd | apply qbc | (apply qa0; refine qa9 rfl rfl ?_) | ((first | (apply qae; refine GL.guard rfl rfl (fun hc => ?_) (fun hc => ?_)) | (apply qah; refine G.cond rfl (fun hc => ?_) (fun hc => ?_)) | (apply qad; refine GD.guard rfl rfl (fun hc => ?_) (fun hc => ?_))) <;> ((try simp only [decide_eq_true_eq, decide_eq_false_iff_not, Bool.not_true, Bool.not_false, ne_eq, Classical.not_not, Int.not_lt, Int.not_le] at hc); (try (exfalso; first | omega | exact hc trivial | exact hc rfl)))) | ((apply qad; refine GD.call (v := .bool (decide (Spn.Meet ⟨l[k].pos, l[k].len⟩ ⟨x.pos, x.len⟩))) rfl rfl (fun w F' h => by exact ref08_Meet (⟨l[k].pos, l[k].len⟩ : SpanM) ⟨x.pos, x.len⟩ hm hx0 w _ h) ?_)))
      all_goals first
        | (refine qbh rfl (by (repeat (first | apply Res.nil | (apply Res.tmp; rfl) | (refine qay rfl rfl rfl ?_) | (refine qaz rfl rfl ?_)))) (fun w h => ?_); exact ⟨rfl, h.sub⟩)
        | trace_state
    · repeat' (first | first | (apply qae; first | refine qa8 rfl ?_ | (apply qak; first | refine qaj rfl rfl rfl rfl rfl ?_ | refine qaf rfl rfl rfl rfl rfl ?_ | refine qag rfl rfl rfl rfl rfl ?_) | refine qan rfl rfl ?_ | refine qap rfl rfl rfl ?_ | refine qao rfl rfl rfl ?_ | (apply qax; first | refine qa6 rfl rfl (fun _ => ?_) | refine qa7 rfl rfl rfl (fun _ => ?_) | refine GL.box rfl rfl (fun _ => ?_)) | (apply qai; first | refine qaa rfl rfl rfl rfl rfl (fun _ => ?_) | refine qac rfl rfl rfl rfl rfl (fun _ => ?_)) | (apply qab; refine qam _ rfl rfl rfl rfl (by rfl) (by omega) (by omega) rfl (fun _ => ?_)) | (apply qal; refine GL.alloc rfl (fun _ => ?_))) | apply GL.nil | first | apply G.seq | apply G.region | apply G.block | apply G.skip | apply G.exit | apply G.ret | (apply qah; first | refine qbe rfl ?_ | refine qbf rfl ?_) | refine qbj (by kernel_rfl) (by kernel_rfl) ?_ | (apply qa4; first | apply qa5 | apply qa2 | apply qas | apply qat | apply qa3 | apply qa1 | apply qaq | refine qar rfl ?_ | apply qba) | (apply qad; first | refine qbb rfl ?_ | refine qau rfl rfl ?_ | refine qaw rfl rfl rfl ?_ | refine qav rfl rfl rfl ?_) | apply qbd | apply qbc | (apply qa0; refine qa9 rfl rfl ?_) | ((first | (apply qae; refine GL.guard rfl rfl (fun hc => ?_) (fun hc => ?_)) | (apply qah; refine G.cond rfl (fun hc => ?_) (fun hc => ?_)) | (apply qad; refine GD.guard rfl rfl (fun hc => ?_) (fun hc => ?_))) <;> ((try simp only [decide_eq_true_eq, decide_eq_false_iff_not, Bool.not_true, Bool.not_false, ne_eq, Classical.not_not, Int.not_lt, Int.not_le] at hc); (try (exfalso; first | omega | exact hc trivial | exact hc rfl)))) | ((apply qad; refine GD.call (v := .bool (decide (Spn.Meet ⟨l[k].pos, l[k].len⟩ ⟨x.pos, x.len⟩))) rfl rfl (fun w F' h => by exact ref08_Meet (⟨l[k].pos, l[k].len⟩ : SpanM) ⟨x.pos, x.len⟩ hm hx0 w _ h) ?_)))
      all_goals first
        | exact GE.round (k + 1, k + 1) (by dsimp only; omega) ⟨rfl, rfl, rfl, rfl, trivial⟩ (fun w h => h) (by dsimp only; omega)
        | exact GE.round (k + 1, a) (by dsimp only; omega) ⟨rfl, rfl, rfl, rfl, trivial⟩ (fun w h => h) (by dsimp only; omega)
        | (refine qbh rfl (by (repeat (first | apply Res.nil | (apply Res.tmp; rfl) | (refine qay rfl rfl rfl ?_) | (refine qaz rfl rfl ?_)))) (fun w h => ?_); exact ⟨rfl, h.sub⟩)
        | trace_state
end Go.Proofs.YtipkgamiejenaaaGreat

/- Contracts of the reference of chapter 41: Add that adds. (Under way: does not build yet.) -/
namespace Go.Proofs.YtipkgamiejenaaaGreat
open Go Go.RowKit Go.MapKept
set_option linter.unusedVariables false
set_option linter.unusedSimpArgs false
set_option maxRecDepth 100000
set_option maxHeartbeats 4000000

namespace Live
/-- The place that the reference finds for x. -/
structure IsPlace (l : List LaidM) (x : LaidM) (n a : Nat) : Prop where
  le : a ≤ n
  up : ∀ (j : Nat) (h : j < l.length), j < n → Less x l[j] → j < a
  at_ : ∀ (h : a - 1 < l.length), 0 < a → Less x l[a - 1]
theorem IsPlace.zero (l : List LaidM) (x : LaidM) : IsPlace l x 0 0 := ⟨Nat.le_refl _, fun j h hj => absurd hj (Nat.not_lt_zero j), fun h h0 => absurd h0 (Nat.lt_irrefl 0)⟩
theorem IsPlace.yes {l : List LaidM} {x : LaidM} {k a : Nat} (hp : IsPlace l x k a) (h : k < l.length) (hc : Less x l[k]) : IsPlace l x (k + 1) (k + 1) :=
  ⟨Nat.le_refl _, fun j h hj _ => hj, fun h0 h1 => by simpa using hc⟩
theorem IsPlace.no {l : List LaidM} {x : LaidM} {k a : Nat} (hp : IsPlace l x k a) (h : k < l.length) (hc : ¬ Less x l[k]) : IsPlace l x (k + 1) a :=
  ⟨Nat.le_succ_of_le hp.le, fun j hj hjk hl => by
    rcases Nat.lt_or_ge j k with h1 | h1
    · exact hp.up j hj h1 hl
    · obtain rfl : j = k := by omega
      exact absurd hl hc, hp.at_⟩
end Live
theorem ref41_Add_yes (v : Value) (l : List LaidM) (x : LaidM) (hx : ¬ Live.Bad x) (hl : l.length < 1099511627776) (hx0 : SpOk ⟨x.pos, x.len⟩) (hs : ∀ (j : Nat) (h : j < l.length), SpOk ⟨l[j].pos, l[j].len⟩) (hno : ∀ (j : Nat) (h : j < l.length), ¬ Live.Old x l[j]) (hnt : ∀ (j : Nat) (h : j < l.length), ¬ Live.Twice x l[j]) (w : World) (F : List HProp) [Reads F v encLaid 5 l] (hw : holds w F) :
    Ct Tryz.prog 32 #[v, .agg (encLaid x).toArray] w fun e w' => ∃ y : {a : Nat // Live.IsPlace l x l.length a} × Value, e = .returned (.tuple #[y.2, .int .i64 (Hdl.put 3 x.chunk x.gen x.pos).1, .int .i64 0]) ∧ holds w' (owns 57 encLaid 5 y.2 (l.take y.1.1 ++ [x] ++ l.drop y.1.1) :: F) := by
  refine Ct.go (args := [v, .agg (encLaid x).toArray]) Tryz.func32 rfl rfl rfl hw ?_
  repeat' (first | first | (apply qae; first | refine qa8 rfl ?_ | (apply qak; first | refine qaj rfl rfl rfl rfl rfl ?_ | refine qaf rfl rfl rfl rfl rfl ?_ | refine qag rfl rfl rfl rfl rfl ?_) | refine qan rfl rfl ?_ | refine qap rfl rfl rfl ?_ | refine qao rfl rfl rfl ?_ | (apply qax; first | refine qa6 rfl rfl (fun _ => ?_) | refine qa7 rfl rfl rfl (fun _ => ?_) | refine GL.box rfl rfl (fun _ => ?_)) | (apply qai; first | refine qaa rfl rfl rfl rfl rfl (fun _ => ?_) | refine qac rfl rfl rfl rfl rfl (fun _ => ?_)) | (apply qab; refine qam _ rfl rfl rfl rfl (by rfl) (by omega) (by omega) rfl (fun _ => ?_)) | (apply qal; refine GL.alloc rfl (fun _ => ?_))) | apply GL.nil | first | apply G.seq | apply G.region | apply G.block | apply G.skip | apply G.exit | apply G.ret | (apply qah; first | refine qbe rfl ?_ | refine qbf rfl ?_) | refine qbj (by kernel_rfl) (by kernel_rfl) ?_ | (apply qa4; first | apply qa5 | apply qa2 | apply qas | apply qat | apply qa3 | apply qa1 | apply qaq | refine qar rfl ?_ | apply qba) | (apply qad; first | refine qbb rfl ?_ | refine qau rfl rfl ?_ | refine qaw rfl rfl rfl ?_ | refine qav rfl rfl rfl ?_) | apply qbd | apply qbc | (apply qa0; refine qa9 rfl rfl ?_) | ((first | (apply qae; refine GL.guard rfl rfl (fun hc => ?_) (fun hc => ?_)) | (apply qah; refine G.cond rfl (fun hc => ?_) (fun hc => ?_)) | (apply qad; refine GD.guard rfl rfl (fun hc => ?_) (fun hc => ?_))) <;> ((try simp only [decide_eq_true_eq, decide_eq_false_iff_not, Bool.not_true, Bool.not_false, ne_eq, Classical.not_not, Int.not_lt, Int.not_le] at hc); (try (exfalso; first | omega | exact hc trivial | exact hc rfl)))) | (first | (apply qab; refine qbg rfl rfl (fun w h => ref07_Put _ _ _ _ w _ h) ?_) | (apply qad; refine GD.call rfl rfl (fun w F' h => ref07_Put _ _ _ _ w _ h) ?_)))
  rename_i pb hp _ _
  refine G.loop (α := Nat) (fun y => [(0, v), (3, .pointer (some ⟨pb, 0, none⟩)), (7, .int .i64 (Hdl.put 3 x.chunk x.gen x.pos).1), (9, .int .i64 y)]) (fun y => blk pb (.cells (encLaid x).toArray 57) :: F) (fun y => y ≤ l.length) (fun y => l.length - y) 0 (Nat.zero_le _) ⟨rfl, rfl, rfl, rfl, trivial⟩ (fun w h => h) ?_
  rintro k hk
  by_cases hkl : k < l.length
  · have hn := hno k hkl
    repeat' (first | (apply qae; first | refine qa8 rfl ?_ | (apply qak; first | refine qaj rfl rfl rfl rfl rfl ?_ | refine qaf rfl rfl rfl rfl rfl ?_ | refine qag rfl rfl rfl rfl rfl ?_) | refine qan rfl rfl ?_ | refine qap rfl rfl rfl ?_ | refine qao rfl rfl rfl ?_ | (apply qax; first | refine qa6 rfl rfl (fun _ => ?_) | refine qa7 rfl rfl rfl (fun _ => ?_) | refine GL.box rfl rfl (fun _ => ?_)) | (apply qai; first | refine qaa rfl rfl rfl rfl rfl (fun _ => ?_) | refine qac rfl rfl rfl rfl rfl (fun _ => ?_)) | (apply qab; refine qam _ rfl rfl rfl rfl (by rfl) (by omega) (by omega) rfl (fun _ => ?_)) | (apply qal; refine GL.alloc rfl (fun _ => ?_))) | apply GL.nil | first | apply G.seq | apply G.region | apply G.block | apply G.skip | apply G.exit | apply G.ret | (apply qah; first | refine qbe rfl ?_ | refine qbf rfl ?_) | refine qbj (by kernel_rfl) (by kernel_rfl) ?_ | (apply qa4; first | apply qa5 | apply qa2 | apply qas | apply qat | apply qa3 | apply qa1 | apply qaq | refine qar rfl ?_ | apply qba) | (apply qad; first | refine qbb rfl ?_ | refine qau rfl rfl ?_ | refine qaw rfl rfl rfl ?_ | refine qav rfl rfl rfl ?_) | apply qbd | apply qbc | (apply qa0; refine qa9 rfl rfl ?_) | ((first | (apply qae; refine GL.guard rfl rfl (fun hc => ?_) (fun hc => ?_)) | (apply qah; refine G.cond rfl (fun hc => ?_) (fun hc => ?_)) | (apply qad; refine GD.guard rfl rfl (fun hc => ?_) (fun hc => ?_))) <;> ((try simp only [decide_eq_true_eq, decide_eq_false_iff_not, Bool.not_true, Bool.not_false, ne_eq, Classical.not_not, Int.not_lt, Int.not_le] at hc); (try (exfalso; first | omega | exact hc trivial | exact hc rfl)))))
    all_goals exact GE.round (k + 1) (by omega) ⟨rfl, rfl, rfl, rfl, trivial⟩ (fun w h => h) (by omega)
  · repeat' (first | (apply qae; first | refine qa8 rfl ?_ | (apply qak; first | refine qaj rfl rfl rfl rfl rfl ?_ | refine qaf rfl rfl rfl rfl rfl ?_ | refine qag rfl rfl rfl rfl rfl ?_) | refine qan rfl rfl ?_ | refine qap rfl rfl rfl ?_ | refine qao rfl rfl rfl ?_ | (apply qax; first | refine qa6 rfl rfl (fun _ => ?_) | refine qa7 rfl rfl rfl (fun _ => ?_) | refine GL.box rfl rfl (fun _ => ?_)) | (apply qai; first | refine qaa rfl rfl rfl rfl rfl (fun _ => ?_) | refine qac rfl rfl rfl rfl rfl (fun _ => ?_)) | (apply qab; refine qam _ rfl rfl rfl rfl (by rfl) (by omega) (by omega) rfl (fun _ => ?_)) | (apply qal; refine GL.alloc rfl (fun _ => ?_))) | apply GL.nil | first | apply G.seq | apply G.region | apply G.block | apply G.skip | apply G.exit | apply G.ret | (apply qah; first | refine qbe rfl ?_ | refine qbf rfl ?_) | refine qbj (by kernel_rfl) (by kernel_rfl) ?_ | (apply qa4; first | apply qa5 | apply qa2 | apply qas | apply qat | apply qa3 | apply qa1 | apply qaq | refine qar rfl ?_ | apply qba) | (apply qad; first | refine qbb rfl ?_ | refine qau rfl rfl ?_ | refine qaw rfl rfl rfl ?_ | refine qav rfl rfl rfl ?_) | apply qbd | apply qbc | (apply qa0; refine qa9 rfl rfl ?_) | ((first | (apply qae; refine GL.guard rfl rfl (fun hc => ?_) (fun hc => ?_)) | (apply qah; refine G.cond rfl (fun hc => ?_) (fun hc => ?_)) | (apply qad; refine GD.guard rfl rfl (fun hc => ?_) (fun hc => ?_))) <;> ((try simp only [decide_eq_true_eq, decide_eq_false_iff_not, Bool.not_true, Bool.not_false, ne_eq, Classical.not_not, Int.not_lt, Int.not_le] at hc); (try (exfalso; first | omega | exact hc trivial | exact hc rfl)))))
    refine G.loop (α := Nat × Nat) (fun y => [(0, v), (3, .pointer (some ⟨pb, 0, none⟩)), (7, .int .i64 (Hdl.put 3 x.chunk x.gen x.pos).1), (10, .int .i64 y.2), (11, .int .i64 y.1)]) (fun y => blk pb (.cells (encLaid x).toArray 57) :: F) (fun y => y.1 ≤ l.length ∧ Live.IsPlace l x y.1 y.2) (fun y => l.length - y.1) (0, 0) ⟨Nat.zero_le _, Live.IsPlace.zero l x⟩ ⟨rfl, rfl, rfl, rfl, rfl, trivial⟩ (fun w h => h) ?_
    clear k hk hkl hc
    rintro ⟨k, a⟩ ⟨hk, ha⟩
    simp only at hk ha ⊢
    by_cases hkl : k < l.length
    · have hm := hs k hkl
      have hnn := hnt k hkl
      repeat' (first | first | (apply qae; first | refine qa8 rfl ?_ | (apply qak; first | refine qaj rfl rfl rfl rfl rfl ?_ | refine qaf rfl rfl rfl rfl rfl ?_ | refine qag rfl rfl rfl rfl rfl ?_) | refine qan rfl rfl ?_ | refine qap rfl rfl rfl ?_ | refine qao rfl rfl rfl ?_ | (apply qax; first | refine qa6 rfl rfl (fun _ => ?_) | refine qa7 rfl rfl rfl (fun _ => ?_) | refine GL.box rfl rfl (fun _ => ?_)) | (apply qai; first | refine qaa rfl rfl rfl rfl rfl (fun _ => ?_) | refine qac rfl rfl rfl rfl rfl (fun _ => ?_)) | (apply qab; refine qam _ rfl rfl rfl rfl (by rfl) (by omega) (by omega) rfl (fun _ => ?_)) | (apply qal; refine GL.alloc rfl (fun _ => ?_))) | apply GL.nil | first | apply G.seq | apply G.region | apply G.block | apply G.skip | apply G.exit | apply G.ret | (apply qah; first | refine qbe rfl ?_ | refine qbf rfl ?_) | refine qbj (by kernel_rfl) (by kernel_rfl) ?_ | (apply qa4; first | apply qa5 | apply qa2 | apply qas | apply qat | apply qa3 | apply qa1 | apply qaq | refine qar rfl ?_ | apply qba) | (apply qad; first | refine qbb rfl ?_ | refine qau rfl rfl ?_ | refine qaw rfl rfl rfl ?_ | refine qav rfl rfl rfl ?_) | apply qbd | apply qbc | (apply qa0; refine qa9 rfl rfl ?_) | ((first | (apply qae; refine GL.guard rfl rfl (fun hc => ?_) (fun hc => ?_)) | (apply qah; refine G.cond rfl (fun hc => ?_) (fun hc => ?_)) | (apply qad; refine GD.guard rfl rfl (fun hc => ?_) (fun hc => ?_))) <;> ((try simp only [decide_eq_true_eq, decide_eq_false_iff_not, Bool.not_true, Bool.not_false, ne_eq, Classical.not_not, Int.not_lt, Int.not_le] at hc); (try (exfalso; first | omega | exact hc trivial | exact hc rfl)))) | ((apply qad; refine GD.call (v := .bool (decide (Spn.Meet ⟨l[k].pos, l[k].len⟩ ⟨x.pos, x.len⟩))) rfl rfl (fun w F' h => by exact ref08_Meet (⟨l[k].pos, l[k].len⟩ : SpanM) ⟨x.pos, x.len⟩ hm hx0 w _ h) ?_)))
      all_goals first
        | exact GE.round (k + 1, k + 1) ⟨by dsimp only; omega, ha.yes hkl (by omega)⟩ ⟨rfl, rfl, rfl, rfl, rfl, trivial⟩ (fun w h => h) (by dsimp only; omega)
        | exact GE.round (k + 1, a) ⟨by dsimp only; omega, ha.no hkl (by omega)⟩ ⟨rfl, rfl, rfl, rfl, rfl, trivial⟩ (fun w h => h) (by dsimp only; omega)
        | (exfalso; exact hnn (And.intro (by assumption) hc))
        | trace_state
    · obtain rfl : k = l.length := by omega
      have hal := ha.le
      repeat' (first | (first | (refine qbk 17 ?_; refine G.drawTok [⟨some 0, [], some 4, 129, NU, fun u => owns 57 encLaid 5 u []⟩, ⟨some 4, [0], some 7, 133, NU, fun u => owns 57 encLaid 5 u ([] ++ (l.take a).drop 0)⟩, ⟨some 6, [], some 7, 135, NU, fun u => owns 57 encLaid 5 u [x]⟩, ⟨some 7, [1, 2], some 11, 136, NU, fun u => owns 57 encLaid 5 u ([] ++ (l.take a).drop 0 ++ [x])⟩, ⟨some 11, [3], none, 140, NU, fun u => owns 57 encLaid 5 u ([] ++ (l.take a).drop 0 ++ [x] ++ (l.take l.length).drop a)⟩] [] [4] (by kernel_rfl) (by kernel_rfl) rfl trivial ?_) | (apply qa0; first | refine GT.eff (i := 0) rfl rfl rfl rfl rfl (trivial) rfl (Does.build0 encLaid _) rfl (fun u0 hu0 => ?_) | refine GT.eff (i := 1) rfl rfl rfl rfl rfl (⟨⟨_, rfl, .inr ⟨_, rfl, hu0⟩⟩, trivial⟩) rfl (Does.appendR rfl rfl rfl rfl rfl (by first | omega | (simp only [List.length_nil, List.length_append, List.length_cons, List.length_take, List.length_drop] <;> omega)) (by first | omega | (simp only [List.length_nil, List.length_append, List.length_cons, List.length_take, List.length_drop] <;> omega))) rfl (fun u1 hu1 => ?_) | refine GT.eff (i := 2) rfl rfl rfl rfl rfl (trivial) rfl (Does.build1 x rfl (by decide) rfl rfl) rfl (fun u2 hu2 => ?_) | refine GT.eff (i := 3) rfl rfl rfl rfl rfl (⟨⟨_, rfl, .inr ⟨_, rfl, hu1⟩⟩, ⟨_, rfl, .inr ⟨_, rfl, hu2⟩⟩, trivial⟩) rfl (Does.append rfl rfl rfl (by first | omega | (simp only [List.length_nil, List.length_append, List.length_cons, List.length_take, List.length_drop] <;> omega)) (by first | omega | (simp only [List.length_nil, List.length_append, List.length_cons, List.length_take, List.length_drop] <;> omega))) rfl (fun u3 hu3 => ?_) | refine GT.eff (i := 4) rfl rfl rfl rfl rfl (⟨⟨_, rfl, .inr ⟨_, rfl, hu3⟩⟩, trivial⟩) rfl (Does.appendR rfl rfl rfl rfl rfl (by first | omega | (simp only [List.length_nil, List.length_append, List.length_cons, List.length_take, List.length_drop] <;> omega)) (by first | omega | (simp only [List.length_nil, List.length_append, List.length_cons, List.length_take, List.length_drop] <;> omega))) rfl (fun u4 hu4 => ?_)) | refine GT.nilE rfl ⟨⟨_, rfl, .inr ⟨_, rfl, hu4⟩⟩, trivial⟩ ?_) | first | (apply qae; first | refine qa8 rfl ?_ | (apply qak; first | refine qaj rfl rfl rfl rfl rfl ?_ | refine qaf rfl rfl rfl rfl rfl ?_ | refine qag rfl rfl rfl rfl rfl ?_) | refine qan rfl rfl ?_ | refine qap rfl rfl rfl ?_ | refine qao rfl rfl rfl ?_ | (apply qax; first | refine qa6 rfl rfl (fun _ => ?_) | refine qa7 rfl rfl rfl (fun _ => ?_) | refine GL.box rfl rfl (fun _ => ?_)) | (apply qai; first | refine qaa rfl rfl rfl rfl rfl (fun _ => ?_) | refine qac rfl rfl rfl rfl rfl (fun _ => ?_)) | (apply qab; refine qam _ rfl rfl rfl rfl (by rfl) (by omega) (by omega) rfl (fun _ => ?_)) | (apply qal; refine GL.alloc rfl (fun _ => ?_))) | apply GL.nil | first | apply G.seq | apply G.region | apply G.block | apply G.skip | apply G.exit | apply G.ret | (apply qah; first | refine qbe rfl ?_ | refine qbf rfl ?_) | refine qbj (by kernel_rfl) (by kernel_rfl) ?_ | (apply qa4; first | apply qa5 | apply qa2 | apply qas | apply qat | apply qa3 | apply qa1 | apply qaq | refine qar rfl ?_ | apply qba) | (apply qad; first | refine qbb rfl ?_ | refine qau rfl rfl ?_ | refine qaw rfl rfl rfl ?_ | refine qav rfl rfl rfl ?_) | apply qbd | apply qbc | (apply qa0; refine qa9 rfl rfl ?_) | ((first | (apply qae; refine GL.guard rfl rfl (fun hc => ?_) (fun hc => ?_)) | (apply qah; refine G.cond rfl (fun hc => ?_) (fun hc => ?_)) | (apply qad; refine GD.guard rfl rfl (fun hc => ?_) (fun hc => ?_))) <;> ((try simp only [decide_eq_true_eq, decide_eq_false_iff_not, Bool.not_true, Bool.not_false, ne_eq, Classical.not_not, Int.not_lt, Int.not_le] at hc); (try (exfalso; first | omega | exact hc trivial | exact hc rfl)))))
      refine qbh rfl (by (repeat (first | apply Res.nil | (apply Res.tmp; rfl) | (refine qay rfl rfl rfl ?_) | (refine qaz rfl rfl ?_)))) (fun w h => ?_)
      have h2 : holds w (owns 57 encLaid 5 u4 ([] ++ (l.take a).drop 0 ++ [x] ++ (l.take l.length).drop a) :: blk _ _ :: F) := h
      rw [List.drop_zero, List.take_length, List.nil_append] at h2
      exact ⟨(⟨a, ha⟩, u4), rfl, show holds w (owns 57 encLaid 5 u4 (l.take a ++ [x] ++ l.drop a) :: F) from h2.sub⟩
end Go.Proofs.YtipkgamiejenaaaGreat

/- Whole numbers, ascending: plain. -/
namespace Go.Proofs.YtipkgamiejenaaaGreat
open Go Go.RowKit Go.MapKept

/-- The keys of a map, ascending. -/
def sortInts (l : List Int) : List Int := l.mergeSort (fun x y => decide (x ≤ y))
end Go.Proofs.YtipkgamiejenaaaGreat

/- Plain: the numbers of a list above 0, each once, rising: one after the other by the least one above the last. -/
namespace Go.Proofs.YtipkgamiejenaaaGreat

/-- The least one above 'last', in as many as have been looked at; 0: none yet. -/
def leastStep (last next x : Int) : Int := if last < x ∧ (next = 0 ∨ x < next) then x else next
def leastAbove (last : Int) (l : List Int) : Int := l.foldl (leastStep last) 0

theorem leastAbove_snoc (last : Int) (l : List Int) (k : Nat) (hk : k < l.length) : leastAbove last (l.take (k + 1)) = leastStep last (leastAbove last (l.take k)) l[k] := by
  unfold leastAbove
  rw [List.take_succ_eq_append_getElem hk, List.foldl_append]
  rfl

theorem leastAbove_spec (last : Int) (h0 : 0 ≤ last) (l : List Int) : ∀ k, k ≤ l.length →
    (leastAbove last (l.take k) = 0 ∧ ∀ x ∈ l.take k, x ≤ last) ∨ (last < leastAbove last (l.take k) ∧ leastAbove last (l.take k) ∈ l.take k ∧ ∀ x ∈ l.take k, last < x → leastAbove last (l.take k) ≤ x)
  | 0, _ => .inl ⟨rfl, by simp⟩
  | k + 1, hk => by
    have hlt : k < l.length := by omega
    have ih := leastAbove_spec last h0 l k (by omega)
    rw [leastAbove_snoc last l k hlt]
    have hm : ∀ x, x ∈ l.take (k + 1) ↔ x ∈ l.take k ∨ x = l[k] := fun x => by rw [List.take_succ_eq_append_getElem hlt, List.mem_append]; simp
    generalize leastAbove last (l.take k) = n at ih
    generalize l[k] = y at hm
    unfold leastStep
    rcases ih with ⟨rfl, h1⟩ | ⟨h1, h2, h3⟩
    · by_cases hy : last < y
      · rw [if_pos ⟨hy, .inl rfl⟩]
        refine .inr ⟨hy, (hm y).2 (.inr rfl), fun x hx hlx => ?_⟩
        rcases (hm x).1 hx with h | h
        · have := h1 x h; omega
        · omega
      · rw [if_neg (fun h => hy h.1)]
        refine .inl ⟨rfl, fun x hx => ?_⟩
        rcases (hm x).1 hx with h | h
        · exact h1 x h
        · omega
    · by_cases hy : last < y ∧ y < n
      · rw [if_pos ⟨hy.1, .inr hy.2⟩]
        refine .inr ⟨hy.1, (hm y).2 (.inr rfl), fun x hx hlx => ?_⟩
        rcases (hm x).1 hx with h | h
        · have := h3 x h hlx; omega
        · omega
      · rw [if_neg (fun h => hy ⟨h.1, by rcases h.2 with h | h <;> omega⟩)]
        refine .inr ⟨h1, (hm n).2 (.inl h2), fun x hx hlx => ?_⟩
        rcases (hm x).1 hx with h | h
        · exact h3 x h hlx
        · omega

/-- What has been told up to 'last'. -/
structure Told (l : List Int) (last : Int) (o : List Int) : Prop where
  pos : 0 ≤ last
  up : o.Pairwise (· < ·)
  mem : ∀ x, x ∈ o ↔ x ∈ l ∧ 0 < x ∧ x ≤ last

theorem Told.start (l : List Int) : Told l 0 [] := ⟨by omega, by simp, fun x => by simp⟩
theorem Told.next {l : List Int} {last : Int} {o : List Int} (h : Told l last o) (hn : 0 < leastAbove last l) : Told l (leastAbove last l) (o ++ [leastAbove last l]) ∧ last < leastAbove last l ∧ leastAbove last l ∈ l := by
  have hs := leastAbove_spec last h.pos l l.length (Nat.le_refl _)
  rw [List.take_length] at hs
  generalize leastAbove last l = n at hn hs
  rcases hs with ⟨h1, _⟩ | ⟨h1, h2, h3⟩
  · omega
  · refine ⟨⟨by omega, ?_, fun x => ?_⟩, h1, h2⟩
    · rw [List.pairwise_append]
      refine ⟨h.up, by simp, fun a ha b hb => ?_⟩
      have := ((h.mem a).1 ha).2.2
      simp at hb
      omega
    · rw [List.mem_append, h.mem]
      constructor
      · rintro (⟨a, b, c⟩ | hx)
        · exact ⟨a, b, by omega⟩
        · simp at hx; subst hx; exact ⟨h2, by omega, by omega⟩
      · rintro ⟨a, b, c⟩
        by_cases hx : x ≤ last
        · exact .inl ⟨a, b, hx⟩
        · have := h3 x a (by omega)
          exact .inr (by simp; omega)
theorem Told.last {l : List Int} {last : Int} {o : List Int} (h : Told l last o) (hn : ¬ 0 < leastAbove last l) : o.Pairwise (· < ·) ∧ ∀ x, x ∈ o ↔ x ∈ l ∧ 0 < x := by
  have hs := leastAbove_spec last h.pos l l.length (Nat.le_refl _)
  rw [List.take_length] at hs
  have hp := h.pos
  refine ⟨h.up, fun x => ?_⟩
  rw [h.mem]
  constructor
  · rintro ⟨a, b, _⟩; exact ⟨a, b⟩
  · rintro ⟨a, b⟩
    rcases hs with ⟨_, h1⟩ | ⟨h1, _, _⟩
    · exact ⟨a, b, h1 x a⟩
    · omega

/-- How many are above a. -/
def leftN (l : List Int) (a : Int) : Nat := (l.filter fun x => decide (a < x)).length
theorem sortInts_rises {l : List Int} (h : l.Nodup) : (sortInts l).Pairwise (· < ·) := by
  have tr : ∀ a b c : Int, decide (a ≤ b) = true → decide (b ≤ c) = true → decide (a ≤ c) = true := by simp; omega
  have to : ∀ a b : Int, (decide (a ≤ b) || decide (b ≤ a)) = true := by simp; omega
  have h1 := List.pairwise_mergeSort tr to l
  have h2 : (sortInts l).Nodup := (List.mergeSort_perm l _).nodup_iff.2 h
  have h3 := h1.and h2
  exact h3.imp fun {a b} ⟨x, y⟩ => by simp at x; omega
theorem mem_sortInts (l : List Int) (x : Int) : x ∈ sortInts l ↔ x ∈ l := (List.mergeSort_perm l _).mem_iff

end Go.Proofs.YtipkgamiejenaaaGreat
