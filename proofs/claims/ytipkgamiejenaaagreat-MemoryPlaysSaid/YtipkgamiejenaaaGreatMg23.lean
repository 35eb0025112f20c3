import Derived.Test.YtipkgamiejenaaaGreatMg22

import Derived.Test.YtipkgamiejenaaaGreatMg17
import Derived.Test.YtipkgamiejenaaaGreatMg8
import Derived.Test.YtipkgamiejenaaaGreatLooseT
import Derived.Test.YtipkgamiejenaaaGreatMg21
import Derived.Test.YtipkgamiejenaaaGreatMg18
/- Package memory: Write, Read. -/
namespace Go.Proofs.YtipkgamiejenaaaGreat
open Go Go.RowKit Go.MapKept
set_option linter.unusedVariables false
set_option linter.unusedSectionVars false
set_option linter.unusedSimpArgs false
set_option maxRecDepth 100000
set_option maxHeartbeats 4000000
section
variable (sb : Nat) (t : St.S) (K : Nat) (hI : St.Inv t K) (hK : K ≤ 1000000) (p : Nat) (M : LvM) (hM : Lv.Ok M) (x : Int) (hx : x < 9223372036854775808) (hf : Me.Fits (Lv.find M x))
include hI hK hM hx hf
theorem mem_Write (o : Int) (s : List UInt8) (hs : s.length ≤ 10000) (w : World) (F : List HProp) (hw : holds w (storeP sb t :: livP p M :: F)) :
    Ct Tryz.prog 28 #[.pointer (some ⟨sb, 0, none⟩), .pointer (some ⟨p, 0, none⟩), .int .i64 x, .int .i64 o, .string (bs s)] w fun e w' => e = .returned (.int .i64 (Me.write t (Lv.find M x) o s).2) ∧ holds w' (storeP sb (Me.write t (Lv.find M x) o s).1 :: livP p M :: F) := by
  have hF := fun w (F : List HProp) h => mem_find sb t K hI hK p M hM x hx hf o s.length w F h
  obtain ⟨f, hfe⟩ : ∃ f, f = (Lv.find M x) := ⟨_, rfl⟩
  rw [← hfe] at hF hf ⊢
  unfold Me.write Me.got at *
  refine Ct.go (args := [.pointer (some ⟨sb, 0, none⟩), .pointer (some ⟨p, 0, none⟩), .int .i64 x, .int .i64 o, .string (bs s)]) Tryz.func28 rfl rfl rfl hw ?_
  by_cases h0 : Me.chk f o s.length = 0
  · obtain ⟨e1, e2, e3, e4, e5⟩ := Me.chk_fit h0
    have hf := hf e1
    rw [if_pos h0] at hF ⊢
    rw [h0] at hF
    have hS := fun w (F : List HProp) h => store_Store sb t K hI hK f.1.chunk f.1.gen (f.1.pos + o) s (by omega) w F h
    repeat' (first | (first | (apply qae; refine GL.run (Runs.strLen rfl) rfl ?_) | (apply qab; refine GL.callHH1 (storeP sb t) (livP p M) (vs := [.pointer (some ⟨sb, 0, none⟩), .pointer (some ⟨p, 0, none⟩), .int .i64 x, .int .i64 o, .int .i64 s.length]) rfl rfl (fun w h => hF w _ h) ?_) | (apply qab; refine GL.callVH1 (storeP sb t) (first := [.pointer (some ⟨sb, 0, none⟩)]) (captured := []) (vs := [.int .i64 f.1.chunk, .int .i64 f.1.gen, .int .i64 (f.1.pos + o), .string (bs s)]) rfl rfl rfl (fun w h => hS w _ h) ?_)) | first | (apply qae; first | refine qa8 rfl ?_ | (apply qak; first | refine qaj rfl rfl rfl rfl rfl ?_ | refine qaf rfl rfl rfl rfl rfl ?_ | refine qag rfl rfl rfl rfl rfl ?_) | refine qan rfl rfl ?_ | refine qap rfl rfl rfl ?_ | refine qao rfl rfl rfl ?_ | (apply qax; first | refine qa6 rfl rfl (fun _ => ?_) | refine qa7 rfl rfl rfl (fun _ => ?_) | refine GL.box rfl rfl (fun _ => ?_)) | (apply qai; first | refine qaa rfl rfl rfl rfl rfl (fun _ => ?_) | refine qac rfl rfl rfl rfl rfl (fun _ => ?_)) | (apply qab; refine qam _ rfl rfl rfl rfl (by rfl) (by omega) (by omega) rfl (fun _ => ?_)) | (apply qal; refine GL.alloc rfl (fun _ => ?_))) | apply GL.nil | first | apply G.seq | apply G.region | apply G.block | apply G.skip | apply G.exit | apply G.ret | (apply qah; first | refine qbe rfl ?_ | refine qbf rfl ?_) | refine qbj (by kernel_rfl) (by kernel_rfl) ?_ | (apply qa4; first | apply qa5 | apply qa2 | apply qas | apply qat | apply qa3 | apply qa1 | apply qaq | refine qar rfl ?_ | apply qba) | (apply qad; first | refine qbb rfl ?_ | refine qau rfl rfl ?_ | refine qaw rfl rfl rfl ?_ | refine qav rfl rfl rfl ?_) | apply qbd | apply qbc | (apply qa0; refine qa9 rfl rfl ?_) | ((first | (apply qae; refine GL.guard rfl rfl (fun hc => ?_) (fun hc => ?_)) | (apply qah; refine G.cond rfl (fun hc => ?_) (fun hc => ?_)) | (apply qad; refine GD.guard rfl rfl (fun hc => ?_) (fun hc => ?_))) <;> ((try simp only [decide_eq_true_eq, decide_eq_false_iff_not, Bool.not_true, Bool.not_false, ne_eq, Classical.not_not, Int.not_lt, Int.not_le] at hc); (try (exfalso; first | omega | exact hc trivial | exact hc rfl)))))
    all_goals (first | (exfalso; omega) | (exfalso; simp at hc; done) | skip)
    all_goals (refine qbi rfl (by (repeat (first | apply Res.nil | (apply Res.tmp; rfl) | (refine qay rfl rfl rfl ?_) | (refine qaz rfl rfl ?_)))) (fun w h => ?_); exact ⟨rfl, h.sub⟩)
  · rw [if_neg h0] at hF ⊢
    repeat' (first | (first | (apply qae; refine GL.run (Runs.strLen rfl) rfl ?_) | (apply qab; refine GL.callHH1 (storeP sb t) (livP p M) (vs := [.pointer (some ⟨sb, 0, none⟩), .pointer (some ⟨p, 0, none⟩), .int .i64 x, .int .i64 o, .int .i64 s.length]) rfl rfl (fun w h => hF w _ h) ?_)) | first | (apply qae; first | refine qa8 rfl ?_ | (apply qak; first | refine qaj rfl rfl rfl rfl rfl ?_ | refine qaf rfl rfl rfl rfl rfl ?_ | refine qag rfl rfl rfl rfl rfl ?_) | refine qan rfl rfl ?_ | refine qap rfl rfl rfl ?_ | refine qao rfl rfl rfl ?_ | (apply qax; first | refine qa6 rfl rfl (fun _ => ?_) | refine qa7 rfl rfl rfl (fun _ => ?_) | refine GL.box rfl rfl (fun _ => ?_)) | (apply qai; first | refine qaa rfl rfl rfl rfl rfl (fun _ => ?_) | refine qac rfl rfl rfl rfl rfl (fun _ => ?_)) | (apply qab; refine qam _ rfl rfl rfl rfl (by rfl) (by omega) (by omega) rfl (fun _ => ?_)) | (apply qal; refine GL.alloc rfl (fun _ => ?_))) | apply GL.nil | first | apply G.seq | apply G.region | apply G.block | apply G.skip | apply G.exit | apply G.ret | (apply qah; first | refine qbe rfl ?_ | refine qbf rfl ?_) | refine qbj (by kernel_rfl) (by kernel_rfl) ?_ | (apply qa4; first | apply qa5 | apply qa2 | apply qas | apply qat | apply qa3 | apply qa1 | apply qaq | refine qar rfl ?_ | apply qba) | (apply qad; first | refine qbb rfl ?_ | refine qau rfl rfl ?_ | refine qaw rfl rfl rfl ?_ | refine qav rfl rfl rfl ?_) | apply qbd | apply qbc | (apply qa0; refine qa9 rfl rfl ?_) | ((first | (apply qae; refine GL.guard rfl rfl (fun hc => ?_) (fun hc => ?_)) | (apply qah; refine G.cond rfl (fun hc => ?_) (fun hc => ?_)) | (apply qad; refine GD.guard rfl rfl (fun hc => ?_) (fun hc => ?_))) <;> ((try simp only [decide_eq_true_eq, decide_eq_false_iff_not, Bool.not_true, Bool.not_false, ne_eq, Classical.not_not, Int.not_lt, Int.not_le] at hc); (try (exfalso; first | omega | exact hc trivial | exact hc rfl)))))
    all_goals (first | (exfalso; omega) | (exfalso; exact h0 hc) | skip)
    all_goals (refine qbi rfl (by (repeat (first | apply Res.nil | (apply Res.tmp; rfl) | (refine qay rfl rfl rfl ?_) | (refine qaz rfl rfl ?_)))) (fun w h => ?_); exact ⟨rfl, h.sub⟩)
theorem mem_Read (o n : Int) (w : World) (F : List HProp) (hw : holds w (storeP sb t :: livP p M :: F)) :
    Ct Tryz.prog 30 #[.pointer (some ⟨sb, 0, none⟩), .pointer (some ⟨p, 0, none⟩), .int .i64 x, .int .i64 o, .int .i64 n] w fun e w' => e = .returned (.tuple #[.string (bs (Me.read t (Lv.find M x) o n).1), .int .i64 (Me.read t (Lv.find M x) o n).2]) ∧ holds w' (storeP sb t :: livP p M :: F) := by
  have hF := fun w (F : List HProp) h => mem_find sb t K hI hK p M hM x hx hf o n w F h
  obtain ⟨f, hfe⟩ : ∃ f, f = (Lv.find M x) := ⟨_, rfl⟩
  rw [← hfe] at hF hf ⊢
  unfold Me.read Me.got at *
  refine Ct.go (args := [.pointer (some ⟨sb, 0, none⟩), .pointer (some ⟨p, 0, none⟩), .int .i64 x, .int .i64 o, .int .i64 n]) Tryz.func30 rfl rfl rfl hw ?_
  by_cases h0 : Me.chk f o n = 0
  · obtain ⟨e1, e2, e3, e4, e5⟩ := Me.chk_fit h0
    have hf := hf e1
    rw [if_pos h0] at hF ⊢
    rw [h0] at hF
    have hS := fun w (F : List HProp) h => store_Load sb t K hI hK f.1.chunk f.1.gen (f.1.pos + o) n w F h
    repeat' (first | (first | (apply qab; refine GL.callHH1 (storeP sb t) (livP p M) (vs := [.pointer (some ⟨sb, 0, none⟩), .pointer (some ⟨p, 0, none⟩), .int .i64 x, .int .i64 o, .int .i64 n]) rfl rfl (fun w h => hF w _ h) ?_) | (apply qab; refine GL.callVH1 (storeP sb t) (first := [.pointer (some ⟨sb, 0, none⟩)]) (captured := []) (vs := [.int .i64 f.1.chunk, .int .i64 f.1.gen, .int .i64 (f.1.pos + o), .int .i64 n]) rfl rfl rfl (fun w h => hS w _ h) ?_)) | first | (apply qae; first | refine qa8 rfl ?_ | (apply qak; first | refine qaj rfl rfl rfl rfl rfl ?_ | refine qaf rfl rfl rfl rfl rfl ?_ | refine qag rfl rfl rfl rfl rfl ?_) | refine qan rfl rfl ?_ | refine qap rfl rfl rfl ?_ | refine qao rfl rfl rfl ?_ | (apply qax; first | refine qa6 rfl rfl (fun _ => ?_) | refine qa7 rfl rfl rfl (fun _ => ?_) | refine GL.box rfl rfl (fun _ => ?_)) | (apply qai; first | refine qaa rfl rfl rfl rfl rfl (fun _ => ?_) | refine qac rfl rfl rfl rfl rfl (fun _ => ?_)) | (apply qab; refine qam _ rfl rfl rfl rfl (by rfl) (by omega) (by omega) rfl (fun _ => ?_)) | (apply qal; refine GL.alloc rfl (fun _ => ?_))) | apply GL.nil | first | apply G.seq | apply G.region | apply G.block | apply G.skip | apply G.exit | apply G.ret | (apply qah; first | refine qbe rfl ?_ | refine qbf rfl ?_) | refine qbj (by kernel_rfl) (by kernel_rfl) ?_ | (apply qa4; first | apply qa5 | apply qa2 | apply qas | apply qat | apply qa3 | apply qa1 | apply qaq | refine qar rfl ?_ | apply qba) | (apply qad; first | refine qbb rfl ?_ | refine qau rfl rfl ?_ | refine qaw rfl rfl rfl ?_ | refine qav rfl rfl rfl ?_) | apply qbd | apply qbc | (apply qa0; refine qa9 rfl rfl ?_) | ((first | (apply qae; refine GL.guard rfl rfl (fun hc => ?_) (fun hc => ?_)) | (apply qah; refine G.cond rfl (fun hc => ?_) (fun hc => ?_)) | (apply qad; refine GD.guard rfl rfl (fun hc => ?_) (fun hc => ?_))) <;> ((try simp only [decide_eq_true_eq, decide_eq_false_iff_not, Bool.not_true, Bool.not_false, ne_eq, Classical.not_not, Int.not_lt, Int.not_le] at hc); (try (exfalso; first | omega | exact hc trivial | exact hc rfl)))))
    all_goals (first | (exfalso; omega) | (exfalso; simp at hc; done) | skip)
    all_goals (refine qbh rfl (by (repeat (first | apply Res.nil | (apply Res.tmp; rfl) | (refine qay rfl rfl rfl ?_) | (refine qaz rfl rfl ?_)))) (fun w h => ?_); exact ⟨rfl, h.sub⟩)
  · rw [if_neg h0] at hF ⊢
    repeat' (first | ((apply qab; refine GL.callHH1 (storeP sb t) (livP p M) (vs := [.pointer (some ⟨sb, 0, none⟩), .pointer (some ⟨p, 0, none⟩), .int .i64 x, .int .i64 o, .int .i64 n]) rfl rfl (fun w h => hF w _ h) ?_)) | first | (apply qae; first | refine qa8 rfl ?_ | (apply qak; first | refine qaj rfl rfl rfl rfl rfl ?_ | refine qaf rfl rfl rfl rfl rfl ?_ | refine qag rfl rfl rfl rfl rfl ?_) | refine qan rfl rfl ?_ | refine qap rfl rfl rfl ?_ | refine qao rfl rfl rfl ?_ | (apply qax; first | refine qa6 rfl rfl (fun _ => ?_) | refine qa7 rfl rfl rfl (fun _ => ?_) | refine GL.box rfl rfl (fun _ => ?_)) | (apply qai; first | refine qaa rfl rfl rfl rfl rfl (fun _ => ?_) | refine qac rfl rfl rfl rfl rfl (fun _ => ?_)) | (apply qab; refine qam _ rfl rfl rfl rfl (by rfl) (by omega) (by omega) rfl (fun _ => ?_)) | (apply qal; refine GL.alloc rfl (fun _ => ?_))) | apply GL.nil | first | apply G.seq | apply G.region | apply G.block | apply G.skip | apply G.exit | apply G.ret | (apply qah; first | refine qbe rfl ?_ | refine qbf rfl ?_) | refine qbj (by kernel_rfl) (by kernel_rfl) ?_ | (apply qa4; first | apply qa5 | apply qa2 | apply qas | apply qat | apply qa3 | apply qa1 | apply qaq | refine qar rfl ?_ | apply qba) | (apply qad; first | refine qbb rfl ?_ | refine qau rfl rfl ?_ | refine qaw rfl rfl rfl ?_ | refine qav rfl rfl rfl ?_) | apply qbd | apply qbc | (apply qa0; refine qa9 rfl rfl ?_) | ((first | (apply qae; refine GL.guard rfl rfl (fun hc => ?_) (fun hc => ?_)) | (apply qah; refine G.cond rfl (fun hc => ?_) (fun hc => ?_)) | (apply qad; refine GD.guard rfl rfl (fun hc => ?_) (fun hc => ?_))) <;> ((try simp only [decide_eq_true_eq, decide_eq_false_iff_not, Bool.not_true, Bool.not_false, ne_eq, Classical.not_not, Int.not_lt, Int.not_le] at hc); (try (exfalso; first | omega | exact hc trivial | exact hc rfl)))))
    all_goals (first | (exfalso; omega) | (exfalso; exact h0 hc) | skip)
    all_goals (refine qbh rfl (by (repeat (first | apply Res.nil | (apply Res.tmp; rfl) | (refine qay rfl rfl rfl ?_) | (refine qaz rfl rfl ?_)))) (fun w h => ?_); exact ⟨rfl, h.sub⟩)
end
end Go.Proofs.YtipkgamiejenaaaGreat

/- Reference 19: Many. -/
namespace Go.Proofs.YtipkgamiejenaaaGreat
open Go Go.RowKit Go.MapKept
set_option linter.unusedVariables false
set_option linter.unusedSectionVars false
set_option linter.unusedSimpArgs false
set_option maxRecDepth 100000
set_option maxHeartbeats 4000000
section
variable (v : Value) (t : St.S) (K : Nat) (hI : St.Inv t K) (hK : K ≤ 1000000)
include hI hK
end
end Go.Proofs.YtipkgamiejenaaaGreat

/- Reference 17: New. -/
namespace Go.Proofs.YtipkgamiejenaaaGreat
open Go Go.RowKit Go.MapKept
set_option linter.unusedVariables false
set_option linter.unusedSectionVars false
set_option linter.unusedSimpArgs false
set_option maxRecDepth 100000
set_option maxHeartbeats 4000000
def dn (n : Nat) : List Int := ((List.range n).reverse).map (Nat.cast : Nat → Int)
theorem dn_len (n : Nat) : (dn n).length = n := by simp [dn]
theorem dn_at (n k : Nat) (h : k < (dn n).length) : (dn n)[k] = ((n - 1 - k : Nat) : Int) := by
  have := dn_len n
  simp [dn, List.getElem_reverse]
theorem rf17_New (n : Nat) (hn : n ≤ 1048576) (w : World) (F : List HProp) (hw : holds w F) :
    Ct Tryz.prog 69 #[.int .i64 (n : Nat)] w fun e w' => ∃ v, e = .returned v ∧ holds w' (owns 3 encI1 1 v (dn n) :: F) := by
  refine Ct.go (args := [.int .i64 (n : Nat)]) Tryz.func69 rfl rfl rfl hw ?_
  repeat' (first | (apply qae; first | refine qa8 rfl ?_ | (apply qak; first | refine qaj rfl rfl rfl rfl rfl ?_ | refine qaf rfl rfl rfl rfl rfl ?_ | refine qag rfl rfl rfl rfl rfl ?_) | refine qan rfl rfl ?_ | refine qap rfl rfl rfl ?_ | refine qao rfl rfl rfl ?_ | (apply qax; first | refine qa6 rfl rfl (fun _ => ?_) | refine qa7 rfl rfl rfl (fun _ => ?_) | refine GL.box rfl rfl (fun _ => ?_)) | (apply qai; first | refine qaa rfl rfl rfl rfl rfl (fun _ => ?_) | refine qac rfl rfl rfl rfl rfl (fun _ => ?_)) | (apply qab; refine qam _ rfl rfl rfl rfl (by rfl) (by omega) (by omega) rfl (fun _ => ?_)) | (apply qal; refine GL.alloc rfl (fun _ => ?_))) | apply GL.nil | first | apply G.seq | apply G.region | apply G.block | apply G.skip | apply G.exit | apply G.ret | (apply qah; first | refine qbe rfl ?_ | refine qbf rfl ?_) | refine qbj (by kernel_rfl) (by kernel_rfl) ?_ | (apply qa4; first | apply qa5 | apply qa2 | apply qas | apply qat | apply qa3 | apply qa1 | apply qaq | refine qar rfl ?_ | apply qba) | (apply qad; first | refine qbb rfl ?_ | refine qau rfl rfl ?_ | refine qaw rfl rfl rfl ?_ | refine qav rfl rfl rfl ?_) | apply qbd | apply qbc | (apply qa0; refine qa9 rfl rfl ?_) | ((first | (apply qae; refine GL.guard rfl rfl (fun hc => ?_) (fun hc => ?_)) | (apply qah; refine G.cond rfl (fun hc => ?_) (fun hc => ?_)) | (apply qad; refine GD.guard rfl rfl (fun hc => ?_) (fun hc => ?_))) <;> ((try simp only [decide_eq_true_eq, decide_eq_false_iff_not, Bool.not_true, Bool.not_false, ne_eq, Classical.not_not, Int.not_lt, Int.not_le] at hc); (try (exfalso; first | omega | exact hc trivial | exact hc rfl)))))
  refine G.nilOwn 3 encI1 1 ?_
  refine G.loopK [0] (Int × Value × List Int) (fun y => [(4, .int .i64 y.1), (3, y.2.1)]) (fun y => owns 3 encI1 1 y.2.1 y.2.2 :: F) (fun y => -1 ≤ y.1 ∧ y.1 < n ∧ y.2.2 = (dn n).take (n - 1 - y.1 : Int).toNat) (fun y => (y.1 + 1).toNat) (((n : Int) - 1, .slice none 0 0, [])) (⟨by omega, by omega, by rw [show ((n : Int) - 1 - (n - 1)).toNat = 0 by omega]; rfl⟩) (by repeat (first | exact trivial | refine And.intro rfl ?_)) (fun w h => by (try dsimp only); first | exact h | exact h.sub | ((try simp only [List.take_zero, List.drop_zero, List.map_nil, List.nil_append, List.zipIdx_nil, List.filter_nil]); exact h.sub)) ?_
  rintro ⟨j, cv, cl⟩ ⟨h1, h2, h3⟩
  dsimp only at h1 h2 h3 ⊢
  have hln := dn_len n
  have hcl : cl.length ≤ 1048576 := by rw [h3, List.length_take]; omega
  by_cases hj : 0 ≤ j
  · repeat' (first | ((apply qab; refine qam (j) rfl rfl rfl rfl (by rfl) (by omega) (by omega) rfl (fun _ => ?_))) | first | (apply qae; first | refine qa8 rfl ?_ | (apply qak; first | refine qaj rfl rfl rfl rfl rfl ?_ | refine qaf rfl rfl rfl rfl rfl ?_ | refine qag rfl rfl rfl rfl rfl ?_) | refine qan rfl rfl ?_ | refine qap rfl rfl rfl ?_ | refine qao rfl rfl rfl ?_ | (apply qax; first | refine qa6 rfl rfl (fun _ => ?_) | refine qa7 rfl rfl rfl (fun _ => ?_) | refine GL.box rfl rfl (fun _ => ?_)) | (apply qai; first | refine qaa rfl rfl rfl rfl rfl (fun _ => ?_) | refine qac rfl rfl rfl rfl rfl (fun _ => ?_)) | (apply qab; refine qam _ rfl rfl rfl rfl (by rfl) (by omega) (by omega) rfl (fun _ => ?_)) | (apply qal; refine GL.alloc rfl (fun _ => ?_))) | apply GL.nil | first | apply G.seq | apply G.region | apply G.block | apply G.skip | apply G.exit | apply G.ret | (apply qah; first | refine qbe rfl ?_ | refine qbf rfl ?_) | refine qbj (by kernel_rfl) (by kernel_rfl) ?_ | (apply qa4; first | apply qa5 | apply qa2 | apply qas | apply qat | apply qa3 | apply qa1 | apply qaq | refine qar rfl ?_ | apply qba) | (apply qad; first | refine qbb rfl ?_ | refine qau rfl rfl ?_ | refine qaw rfl rfl rfl ?_ | refine qav rfl rfl rfl ?_) | apply qbd | apply qbc | (apply qa0; refine qa9 rfl rfl ?_) | ((first | (apply qae; refine GL.guard rfl rfl (fun hc => ?_) (fun hc => ?_)) | (apply qah; refine G.cond rfl (fun hc => ?_) (fun hc => ?_)) | (apply qad; refine GD.guard rfl rfl (fun hc => ?_) (fun hc => ?_))) <;> ((try simp only [decide_eq_true_eq, decide_eq_false_iff_not, Bool.not_true, Bool.not_false, ne_eq, Classical.not_not, Int.not_lt, Int.not_le] at hc); (try (exfalso; first | omega | exact hc trivial | exact hc rfl)))))
    all_goals (first | (exfalso; omega) | skip)
    rename_i cv2
    have hs : cl ++ [j] = (dn n).take (n - 1 - (j - 1) : Int).toNat := by
      rw [show ((n : Int) - 1 - (j - 1)).toNat = (n - 1 - j : Int).toNat + 1 by omega, List.take_succ_eq_append_getElem (by omega), ← h3, dn_at]
      congr 2; omega
    refine GE.round ((j - 1, cv2, cl ++ [j])) (⟨by dsimp only; omega, by dsimp only; omega, hs⟩) (by repeat (first | exact trivial | refine And.intro rfl ?_)) (fun w h => by (try dsimp only); exact h.sub) (by (try dsimp only); omega)
  · have hs : cl = dn n := by rw [h3, List.take_of_length_le (by omega)]
    repeat' (first | (apply qae; first | refine qa8 rfl ?_ | (apply qak; first | refine qaj rfl rfl rfl rfl rfl ?_ | refine qaf rfl rfl rfl rfl rfl ?_ | refine qag rfl rfl rfl rfl rfl ?_) | refine qan rfl rfl ?_ | refine qap rfl rfl rfl ?_ | refine qao rfl rfl rfl ?_ | (apply qax; first | refine qa6 rfl rfl (fun _ => ?_) | refine qa7 rfl rfl rfl (fun _ => ?_) | refine GL.box rfl rfl (fun _ => ?_)) | (apply qai; first | refine qaa rfl rfl rfl rfl rfl (fun _ => ?_) | refine qac rfl rfl rfl rfl rfl (fun _ => ?_)) | (apply qab; refine qam _ rfl rfl rfl rfl (by rfl) (by omega) (by omega) rfl (fun _ => ?_)) | (apply qal; refine GL.alloc rfl (fun _ => ?_))) | apply GL.nil | first | apply G.seq | apply G.region | apply G.block | apply G.skip | apply G.exit | apply G.ret | (apply qah; first | refine qbe rfl ?_ | refine qbf rfl ?_) | refine qbj (by kernel_rfl) (by kernel_rfl) ?_ | (apply qa4; first | apply qa5 | apply qa2 | apply qas | apply qat | apply qa3 | apply qa1 | apply qaq | refine qar rfl ?_ | apply qba) | (apply qad; first | refine qbb rfl ?_ | refine qau rfl rfl ?_ | refine qaw rfl rfl rfl ?_ | refine qav rfl rfl rfl ?_) | apply qbd | apply qbc | (apply qa0; refine qa9 rfl rfl ?_) | ((first | (apply qae; refine GL.guard rfl rfl (fun hc => ?_) (fun hc => ?_)) | (apply qah; refine G.cond rfl (fun hc => ?_) (fun hc => ?_)) | (apply qad; refine GD.guard rfl rfl (fun hc => ?_) (fun hc => ?_))) <;> ((try simp only [decide_eq_true_eq, decide_eq_false_iff_not, Bool.not_true, Bool.not_false, ne_eq, Classical.not_not, Int.not_lt, Int.not_le] at hc); (try (exfalso; first | omega | exact hc trivial | exact hc rfl)))))
    all_goals (first | (exfalso; omega) | skip)
    refine qbi rfl (by (repeat (first | apply Res.nil | (apply Res.tmp; rfl) | (refine qay rfl rfl rfl ?_) | (refine qaz rfl rfl ?_)))) (fun w h => ?_)
    exact ⟨_, rfl, by rw [← hs]; exact h.sub⟩
end Go.Proofs.YtipkgamiejenaaaGreat

/- Reference 19: Owned. -/
namespace Go.Proofs.YtipkgamiejenaaaGreat
open Go Go.RowKit Go.MapKept
set_option linter.unusedVariables false
set_option linter.unusedSectionVars false
set_option linter.unusedSimpArgs false
set_option maxRecDepth 100000
set_option maxHeartbeats 4000000
section
variable (v : Value) (t : St.S) (K : Nat) (hI : St.Inv t K) (hK : K ≤ 1000000)
include hI hK
end
end Go.Proofs.YtipkgamiejenaaaGreat

/- Reference 19: Make. -/
namespace Go.Proofs.YtipkgamiejenaaaGreat
open Go Go.RowKit Go.MapKept
set_option linter.unusedVariables false
set_option linter.unusedSectionVars false
set_option linter.unusedSimpArgs false
set_option maxRecDepth 100000
set_option maxHeartbeats 4000000
theorem holds.cast1 {w : World} {A B : HProp} {F : List HProp} (e : A = B) (h : holds w (A :: F)) : holds w (B :: F) := e ▸ h
structure RfK where
  k : Nat
  ca : Option Addr
  cc : Nat
  xa : Option Addr
  xc : Nat
  wa : Option Addr
  wc : Nat
theorem rf19_Make (n sz : Nat) (h0 : 0 < n) (hn : n ≤ 1048576) (hs0 : 64 ≤ sz) (hs1 : sz ≤ 256) (hp : Pw.pow sz = true) (w : World) (F : List HProp) (hw : holds w F) :
    Ct Tryz.prog 12 #[.int .i64 (n : Nat), .int .i64 (sz : Nat)] w fun e w' => ∃ v : Value, e = .returned (.tuple #[v, .int .i64 0]) ∧ holds w' (refS v (St.new n sz) :: F) := by
  refine Ct.go (args := [.int .i64 (n : Nat), .int .i64 (sz : Nat)]) Tryz.func12 rfl rfl rfl hw ?_
  have hP := fun w (F : List HProp) h => ref01_Power sz (by omega) (by omega) w F h
  rw [hp] at hP
  have hdl := dn_len n
  repeat' (first | (first | first | (apply qab; refine qbg rfl rfl (fun w h => hP w _ h) ?_) | (apply qad; refine GD.call rfl rfl (fun w F' h => hP w _ h) ?_) | (refine qbk 0 ?_; apply G.region; apply qal; refine GL.alloc (e := 34) rfl (fun br => ?_)) | (apply qal; first | (refine GL.alloc (e := 34) rfl (fun bz => ?_))) | (apply qab; refine GL.call rfl rfl (fun w h => rf17_New n hn w _ h) (fun sv => ?_); refine GL.pure (fun wx hx => ?_); obtain ⟨sa, sc, rfl, _⟩ := (Reads.at_ (v := sv) (enc := encI1) (n := 1) (l := dn n) wx hx).form; clear hx)) | first | (apply qae; first | refine qa8 rfl ?_ | (apply qak; first | refine qaj rfl rfl rfl rfl rfl ?_ | refine qaf rfl rfl rfl rfl rfl ?_ | refine qag rfl rfl rfl rfl rfl ?_) | refine qan rfl rfl ?_ | refine qap rfl rfl rfl ?_ | refine qao rfl rfl rfl ?_ | (apply qax; first | refine qa6 rfl rfl (fun _ => ?_) | refine qa7 rfl rfl rfl (fun _ => ?_) | refine GL.box rfl rfl (fun _ => ?_)) | (apply qai; first | refine qaa rfl rfl rfl rfl rfl (fun _ => ?_) | refine qac rfl rfl rfl rfl rfl (fun _ => ?_)) | (apply qab; refine qam _ rfl rfl rfl rfl (by rfl) (by omega) (by omega) rfl (fun _ => ?_)) | (apply qal; refine GL.alloc rfl (fun _ => ?_))) | apply GL.nil | first | apply G.seq | apply G.region | apply G.block | apply G.skip | apply G.exit | apply G.ret | (apply qah; first | refine qbe rfl ?_ | refine qbf rfl ?_) | refine qbj (by kernel_rfl) (by kernel_rfl) ?_ | (apply qa4; first | apply qa5 | apply qa2 | apply qas | apply qat | apply qa3 | apply qa1 | apply qaq | refine qar rfl ?_ | apply qba) | (apply qad; first | refine qbb rfl ?_ | refine qau rfl rfl ?_ | refine qaw rfl rfl rfl ?_ | refine qav rfl rfl rfl ?_) | apply qbd | apply qbc | (apply qa0; refine qa9 rfl rfl ?_) | ((first | (apply qae; refine GL.guard rfl rfl (fun hc => ?_) (fun hc => ?_)) | (apply qah; refine G.cond rfl (fun hc => ?_) (fun hc => ?_)) | (apply qad; refine GD.guard rfl rfl (fun hc => ?_) (fun hc => ?_))) <;> ((try simp only [decide_eq_true_eq, decide_eq_false_iff_not, Bool.not_true, Bool.not_false, ne_eq, Classical.not_not, Int.not_lt, Int.not_le] at hc); (try (exfalso; first | omega | exact hc trivial | exact hc rfl)))))
  all_goals (first | (exfalso; omega) | (exfalso; simp at hc; done) | skip)
  refine G.nilOwn 84 encCk 3 ?_
  refine G.nilOwn 9 encTx 1 ?_
  refine G.nilOwn 3 encI1 1 ?_
  refine G.loopK [0, 1, 4, 6] (RfK) (fun y => [(7, .int .i64 (y.k : Nat))]) (fun y => owns 3 encI1 1 (.slice y.wa (List.replicate (y.k) (0 : Int)).length y.wc) (List.replicate (y.k) (0 : Int)) :: owns 9 encTx 1 (.slice y.xa (List.replicate (y.k) (St.zeros sz)).length y.xc) (List.replicate (y.k) (St.zeros sz)) :: owns 84 encCk 3 (.slice y.ca (List.replicate (y.k) St.ch0).length y.cc) (List.replicate (y.k) St.ch0) :: blk bz (.cells #[.int .i64 (sz : Nat), .slice y.ca (List.replicate (y.k) St.ch0).length y.cc, .slice y.xa (List.replicate (y.k) (St.zeros sz)).length y.xc, .slice y.wa (List.replicate (y.k) (0 : Int)).length y.wc, .slice sa (dn n).length sc, .int .i64 0, .int .i64 0, .int .i64 0, .int .i64 0] 34 (0, 0)) :: owns 3 encI1 1 (.slice sa (dn n).length sc) (dn n) :: blk br (.cells #[.int .i64 0, .slice none 0 0, .slice none 0 0, .slice none 0 0, .slice none 0 0, .int .i64 0, .int .i64 0, .int .i64 0, .int .i64 0] 34 (0, 0)) :: F) (fun y => y.k ≤ n) (fun y => n - y.k) (⟨0, none, 0, none, 0, none, 0⟩) (Nat.zero_le _) (by repeat (first | exact trivial | refine And.intro rfl ?_)) (fun w h => by (try dsimp only); first | exact h | exact h.sub | ((try simp only [List.take_zero, List.drop_zero, List.map_nil, List.nil_append, List.zipIdx_nil, List.filter_nil]); exact h.sub)) ?_
  rintro ⟨k, ca, cc, xa, xc, wa, wc⟩ hk
  dsimp only at hk ⊢
  have l1 : (List.replicate (k) St.ch0).length = k := List.length_replicate ..
  have l2 : (List.replicate (k) (St.zeros sz)).length = k := List.length_replicate ..
  have l3 : (List.replicate (k) (0 : Int)).length = k := List.length_replicate ..
  by_cases hlt : k < n
  · repeat' (first | (first | (apply qab; refine qam (St.ch0) rfl rfl rfl rfl (by rfl) (by omega) (by omega) rfl (fun r => ?_); refine GL.pure (fun wx hx => ?_); obtain ⟨ya, yc, rfl, _⟩ := (Reads.at_ (v := r) (enc := encCk) (n := 3) (l := List.replicate (k) St.ch0 ++ [St.ch0]) wx hx).form; clear hx) | (apply qab; refine qam ((0 : Int)) rfl rfl rfl rfl (by rfl) (by omega) (by omega) rfl (fun r => ?_); refine GL.pure (fun wx hx => ?_); obtain ⟨ua, uc, rfl, _⟩ := (Reads.at_ (v := r) (enc := encI1) (n := 1) (l := List.replicate (k) (0 : Int) ++ [(0 : Int)]) wx hx).form; clear hx) | (refine qbk 8 ?_; refine G.drawW [⟨none, [], some 5, none, fun _ => True, fun _ => owns 9 encTx 1 (.slice xa (List.replicate (k) (St.zeros sz)).length xc) (List.replicate (k) (St.zeros sz))⟩, ⟨some 3, [], none, some 46, fun u => u = .string (bs (St.zeros sz)), fun _ _ => True⟩, ⟨some 4, [], some 5, some 47, IsSlc, fun u => owns 9 encTx 1 u [St.zeros sz]⟩, ⟨some 5, [0, 2], none, some 48, IsSlc, fun u => owns 9 encTx 1 u (List.replicate (k) (St.zeros sz) ++ [St.zeros sz])⟩, ⟨none, [], some 7, none, fun _ => True, fun _ => blk bz (.cells (#[.int .i64 (sz : Nat), .slice ca (List.replicate (k) St.ch0).length cc, .slice xa (List.replicate (k) (St.zeros sz)).length xc, .slice wa (List.replicate (k) (0 : Int)).length wc, .slice sa (dn n).length sc, .int .i64 0, .int .i64 0, .int .i64 0, .int .i64 0].toList.set (0 + 1) (.slice ya (List.replicate (k) St.ch0 ++ [St.ch0]).length yc)).toArray 34 (0, 0))⟩, ⟨some 7, [4], none, some 48, fun _ => True, fun u => blk bz (.cells #[.int .i64 (sz : Nat), .slice ya (List.replicate (k) St.ch0 ++ [St.ch0]).length yc, u, .slice wa (List.replicate (k) (0 : Int)).length wc, .slice sa (dn n).length sc, .int .i64 0, .int .i64 0, .int .i64 0, .int .i64 0] 34 (0, 0))⟩] [(1, [4])] [0, 4] [1, 3, 5] (by kernel_rfl) (by kernel_rfl) rfl ⟨⟨_, rfl, .inl rfl⟩, ⟨_, rfl, .inl rfl⟩, trivial⟩ ?_) | (apply GW.isAny; first | refine GW.runA rfl rfl ?_ | refine GW.seeA rfl rfl ⟨⟨_, rfl, .inl rfl⟩, trivial⟩ rfl ?_) | (apply GW.isAny; refine GW.see (L := [blk bz (.cells (#[.int .i64 (sz : Nat), .slice ca (List.replicate (k) St.ch0).length cc, .slice xa (List.replicate (k) (St.zeros sz)).length xc, .slice wa (List.replicate (k) (0 : Int)).length wc, .slice sa (dn n).length sc, .int .i64 0, .int .i64 0, .int .i64 0, .int .i64 0].toList.set (0 + 1) (.slice ya (List.replicate (k) St.ch0 ++ [St.ch0]).length yc)).toArray 34 (0, 0))]) rfl rfl ⟨⟨_, rfl, .inl rfl⟩, trivial⟩ (by show Runs _ _ _ (_ :: _) _ _; first | (apply Runs.isMove; exact Runs.move rfl) | (apply Runs.isLoad; first | exact Runs.loadBlk rfl rfl | exact Runs.loadRow rfl (by first | omega | decide) rfl | exact Runs.loadRow0 rfl (by first | omega | decide) rfl | exact Runs.loadElem rfl (by first | omega | decide) | exact Runs.loadWhole rfl rfl | exact Runs.loadBlkA rfl rfl rfl) | (apply Runs.isFieldA; exact Runs.fieldAddr rfl) | (apply Runs.isBin; first | (apply Runs.eql <;> rfl) | (apply Runs.lss <;> rfl) | (apply Runs.neq <;> rfl) | (apply Runs.leq <;> rfl) | (apply Runs.gtr <;> rfl) | (apply Runs.geq <;> rfl) | exact Runs.add rfl rfl (by omega) | exact Runs.sub rfl rfl (by omega) | exact Runs.mul rfl rfl (by omega) | exact Runs.quo rfl rfl (by omega) | exact Runs.rem rfl rfl (by omega) | exact Runs.shr rfl rfl | exact Runs.shl rfl rfl (by omega) | exact Runs.and20 rfl rfl | exact Runs.shrU rfl rfl | exact Runs.eqlPtrNil rfl | exact Runs.neqPtrNil rfl | exact Runs.eqlMapNil rfl | exact Runs.neqMapNil rfl | exact Runs.eqlSlNil rfl | exact Runs.eqlInts rfl rfl rfl rfl | exact Runs.neqInts rfl rfl rfl rfl) | (apply Runs.isAssign; exact Runs.assign rfl) | (apply qbp; first | exact Runs.indexAddr rfl rfl rfl rfl (by first | omega | decide) | exact Runs.indexAddrI rfl rfl rfl (by first | omega | decide) (by first | omega | decide) | exact Runs.indexArr rfl rfl rfl (by first | omega | decide)) | (apply Runs.isPick; first | exact Runs.pickT rfl rfl | exact Runs.pickF rfl rfl) | (apply Runs.isExtract; exact Runs.extract rfl rfl) | (apply Runs.isBuiltin; first | exact Runs.lenRow rfl | exact Runs.min2 rfl rfl | exact Runs.max2 rfl rfl | exact Runs.lenMap rfl | exact Runs.lenArr rfl) | (apply qbl; first | exact qbo rfl rfl | exact qbm rfl rfl (by assumption) | exact qbn rfl rfl (by assumption) | exact Runs.lookup rfl rfl | exact Runs.lookupOk rfl rfl) | (apply Runs.isSlice; first | exact Runs.slice _ _ rfl rfl rfl rfl rfl rfl ⟨⟨(by first | omega | decide), (by first | omega | decide)⟩, .inl rfl⟩ | exact Runs.slice3 _ _ rfl rfl rfl rfl rfl rfl rfl ⟨⟨(by first | omega | decide), (by first | omega | decide)⟩, .inr rfl⟩) | (apply Runs.isConvert; exact Runs.convII rfl (by omega)) | (apply Runs.isField; first | exact Runs.fieldVal rfl rfl | exact Runs.fieldAgg rfl) | (apply Runs.isBuild; exact Runs.build rfl rfl) | (apply Runs.isIndex; first | exact Runs.indexVal rfl rfl rfl (by first | omega | decide) rfl | exact Runs.indexAgg rfl rfl rfl rfl rfl) | (apply Runs.isUn; first | exact Runs.not rfl | exact Runs.neg rfl (by omega)) | (apply Runs.isMakeFunc; exact Runs.makeFunc rfl rfl) | (apply Runs.isNilCheck; exact Runs.nilCheck rfl)) rfl ?_) | (apply GW.isAny; refine GW.eff rfl rfl rfl rfl rfl trivial rfl trivial (fun u hu => by subst hu; rfl) (DoesW.callK (vs := [.int .i64 (sz : Nat)]) rfl (fun w F' h => rf10_New sz (by omega) w _ h)) rfl (fun u hu => ?_); subst hu) | (apply GW.isAny; refine GW.eff rfl rfl rfl rfl rfl trivial rfl trivial (fun u hu => hu.defd) (DoesW.buildOne (St.zeros sz) rfl (by omega) rfl rfl) rfl (fun u hu => ?_); obtain ⟨a6, k6, c6, rfl⟩ := hu) | (apply GW.isAny; refine GW.eff rfl rfl rfl rfl rfl ⟨⟨_, rfl, .inl rfl⟩, ⟨_, rfl, .inr (.inr ⟨_, _, rfl, rfl, rfl⟩)⟩, trivial⟩ rfl trivial (fun u hu => hu.defd) (DoesW.append rfl rfl rfl (by simp; omega) (by simp; omega)) rfl (fun u hu => ?_); obtain ⟨a7, k7, c7, rfl⟩ := hu) | (apply GW.isAny; refine GW.storeOn (v7 := .slice a7 k7 c7) rfl rfl rfl rfl rfl rfl rfl ⟨⟨_, rfl, .inl rfl⟩, trivial⟩ rfl trivial rfl (DoesW.storeBlk (R := fun _ => True) rfl rfl rfl rfl rfl rfl) ?_) | (refine GW.nilE rfl ⟨⟨_, rfl, .inr (.inr ⟨_, _, rfl, rfl, rfl⟩)⟩, ⟨_, rfl, .inr (.inr ⟨_, _, rfl, rfl, rfl⟩)⟩, ⟨_, rfl, .inr (.inr ⟨_, _, rfl, rfl, rfl⟩)⟩, trivial⟩ ?_; dsimp only [List.cons_append, List.nil_append]) | (refine qbk 9 ?_; refine G.pure (fun wx hx => ?_); obtain ⟨_, _, e9, _⟩ := (Reads.at_ (v := .slice a7 k7 c7) (enc := encTx) (n := 1) (l := (List.replicate (k) (St.zeros sz) ++ [St.zeros sz])) wx hx).form; cases e9; clear hx; apply G.region)) | first | (apply qae; first | refine qa8 rfl ?_ | (apply qak; first | refine qaj rfl rfl rfl rfl rfl ?_ | refine qaf rfl rfl rfl rfl rfl ?_ | refine qag rfl rfl rfl rfl rfl ?_) | refine qan rfl rfl ?_ | refine qap rfl rfl rfl ?_ | refine qao rfl rfl rfl ?_ | (apply qax; first | refine qa6 rfl rfl (fun _ => ?_) | refine qa7 rfl rfl rfl (fun _ => ?_) | refine GL.box rfl rfl (fun _ => ?_)) | (apply qai; first | refine qaa rfl rfl rfl rfl rfl (fun _ => ?_) | refine qac rfl rfl rfl rfl rfl (fun _ => ?_)) | (apply qab; refine qam _ rfl rfl rfl rfl (by rfl) (by omega) (by omega) rfl (fun _ => ?_)) | (apply qal; refine GL.alloc rfl (fun _ => ?_))) | apply GL.nil | first | apply G.seq | apply G.region | apply G.block | apply G.skip | apply G.exit | apply G.ret | (apply qah; first | refine qbe rfl ?_ | refine qbf rfl ?_) | refine qbj (by kernel_rfl) (by kernel_rfl) ?_ | (apply qa4; first | apply qa5 | apply qa2 | apply qas | apply qat | apply qa3 | apply qa1 | apply qaq | refine qar rfl ?_ | apply qba) | (apply qad; first | refine qbb rfl ?_ | refine qau rfl rfl ?_ | refine qaw rfl rfl rfl ?_ | refine qav rfl rfl rfl ?_) | apply qbd | apply qbc | (apply qa0; refine qa9 rfl rfl ?_) | ((first | (apply qae; refine GL.guard rfl rfl (fun hc => ?_) (fun hc => ?_)) | (apply qah; refine G.cond rfl (fun hc => ?_) (fun hc => ?_)) | (apply qad; refine GD.guard rfl rfl (fun hc => ?_) (fun hc => ?_))) <;> ((try simp only [decide_eq_true_eq, decide_eq_false_iff_not, Bool.not_true, Bool.not_false, ne_eq, Classical.not_not, Int.not_lt, Int.not_le] at hc); (try (exfalso; first | omega | exact hc trivial | exact hc rfl)))))
    all_goals (first | (exfalso; omega) | skip)
    refine GE.round ⟨k + 1, ya, yc, a7, c7, ua, uc⟩ hlt (by repeat (first | exact trivial | refine And.intro rfl ?_)) (fun w h => by (try dsimp only); rw [List.replicate_succ', List.replicate_succ', List.replicate_succ']; exact (holds.cast1 (B := blk bz (.cells #[.int .i64 (sz : Nat), .slice ya (List.replicate (k) St.ch0 ++ [St.ch0]).length yc, .slice a7 (List.replicate (k) (St.zeros sz) ++ [St.zeros sz]).length c7, .slice ua (List.replicate (k) (0 : Int) ++ [(0 : Int)]).length uc, .slice sa (dn n).length sc, .int .i64 0, .int .i64 0, .int .i64 0, .int .i64 0] 34 (0, 0))) rfl h).sub) (by (try dsimp only); omega)
  · obtain rfl : k = n := by omega
    repeat' (first | (apply qae; first | refine qa8 rfl ?_ | (apply qak; first | refine qaj rfl rfl rfl rfl rfl ?_ | refine qaf rfl rfl rfl rfl rfl ?_ | refine qag rfl rfl rfl rfl rfl ?_) | refine qan rfl rfl ?_ | refine qap rfl rfl rfl ?_ | refine qao rfl rfl rfl ?_ | (apply qax; first | refine qa6 rfl rfl (fun _ => ?_) | refine qa7 rfl rfl rfl (fun _ => ?_) | refine GL.box rfl rfl (fun _ => ?_)) | (apply qai; first | refine qaa rfl rfl rfl rfl rfl (fun _ => ?_) | refine qac rfl rfl rfl rfl rfl (fun _ => ?_)) | (apply qab; refine qam _ rfl rfl rfl rfl (by rfl) (by omega) (by omega) rfl (fun _ => ?_)) | (apply qal; refine GL.alloc rfl (fun _ => ?_))) | apply GL.nil | first | apply G.seq | apply G.region | apply G.block | apply G.skip | apply G.exit | apply G.ret | (apply qah; first | refine qbe rfl ?_ | refine qbf rfl ?_) | refine qbj (by kernel_rfl) (by kernel_rfl) ?_ | (apply qa4; first | apply qa5 | apply qa2 | apply qas | apply qat | apply qa3 | apply qa1 | apply qaq | refine qar rfl ?_ | apply qba) | (apply qad; first | refine qbb rfl ?_ | refine qau rfl rfl ?_ | refine qaw rfl rfl rfl ?_ | refine qav rfl rfl rfl ?_) | apply qbd | apply qbc | (apply qa0; refine qa9 rfl rfl ?_) | ((first | (apply qae; refine GL.guard rfl rfl (fun hc => ?_) (fun hc => ?_)) | (apply qah; refine G.cond rfl (fun hc => ?_) (fun hc => ?_)) | (apply qad; refine GD.guard rfl rfl (fun hc => ?_) (fun hc => ?_))) <;> ((try simp only [decide_eq_true_eq, decide_eq_false_iff_not, Bool.not_true, Bool.not_false, ne_eq, Classical.not_not, Int.not_lt, Int.not_le] at hc); (try (exfalso; first | omega | exact hc trivial | exact hc rfl)))))
    all_goals (first | (exfalso; omega) | skip)
    refine qbh rfl (by (repeat (first | apply Res.nil | (apply Res.tmp; rfl) | (refine qay rfl rfl rfl ?_) | (refine qaz rfl rfl ?_)))) (fun w h => ?_)
    exact ⟨_, rfl, refS.shut (t := St.new k sz) rfl (holds.sub (H := owns 84 encCk 3 (.slice ca (List.replicate (k) St.ch0).length cc) (List.replicate (k) St.ch0) :: owns 9 encTx 1 (.slice xa (List.replicate (k) (St.zeros sz)).length xc) (List.replicate (k) (St.zeros sz)) :: owns 3 encI1 1 (.slice wa (List.replicate (k) (0 : Int)).length wc) (List.replicate (k) (0 : Int)) :: owns 3 encI1 1 (.slice sa (dn k).length sc) (dn k) :: F) h)⟩
end Go.Proofs.YtipkgamiejenaaaGreat

/- A drawn region where one operation that only moves a value is taken ahead of all; then a head that only reads; the rest comes up in one order. -/
namespace Go.Proofs.YtipkgamiejenaaaGreat
open Go Go.RowKit Go.MapKept
set_option linter.unusedVariables false
set_option linter.unusedSectionVars false
set_option linter.unusedSimpArgs false

def seqL (md : Region.Mode) (ops : Array Oper) : List Nat → Array Bool → Bool
  | [], l => (Region.ready md ops l).isEmpty
  | i :: is, l => decide (Region.ready md ops l = [i]) && seqL md ops is (l.setIfInBounds i true)
section
variable {P : Program} {n : Nat} {ops : Array Oper} {md : Region.Mode} {F : List HProp} {Z : Act → Prop} {Q : Exit → Act → World → Prop} {env : Env} {ty : TypeId} {pos : String} {aft : Array Edge}
theorem wpAny_of_seqL {Q' : Exit → Act → World → Prop} : ∀ (l : List Oper) (is : List Nat) (listed : Array Bool) (a : Act) (w : World), (is.map fun i => ops[i]?) = l.map some → seqL md ops is listed = true → wpList P ops Q' l a w → wpAny P md ops Q' is.length listed a w
  | [], [], listed, a, w, _, hB, h => ⟨by simpa [seqL] using hB, h⟩
  | o :: l, i :: is, listed, a, w, hl, hB, h => by
    simp only [List.map_cons, List.cons.injEq] at hl
    obtain ⟨h0, hl⟩ := hl
    simp only [seqL, Bool.and_eq_true, decide_eq_true_eq] at hB
    refine ⟨fun h1 => (by rw [hB.1] at h1; cases h1), fun j hj => ?_⟩
    rw [hB.1] at hj
    have hik : j = i := by simpa using hj
    subst hik
    have hw : wpOp P ops Q' j (wpList P ops Q' l) a w := by unfold wpOp; simp only [h0]; exact h
    exact wpOp_mono (fun a' w' h' => wpAny_of_seqL l is _ a' w' hl hB.2 h') hw
  | [], _ :: _, _, _, _, hl, _, _ => by simp at hl
  | _ :: _, [], _, _, _, hl, _, _ => by simp at hl
theorem loose_congr2 {S S' : Nat → Option LSpec} {Z' : Act → Prop} (hs : bareS S) (hs' : bareS S') (hZ : ∀ a, Z a → Z' a) : ∀ (l : List Oper) (k : Nat) (a : Act), (∀ j, k ≤ j → j < k + l.length → S j = S' j) → wpLoose P ops S F Z k l a → wpLoose P ops S' F Z' k l a
  | [], k, a, _, h => hZ a h
  | o :: l, k, a, he, h => by
    unfold wpLoose at h ⊢
    have ih : ∀ a, wpLoose P ops S F Z (k + 1) l a → wpLoose P ops S' F Z' (k + 1) l a := fun a => loose_congr2 hs hs' hZ l (k + 1) a fun j hj hj2 => he j (by omega) (by simp only [List.length_cons]; omega)
    split at h
    · rename_i hw
      rw [if_pos hw]
      unfold LooseOp at h ⊢
      rw [← he k (Nat.le_refl _) (by simp)]
      cases hS : S k with
      | none =>
        rw [hS] at h
        intro w F' hh
        rw [needs_bareS hs'] at hh
        exact exactUpon_mono (h w F' (by rw [needs_bareS hs]; exact hh)) fun v _ hv => ih _ hv
      | some s =>
        rw [hS] at h
        refine ⟨fun w F' hh => ?_, fun u hu => ih _ (h.2 u hu)⟩
        rw [needs_bareS hs'] at hh ⊢
        have := h.1 w F' (by rw [needs_bareS hs]; exact hh)
        rw [needs_bareS hs] at this
        have e1 : ∀ u, lpieces S k u = lpieces S' k u := fun u => by rw [hs, hs']
        simp only [e1] at this
        exact this
    · rename_i hw
      rw [if_neg hw]
      exact ih _ h
def nthO : List Oper → Nat → Option Oper
  | [], _ => none
  | a :: l, n => bif Nat.beq n 0 then some a else nthO l (n - 1)
theorem nthO_eq : ∀ (l : List Oper) (n : Nat), nthO l n = l[n]?
  | [], n => by simp [nthO]
  | a :: l, 0 => rfl
  | a :: l, n + 1 => by
    show (bif Nat.beq (n + 1) 0 then some a else nthO l (n + 1 - 1)) = _
    rw [show Nat.beq (n + 1) 0 = false from rfl, cond_false, Nat.add_sub_cancel, nthO_eq l n]; rfl
theorem nthO_arr {l : List Oper} {o : Nat} {u : Oper} (h : nthO l o = some u) : l.toArray[o]? = some u := by rw [nthO_eq] at h; simpa using h
inductive PickIs (l : List Oper) : List Nat → List Oper → Prop where
  | nil : PickIs l [] []
  | cons {i : Nat} {o : Oper} {is : List Nat} {os : List Oper} (h : nthO l i = some o) (t : PickIs l is os) : PickIs l (i :: is) (o :: os)
theorem PickIs.eq {l : List Oper} {is : List Nat} {os : List Oper} (h : PickIs l is os) : (is.map fun i => l.toArray[i]?) = os.map some := by
  induction h with
  | nil => rfl
  | cons h t ih => rw [List.map_cons, List.map_cons, ih, nthO_arr h]
/-- A walk stands here. -/
structure GStop (p : Prop) : Prop where
  out : p
theorem G.stop {c : Code} (h : GStop (G P n c Q env F)) : G P n c Q env F := h.out
theorem G.drawAhead {id : Nat} {l l1 l2 : List Oper} {op : Op} {d : Tmp} {v : Value} (m p : Nat) (is : List Nat) (hm : P.follows .mixedOrders = true) (hp : nthO l p = some ⟨some d, op, ty, pos, aft, none⟩) (h1 : l.take m = l1) (h2 : PickIs l is l2)
    (hB : (((headB .any l.toArray m (listPre l.toArray.size [p]) && looseB l.toArray .any) && (Region.free .any l.toArray (Array.replicate l.toArray.size false) p && (Region.ready .any l.toArray (Array.replicate l.toArray.size false)).contains p && decide (l.toArray.size = m + is.length + 1))) && (Nat.ble m p && Nat.ble m l.length && seqL .any l.toArray is (listTo m 0 (listPre l.toArray.size [p])))) = true)
    (hr : Runs P n env [] op v) (hd : Nat.blt d n = true)
    (h : GD P n l.toArray F (fun a' => ∀ w', holds w' F → wpList P l.toArray (onlyN Q) l2 a' w') 0 l1 ((d, v) :: env)) : G P n (.region id l.toArray true) Q env F := .mk fun a w hf hw => by
  subst h1
  rw [Bool.and_eq_true] at hB
  obtain ⟨hB, hB2⟩ := hB
  simp only [Bool.and_eq_true] at hB2
  obtain ⟨⟨hmp, hml⟩, hsq⟩ := hB2
  have hmp : m ≤ p := Nat.le_of_ble_eq_true hmp
  have hml : m ≤ l.length := Nat.le_of_ble_eq_true hml
  obtain ⟨S, hS, h3⟩ := h.out
  let S' : Nat → Option LSpec := fun i => if i < m then S i else none
  have hS' : bareS S' := by
    intro i u
    have := hS i u
    unfold lpieces at this ⊢
    by_cases hi : i < m
    · simp only [S', hi, if_true]; exact this
    · simp only [S', hi, if_false]
  have htl : (l.take m).length = m := by simp; omega
  refine wp_region_cut2 m p is.length S' F hm (op := ⟨some d, op, ty, pos, aft, none⟩) (v := v) (nthO_arr hp) hB (by simp [Region.wanted]) (fun w => ?_) (by simp [S']; omega) hw ?_
  · exact hr a w ty pos aft none (some d) hf (holds.nil w)
  · exact loose_congr2 hS hS' (fun a' ha' w' hw' => wpAny_of_seqL l2 is _ a' w' h2.eq hsq (ha' w' hw')) _ 0 _ (fun j _ hj => by rw [htl] at hj; simp [S']; intro; omega) (h3 _ (hf.put hd v))
end
end Go.Proofs.YtipkgamiejenaaaGreat

/- Reference 19: Take. -/
namespace Go.Proofs.YtipkgamiejenaaaGreat
open Go Go.RowKit Go.MapKept
set_option linter.unusedVariables false
set_option linter.unusedSimpArgs false
set_option maxRecDepth 100000
set_option maxHeartbeats 4000000
section
variable (v : Value) (t : St.S) (K : Nat) (hI : St.Inv t K) (hK : K ≤ 1000000)
include hI hK
theorem rf19_Take (ow : Int) (w : World) (F : List HProp) (hw : holds w (refS v t :: F)) :
    Ct Tryz.prog 31 #[v, .int .i64 ow] w fun e w' => ∃ v', e = .returned (.tuple #[v', .int .i64 (St.take t ow).2.1, .int .i64 (St.take t ow).2.2]) ∧ holds w' (refS v' (St.take t ow).1 :: F) := by
  obtain ⟨q, ⟨rfl, hev⟩, h1⟩ := refS.open hw
  have hnc := hI.ncap
  have hsl := hI.stk
  unfold St.take
  refine Ct.go (args := [.agg #[.int .i64 (t.size : Nat), .slice q.ca t.ch.length q.cc, .slice q.xa t.tx.length q.xc, .slice q.wa t.wi.length q.wc, .slice q.sa t.stack.length q.sc, .int .i64 q.e0, .int .i64 q.e1, .int .i64 q.e2, .int .i64 q.e3], .int .i64 ow]) Tryz.func31 rfl rfl rfl h1 ?_
  by_cases h0 : ow < 1
  · rw [if_pos h0]
    repeat' (first | (apply qae; first | refine qa8 rfl ?_ | (apply qak; first | refine qaj rfl rfl rfl rfl rfl ?_ | refine qaf rfl rfl rfl rfl rfl ?_ | refine qag rfl rfl rfl rfl rfl ?_) | refine qan rfl rfl ?_ | refine qap rfl rfl rfl ?_ | refine qao rfl rfl rfl ?_ | (apply qax; first | refine qa6 rfl rfl (fun _ => ?_) | refine qa7 rfl rfl rfl (fun _ => ?_) | refine GL.box rfl rfl (fun _ => ?_)) | (apply qai; first | refine qaa rfl rfl rfl rfl rfl (fun _ => ?_) | refine qac rfl rfl rfl rfl rfl (fun _ => ?_)) | (apply qab; refine qam _ rfl rfl rfl rfl (by rfl) (by omega) (by omega) rfl (fun _ => ?_)) | (apply qal; refine GL.alloc rfl (fun _ => ?_))) | apply GL.nil | first | apply G.seq | apply G.region | apply G.block | apply G.skip | apply G.exit | apply G.ret | (apply qah; first | refine qbe rfl ?_ | refine qbf rfl ?_) | refine qbj (by kernel_rfl) (by kernel_rfl) ?_ | (apply qa4; first | apply qa5 | apply qa2 | apply qas | apply qat | apply qa3 | apply qa1 | apply qaq | refine qar rfl ?_ | apply qba) | (apply qad; first | refine qbb rfl ?_ | refine qau rfl rfl ?_ | refine qaw rfl rfl rfl ?_ | refine qav rfl rfl rfl ?_) | apply qbd | apply qbc | (apply qa0; refine qa9 rfl rfl ?_) | ((first | (apply qae; refine GL.guard rfl rfl (fun hc => ?_) (fun hc => ?_)) | (apply qah; refine G.cond rfl (fun hc => ?_) (fun hc => ?_)) | (apply qad; refine GD.guard rfl rfl (fun hc => ?_) (fun hc => ?_))) <;> ((try simp only [decide_eq_true_eq, decide_eq_false_iff_not, Bool.not_true, Bool.not_false, ne_eq, Classical.not_not, Int.not_lt, Int.not_le] at hc); (try (exfalso; first | omega | exact hc trivial | exact hc rfl)))))
    all_goals (refine qbh rfl (by (repeat (first | apply Res.nil | (apply Res.tmp; rfl) | (refine qay rfl rfl rfl ?_) | (refine qaz rfl rfl ?_)))) (fun w h => ?_); exact ⟨_, rfl, refS.shut hev h.sub⟩)
  rw [if_neg h0]
  cases hg : t.stack.getLast? with
  | none =>
    have hs : t.stack = [] := List.getLast?_eq_none_iff.1 hg
    dsimp only
    repeat' (first | ((apply qab; refine qbq (owns 3 encI1 1 (.slice q.sa t.stack.length q.sc) t.stack) (vs := [.slice q.sa t.stack.length q.sc]) rfl rfl (fun w h => rf17_TakeN' (.slice q.sa t.stack.length q.sc) t.stack hs w _ h) ?_)) | first | (apply qae; first | refine qa8 rfl ?_ | (apply qak; first | refine qaj rfl rfl rfl rfl rfl ?_ | refine qaf rfl rfl rfl rfl rfl ?_ | refine qag rfl rfl rfl rfl rfl ?_) | refine qan rfl rfl ?_ | refine qap rfl rfl rfl ?_ | refine qao rfl rfl rfl ?_ | (apply qax; first | refine qa6 rfl rfl (fun _ => ?_) | refine qa7 rfl rfl rfl (fun _ => ?_) | refine GL.box rfl rfl (fun _ => ?_)) | (apply qai; first | refine qaa rfl rfl rfl rfl rfl (fun _ => ?_) | refine qac rfl rfl rfl rfl rfl (fun _ => ?_)) | (apply qab; refine qam _ rfl rfl rfl rfl (by rfl) (by omega) (by omega) rfl (fun _ => ?_)) | (apply qal; refine GL.alloc rfl (fun _ => ?_))) | apply GL.nil | first | apply G.seq | apply G.region | apply G.block | apply G.skip | apply G.exit | apply G.ret | (apply qah; first | refine qbe rfl ?_ | refine qbf rfl ?_) | refine qbj (by kernel_rfl) (by kernel_rfl) ?_ | (apply qa4; first | apply qa5 | apply qa2 | apply qas | apply qat | apply qa3 | apply qa1 | apply qaq | refine qar rfl ?_ | apply qba) | (apply qad; first | refine qbb rfl ?_ | refine qau rfl rfl ?_ | refine qaw rfl rfl rfl ?_ | refine qav rfl rfl rfl ?_) | apply qbd | apply qbc | (apply qa0; refine qa9 rfl rfl ?_) | ((first | (apply qae; refine GL.guard rfl rfl (fun hc => ?_) (fun hc => ?_)) | (apply qah; refine G.cond rfl (fun hc => ?_) (fun hc => ?_)) | (apply qad; refine GD.guard rfl rfl (fun hc => ?_) (fun hc => ?_))) <;> ((try simp only [decide_eq_true_eq, decide_eq_false_iff_not, Bool.not_true, Bool.not_false, ne_eq, Classical.not_not, Int.not_lt, Int.not_le] at hc); (try (exfalso; first | omega | exact hc trivial | exact hc rfl)))))
    all_goals (first | (exfalso; simp at hc; done) | skip)
    all_goals (refine qbh rfl (by (repeat (first | apply Res.nil | (apply Res.tmp; rfl) | (refine qay rfl rfl rfl ?_) | (refine qaz rfl rfl ?_)))) (fun w h => ?_); exact ⟨_, rfl, refS.shut hev h.sub⟩)
  | some i =>
    have hs := St.snoc_last hg
    obtain ⟨k, hk, rfl, hp⟩ := (hI.free i).1 (by rw [← hs]; simp)
    dsimp only
    rw [t.c_eq k hk]
    obtain ⟨b0, b1, b2, b3⟩ := hI.ev4 hK hev
    repeat' (first | (first | (apply qab; refine GL.callH (owns 3 encI1 1 (.slice q.sa t.stack.length q.sc) t.stack) (vs := [.slice q.sa t.stack.length q.sc]) rfl rfl (fun w h => rf17_TakeY' (.slice q.sa t.stack.length q.sc) t.stack t.stack.dropLast k hs (by omega) w _ h) (fun r => ?_)) | (refine qbk 7 ?_; refine G.drawAhead 10 11 [10, 12, 13, 14] (by kernel_rfl) rfl (by simp only [List.take_succ_cons, List.take_zero]; rfl) (by repeat (first | exact PickIs.nil | apply PickIs.cons rfl)) (by kernel_rfl) (Runs.move rfl) rfl ?_) | (apply qab; refine GL.callH (owns 84 encCk 3 (.slice q.ca t.ch.length q.cc) t.ch) (vs := [.agg #[.int .i64 (t.size : Nat), .slice q.ca t.ch.length q.cc, .slice q.xa t.tx.length q.xc, .slice q.wa t.wi.length q.wc, .slice r.1 t.stack.dropLast.length r.2, .int .i64 q.e0, .int .i64 q.e1, .int .i64 q.e2, .int .i64 q.e3], .int .i64 k, .agg (encCk ⟨1, ow, (t.ch[k]).gen⟩).toArray, .int .i64 0]) rfl rfl (fun w h => rf19_with0 (t.size : Nat) q.ca q.xa q.wa r.1 q.cc t.tx.length q.xc t.wi.length q.wc t.stack.dropLast.length r.2 q.e0 q.e1 q.e2 q.e3 b0 t.ch hnc k hk ⟨1, ow, (t.ch[k]).gen⟩ w _ h) (fun r2 => ?_))) | first | (apply qae; first | refine qa8 rfl ?_ | (apply qak; first | refine qaj rfl rfl rfl rfl rfl ?_ | refine qaf rfl rfl rfl rfl rfl ?_ | refine qag rfl rfl rfl rfl rfl ?_) | refine qan rfl rfl ?_ | refine qap rfl rfl rfl ?_ | refine qao rfl rfl rfl ?_ | (apply qax; first | refine qa6 rfl rfl (fun _ => ?_) | refine qa7 rfl rfl rfl (fun _ => ?_) | refine GL.box rfl rfl (fun _ => ?_)) | (apply qai; first | refine qaa rfl rfl rfl rfl rfl (fun _ => ?_) | refine qac rfl rfl rfl rfl rfl (fun _ => ?_)) | (apply qab; refine qam _ rfl rfl rfl rfl (by rfl) (by omega) (by omega) rfl (fun _ => ?_)) | (apply qal; refine GL.alloc rfl (fun _ => ?_))) | apply GL.nil | first | apply G.seq | apply G.region | apply G.block | apply G.skip | apply G.exit | apply G.ret | (apply qah; first | refine qbe rfl ?_ | refine qbf rfl ?_) | refine qbj (by kernel_rfl) (by kernel_rfl) ?_ | (apply qa4; first | apply qa5 | apply qa2 | apply qas | apply qat | apply qa3 | apply qa1 | apply qaq | refine qar rfl ?_ | apply qba) | (apply qad; first | refine qbb rfl ?_ | refine qau rfl rfl ?_ | refine qaw rfl rfl rfl ?_ | refine qav rfl rfl rfl ?_) | apply qbd | apply qbc | (apply qa0; refine qa9 rfl rfl ?_) | ((first | (apply qae; refine GL.guard rfl rfl (fun hc => ?_) (fun hc => ?_)) | (apply qah; refine G.cond rfl (fun hc => ?_) (fun hc => ?_)) | (apply qad; refine GD.guard rfl rfl (fun hc => ?_) (fun hc => ?_))) <;> ((try simp only [decide_eq_true_eq, decide_eq_false_iff_not, Bool.not_true, Bool.not_false, ne_eq, Classical.not_not, Int.not_lt, Int.not_le] at hc); (try (exfalso; first | omega | exact hc trivial | exact hc rfl)))))
    all_goals (refine qbh rfl (by (repeat (first | apply Res.nil | (apply Res.tmp; rfl) | (refine qay rfl rfl rfl ?_) | (refine qaz rfl rfl ?_)))) (fun w h => ?_); exact ⟨_, rfl, refS.shut (t := { t with stack := t.stack.dropLast, ch := t.ch.set k ⟨1, ow, (t.ch[k]).gen⟩, ev := St.up t.ev 0 }) (by rw [hev]; rfl) h.sub⟩)
end
end Go.Proofs.YtipkgamiejenaaaGreat

/- Reference 19: Step. -/
namespace Go.Proofs.YtipkgamiejenaaaGreat
open Go Go.RowKit Go.MapKept
set_option linter.unusedVariables false
set_option linter.unusedSectionVars false
set_option linter.unusedSimpArgs false
set_option maxRecDepth 100000
set_option maxHeartbeats 4000000
section
variable (v : Value) (t : St.S) (K : Nat) (hI : St.Inv t K) (hK : K ≤ 1000000)
include hI hK
end
end Go.Proofs.YtipkgamiejenaaaGreat

/- The law StorePlays of chapter 19: a call on both. -/
namespace Go.Proofs.YtipkgamiejenaaaGreat
open Go Go.RowKit Go.MapKept
set_option linter.unusedVariables false
set_option linter.unusedSectionVars false
set_option linter.unusedSimpArgs false
set_option maxRecDepth 100000
set_option maxHeartbeats 4000000
section
variable {P : Program} {n : Nat} {env : Env} {F : List HProp} {xT yT : TypeId} {x y : Operand}
theorem Runs.strEqR {l : List UInt8} (hx : opnd env x = some (.string (bs l))) (hy : opnd env y = some (.string (bs l))) : Runs P n env F (.binOp .eql xT x y yT) (.bool true) := by
  have := Runs.strEq (P := P) (n := n) (F := F) (xT := xT) (yT := yT) hx hy
  rwa [decide_eq_true rfl] at this
end
def St.act (t : St.S) (a : ActM) : St.S :=
  if a.kd = 0 then (St.take t a.ow).1 else if a.kd = 1 then (St.give t a.i a.ow).1 else if a.kd = 2 then (St.start t a.i).1 else if a.kd = 3 then (St.step t a.i a.n).1 else if a.kd = 4 then t else (St.put t a.i a.ge a.at_ a.tx).1
section
variable (sb : Nat) (v : Value) (t : St.S) (K : Nat) (hI : St.Inv t K) (hK : K ≤ 1000000)
include hI hK
end
end Go.Proofs.YtipkgamiejenaaaGreat

/- The law StorePlays of chapter 19: reference 10's Dirty; what both tell of a chunk; rows that are alike. -/
namespace Go.Proofs.YtipkgamiejenaaaGreat
open Go Go.RowKit Go.MapKept
set_option linter.unusedVariables false
set_option linter.unusedSectionVars false
set_option linter.unusedSimpArgs false
set_option maxRecDepth 100000
set_option maxHeartbeats 4000000
def dirt (b : List UInt8) : Nat := (b.filter fun y => decide (y ≠ 0)).length
instance {c : ChunkM} : IntsL (encCk c) [c.phase, c.owner, c.gen] := ⟨rfl⟩
theorem ChunkM.ext3 {a b : ChunkM} : a = b ↔ a.phase = b.phase ∧ a.owner = b.owner ∧ a.gen = b.gen := by
  cases a; cases b; simp
instance : DecidableEq ChunkM := fun a b => decidable_of_iff _ ChunkM.ext3.symm
section
variable (sb : Nat) (v : Value) (t : St.S) (K : Nat) (hI : St.Inv t K) (hK : K ≤ 1000000)
include hI hK
end
end Go.Proofs.YtipkgamiejenaaaGreat
