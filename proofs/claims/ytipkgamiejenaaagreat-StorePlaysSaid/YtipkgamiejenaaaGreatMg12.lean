import Derived.Test.YtipkgamiejenaaaGreatByY
import Derived.Test.YtipkgamiejenaaaGreatCtb
import Derived.Test.YtipkgamiejenaaaGreatMg5
import Derived.Test.YtipkgamiejenaaaGreatMg4
import Derived.Test.YtipkgamiejenaaaGreatTypes
/- Package scrub: the walks. -/
namespace Go.Proofs.YtipkgamiejenaaaGreat
open Go Go.RowKit Go.MapKept
set_option linter.unusedVariables false
set_option linter.unusedSimpArgs false
set_option maxRecDepth 100000
set_option maxHeartbeats 2000000
instance (priority := 400) SeesBlk.appendL {F F2 : List HProp} {b : Nat} {c : Array Value} [h : SeesBlk F b c] : SeesBlk (F ++ F2) b c := ⟨fun w hw => h.at_ w (by obtain ⟨f, hf, hs⟩ := hw; obtain ⟨f1, f2, h1, h2, j⟩ := (sep_append F F2 f).1 hs; exact ⟨f, hf, sep_sub F f1 f j h1⟩)⟩
theorem i64_LoadS (b o : Nat) (c : Array Value) (x : Int) (hu : nthL c.toList o = some (.int .i64 x)) (w : World) (F : List HProp) [SeesBlk F b c] (hw : holds w F) :
    Ct Tryz.prog 177 #[.pointer (some ⟨b, o, none⟩)] w fun e w' => e = .returned (.int .i64 x) ∧ holds w' F := by
  refine Ct.go (args := [.pointer (some ⟨b, o, none⟩)]) Tryz.func177 rfl rfl rfl hw ?_
  repeat' (first | ((apply qac; refine GL.run (Runs.extLoad rfl hu) rfl ?_)) | first | (apply qac; first | refine qa6 rfl ?_ | (apply qaj; first | refine qah rfl rfl rfl rfl rfl ?_ | refine qae rfl rfl rfl rfl rfl ?_ | refine qaf rfl rfl rfl rfl rfl ?_) | refine qam rfl rfl ?_ | refine qao rfl rfl rfl ?_ | refine qan rfl rfl rfl ?_ | (apply qaw; first | refine qa5 rfl rfl (fun _ => ?_) | refine qa7 rfl rfl rfl (fun _ => ?_) | refine GL.box rfl rfl (fun _ => ?_)) | (apply qai; first | refine qaa rfl rfl rfl rfl rfl (fun _ => ?_) | refine qab rfl rfl rfl rfl rfl (fun _ => ?_)) | (apply GL.isCall; refine qal _ rfl rfl rfl rfl (by rfl) (by omega) (by omega) rfl (fun _ => ?_)) | (apply qak; refine GL.alloc rfl (fun _ => ?_))) | apply GL.nil | first | apply G.seq | apply G.region | apply G.block | apply G.skip | apply G.exit | apply G.ret | (apply qag; first | refine qbd rfl ?_ | refine qbe rfl ?_) | refine qbi (by kernel_rfl) (by kernel_rfl) ?_ | (apply qa3; first | apply qa4 | apply qa1 | apply qar | apply qas | apply qa2 | apply qa0 | apply qap | refine qaq rfl ?_ | apply qa9) | (apply qad; first | refine qba rfl ?_ | refine qat rfl rfl ?_ | refine qav rfl rfl rfl ?_ | refine qau rfl rfl rfl ?_) | apply qbc | apply qbb | (apply qaz; refine qa8 rfl rfl ?_) | ((first | (apply qac; refine GL.guard rfl rfl (fun hc => ?_) (fun hc => ?_)) | (apply qag; refine G.cond rfl (fun hc => ?_) (fun hc => ?_)) | (apply qad; refine GD.guard rfl rfl (fun hc => ?_) (fun hc => ?_))) <;> ((try simp only [decide_eq_true_eq, decide_eq_false_iff_not, Bool.not_true, Bool.not_false, ne_eq, Classical.not_not, Int.not_lt, Int.not_le] at hc); (try (exfalso; first | omega | exact hc trivial | exact hc rfl)))))
  refine qbg rfl (by (repeat (first | apply Res.nil | (apply Res.tmp; rfl) | (refine qax rfl rfl rfl ?_) | (refine qay rfl rfl ?_)))) (fun w h => ?_); exact ⟨rfl, h.sub⟩
theorem bytes_SizeP (b sz : Nat) (tx : List UInt8) (w : World) (F : List HProp) (hw : holds w (bytesP b sz tx :: F)) :
    Ct Tryz.prog 188 #[.pointer (some ⟨b, 0, none⟩)] w fun e w' => e = .returned (.int .i64 (sz : Nat)) ∧ holds w' (bytesP b sz tx :: F) := by
  obtain ⟨m, am, e, h1⟩ := bytesP.open hw
  exact (bytes_Size b sz m w _ h1).mono fun e' w' ⟨h2, h3⟩ => ⟨h2, bytesP.shut (m := m) e h3⟩
section
variable (wb b sz : Nat) (x : Int)
theorem scrub_Begin (tx : List UInt8) (h0 : 0 < sz) (w : World) (F : List HProp) (hw : holds w (bytesP b sz tx :: F)) :
    Ct Tryz.prog 131 #[.pointer (some ⟨b, 0, none⟩)] w fun e w' => ∃ wb : Nat, e = .returned (.pointer (some ⟨wb, 0, none⟩)) ∧ holds w' (blk wb (.cells #[.pointer (some ⟨b, 0, none⟩), .int .i64 0] 262 (0, 0)) :: bytesP b sz tx :: F) := by
  refine Ct.go (args := [.pointer (some ⟨b, 0, none⟩)]) Tryz.func131 rfl rfl rfl hw ?_
  repeat' (first | (first | first | (apply GL.isCall; refine qbf rfl rfl (fun w h => bytes_SizeP b sz tx w _ h) ?_) | (apply qad; refine GD.call rfl rfl (fun w F' h => bytes_SizeP b sz tx w _ h) ?_) | (apply qaw; refine qa5 (cs := #[.pointer (some ⟨b, 0, none⟩), .int .i64 0]) rfl rfl (fun wb => ?_))) | first | (apply qac; first | refine qa6 rfl ?_ | (apply qaj; first | refine qah rfl rfl rfl rfl rfl ?_ | refine qae rfl rfl rfl rfl rfl ?_ | refine qaf rfl rfl rfl rfl rfl ?_) | refine qam rfl rfl ?_ | refine qao rfl rfl rfl ?_ | refine qan rfl rfl rfl ?_ | (apply qaw; first | refine qa5 rfl rfl (fun _ => ?_) | refine qa7 rfl rfl rfl (fun _ => ?_) | refine GL.box rfl rfl (fun _ => ?_)) | (apply qai; first | refine qaa rfl rfl rfl rfl rfl (fun _ => ?_) | refine qab rfl rfl rfl rfl rfl (fun _ => ?_)) | (apply GL.isCall; refine qal _ rfl rfl rfl rfl (by rfl) (by omega) (by omega) rfl (fun _ => ?_)) | (apply qak; refine GL.alloc rfl (fun _ => ?_))) | apply GL.nil | first | apply G.seq | apply G.region | apply G.block | apply G.skip | apply G.exit | apply G.ret | (apply qag; first | refine qbd rfl ?_ | refine qbe rfl ?_) | refine qbi (by kernel_rfl) (by kernel_rfl) ?_ | (apply qa3; first | apply qa4 | apply qa1 | apply qar | apply qas | apply qa2 | apply qa0 | apply qap | refine qaq rfl ?_ | apply qa9) | (apply qad; first | refine qba rfl ?_ | refine qat rfl rfl ?_ | refine qav rfl rfl rfl ?_ | refine qau rfl rfl rfl ?_) | apply qbc | apply qbb | (apply qaz; refine qa8 rfl rfl ?_) | ((first | (apply qac; refine GL.guard rfl rfl (fun hc => ?_) (fun hc => ?_)) | (apply qag; refine G.cond rfl (fun hc => ?_) (fun hc => ?_)) | (apply qad; refine GD.guard rfl rfl (fun hc => ?_) (fun hc => ?_))) <;> ((try simp only [decide_eq_true_eq, decide_eq_false_iff_not, Bool.not_true, Bool.not_false, ne_eq, Classical.not_not, Int.not_lt, Int.not_le] at hc); (try (exfalso; first | omega | exact hc trivial | exact hc rfl)))))
  all_goals (first | (exfalso; omega) | (refine qbg rfl (by (repeat (first | apply Res.nil | (apply Res.tmp; rfl) | (refine qax rfl rfl rfl ?_) | (refine qay rfl rfl ?_)))) (fun w h => ?_); exact ⟨wb, rfl, h.sub⟩))
theorem scrub_is (w : World) (F : List HProp) [SeesBlk F wb #[.pointer (some ⟨b, 0, none⟩), .int .i64 x]] (hw : holds w F) :
    Ct Tryz.prog 189 #[.pointer (some ⟨wb, 0, none⟩)] w fun e w' => e = .returned (.bool true) ∧ holds w' F := by
  refine Ct.go (args := [.pointer (some ⟨wb, 0, none⟩)]) Tryz.func189 rfl rfl rfl hw ?_
  repeat' (first | (apply qac; first | refine qa6 rfl ?_ | (apply qaj; first | refine qah rfl rfl rfl rfl rfl ?_ | refine qae rfl rfl rfl rfl rfl ?_ | refine qaf rfl rfl rfl rfl rfl ?_) | refine qam rfl rfl ?_ | refine qao rfl rfl rfl ?_ | refine qan rfl rfl rfl ?_ | (apply qaw; first | refine qa5 rfl rfl (fun _ => ?_) | refine qa7 rfl rfl rfl (fun _ => ?_) | refine GL.box rfl rfl (fun _ => ?_)) | (apply qai; first | refine qaa rfl rfl rfl rfl rfl (fun _ => ?_) | refine qab rfl rfl rfl rfl rfl (fun _ => ?_)) | (apply GL.isCall; refine qal _ rfl rfl rfl rfl (by rfl) (by omega) (by omega) rfl (fun _ => ?_)) | (apply qak; refine GL.alloc rfl (fun _ => ?_))) | apply GL.nil | first | apply G.seq | apply G.region | apply G.block | apply G.skip | apply G.exit | apply G.ret | (apply qag; first | refine qbd rfl ?_ | refine qbe rfl ?_) | refine qbi (by kernel_rfl) (by kernel_rfl) ?_ | (apply qa3; first | apply qa4 | apply qa1 | apply qar | apply qas | apply qa2 | apply qa0 | apply qap | refine qaq rfl ?_ | apply qa9) | (apply qad; first | refine qba rfl ?_ | refine qat rfl rfl ?_ | refine qav rfl rfl rfl ?_ | refine qau rfl rfl rfl ?_) | apply qbc | apply qbb | (apply qaz; refine qa8 rfl rfl ?_) | ((first | (apply qac; refine GL.guard rfl rfl (fun hc => ?_) (fun hc => ?_)) | (apply qag; refine G.cond rfl (fun hc => ?_) (fun hc => ?_)) | (apply qad; refine GD.guard rfl rfl (fun hc => ?_) (fun hc => ?_))) <;> ((try simp only [decide_eq_true_eq, decide_eq_false_iff_not, Bool.not_true, Bool.not_false, ne_eq, Classical.not_not, Int.not_lt, Int.not_le] at hc); (try (exfalso; first | omega | exact hc trivial | exact hc rfl)))))
  refine qbg rfl (by (repeat (first | apply Res.nil | (apply Res.tmp; rfl) | (refine qax rfl rfl rfl ?_) | (refine qay rfl rfl ?_)))) (fun w h => ?_); exact ⟨rfl, h.sub⟩
theorem scrub_Place (w : World) (F : List HProp) [SeesBlk F wb #[.pointer (some ⟨b, 0, none⟩), .int .i64 x]] (hw : holds w F) :
    Ct Tryz.prog 192 #[.pointer (some ⟨wb, 0, none⟩)] w fun e w' => e = .returned (.int .i64 x) ∧ holds w' F := by
  refine Ct.go (args := [.pointer (some ⟨wb, 0, none⟩)]) Tryz.func192 rfl rfl rfl hw ?_
  repeat' (first | (first | first | (apply GL.isCall; refine qbf rfl rfl (fun w h => scrub_is wb b x w _ h) ?_) | (apply qad; refine GD.call rfl rfl (fun w F' h => scrub_is wb b x w _ h) ?_) | (apply GL.isCall; refine qbf (vs := [.pointer (some ⟨wb, 1, none⟩)]) rfl rfl (fun w h => i64_LoadS wb 1 #[.pointer (some ⟨b, 0, none⟩), .int .i64 x] x rfl w _ h) ?_)) | first | (apply qac; first | refine qa6 rfl ?_ | (apply qaj; first | refine qah rfl rfl rfl rfl rfl ?_ | refine qae rfl rfl rfl rfl rfl ?_ | refine qaf rfl rfl rfl rfl rfl ?_) | refine qam rfl rfl ?_ | refine qao rfl rfl rfl ?_ | refine qan rfl rfl rfl ?_ | (apply qaw; first | refine qa5 rfl rfl (fun _ => ?_) | refine qa7 rfl rfl rfl (fun _ => ?_) | refine GL.box rfl rfl (fun _ => ?_)) | (apply qai; first | refine qaa rfl rfl rfl rfl rfl (fun _ => ?_) | refine qab rfl rfl rfl rfl rfl (fun _ => ?_)) | (apply GL.isCall; refine qal _ rfl rfl rfl rfl (by rfl) (by omega) (by omega) rfl (fun _ => ?_)) | (apply qak; refine GL.alloc rfl (fun _ => ?_))) | apply GL.nil | first | apply G.seq | apply G.region | apply G.block | apply G.skip | apply G.exit | apply G.ret | (apply qag; first | refine qbd rfl ?_ | refine qbe rfl ?_) | refine qbi (by kernel_rfl) (by kernel_rfl) ?_ | (apply qa3; first | apply qa4 | apply qa1 | apply qar | apply qas | apply qa2 | apply qa0 | apply qap | refine qaq rfl ?_ | apply qa9) | (apply qad; first | refine qba rfl ?_ | refine qat rfl rfl ?_ | refine qav rfl rfl rfl ?_ | refine qau rfl rfl rfl ?_) | apply qbc | apply qbb | (apply qaz; refine qa8 rfl rfl ?_) | ((first | (apply qac; refine GL.guard rfl rfl (fun hc => ?_) (fun hc => ?_)) | (apply qag; refine G.cond rfl (fun hc => ?_) (fun hc => ?_)) | (apply qad; refine GD.guard rfl rfl (fun hc => ?_) (fun hc => ?_))) <;> ((try simp only [decide_eq_true_eq, decide_eq_false_iff_not, Bool.not_true, Bool.not_false, ne_eq, Classical.not_not, Int.not_lt, Int.not_le] at hc); (try (exfalso; first | omega | exact hc trivial | exact hc rfl)))))
  all_goals (first | (exfalso; simp at hc; done) | (refine qbg rfl (by (repeat (first | apply Res.nil | (apply Res.tmp; rfl) | (refine qax rfl rfl rfl ?_) | (refine qay rfl rfl ?_)))) (fun w h => ?_); exact ⟨rfl, h.sub⟩))
theorem scrub_Left (hs : sz ≤ 1048576) (hx : 0 ≤ x ∧ x ≤ sz) (m : Nat) (w : World) (F : List HProp) [SeesBlk F wb #[.pointer (some ⟨b, 0, none⟩), .int .i64 x]] [SeesBlk F b #[.map (some m), .int .i64 (sz : Nat)]] (hw : holds w F) :
    Ct Tryz.prog 190 #[.pointer (some ⟨wb, 0, none⟩)] w fun e w' => e = .returned (.int .i64 ((sz : Int) - x)) ∧ holds w' F := by
  refine Ct.go (args := [.pointer (some ⟨wb, 0, none⟩)]) Tryz.func190 rfl rfl rfl hw ?_
  repeat' (first | (first | first | (apply GL.isCall; refine qbf rfl rfl (fun w h => scrub_is wb b x w _ h) ?_) | (apply qad; refine GD.call rfl rfl (fun w F' h => scrub_is wb b x w _ h) ?_) | first | (apply GL.isCall; refine qbf rfl rfl (fun w h => bytes_Size b sz m w _ h) ?_) | (apply qad; refine GD.call rfl rfl (fun w F' h => bytes_Size b sz m w _ h) ?_) | first | (apply GL.isCall; refine qbf rfl rfl (fun w h => scrub_Place wb b x w _ h) ?_) | (apply qad; refine GD.call rfl rfl (fun w F' h => scrub_Place wb b x w _ h) ?_)) | first | (apply qac; first | refine qa6 rfl ?_ | (apply qaj; first | refine qah rfl rfl rfl rfl rfl ?_ | refine qae rfl rfl rfl rfl rfl ?_ | refine qaf rfl rfl rfl rfl rfl ?_) | refine qam rfl rfl ?_ | refine qao rfl rfl rfl ?_ | refine qan rfl rfl rfl ?_ | (apply qaw; first | refine qa5 rfl rfl (fun _ => ?_) | refine qa7 rfl rfl rfl (fun _ => ?_) | refine GL.box rfl rfl (fun _ => ?_)) | (apply qai; first | refine qaa rfl rfl rfl rfl rfl (fun _ => ?_) | refine qab rfl rfl rfl rfl rfl (fun _ => ?_)) | (apply GL.isCall; refine qal _ rfl rfl rfl rfl (by rfl) (by omega) (by omega) rfl (fun _ => ?_)) | (apply qak; refine GL.alloc rfl (fun _ => ?_))) | apply GL.nil | first | apply G.seq | apply G.region | apply G.block | apply G.skip | apply G.exit | apply G.ret | (apply qag; first | refine qbd rfl ?_ | refine qbe rfl ?_) | refine qbi (by kernel_rfl) (by kernel_rfl) ?_ | (apply qa3; first | apply qa4 | apply qa1 | apply qar | apply qas | apply qa2 | apply qa0 | apply qap | refine qaq rfl ?_ | apply qa9) | (apply qad; first | refine qba rfl ?_ | refine qat rfl rfl ?_ | refine qav rfl rfl rfl ?_ | refine qau rfl rfl rfl ?_) | apply qbc | apply qbb | (apply qaz; refine qa8 rfl rfl ?_) | ((first | (apply qac; refine GL.guard rfl rfl (fun hc => ?_) (fun hc => ?_)) | (apply qag; refine G.cond rfl (fun hc => ?_) (fun hc => ?_)) | (apply qad; refine GD.guard rfl rfl (fun hc => ?_) (fun hc => ?_))) <;> ((try simp only [decide_eq_true_eq, decide_eq_false_iff_not, Bool.not_true, Bool.not_false, ne_eq, Classical.not_not, Int.not_lt, Int.not_le] at hc); (try (exfalso; first | omega | exact hc trivial | exact hc rfl)))))
  all_goals (first | (exfalso; simp at hc; done) | (refine qbg rfl (by (repeat (first | apply Res.nil | (apply Res.tmp; rfl) | (refine qax rfl rfl rfl ?_) | (refine qay rfl rfl ?_)))) (fun w h => ?_); exact ⟨rfl, h.sub⟩))
theorem scrub_Done (tx : List UInt8) (hx : 0 ≤ x ∧ x ≤ sz) (w : World) (F : List HProp) (hw : holds w (bytesP b sz tx :: blk wb (.cells #[.pointer (some ⟨b, 0, none⟩), .int .i64 x] 262 (0, 0)) :: F)) :
    Ct Tryz.prog 133 #[.pointer (some ⟨wb, 0, none⟩)] w fun e w' => e = .returned (.bool (decide ((sz : Int) - x = 0))) ∧ holds w' (bytesP b sz tx :: blk wb (.cells #[.pointer (some ⟨b, 0, none⟩), .int .i64 x] 262 (0, 0)) :: F) := by
  obtain ⟨m, am, e0, h1⟩ := bytesP.open hw
  refine Ct.go (args := [.pointer (some ⟨wb, 0, none⟩)]) Tryz.func133 rfl rfl rfl h1 ?_
  repeat' (first | (first | first | (apply GL.isCall; refine qbf rfl rfl (fun w h => scrub_is wb b x w _ h) ?_) | (apply qad; refine GD.call rfl rfl (fun w F' h => scrub_is wb b x w _ h) ?_) | first | (apply GL.isCall; refine qbf rfl rfl (fun w h => scrub_Left wb b sz x e0.2.2.1.2 hx m w _ h) ?_) | (apply qad; refine GD.call rfl rfl (fun w F' h => scrub_Left wb b sz x e0.2.2.1.2 hx m w _ h) ?_)) | first | (apply qac; first | refine qa6 rfl ?_ | (apply qaj; first | refine qah rfl rfl rfl rfl rfl ?_ | refine qae rfl rfl rfl rfl rfl ?_ | refine qaf rfl rfl rfl rfl rfl ?_) | refine qam rfl rfl ?_ | refine qao rfl rfl rfl ?_ | refine qan rfl rfl rfl ?_ | (apply qaw; first | refine qa5 rfl rfl (fun _ => ?_) | refine qa7 rfl rfl rfl (fun _ => ?_) | refine GL.box rfl rfl (fun _ => ?_)) | (apply qai; first | refine qaa rfl rfl rfl rfl rfl (fun _ => ?_) | refine qab rfl rfl rfl rfl rfl (fun _ => ?_)) | (apply GL.isCall; refine qal _ rfl rfl rfl rfl (by rfl) (by omega) (by omega) rfl (fun _ => ?_)) | (apply qak; refine GL.alloc rfl (fun _ => ?_))) | apply GL.nil | first | apply G.seq | apply G.region | apply G.block | apply G.skip | apply G.exit | apply G.ret | (apply qag; first | refine qbd rfl ?_ | refine qbe rfl ?_) | refine qbi (by kernel_rfl) (by kernel_rfl) ?_ | (apply qa3; first | apply qa4 | apply qa1 | apply qar | apply qas | apply qa2 | apply qa0 | apply qap | refine qaq rfl ?_ | apply qa9) | (apply qad; first | refine qba rfl ?_ | refine qat rfl rfl ?_ | refine qav rfl rfl rfl ?_ | refine qau rfl rfl rfl ?_) | apply qbc | apply qbb | (apply qaz; refine qa8 rfl rfl ?_) | ((first | (apply qac; refine GL.guard rfl rfl (fun hc => ?_) (fun hc => ?_)) | (apply qag; refine G.cond rfl (fun hc => ?_) (fun hc => ?_)) | (apply qad; refine GD.guard rfl rfl (fun hc => ?_) (fun hc => ?_))) <;> ((try simp only [decide_eq_true_eq, decide_eq_false_iff_not, Bool.not_true, Bool.not_false, ne_eq, Classical.not_not, Int.not_lt, Int.not_le] at hc); (try (exfalso; first | omega | exact hc trivial | exact hc rfl)))))
  all_goals (first | (exfalso; simp at hc; done) | (refine qbg rfl (by (repeat (first | apply Res.nil | (apply Res.tmp; rfl) | (refine qax rfl rfl rfl ?_) | (refine qay rfl rfl ?_)))) (fun w h => ?_); exact ⟨rfl, bytesP.shut (m := m) e0 h.sub⟩))
theorem scrub_Step (tx : List UInt8) (hx : 0 ≤ x ∧ x ≤ sz) (n : Int) (hn : 1 ≤ n) (w : World) (F : List HProp) (hw : holds w (bytesP b sz tx :: blk wb (.cells #[.pointer (some ⟨b, 0, none⟩), .int .i64 x] 262 (0, 0)) :: F)) :
    Ct Tryz.prog 132 #[.pointer (some ⟨wb, 0, none⟩), .int .i64 n] w fun e w' => e = .returned (.tuple #[.int .i64 (min n ((sz : Int) - x)), .int .i64 0]) ∧ holds w' (bytesP b sz (By.splice tx x.toNat (St.zeros (min n ((sz : Int) - x)).toNat)) :: blk wb (.cells #[.pointer (some ⟨b, 0, none⟩), .int .i64 (x + min n ((sz : Int) - x))] 262 (0, 0)) :: F) := by
  obtain ⟨m, am, e0, h1⟩ := bytesP.open hw
  obtain ⟨q, hq⟩ : ∃ q, q = min n ((sz : Int) - x) := ⟨_, rfl⟩
  have hsz := e0.2.2.1.2
  have hl := e0.1
  have hno : ¬ St.off tx x q := by unfold St.off; rw [hl]; omega
  have hWi := fun w (F : List HProp) h => bytes_Wipe b sz tx x q (by omega) w F h
  rw [if_neg hno, if_neg hno] at hWi
  have hAd := fun w (F : List HProp) h => i64_Add wb 1 _ (cellAt_blk wb [.pointer (some ⟨b, 0, none⟩)] [] 262) x q (by omega) w F h
  rw [← hq]
  refine Ct.go (args := [.pointer (some ⟨wb, 0, none⟩), .int .i64 n]) Tryz.func132 rfl rfl rfl h1 ?_
  repeat' (first | (first | (rw [← hq]) | first | (apply GL.isCall; refine qbf rfl rfl (fun w h => scrub_is wb b x w _ h) ?_) | (apply qad; refine GD.call rfl rfl (fun w F' h => scrub_is wb b x w _ h) ?_) | first | (apply GL.isCall; refine qbf rfl rfl (fun w h => scrub_Left wb b sz x hsz hx m w _ h) ?_) | (apply qad; refine GD.call rfl rfl (fun w F' h => scrub_Left wb b sz x hsz hx m w _ h) ?_) | refine G.drawTail 7 (by kernel_rfl) (by simp only [List.take_succ_cons, List.take_zero]; rfl) (by simp only [List.drop_succ_cons, List.drop_zero]; rfl) (by kernel_rfl) ?_ | (apply qad; refine GD.call (vs := [.pointer (some ⟨wb, 0, none⟩)]) (v := .int .i64 x) rfl rfl (fun w F' h => by exact scrub_Place wb b x w _ h) ?_) | (apply GL.isCall; refine qbf (vs := [.pointer (some ⟨b, 0, none⟩), .int .i64 x, .int .i64 q]) rfl rfl (fun w h => hWi w (blk wb (.cells #[.pointer (some ⟨b, 0, none⟩), .int .i64 x] 262 (0, 0)) :: F) (bytesP.shut (m := m) (am := am) e0 h.sub)) ?_) | (apply GL.isCall; refine qbf (vs := [.pointer (some ⟨wb, 1, none⟩), .int .i64 q]) rfl rfl (fun w h => hAd w (bytesP b sz (By.splice tx x.toNat (St.zeros q.toNat)) :: F) (holds.sub (H := blk wb (.cells #[.pointer (some ⟨b, 0, none⟩), .int .i64 x] 262 (0, 0)) :: bytesP b sz (By.splice tx x.toNat (St.zeros q.toNat)) :: F) h)) ?_)) | first | (apply qac; first | refine qa6 rfl ?_ | (apply qaj; first | refine qah rfl rfl rfl rfl rfl ?_ | refine qae rfl rfl rfl rfl rfl ?_ | refine qaf rfl rfl rfl rfl rfl ?_) | refine qam rfl rfl ?_ | refine qao rfl rfl rfl ?_ | refine qan rfl rfl rfl ?_ | (apply qaw; first | refine qa5 rfl rfl (fun _ => ?_) | refine qa7 rfl rfl rfl (fun _ => ?_) | refine GL.box rfl rfl (fun _ => ?_)) | (apply qai; first | refine qaa rfl rfl rfl rfl rfl (fun _ => ?_) | refine qab rfl rfl rfl rfl rfl (fun _ => ?_)) | (apply GL.isCall; refine qal _ rfl rfl rfl rfl (by rfl) (by omega) (by omega) rfl (fun _ => ?_)) | (apply qak; refine GL.alloc rfl (fun _ => ?_))) | apply GL.nil | first | apply G.seq | apply G.region | apply G.block | apply G.skip | apply G.exit | apply G.ret | (apply qag; first | refine qbd rfl ?_ | refine qbe rfl ?_) | refine qbi (by kernel_rfl) (by kernel_rfl) ?_ | (apply qa3; first | apply qa4 | apply qa1 | apply qar | apply qas | apply qa2 | apply qa0 | apply qap | refine qaq rfl ?_ | apply qa9) | (apply qad; first | refine qba rfl ?_ | refine qat rfl rfl ?_ | refine qav rfl rfl rfl ?_ | refine qau rfl rfl rfl ?_) | apply qbc | apply qbb | (apply qaz; refine qa8 rfl rfl ?_) | ((first | (apply qac; refine GL.guard rfl rfl (fun hc => ?_) (fun hc => ?_)) | (apply qag; refine G.cond rfl (fun hc => ?_) (fun hc => ?_)) | (apply qad; refine GD.guard rfl rfl (fun hc => ?_) (fun hc => ?_))) <;> ((try simp only [decide_eq_true_eq, decide_eq_false_iff_not, Bool.not_true, Bool.not_false, ne_eq, Classical.not_not, Int.not_lt, Int.not_le] at hc); (try (exfalso; first | omega | exact hc trivial | exact hc rfl)))))
  all_goals (first | (exfalso; simp at hc; done) | (exfalso; omega) | skip)
  refine qbh rfl (by (repeat (first | apply Res.nil | (apply Res.tmp; rfl) | (refine qax rfl rfl rfl ?_) | (refine qay rfl rfl ?_)))) (fun w h => ?_)
  exact ⟨rfl, holds.order h [1, 0]⟩
end
end Go.Proofs.YtipkgamiejenaaaGreat

/- Package stack's memory: one block of ints that the places and the list share. -/
namespace Go.Proofs.YtipkgamiejenaaaGreat
open Go Go.RowKit Go.MapKept
set_option linter.unusedVariables false
set_option linter.unusedSimpArgs false
set_option maxRecDepth 100000
set_option maxHeartbeats 1000000
/-- The block r holds n places pl, the list l and what is left of its room. -/
def stkB (r n : Nat) (pl l jk : List Int) : HProp := fun f => (pl.length = n ∧ l.length + jk.length = n) ∧ blk r (.cells ((pl ++ l ++ jk).flatMap encI1).toArray 3 (0, 0)) f
theorem stkB.open {r n : Nat} {pl l jk : List Int} {w : World} {F : List HProp} (h : holds w (stkB r n pl l jk :: F)) : (pl.length = n ∧ l.length + jk.length = n) ∧ holds w (blk r (.cells ((pl ++ l ++ jk).flatMap encI1).toArray 3 (0, 0)) :: F) := by
  refine ⟨?_, h.mono fun f hf => hf.2⟩
  obtain ⟨f, hf, f1, f2, ha, hs, j⟩ := h
  exact ha.1
theorem stkB.shut {r n : Nat} {pl l jk : List Int} {w : World} {F : List HProp} (e : pl.length = n ∧ l.length + jk.length = n) (h : holds w (blk r (.cells ((pl ++ l ++ jk).flatMap encI1).toArray 3 (0, 0)) :: F)) : holds w (stkB r n pl l jk :: F) := h.mono fun f hf => ⟨e, hf⟩
theorem flatI_get (l : List Int) (i : Nat) : (l.flatMap encI1)[i]? = (l[i]?).map (.int .i64 ·) := by
  induction l generalizing i with
  | nil => simp
  | cons a l ih =>
    cases i with
    | zero => simp [encI1]
    | succ i => simpa [encI1] using ih i
theorem flatI_len (l : List Int) : (l.flatMap encI1).length = l.length := by simpa using Enc.flat_len (enc := encI1) (n := 1) l
theorem flatI_map (l : List Int) : l.flatMap encI1 = l.map (.int .i64 ·) := by
  induction l with
  | nil => rfl
  | cons a l ih => simpa [encI1] using ih
instance {r n : Nat} {pl l jk : List Int} {F : List HProp} : Reads (stkB r n pl l jk :: F) (.slice (some ⟨r, 0, none⟩) n n) encI1 1 pl := ⟨fun w h => by
  obtain ⟨⟨rfl, e⟩, h1⟩ := stkB.open h
  refine ⟨by simpa using Enc.flat_len (enc := encI1) (n := 1) pl, _, _, rfl, Nat.le_refl _, .inr ⟨r, 0, rfl, fun i hi => ?_⟩⟩
  rw [cell_of_row w r (0 + i) _ 3 (0, 0) h1.get_blk, flatI_get]
  simp only [List.getElem?_toArray, flatI_get, List.append_assoc]
  rw [Nat.zero_add, List.getElem?_append_left (by omega)]⟩
theorem stkB.list {r n k : Nat} {pl l jk : List Int} {F : List HProp} (hk : k = l.length) : Reads (stkB r n pl l jk :: F) (.slice (some ⟨r, n, none⟩) k n) encI1 1 l := ⟨fun w h => by
  subst hk
  obtain ⟨⟨rfl, e⟩, h1⟩ := stkB.open h
  refine ⟨by simpa using Enc.flat_len (enc := encI1) (n := 1) l, _, _, rfl, by omega, .inr ⟨r, pl.length, rfl, fun i hi => ?_⟩⟩
  rw [cell_of_row w r (pl.length + i) _ 3 (0, 0) h1.get_blk, flatI_get]
  simp only [List.getElem?_toArray, flatI_get, List.append_assoc]
  rw [List.getElem?_append_right (by omega), Nat.add_sub_cancel_left, List.getElem?_append_left (by omega)]⟩
instance {r n : Nat} {pl l jk : List Int} {F : List HProp} : Reads (stkB r n pl l jk :: F) (.slice (some ⟨r, n, none⟩) l.length n) encI1 1 l := stkB.list rfl
section
variable {P : Program} {nn : Nat} {Q : Exit → Act → World → Prop} {env : Env} {F F' : List HProp} {ops : Array Oper} {rest : List Oper} {ty : TypeId} {pos : String} {aft : Array Edge}
/-- A store to one of the places. -/
theorem GL.storePl {t : TypeId} {x y : Operand} {r n i off : Nat} {pl l jk : List Int} {z : Int} (hx : opnd env x = some (.pointer (some ⟨r, off, none⟩))) (hy : opnd env y = some (.int .i64 z)) [ht : CellT P t] [hk : Has F (stkB r n pl l jk) F'] (ho : off = i) (hi : i < pl.length)
    (h : GL P nn ops Q rest env (stkB r n (pl.set i z) l jk :: F')) : GL P nn ops Q (⟨none, .store t x y, ty, pos, aft, none⟩ :: rest) env F := .mk fun a w hf hw => by
  subst ho
  obtain ⟨i', ds, g1, g2, g3, g4⟩ := ht.ok
  obtain ⟨⟨e1, e2⟩, hb⟩ := stkB.open (hw.perm hk.perm)
  refine wpList_store1_sl rfl rfl t x y rfl (off := off) (.int .i64 z) (hf.eval hx) (hf.eval hy) (by simp [g1, g2]) rfl rfl hb (by simp only [List.size_toArray, flatI_len, List.length_append]; omega) fun w' hw' => h a w' hf ?_
  refine stkB.shut ⟨by simpa using e1, e2⟩ ?_
  have e : ((pl ++ l ++ jk).flatMap encI1).toArray.setIfInBounds off (.int .i64 z) = ((pl.set off z ++ l ++ jk).flatMap encI1).toArray := by
    apply Array.ext'
    simp only [Array.toList_setIfInBounds, flatI_map]
    rw [show pl.set off z ++ l ++ jk = (pl ++ l ++ jk).set off z by rw [List.append_assoc, List.append_assoc, List.set_append_left _ _ hi], List.map_set]
  rw [← e]
  exact hw'
theorem run_append_off {w : World} (t ty e : TypeId) (i : TypeInfo) (ht : P.underlying t = some (.slice e)) (hi : P.info? e = some i)
    (g off sLen sCap : Nat) (cur : Array Value) (hg : w.heap[g]? = some (.cells cur e (0, 0)))
    (a : Addr) (m c : Nat) (news : List Value) (hl : news.length = m * i.size) (hnews : ∀ j u, news[j]? = some u → w.cell? (a.add j) = some u) (h1 : ∀ u ∈ news, u.oneCell' = true)
    (hroom : sLen + m ≤ sCap) (hfit : off + sLen * i.size + news.length ≤ cur.size) :
    (Builtin.append_ #[t, t] ty #[.slice (some ⟨g, off, none⟩) sLen sCap, .slice (some a) m c]).run P w =
      .ok (.slice (some ⟨g, off, none⟩) (sLen + m) sCap) (w.setRow g (cur.toList.take (off + sLen * i.size) ++ news ++ cur.toList.drop (off + sLen * i.size + news.length)).toArray) := by
  have hf := run_firstCells_some (P := P) w i.size m a m c news hl hnews
  have hst := run_storeCells_at P g (off + sLen * i.size) e news 0 cur w hg (by simpa using hfit) h1
  simp only [Nat.add_zero] at hst
  simp [Builtin.append_, run_underlying ht, sizeOf, typeInfo, hi, Builtin.lenOf, hroom, hf, Addr.add_lit, hst]
/-- append within the room. -/
theorem GL.appendStk {t : TypeId} {x y : Operand} {u z : Value} {r n k : Nat} {pl l jk : List Int} {q : Int} {bytes d : Nat} [ht : SliceT P t 3 1] [hz : ZeroT P 3 z 1 bytes] (hx : opnd env x = some (.slice (some ⟨r, n, none⟩) k n)) (hy : opnd env y = some u) [hr : Has F (stkB r n pl l jk) F'] [hb : Reads F u encI1 1 [q]]
    (hkl : k = l.length) (hroom : l.length < n) (hd : Nat.blt d nn = true)
    (h : GL P nn ops Q rest ((d, .slice (some ⟨r, n, none⟩) (k + 1) n) :: env) (stkB r n pl (l ++ [q]) (jk.drop 1) :: F')) : GL P nn ops Q (⟨some d, .call { callee := .builtin .append, args := #[x, y], argTypes := #[t, t] }, ty, pos, aft, none⟩ :: rest) env F := .mk fun a w hf hw => by
  subst hkl
  refine wpList_plain rfl fun K hK => ?_
  obtain ⟨⟨e1, e2⟩, hB⟩ := stkB.open (hw.perm hr.perm)
  obtain ⟨i, h1, h2, h3⟩ := ht.ok
  obtain ⟨b, off, cap, rfl, hcap, hcell⟩ := (hb.at_ w hw).cells (by simp)
  have hrun := run_append_off (P := P) t ty 3 i h1 h2 r n l.length n _ hB.get_blk ⟨b, off, none⟩ 1 cap [.int .i64 q] (by simp [h3]) (fun j u hu => by
    have hj := (List.getElem?_eq_some_iff.1 hu).1
    rw [addr_add, hcell j (by simpa using hj)]; exact hu) (fun u hu => by simp at hu; subst hu; rfl) (by omega) (by
    simp only [List.size_toArray, flatI_len, List.length_append, h3, List.length_cons, List.length_nil]; omega)
  unfold Oper.wp
  simp only [execOp, resolve, invoke, builtin, Sem.run_bind, Sem.run_pure, Result.andThen_ok, List.map_toArray, List.map_cons, List.map_nil, hf.eval hx, hf.eval hy, List.length_cons, List.length_nil, Nat.zero_add, hrun]
  refine hK _ _ (h _ _ (hf.put hd _) ?_)
  refine stkB.shut ⟨e1, by simp only [List.length_append, List.length_cons, List.length_nil, List.length_drop]; omega⟩ ?_
  have h5 := hB.turn (w' := w.setRow r (((pl ++ l ++ jk).flatMap encI1).toArray.toList.take (n + l.length * i.size) ++ [Value.int .i64 q] ++ ((pl ++ l ++ jk).flatMap encI1).toArray.toList.drop (n + l.length * i.size + ([Value.int .i64 q]).length)).toArray) ⟨rfl, rfl, rfl, by simp, fun k _ hk => setRow_other w r k _ (fun e => hk (by simp [e]))⟩ (setRow_heap w r _ _ 3 _ hB.get_blk)
  have e : (((pl ++ l ++ jk).flatMap encI1).toArray.toList.take (n + l.length * i.size) ++ [Value.int .i64 q] ++ ((pl ++ l ++ jk).flatMap encI1).toArray.toList.drop (n + l.length * i.size + ([Value.int .i64 q]).length)) = (pl ++ (l ++ [q]) ++ jk.drop 1).flatMap encI1 := by
    simp only [flatI_map, h3, Nat.mul_one, List.length_cons, List.length_nil, ← List.map_take, ← List.map_drop]
    have t1 : (pl ++ l ++ jk).take (n + l.length) = pl ++ l := by rw [show n + l.length = (pl ++ l).length by rw [List.length_append, e1]]; exact List.take_left
    have t2 : (pl ++ l ++ jk).drop (n + l.length + (0 + 1)) = jk.drop 1 := by
      rw [show n + l.length + (0 + 1) = (pl ++ l).length + 1 by rw [List.length_append, e1], ← List.drop_drop, List.drop_left]
    rw [t1, t2]
    simp
  rw [e] at h5
  have e2 : List.take (n + l.length * i.size) (List.flatMap encI1 (pl ++ l ++ jk)) ++ [Value.int .i64 q] ++ List.drop (n + l.length * i.size + 1) (List.flatMap encI1 (pl ++ l ++ jk)) = (pl ++ (l ++ [q]) ++ jk.drop 1).flatMap encI1 := e
  rw [e2]
  exact h5
end
end Go.Proofs.YtipkgamiejenaaaGreat

/- A slice literal as a row. -/
namespace Go.Proofs.YtipkgamiejenaaaGreat
open Go Go.RowKit Go.MapKept
set_option linter.unusedVariables false
set_option linter.unusedSimpArgs false
set_option maxRecDepth 100000
set_option maxHeartbeats 1000000
theorem holds.rowOf {α : Type} {enc : α → List Value} {m : Nat} [he : Enc enc m] {w : World} {F : List HProp} {e : TypeId} {g k : Nat} (l : List α) (hk : l.length = k) (hl : k ≤ maxLen) (h : holds w (blk g (.cells (l.flatMap enc).toArray e (0, 0)) :: F)) : holds w (owns e enc m (.slice (some ⟨g, 0, none⟩) k k) l :: F) := by
  subst hk
  have h1 := h.mkRow (size := m) (n := l.length) (cap := l.length) (Nat.le_refl _) hl (by rw [List.size_toArray, Enc.flat_len])
  have h2 : (l.flatMap enc).toArray.toList.take (l.length * m) = l.flatMap enc := by
    exact List.take_of_length_le (by rw [Enc.flat_len]; exact Nat.le_refl _)
  rw [h2] at h1
  exact h1
section
variable {P : Program} {n : Nat} {Q : Exit → Act → World → Prop} {env : Env} {F : List HProp} {ops : Array Oper} {rest : List Oper} {ty : TypeId} {pos : String} {aft : Array Edge}
/-- A slice literal as a row. -/
theorem GL.buildR {α : Type} {enc : α → List Value} {t e : TypeId} {size m bytes : Nat} {z : Value} {parts : List (Nat × Operand)} {ps : List (Nat × Value)} {d : Tmp} (l : List α) [ht : SliceT P t e size] [hz : ZeroT P e z size bytes] [he : Enc enc size] (hk : l.length = m) (hp : partsOf env parts = some ps) (hpos : Nat.blt 0 (m * size) = true) (hm : Nat.ble (m * size) 16777216 = true)
    (hr : fillL ((List.range m).map fun i => (i * size, size)) (List.replicate (m * size) (default : Value)) ps = some (l.flatMap enc)) (hall : ∀ l', l'.length = m * size → fillL ((List.range m).map fun i => (i * size, size)) l' ps = some (l.flatMap enc)) (hd : Nat.blt d n = true)
    (h : ∀ g, GL P n ops Q rest ((d, .slice (some ⟨g, 0, none⟩) m m) :: env) (owns e enc size (.slice (some ⟨g, 0, none⟩) m m) l :: F)) :
    GL P n ops Q (⟨some d, .buildSlice t m parts.toArray, ty, pos, aft, none⟩ :: rest) env F :=
  GL.buildSlice hp hpos hm hr hall hd fun g => GL.imp (h g) fun w hw => holds.rowOf l hk (by
    have h1 := Nat.le_of_ble_eq_true hm
    have h2 : m ≤ m * size := Nat.le_mul_of_pos_right _ he.pos
    unfold maxLen; omega) hw
end
end Go.Proofs.YtipkgamiejenaaaGreat

/- Package stack: the walks. -/
namespace Go.Proofs.YtipkgamiejenaaaGreat
open Go Go.RowKit Go.MapKept
set_option linter.unusedVariables false
set_option linter.unusedSimpArgs false
set_option maxRecDepth 100000
set_option maxHeartbeats 1000000
/-- The place of x, -1 where it has none. -/
def Stk.place (pl : List Int) (x : Int) : Int := if x < 0 ∨ (pl.length : Int) ≤ x then -1 else pl.getD x.toNat 0
section
variable (s r n : Nat) (pl l jk : List Int)
theorem stack_Place (x : Int) (w : World) (F : List HProp) (hw : holds w (blk s (.cells #[.slice (some ⟨r, n, none⟩) l.length n, .slice (some ⟨r, 0, none⟩) n n] 267 (0, 0)) :: stkB r n pl l jk :: F)) :
    Ct Tryz.prog 225 #[.pointer (some ⟨s, 0, none⟩), .int .i64 x] w fun e w' => e = .returned (.int .i64 (Stk.place pl x)) ∧ holds w' (blk s (.cells #[.slice (some ⟨r, n, none⟩) l.length n, .slice (some ⟨r, 0, none⟩) n n] 267 (0, 0)) :: stkB r n pl l jk :: F) := by
  obtain ⟨⟨e1, e2⟩, _⟩ := stkB.open hw.tail
  unfold Stk.place
  refine Ct.go (args := [.pointer (some ⟨s, 0, none⟩), .int .i64 x]) Tryz.func225 rfl rfl rfl hw ?_
  by_cases hx : x < 0 ∨ (pl.length : Int) ≤ x
  · rw [if_pos hx]
    repeat' (first | (apply qac; first | refine qa6 rfl ?_ | (apply qaj; first | refine qah rfl rfl rfl rfl rfl ?_ | refine qae rfl rfl rfl rfl rfl ?_ | refine qaf rfl rfl rfl rfl rfl ?_) | refine qam rfl rfl ?_ | refine qao rfl rfl rfl ?_ | refine qan rfl rfl rfl ?_ | (apply qaw; first | refine qa5 rfl rfl (fun _ => ?_) | refine qa7 rfl rfl rfl (fun _ => ?_) | refine GL.box rfl rfl (fun _ => ?_)) | (apply qai; first | refine qaa rfl rfl rfl rfl rfl (fun _ => ?_) | refine qab rfl rfl rfl rfl rfl (fun _ => ?_)) | (apply GL.isCall; refine qal _ rfl rfl rfl rfl (by rfl) (by omega) (by omega) rfl (fun _ => ?_)) | (apply qak; refine GL.alloc rfl (fun _ => ?_))) | apply GL.nil | first | apply G.seq | apply G.region | apply G.block | apply G.skip | apply G.exit | apply G.ret | (apply qag; first | refine qbd rfl ?_ | refine qbe rfl ?_) | refine qbi (by kernel_rfl) (by kernel_rfl) ?_ | (apply qa3; first | apply qa4 | apply qa1 | apply qar | apply qas | apply qa2 | apply qa0 | apply qap | refine qaq rfl ?_ | apply qa9) | (apply qad; first | refine qba rfl ?_ | refine qat rfl rfl ?_ | refine qav rfl rfl rfl ?_ | refine qau rfl rfl rfl ?_) | apply qbc | apply qbb | (apply qaz; refine qa8 rfl rfl ?_) | ((first | (apply qac; refine GL.guard rfl rfl (fun hc => ?_) (fun hc => ?_)) | (apply qag; refine G.cond rfl (fun hc => ?_) (fun hc => ?_)) | (apply qad; refine GD.guard rfl rfl (fun hc => ?_) (fun hc => ?_))) <;> ((try simp only [decide_eq_true_eq, decide_eq_false_iff_not, Bool.not_true, Bool.not_false, ne_eq, Classical.not_not, Int.not_lt, Int.not_le] at hc); (try (exfalso; first | omega | exact hc trivial | exact hc rfl)))))
    all_goals (first | (exfalso; omega) | (refine qbg rfl (by (repeat (first | apply Res.nil | (apply Res.tmp; rfl) | (refine qax rfl rfl rfl ?_) | (refine qay rfl rfl ?_)))) (fun w h => ?_); exact ⟨rfl, h.sub⟩))
  · rw [if_neg hx]
    obtain ⟨i, rfl⟩ : ∃ i : Nat, x = i := ⟨x.toNat, by omega⟩
    have hi : i < pl.length := by omega
    rw [show pl.getD (i : Int).toNat 0 = pl[i] by rw [List.getD_eq_getElem?_getD, Int.toNat_natCast, List.getElem?_eq_getElem hi]; rfl]
    repeat' (first | (apply qac; first | refine qa6 rfl ?_ | (apply qaj; first | refine qah rfl rfl rfl rfl rfl ?_ | refine qae rfl rfl rfl rfl rfl ?_ | refine qaf rfl rfl rfl rfl rfl ?_) | refine qam rfl rfl ?_ | refine qao rfl rfl rfl ?_ | refine qan rfl rfl rfl ?_ | (apply qaw; first | refine qa5 rfl rfl (fun _ => ?_) | refine qa7 rfl rfl rfl (fun _ => ?_) | refine GL.box rfl rfl (fun _ => ?_)) | (apply qai; first | refine qaa rfl rfl rfl rfl rfl (fun _ => ?_) | refine qab rfl rfl rfl rfl rfl (fun _ => ?_)) | (apply GL.isCall; refine qal _ rfl rfl rfl rfl (by rfl) (by omega) (by omega) rfl (fun _ => ?_)) | (apply qak; refine GL.alloc rfl (fun _ => ?_))) | apply GL.nil | first | apply G.seq | apply G.region | apply G.block | apply G.skip | apply G.exit | apply G.ret | (apply qag; first | refine qbd rfl ?_ | refine qbe rfl ?_) | refine qbi (by kernel_rfl) (by kernel_rfl) ?_ | (apply qa3; first | apply qa4 | apply qa1 | apply qar | apply qas | apply qa2 | apply qa0 | apply qap | refine qaq rfl ?_ | apply qa9) | (apply qad; first | refine qba rfl ?_ | refine qat rfl rfl ?_ | refine qav rfl rfl rfl ?_ | refine qau rfl rfl rfl ?_) | apply qbc | apply qbb | (apply qaz; refine qa8 rfl rfl ?_) | ((first | (apply qac; refine GL.guard rfl rfl (fun hc => ?_) (fun hc => ?_)) | (apply qag; refine G.cond rfl (fun hc => ?_) (fun hc => ?_)) | (apply qad; refine GD.guard rfl rfl (fun hc => ?_) (fun hc => ?_))) <;> ((try simp only [decide_eq_true_eq, decide_eq_false_iff_not, Bool.not_true, Bool.not_false, ne_eq, Classical.not_not, Int.not_lt, Int.not_le] at hc); (try (exfalso; first | omega | exact hc trivial | exact hc rfl)))))
    all_goals (first | (exfalso; omega) | (refine qbg rfl (by (repeat (first | apply Res.nil | (apply Res.tmp; rfl) | (refine qax rfl rfl rfl ?_) | (refine qay rfl rfl ?_)))) (fun w h => ?_); exact ⟨rfl, h.sub⟩))
theorem stack_Top (w : World) (F : List HProp) (hn : n ≤ 1048576) (hw : holds w (blk s (.cells #[.slice (some ⟨r, n, none⟩) l.length n, .slice (some ⟨r, 0, none⟩) n n] 267 (0, 0)) :: stkB r n pl l jk :: F)) :
    Ct Tryz.prog 199 #[.pointer (some ⟨s, 0, none⟩)] w fun e w' => e = .returned (.tuple #[.int .i64 (l.getLast?.getD 0), .bool (decide (l ≠ []))]) ∧ holds w' (blk s (.cells #[.slice (some ⟨r, n, none⟩) l.length n, .slice (some ⟨r, 0, none⟩) n n] 267 (0, 0)) :: stkB r n pl l jk :: F) := by
  obtain ⟨⟨e1, e2⟩, _⟩ := stkB.open hw.tail
  refine Ct.go (args := [.pointer (some ⟨s, 0, none⟩)]) Tryz.func199 rfl rfl rfl hw ?_
  by_cases hl : l = []
  · subst hl
    repeat' (first | (apply qac; first | refine qa6 rfl ?_ | (apply qaj; first | refine qah rfl rfl rfl rfl rfl ?_ | refine qae rfl rfl rfl rfl rfl ?_ | refine qaf rfl rfl rfl rfl rfl ?_) | refine qam rfl rfl ?_ | refine qao rfl rfl rfl ?_ | refine qan rfl rfl rfl ?_ | (apply qaw; first | refine qa5 rfl rfl (fun _ => ?_) | refine qa7 rfl rfl rfl (fun _ => ?_) | refine GL.box rfl rfl (fun _ => ?_)) | (apply qai; first | refine qaa rfl rfl rfl rfl rfl (fun _ => ?_) | refine qab rfl rfl rfl rfl rfl (fun _ => ?_)) | (apply GL.isCall; refine qal _ rfl rfl rfl rfl (by rfl) (by omega) (by omega) rfl (fun _ => ?_)) | (apply qak; refine GL.alloc rfl (fun _ => ?_))) | apply GL.nil | first | apply G.seq | apply G.region | apply G.block | apply G.skip | apply G.exit | apply G.ret | (apply qag; first | refine qbd rfl ?_ | refine qbe rfl ?_) | refine qbi (by kernel_rfl) (by kernel_rfl) ?_ | (apply qa3; first | apply qa4 | apply qa1 | apply qar | apply qas | apply qa2 | apply qa0 | apply qap | refine qaq rfl ?_ | apply qa9) | (apply qad; first | refine qba rfl ?_ | refine qat rfl rfl ?_ | refine qav rfl rfl rfl ?_ | refine qau rfl rfl rfl ?_) | apply qbc | apply qbb | (apply qaz; refine qa8 rfl rfl ?_) | ((first | (apply qac; refine GL.guard rfl rfl (fun hc => ?_) (fun hc => ?_)) | (apply qag; refine G.cond rfl (fun hc => ?_) (fun hc => ?_)) | (apply qad; refine GD.guard rfl rfl (fun hc => ?_) (fun hc => ?_))) <;> ((try simp only [decide_eq_true_eq, decide_eq_false_iff_not, Bool.not_true, Bool.not_false, ne_eq, Classical.not_not, Int.not_lt, Int.not_le] at hc); (try (exfalso; first | omega | exact hc trivial | exact hc rfl)))))
    all_goals (first | (exfalso; simp at hc; done) | (refine qbh rfl (by (repeat (first | apply Res.nil | (apply Res.tmp; rfl) | (refine qax rfl rfl rfl ?_) | (refine qay rfl rfl ?_)))) (fun w h => ?_); exact ⟨rfl, h.sub⟩))
  · have hp : 0 < l.length := List.length_pos_iff.2 hl
    repeat' (first | ((apply qad; refine GD.run (by (apply qbm; exact Runs.indexAddr (k := l.length - 1) rfl rfl rfl (by omega) (by omega))) rfl ?_)) | first | (apply qac; first | refine qa6 rfl ?_ | (apply qaj; first | refine qah rfl rfl rfl rfl rfl ?_ | refine qae rfl rfl rfl rfl rfl ?_ | refine qaf rfl rfl rfl rfl rfl ?_) | refine qam rfl rfl ?_ | refine qao rfl rfl rfl ?_ | refine qan rfl rfl rfl ?_ | (apply qaw; first | refine qa5 rfl rfl (fun _ => ?_) | refine qa7 rfl rfl rfl (fun _ => ?_) | refine GL.box rfl rfl (fun _ => ?_)) | (apply qai; first | refine qaa rfl rfl rfl rfl rfl (fun _ => ?_) | refine qab rfl rfl rfl rfl rfl (fun _ => ?_)) | (apply GL.isCall; refine qal _ rfl rfl rfl rfl (by rfl) (by omega) (by omega) rfl (fun _ => ?_)) | (apply qak; refine GL.alloc rfl (fun _ => ?_))) | apply GL.nil | first | apply G.seq | apply G.region | apply G.block | apply G.skip | apply G.exit | apply G.ret | (apply qag; first | refine qbd rfl ?_ | refine qbe rfl ?_) | refine qbi (by kernel_rfl) (by kernel_rfl) ?_ | (apply qa3; first | apply qa4 | apply qa1 | apply qar | apply qas | apply qa2 | apply qa0 | apply qap | refine qaq rfl ?_ | apply qa9) | (apply qad; first | refine qba rfl ?_ | refine qat rfl rfl ?_ | refine qav rfl rfl rfl ?_ | refine qau rfl rfl rfl ?_) | apply qbc | apply qbb | (apply qaz; refine qa8 rfl rfl ?_) | ((first | (apply qac; refine GL.guard rfl rfl (fun hc => ?_) (fun hc => ?_)) | (apply qag; refine G.cond rfl (fun hc => ?_) (fun hc => ?_)) | (apply qad; refine GD.guard rfl rfl (fun hc => ?_) (fun hc => ?_))) <;> ((try simp only [decide_eq_true_eq, decide_eq_false_iff_not, Bool.not_true, Bool.not_false, ne_eq, Classical.not_not, Int.not_lt, Int.not_le] at hc); (try (exfalso; first | omega | exact hc trivial | exact hc rfl)))))
    all_goals (first | (exfalso; omega) | (refine qbh rfl (by (repeat (first | apply Res.nil | (apply Res.tmp; rfl) | (refine qax rfl rfl rfl ?_) | (refine qay rfl rfl ?_)))) (fun w h => ?_); exact ⟨by rw [decide_eq_true hl, List.getLast?_eq_getElem?, List.getElem?_eq_getElem (by omega)]; rfl, h.sub⟩))
theorem stack_PushY (i : Nat) (hn : n ≤ 1048576) (hi : i < n) (hp : Stk.place pl i < 0) (hr : l.length < n) (w : World) (F : List HProp) (hw : holds w (blk s (.cells #[.slice (some ⟨r, n, none⟩) l.length n, .slice (some ⟨r, 0, none⟩) n n] 267 (0, 0)) :: stkB r n pl l jk :: F)) :
    Ct Tryz.prog 139 #[.pointer (some ⟨s, 0, none⟩), .int .i64 i] w fun e w' => e = .returned (.bool true) ∧ holds w' (blk s (.cells #[.slice (some ⟨r, n, none⟩) (l ++ [(i : Int)]).length n, .slice (some ⟨r, 0, none⟩) n n] 267 (0, 0)) :: stkB r n (pl.set i l.length) (l ++ [(i : Int)]) (jk.drop 1) :: F) := by
  obtain ⟨⟨e1, e2⟩, _⟩ := stkB.open hw.tail
  have hi2 : i < pl.length := by omega
  unfold Stk.place at hp
  have eg : pl.getD (i : Int).toNat 0 = pl[i] := by rw [List.getD_eq_getElem?_getD, Int.toNat_natCast, List.getElem?_eq_getElem hi2]; rfl
  rw [if_neg (by omega), eg] at hp
  rw [List.length_append, List.length_cons, List.length_nil, Nat.zero_add]
  refine Ct.go (args := [.pointer (some ⟨s, 0, none⟩), .int .i64 i]) Tryz.func139 rfl rfl rfl hw ?_
  repeat' (first | (first | (refine qbj 3 ?_; refine G.drawTail 11 (by kernel_rfl) (by simp only [List.take_succ_cons, List.take_zero]; rfl) (by simp only [List.drop_succ_cons, List.drop_zero]; rfl) (by kernel_rfl) ?_) | (apply qac; refine GL.buildR (enc := encI1) [(i : Int)] (parts := [(0, .tmp 46)]) rfl rfl rfl rfl rfl (fun l hl => match l, hl with | [_], _ => rfl) rfl (fun g0 => ?_)) | (apply qaj; refine GL.storePl (r := r) (n := n) (pl := pl) (l := l) (jk := jk) (i := i) rfl rfl (by simp [rowO]) hi2 ?_) | (apply GL.isCall; refine GL.appendStk (r := r) (n := n) (pl := pl.set i l.length) (l := l) (jk := jk) (q := (i : Int)) rfl rfl rfl hr rfl ?_)) | first | (apply qac; first | refine qa6 rfl ?_ | (apply qaj; first | refine qah rfl rfl rfl rfl rfl ?_ | refine qae rfl rfl rfl rfl rfl ?_ | refine qaf rfl rfl rfl rfl rfl ?_) | refine qam rfl rfl ?_ | refine qao rfl rfl rfl ?_ | refine qan rfl rfl rfl ?_ | (apply qaw; first | refine qa5 rfl rfl (fun _ => ?_) | refine qa7 rfl rfl rfl (fun _ => ?_) | refine GL.box rfl rfl (fun _ => ?_)) | (apply qai; first | refine qaa rfl rfl rfl rfl rfl (fun _ => ?_) | refine qab rfl rfl rfl rfl rfl (fun _ => ?_)) | (apply GL.isCall; refine qal _ rfl rfl rfl rfl (by rfl) (by omega) (by omega) rfl (fun _ => ?_)) | (apply qak; refine GL.alloc rfl (fun _ => ?_))) | apply GL.nil | first | apply G.seq | apply G.region | apply G.block | apply G.skip | apply G.exit | apply G.ret | (apply qag; first | refine qbd rfl ?_ | refine qbe rfl ?_) | refine qbi (by kernel_rfl) (by kernel_rfl) ?_ | (apply qa3; first | apply qa4 | apply qa1 | apply qar | apply qas | apply qa2 | apply qa0 | apply qap | refine qaq rfl ?_ | apply qa9) | (apply qad; first | refine qba rfl ?_ | refine qat rfl rfl ?_ | refine qav rfl rfl rfl ?_ | refine qau rfl rfl rfl ?_) | apply qbc | apply qbb | (apply qaz; refine qa8 rfl rfl ?_) | ((first | (apply qac; refine GL.guard rfl rfl (fun hc => ?_) (fun hc => ?_)) | (apply qag; refine G.cond rfl (fun hc => ?_) (fun hc => ?_)) | (apply qad; refine GD.guard rfl rfl (fun hc => ?_) (fun hc => ?_))) <;> ((try simp only [decide_eq_true_eq, decide_eq_false_iff_not, Bool.not_true, Bool.not_false, ne_eq, Classical.not_not, Int.not_lt, Int.not_le] at hc); (try (exfalso; first | omega | exact hc trivial | exact hc rfl)))))
  all_goals (first | (exfalso; omega) | (refine qbg rfl (by (repeat (first | apply Res.nil | (apply Res.tmp; rfl) | (refine qax rfl rfl rfl ?_) | (refine qay rfl rfl ?_)))) (fun w h => ?_); exact ⟨rfl, holds.sub (F := blk s (.cells #[.slice (some ⟨r, n, none⟩) (l.length + 1) n, .slice (some ⟨r, 0, none⟩) n n] 267 (0, 0)) :: stkB r n (pl.set i l.length) (l ++ [(i : Int)]) (jk.drop 1) :: owns 3 encI1 1 (.slice (some ⟨_, 0, none⟩) 1 1) [(i : Int)] :: F) h⟩))
end
end Go.Proofs.YtipkgamiejenaaaGreat
