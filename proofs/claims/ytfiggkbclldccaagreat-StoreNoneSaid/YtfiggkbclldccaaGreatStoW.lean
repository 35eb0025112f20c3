import Derived.Test.YtfiggkbclldccaaGreatStoN
/- The laws of chapter 19: the example, and StoreNone. -/
namespace Go.Proofs.YtfiggkbclldccaaGreat
open Go Go.RowKit Go.MapKept
set_option linter.unusedVariables false
set_option linter.unusedSectionVars false
set_option linter.unusedSimpArgs false
set_option maxRecDepth 100000
set_option maxHeartbeats 4000000
namespace St
def w1 : S := (take (new 2 64) 7).1
def w2 : S := (put w1 0 0 3 [97, 98, 99]).1
def w3 : S := (give w2 0 7).1
def w4 : S := (start w3 0).1
def w5 : S := (step w4 0 64).1
theorem wr1 : (take (new 2 64) 7).2.1 = 0 ∧ (take (new 2 64) 7).2.2 = 0 := by decide +kernel
theorem wr2 : (put w1 0 0 3 [97, 98, 99]).2 = 0 := by decide +kernel
theorem wr3 : (give w2 0 7).2 = 0 := by decide +kernel
theorem wr4 : (start w3 0).2 = 0 := by decide +kernel
theorem wr5 : (step w4 0 64).2.1 = true ∧ (step w4 0 64).2.2 = 0 := by decide +kernel
theorem wr6 : (told w5 0).1.phase = 0 ∧ (told w5 0).1.owner = 0 ∧ (told w5 0).1.gen = 1 ∧ (told w5 0).2 = true := by decide +kernel
theorem wr7 : clean w5 0 = true := by decide +kernel
theorem wr8 : cntP w5.ch 0 = 2 ∧ cntP w5.ch 1 = 0 ∧ cntP w5.ch 2 = 0 ∧ cntP w5.ch 3 = 0 := by decide +kernel
theorem wi0 : Inv (new 2 64) 0 := Inv.new 2 64 (by omega) (by omega)
theorem wi1 : Inv w1 1 := wi0.take 7
theorem wi2 : Inv w2 2 := wi1.put 0 0 3 _
theorem wi3 : Inv w3 3 := wi2.give 0 7
theorem wi4 : Inv w4 4 := wi3.start 0
theorem wi5 : Inv w5 5 := wi4.step 0 64
end St
theorem law19_works (w : World) (F : List HProp) (hw : holds w F) :
    Ct Tryz.prog 28 #[] w fun e w' => e = .returned (.bool true) ∧ holds w' F := by
  refine Ct.go (args := []) Tryz.func28 rfl rfl rfl hw ?_
  have c0 := fun w (F : List HProp) h => store_Make 2 64 (by omega) (by omega) (by omega) (by omega) (by kernel_rfl) w F h
  have c1 := fun sb w (F : List HProp) h => store_Take sb _ 0 St.wi0 (by omega) 7 w F h
  have c2 := fun sb w (F : List HProp) h => store_Store sb _ 1 St.wi1 (by omega) 0 0 3 [97, 98, 99] (by decide) w F h
  have c3 := fun sb w (F : List HProp) h => store_Defer sb _ 2 St.wi2 (by omega) 0 7 w F h
  have c4 := fun sb w (F : List HProp) h => store_Begin sb _ 3 St.wi3 (by omega) 0 w F h
  have c5 := fun sb w (F : List HProp) h => store_Step sb _ 4 St.wi4 (by omega) 0 64 w F h
  have c6 := fun sb w (F : List HProp) h => store_Chunk sb _ 5 St.wi5 (by omega) 0 w F h
  have c7 := fun sb w (F : List HProp) h => store_Clean sb _ 5 St.wi5 (by omega) 0 w F h
  have c8 := fun sb w (F : List HProp) h => store_Many sb _ 5 St.wi5 (by omega) w F h
  rw [St.wr1.1, St.wr1.2, show (St.take (St.new 2 64) 7).1 = St.w1 from rfl] at c1
  rw [St.wr2, show (St.put St.w1 0 0 3 [97, 98, 99]).1 = St.w2 from rfl] at c2
  rw [St.wr3, show (St.give St.w2 0 7).1 = St.w3 from rfl] at c3
  rw [St.wr4, show (St.start St.w3 0).1 = St.w4 from rfl] at c4
  rw [St.wr5.1, St.wr5.2, show (St.step St.w4 0 64).1 = St.w5 from rfl] at c5
  unfold encCk at c6
  rw [St.wr6.1, St.wr6.2.1, St.wr6.2.2.1, St.wr6.2.2.2] at c6
  rw [St.wr7] at c7
  rw [St.wr8.1, St.wr8.2.1, St.wr8.2.2.1, St.wr8.2.2.2] at c8
  repeat' (first | (first | (apply GL.isAny; refine GL.run (Runs.eqlInts (cs := #[.int .i64 0, .int .i64 0, .int .i64 1]) (ds := #[.int .i64 0, .int .i64 0, .int .i64 1]) (m := 3) rfl rfl rfl rfl) rfl ?_) | (apply GL.isAny; refine GL.run (Runs.eqlInts (cs := #[.int .i64 2, .int .i64 0, .int .i64 0, .int .i64 0]) (ds := #[.int .i64 2, .int .i64 0, .int .i64 0, .int .i64 0]) (m := 4) rfl rfl rfl rfl) rfl ?_) | (apply GL.isCall; refine GL.call (vs := [.int .i64 ((2 : Nat) : Int), .int .i64 ((64 : Nat) : Int)]) rfl rfl (fun w h => c0 w _ h) (fun sb => ?_)) | (apply GL.isCall; refine GL.call1 (vs := [.pointer (some ⟨sb, 0, none⟩), .int .i64 7]) rfl rfl (fun w h => c1 sb w _ h) ?_) | (apply GL.isCall; refine GL.call1 (vs := [.pointer (some ⟨sb, 0, none⟩), .int .i64 0, .int .i64 0, .int .i64 3, .string (bs [97, 98, 99])]) rfl rfl (fun w h => c2 sb w _ h) ?_) | (apply GL.isCall; refine GL.call1 (vs := [.pointer (some ⟨sb, 0, none⟩), .int .i64 0, .int .i64 7]) rfl rfl (fun w h => c3 sb w _ h) ?_) | (apply GL.isCall; refine GL.call1 (vs := [.pointer (some ⟨sb, 0, none⟩), .int .i64 0]) rfl rfl (fun w h => c4 sb w _ h) ?_) | (apply GL.isCall; refine GL.call1 (vs := [.pointer (some ⟨sb, 0, none⟩), .int .i64 0, .int .i64 64]) rfl rfl (fun w h => c5 sb w _ h) ?_) | (apply GL.isCall; refine GL.callH1 (storeP sb St.w5) (vs := [.pointer (some ⟨sb, 0, none⟩), .int .i64 0]) rfl rfl (fun w h => c6 sb w _ h) ?_) | (apply GL.isAlloc; refine GL.alloc rfl (fun b4 => ?_)) | (apply GL.isCall; refine GL.callH1 (storeP sb St.w5) (vs := [.pointer (some ⟨sb, 0, none⟩), .int .i64 0]) rfl rfl (fun w h => c7 sb w _ h) ?_) | (apply GL.isCall; refine GL.callH1 (storeP sb St.w5) (vs := [.pointer (some ⟨sb, 0, none⟩)]) rfl rfl (fun w h => c8 sb w _ h) ?_)) | first | (apply GL.isAny; first | refine GL.runA rfl ?_ | (apply GL.isStore; first | refine GL.storeBlk rfl rfl rfl rfl rfl ?_ | refine GL.storeWhole rfl rfl rfl rfl rfl ?_ | refine GL.storeBlkA rfl rfl rfl rfl rfl ?_) | refine GL.guardY rfl rfl ?_ | refine GL.guardN rfl rfl rfl ?_ | refine GL.guardU rfl rfl rfl ?_ | (apply GL.isBox; first | refine GL.boxA rfl rfl (fun _ => ?_) | refine GL.box1 rfl rfl rfl (fun _ => ?_) | refine GL.box rfl rfl (fun _ => ?_)) | (apply GL.isBuildS; first | refine GL.buildSlice1A rfl rfl rfl rfl rfl (fun _ => ?_) | refine GL.buildSlice1 rfl rfl rfl rfl rfl (fun _ => ?_)) | (apply GL.isCall; refine GL.append1 _ rfl rfl rfl rfl (by rfl) (by omega) (by omega) rfl (fun _ => ?_)) | (apply GL.isAlloc; refine GL.alloc rfl (fun _ => ?_))) | apply GL.nil | first | apply G.seq | apply G.region | apply G.block | apply G.skip | apply G.exit | apply G.ret | (apply G.isCond; first | refine G.condT rfl ?_ | refine G.condF rfl ?_) | refine G.draw (by kernel_rfl) (by kernel_rfl) ?_ | (apply GE.isAny; first | apply GE.again | apply GE.thenG | apply GE.blockN | apply GE.blockE | apply GE.thenE | apply GE.thenR | apply GE.blockR | refine GE.blockO rfl ?_ | apply GE.only) | (apply GD.isAny; first | refine GD.runA rfl ?_ | refine GD.guardY rfl rfl ?_ | refine GD.guardN rfl rfl rfl ?_ | refine GD.guardU rfl rfl rfl ?_) | apply GD.nilE | apply GD.nilL | (apply GT.isAny; refine GT.runA rfl rfl ?_) | ((first | (apply GL.isAny; refine GL.guard rfl rfl (fun hc => ?_) (fun hc => ?_)) | (apply G.isCond; refine G.cond rfl (fun hc => ?_) (fun hc => ?_)) | (apply GD.isAny; refine GD.guard rfl rfl (fun hc => ?_) (fun hc => ?_))) <;> ((try simp only [decide_eq_true_eq, decide_eq_false_iff_not, Bool.not_true, Bool.not_false, ne_eq, Classical.not_not, Int.not_lt, Int.not_le] at hc); (try (exfalso; first | omega | exact hc trivial | exact hc rfl)))))
  all_goals (first | (exfalso; simp at hc; done) | skip)
  all_goals (refine GE.resOne rfl (by (repeat (first | apply Res.nil | (apply Res.tmp; rfl) | (refine Res.cellA rfl rfl rfl ?_) | (refine Res.cell1 rfl rfl ?_)))) (fun w h => ?_); exact ⟨rfl, h.sub⟩)
theorem law19_None (i ow : Int) (w : World) (F : List HProp) (hw : holds w F) :
    Ct Tryz.prog 6 #[.int .i64 i, .int .i64 ow] w fun e w' => e = .returned (.bool true) ∧ holds w' F := by
  refine Ct.go (args := [.int .i64 i, .int .i64 ow]) Tryz.func6 rfl rfl rfl hw ?_
  repeat' (first | (first | (refine G.isRegion 2 ?_; apply G.region; apply GL.isAny; refine GL.alloc rfl (fun zb => ?_)) | (apply GL.isAlloc; refine GL.alloc rfl (fun b4 => ?_)) | (apply GL.isCall; refine GL.call1 (vs := [.pointer none, .int .i64 ow]) rfl rfl (fun w h => st_TakeN ow w _ h) ?_) | (apply GL.isCall; refine GL.call1 (vs := [.pointer (some ⟨zb, 0, none⟩), .int .i64 i, .int .i64 1]) rfl rfl (fun w h => st_StepZ zb i 1 w _ h) ?_) | (apply GL.isCall; refine GL.call1 (vs := [.pointer none, .int .i64 i, .int .i64 0, .int .i64 0, .int .i64 0]) rfl rfl (fun w h => st_LoadN i 0 0 0 w _ h) ?_) | (apply GL.isCall; refine GL.call1 (vs := [.pointer (some ⟨zb, 0, none⟩), .int .i64 i]) rfl rfl (fun w h => st_ChunkZ zb i w _ h) ?_) | (apply GL.isCall; refine GL.call1 (vs := [.pointer none, .int .i64 i, .int .i64 ow]) rfl rfl (fun w h => st_DeferN i ow w _ h) ?_) | (apply GL.isCall; refine GL.call1 (vs := [.pointer (some ⟨zb, 0, none⟩), .int .i64 i]) rfl rfl (fun w h => st_BeginZ zb i w _ h) ?_) | (apply GL.isCall; refine GL.call1 (vs := [.pointer none, .int .i64 i, .int .i64 0, .int .i64 0, .string (bs [])]) rfl rfl (fun w h => st_StoreN i 0 0 [] w _ h) ?_) | (apply GL.isCall; refine GL.call1 (vs := [.pointer none, .int .i64 i]) rfl rfl (fun w h => st_CleanN i w _ h) ?_) | (apply GL.isCall; refine GL.call1 (vs := [.pointer (some ⟨zb, 0, none⟩), .int .i64 i]) rfl rfl (fun w h => st_CleanZ zb i w _ h) ?_) | (apply GL.isCall; refine GL.call1 (vs := [.pointer none]) rfl rfl (fun w h => st_ManyN w _ h) ?_) | (apply GL.isCall; refine GL.call1 (vs := [.pointer (some ⟨zb, 0, none⟩)]) rfl rfl (fun w h => st_ManyZ zb w _ h) ?_) | (apply GL.isCall; refine GL.call1 (vs := [.pointer none, .int .i64 ow]) rfl rfl (fun w h => st_OwnedN ow w _ h) ?_) | (apply GL.isCall; refine GL.call1 (vs := [.pointer (some ⟨zb, 0, none⟩), .int .i64 ow]) rfl rfl (fun w h => st_OwnedZ zb ow w _ h) ?_) | (apply GL.isCall; refine GL.call1 (vs := [.pointer (some ⟨zb, 0, none⟩)]) rfl rfl (fun w h => st_AllZ zb w _ h) ?_) | (apply GL.isCall; refine GL.call1 (vs := [.pointer none]) rfl rfl (fun w h => st_EventsN w _ h) ?_) | (apply GL.isCall; refine GL.call1 (vs := [.pointer none]) rfl rfl (fun w h => st_SizeN w _ h) ?_) | (apply GL.isCall; refine GL.call1 (vs := [.pointer (some ⟨zb, 0, none⟩)]) rfl rfl (fun w h => st_SizeZ zb w _ h) ?_) | (apply GL.isAny; refine GL.run (Runs.lenLit rfl) rfl ?_) | (apply GL.isCall; refine GL.call1 (vs := []) rfl rfl (fun w h => law19_works w _ h) ?_)) | first | (apply GL.isAny; first | refine GL.runA rfl ?_ | (apply GL.isStore; first | refine GL.storeBlk rfl rfl rfl rfl rfl ?_ | refine GL.storeWhole rfl rfl rfl rfl rfl ?_ | refine GL.storeBlkA rfl rfl rfl rfl rfl ?_) | refine GL.guardY rfl rfl ?_ | refine GL.guardN rfl rfl rfl ?_ | refine GL.guardU rfl rfl rfl ?_ | (apply GL.isBox; first | refine GL.boxA rfl rfl (fun _ => ?_) | refine GL.box1 rfl rfl rfl (fun _ => ?_) | refine GL.box rfl rfl (fun _ => ?_)) | (apply GL.isBuildS; first | refine GL.buildSlice1A rfl rfl rfl rfl rfl (fun _ => ?_) | refine GL.buildSlice1 rfl rfl rfl rfl rfl (fun _ => ?_)) | (apply GL.isCall; refine GL.append1 _ rfl rfl rfl rfl (by rfl) (by omega) (by omega) rfl (fun _ => ?_)) | (apply GL.isAlloc; refine GL.alloc rfl (fun _ => ?_))) | apply GL.nil | first | apply G.seq | apply G.region | apply G.block | apply G.skip | apply G.exit | apply G.ret | (apply G.isCond; first | refine G.condT rfl ?_ | refine G.condF rfl ?_) | refine G.draw (by kernel_rfl) (by kernel_rfl) ?_ | (apply GE.isAny; first | apply GE.again | apply GE.thenG | apply GE.blockN | apply GE.blockE | apply GE.thenE | apply GE.thenR | apply GE.blockR | refine GE.blockO rfl ?_ | apply GE.only) | (apply GD.isAny; first | refine GD.runA rfl ?_ | refine GD.guardY rfl rfl ?_ | refine GD.guardN rfl rfl rfl ?_ | refine GD.guardU rfl rfl rfl ?_) | apply GD.nilE | apply GD.nilL | (apply GT.isAny; refine GT.runA rfl rfl ?_) | ((first | (apply GL.isAny; refine GL.guard rfl rfl (fun hc => ?_) (fun hc => ?_)) | (apply G.isCond; refine G.cond rfl (fun hc => ?_) (fun hc => ?_)) | (apply GD.isAny; refine GD.guard rfl rfl (fun hc => ?_) (fun hc => ?_))) <;> ((try simp only [decide_eq_true_eq, decide_eq_false_iff_not, Bool.not_true, Bool.not_false, ne_eq, Classical.not_not, Int.not_lt, Int.not_le] at hc); (try (exfalso; first | omega | exact hc trivial | exact hc rfl)))))
  all_goals (first | (exfalso; simp at hc; done) | skip)
  all_goals (refine GE.resOne rfl (by (repeat (first | apply Res.nil | (apply Res.tmp; rfl) | (refine Res.cellA rfl rfl rfl ?_) | (refine Res.cell1 rfl rfl ?_)))) (fun w h => ?_); exact ⟨rfl, h.sub⟩)
end Go.Proofs.YtfiggkbclldccaaGreat
