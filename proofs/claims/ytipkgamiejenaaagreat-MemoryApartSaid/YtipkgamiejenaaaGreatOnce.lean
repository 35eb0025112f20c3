import Derived.Test.YtipkgamiejenaaaGreatMg8
import Derived.Test.YtipkgamiejenaaaGreatTypes
import Derived.Tactics
import Derived.Tactics2
import Derived.Defers
import Derived.Laws.Pointers
import Derived.Laws.LoneSync
import Derived.RegionTactic
import Derived.RegionCalls
import Derived.ChangeAlike
/- sync.Once, one goroutine: Do calls the function the first time, and nothing later. -/
namespace Go.Proofs.YtipkgamiejenaaaGreat
open Go Go.RowKit Go.MapKept
set_option linter.unusedVariables false
set_option linter.unusedSimpArgs false
set_option maxRecDepth 100000
set_option maxHeartbeats 1600000
/-- A cell among others. -/
structure CellAt (b o : Nat) (Y : Value → HProp) : Prop where
  get : ∀ v w F, holds w (Y v :: F) → w.cell? ⟨b, o, none⟩ = some v ∧ w.frozen? ⟨b, o, none⟩ = false
  set : ∀ v v' w F, holds w (Y v :: F) → holds (w.setCell ⟨b, o, none⟩ v') (Y v' :: F)
class MarkF (P : Program) (f : FuncId) : Prop where
  run : ∀ w, (callFunc f #[]).run P w = .ok (.value (.tuple #[])) w
class MarkA (P : Program) (f : FuncId) : Prop where
  run : ∀ (a : Addr) w, (callFunc f #[.pointer (some a)]).run P w = .ok (.value (.tuple #[])) w
section
variable {P : Program} {n d : Nat} {Q : Exit → Act → World → Prop} {env : Env} {F F' : List HProp} {ops : Array Oper} {rest : List Oper} {ty T : TypeId} {pos : String} {aft : Array Edge} {f : FuncId} {k : IntKind} {xs : List Operand} {b o : Nat} {i j : Int} {ts : Array TypeId} {u v : Value} {Y : Value → HProp}
theorem Runs.loadC {t : TypeId} {x : Operand} (hY : CellAt b o Y) [CellT P t] (hx : opnd env x = some (.pointer (some ⟨b, o, none⟩))) [hh : Has F (Y v) F'] : Runs P n env F (.load t x) v := .mk fun a w ty pos aft g d hf hw => by
  have h1 := (hY.get _ _ _ (hw.perm hh.perm)).1
  have := run_loadCell (P := P) (t := t) h1
  simp [execOp, hf.eval hx, Instr.loadAt, Instr.sureAddr, this, Result.andThen]
theorem Runs.markF [hm : MarkF P f] : Runs P n env F (.call { callee := .value (.func f), args := #[], argTypes := ts }) (.tuple #[]) := .mk fun a w ty pos aft g d hf hw => hf.callRun (xs := []) (vs := []) rfl (hm.run w)
theorem Runs.markA {p : Addr} [hm : MarkA P f] (hx : opnds env xs = some [.pointer (some p)]) : Runs P n env F (.call { callee := .value (.func f), args := xs.toArray, argTypes := ts }) (.tuple #[]) := .mk fun a w ty pos aft g d hf hw => hf.callRun hx (hm.run p w)
theorem Runs.extLoadC (hY : CellAt b o Y) [he : ExtLoad P f k] [hh : Has F (Y (.int k i)) F'] (hx : opnds env xs = some [.pointer (some ⟨b, o, none⟩)]) : Runs P n env F (.call { callee := .value (.func f), args := xs.toArray, argTypes := ts }) (.int k i) := .mk fun a w ty pos aft g d hf hw =>
  hf.callRun hx (he.run _ _ w (hY.get _ _ _ (hw.perm hh.perm)).1)
theorem GL.extStoreC (hY : CellAt b o Y) [hs : ExtStore P f] (hx : opnds env xs = some [.pointer (some ⟨b, o, none⟩), .int k i]) [hh : Has F (Y u) F'] (hd : Nat.blt d n = true)
    (h : GL P n ops Q rest ((d, .tuple #[]) :: env) (Y (.int k i) :: F')) :
    GL P n ops Q (⟨some d, .call { callee := .value (.func f), args := xs.toArray, argTypes := ts }, ty, pos, aft, none⟩ :: rest) env F := .mk fun a w hf hw => by
  refine wpList_plain rfl fun K hK => ?_
  have h1 := hw.perm hh.perm
  obtain ⟨g1, g2⟩ := hY.get _ _ _ h1
  unfold Oper.wp
  rw [hf.callRun hx (hs.run ⟨b, o, none⟩ k i u w g1 g2)]
  exact hK _ _ (h _ _ (hf.put hd _) (hY.set _ _ _ _ h1))
theorem GL.extAddC (hY : CellAt b o Y) [hs : ExtAdd P f k] (hx : opnds env xs = some [.pointer (some ⟨b, o, none⟩), .int k j]) [hh : Has F (Y (.int k i)) F'] (hd : Nat.blt d n = true)
    (h : GL P n ops Q rest ((d, .int k (k.wrap (i + j))) :: env) (Y (.int k (k.wrap (i + j))) :: F')) :
    GL P n ops Q (⟨some d, .call { callee := .value (.func f), args := xs.toArray, argTypes := ts }, ty, pos, aft, none⟩ :: rest) env F := .mk fun a w hf hw => by
  refine wpList_plain rfl fun K hK => ?_
  have h1 := hw.perm hh.perm
  obtain ⟨g1, g2⟩ := hY.get _ _ _ h1
  unfold Oper.wp
  rw [hf.callRun hx (hs.run ⟨b, o, none⟩ i j w g1 g2)]
  exact hK _ _ (h _ _ (hf.put hd _) (hY.set _ _ _ _ h1))
theorem GL.extCasC (hY : CellAt b o Y) [hs : ExtCas P f k] (hx : opnds env xs = some [.pointer (some ⟨b, o, none⟩), .int k i, .int k j]) [hh : Has F (Y (.int k i)) F'] (hd : Nat.blt d n = true)
    (h : GL P n ops Q rest ((d, .bool true) :: env) (Y (.int k j) :: F')) :
    GL P n ops Q (⟨some d, .call { callee := .value (.func f), args := xs.toArray, argTypes := ts }, ty, pos, aft, none⟩ :: rest) env F := .mk fun a w hf hw => by
  refine wpList_plain rfl fun K hK => ?_
  have h1 := hw.perm hh.perm
  obtain ⟨g1, g2⟩ := hY.get _ _ _ h1
  unfold Oper.wp
  rw [hf.callRun hx (hs.run ⟨b, o, none⟩ i j w g1 g2)]
  exact hK _ _ (h _ _ (hf.put hd _) (hY.set _ _ _ _ h1))
def unsB (P : Program) (s t : TypeId) : Bool := match P.underlying s, P.underlying t with
  | some (.pointer e), some .unsafePointer => (P.info? e).map (fun i => decide (i.size = 0)) == some false
  | _, _ => false
theorem Runs.convUns {s t : TypeId} {x : Operand} (hY : CellAt b o Y) (hb : unsB P s t = true) (hx : opnd env x = some (.pointer (some ⟨b, o, none⟩))) [hh : Has F (Y v) F'] : Runs P n env F (.convert s t x) (.pointer (some ⟨b, o, none⟩)) := .mk fun a w ty pos aft g d hf hw => by
  have h1 := (hY.get _ _ _ (hw.perm hh.perm)).1
  unfold unsB at hb
  split at hb
  · rename_i e g1 g2
    have := run_convert_to_unsafe g1 g2 (by simpa using hb) h1
    simp [execOp, hf.eval hx, this, Result.andThen]
  · cases hb
theorem CtD.go {fn : Func} {c : Code} {args : List Value} {w : World} {u : FrameMode} {R : Ending → World → Prop} (hf : P.funcs[f]? = some fn) (hb : fn.body = some c) (hn : fn.ntmps = n) (hargs : Nat.ble args.length n = true) (hw : holds w F)
    (h : G P n c (bodyPost P fn R) (env0 0 args) F) : CallsD P f args.toArray u w fun e u' w' => u' = u ∧ R e w' := by
  have hle : args.length ≤ n := by simpa using hargs
  refine callsD_of_wp hf hb (h _ w ⟨?_, rfl, fun k v hk => ?_⟩ hw)
  · simp [hn]; omega
  · obtain ⟨h1, h2⟩ := look_env0 _ _ _ _ hk
    rw [Nat.sub_zero] at h2
    have hlt := (List.getElem?_eq_some_iff.1 h2).1
    have h3 : args[k] = v := by have := List.getElem?_eq_getElem hlt; rw [h2] at this; exact (Option.some.inj this).symm
    simp [Array.getElem?_append, hlt, h3]
end
instance : FieldT Tryz.prog 140 0 0 21 := .of (by kernel_rfl)
instance : Own Tryz.prog 226 := ⟨Tryz.call226⟩
instance : Own Tryz.prog 227 := ⟨Tryz.call227⟩
instance : MarkF Tryz.prog 233 := ⟨fun w => run_call_mark0 Tryz.func233 (by kernel_rfl) (by kernel_rfl) (by kernel_rfl) .disable (by kernel_rfl) w⟩
instance : MarkF Tryz.prog 235 := ⟨fun w => run_call_mark0 Tryz.func235 (by kernel_rfl) (by kernel_rfl) (by kernel_rfl) .enable (by kernel_rfl) w⟩
instance : MarkA Tryz.prog 236 := ⟨fun a w => run_call_marked Tryz.func236 (by kernel_rfl) (by kernel_rfl) (by kernel_rfl) .acquire (by kernel_rfl) a w⟩
instance : MarkA Tryz.prog 238 := ⟨fun a w => run_call_marked Tryz.func238 (by kernel_rfl) (by kernel_rfl) (by kernel_rfl) .releaseMerge (by kernel_rfl) a w⟩
instance : ExtStore Tryz.prog 228 := .of Tryz.func228 (by kernel_rfl) (by kernel_rfl) (by kernel_rfl) (by kernel_rfl)
instance : ExtLoad Tryz.prog 203 .u32 := .of Tryz.func203 (by kernel_rfl) (by kernel_rfl) (by kernel_rfl) .u32 (by kernel_rfl)
instance : ExtAdd Tryz.prog 239 .i32 := .of Tryz.func239 (by kernel_rfl) (by kernel_rfl) (by kernel_rfl) .i32 (by kernel_rfl)
instance : ExtCas Tryz.prog 234 .i32 := .of Tryz.func234 (by kernel_rfl) (by kernel_rfl) (by kernel_rfl) .i32 (by kernel_rfl)
theorem once_b32 (w : World) (F : List HProp) (hw : holds w F) :
    Ct Tryz.prog 229 #[.bool true] w fun e w' => e = .returned (.int .u32 1) ∧ holds w' F := by
  refine Ct.go (args := [.bool true]) Tryz.func229 rfl rfl rfl hw ?_
  repeat' (first | (apply GL.isAny; first | refine GL.runA rfl ?_ | (apply GL.isStore; first | refine GL.storeBlk rfl rfl rfl rfl rfl ?_ | refine GL.storeWhole rfl rfl rfl rfl rfl ?_ | refine GL.storeBlkA rfl rfl rfl rfl rfl ?_) | refine GL.guardY rfl rfl ?_ | refine GL.guardN rfl rfl rfl ?_ | refine GL.guardU rfl rfl rfl ?_ | (apply GL.isBox; first | refine GL.boxA rfl rfl (fun _ => ?_) | refine GL.box1 rfl rfl rfl (fun _ => ?_) | refine GL.box rfl rfl (fun _ => ?_)) | (apply GL.isBuildS; first | refine GL.buildSlice1A rfl rfl rfl rfl rfl (fun _ => ?_) | refine GL.buildSlice1 rfl rfl rfl rfl rfl (fun _ => ?_)) | (apply GL.isCall; refine GL.append1 _ rfl rfl rfl rfl (by rfl) (by omega) (by omega) rfl (fun _ => ?_)) | (apply GL.isAlloc; refine GL.alloc rfl (fun _ => ?_))) | apply GL.nil | first | apply G.seq | apply G.region | apply G.block | apply G.skip | apply G.exit | apply G.ret | (apply G.isCond; first | refine G.condT rfl ?_ | refine G.condF rfl ?_) | refine G.draw (by kernel_rfl) (by kernel_rfl) ?_ | (apply GE.isAny; first | apply GE.again | apply GE.thenG | apply GE.blockN | apply GE.blockE | apply GE.thenE | apply GE.thenR | apply GE.blockR | refine GE.blockO rfl ?_ | apply GE.only) | (apply GD.isAny; first | refine GD.runA rfl ?_ | refine GD.guardY rfl rfl ?_ | refine GD.guardN rfl rfl rfl ?_ | refine GD.guardU rfl rfl rfl ?_) | apply GD.nilE | apply GD.nilL | (apply GT.isAny; refine GT.runA rfl rfl ?_) | ((first | (apply GL.isAny; refine GL.guard rfl rfl (fun hc => ?_) (fun hc => ?_)) | (apply G.isCond; refine G.cond rfl (fun hc => ?_) (fun hc => ?_)) | (apply GD.isAny; refine GD.guard rfl rfl (fun hc => ?_) (fun hc => ?_))) <;> ((try simp only [decide_eq_true_eq, decide_eq_false_iff_not, Bool.not_true, Bool.not_false, ne_eq, Classical.not_not, Int.not_lt, Int.not_le] at hc); (try (exfalso; first | omega | exact hc trivial | exact hc rfl)))))
  all_goals (first | (exfalso; simp at hc; done) | (refine GE.resOne rfl (by (repeat (first | apply Res.nil | (apply Res.tmp; rfl) | (refine Res.cellA rfl rfl rfl ?_) | (refine Res.cell1 rfl rfl ?_)))) (fun w h => ?_); exact ⟨rfl, h.sub⟩))
section
variable (b o : Nat) (Y : Value → HProp) (hY : CellAt b o Y)
include hY
theorem once_Store (v : Value) (u : FrameMode) (w : World) (F : List HProp) (hw : holds w (Y v :: F)) :
    CallsD Tryz.prog 206 #[.pointer (some ⟨b, o, none⟩), .bool true] u w fun e u' w' => u' = u ∧ (e = .returned (.tuple #[]) ∧ holds w' (Y (.int .u32 1) :: F)) := by
  refine CtD.go (args := [.pointer (some ⟨b, o, none⟩), .bool true]) Tryz.func206 rfl rfl rfl hw ?_
  repeat' (first | (first | refine G.drawTail 5 (by kernel_rfl) (by simp only [List.take_succ_cons, List.take_zero]; rfl) (by simp only [List.drop_succ_cons, List.drop_zero]; rfl) (by kernel_rfl) ?_ | (apply GD.isAny; refine GD.call rfl rfl (fun w F' h => once_b32 w _ h) ?_) | (refine GL.extStoreC hY (u := v) (k := .u32) (i := 1) rfl rfl ?_)) | first | (apply GL.isAny; first | refine GL.runA rfl ?_ | (apply GL.isStore; first | refine GL.storeBlk rfl rfl rfl rfl rfl ?_ | refine GL.storeWhole rfl rfl rfl rfl rfl ?_ | refine GL.storeBlkA rfl rfl rfl rfl rfl ?_) | refine GL.guardY rfl rfl ?_ | refine GL.guardN rfl rfl rfl ?_ | refine GL.guardU rfl rfl rfl ?_ | (apply GL.isBox; first | refine GL.boxA rfl rfl (fun _ => ?_) | refine GL.box1 rfl rfl rfl (fun _ => ?_) | refine GL.box rfl rfl (fun _ => ?_)) | (apply GL.isBuildS; first | refine GL.buildSlice1A rfl rfl rfl rfl rfl (fun _ => ?_) | refine GL.buildSlice1 rfl rfl rfl rfl rfl (fun _ => ?_)) | (apply GL.isCall; refine GL.append1 _ rfl rfl rfl rfl (by rfl) (by omega) (by omega) rfl (fun _ => ?_)) | (apply GL.isAlloc; refine GL.alloc rfl (fun _ => ?_))) | apply GL.nil | first | apply G.seq | apply G.region | apply G.block | apply G.skip | apply G.exit | apply G.ret | (apply G.isCond; first | refine G.condT rfl ?_ | refine G.condF rfl ?_) | refine G.draw (by kernel_rfl) (by kernel_rfl) ?_ | (apply GE.isAny; first | apply GE.again | apply GE.thenG | apply GE.blockN | apply GE.blockE | apply GE.thenE | apply GE.thenR | apply GE.blockR | refine GE.blockO rfl ?_ | apply GE.only) | (apply GD.isAny; first | refine GD.runA rfl ?_ | refine GD.guardY rfl rfl ?_ | refine GD.guardN rfl rfl rfl ?_ | refine GD.guardU rfl rfl rfl ?_) | apply GD.nilE | apply GD.nilL | (apply GT.isAny; refine GT.runA rfl rfl ?_) | ((first | (apply GL.isAny; refine GL.guard rfl rfl (fun hc => ?_) (fun hc => ?_)) | (apply G.isCond; refine G.cond rfl (fun hc => ?_) (fun hc => ?_)) | (apply GD.isAny; refine GD.guard rfl rfl (fun hc => ?_) (fun hc => ?_))) <;> ((try simp only [decide_eq_true_eq, decide_eq_false_iff_not, Bool.not_true, Bool.not_false, ne_eq, Classical.not_not, Int.not_lt, Int.not_le] at hc); (try (exfalso; first | omega | exact hc trivial | exact hc rfl)))))
  (first | refine GE.res0 (.inl rfl) rfl (fun w h => ?_) | refine GE.res0 (.inr rfl) rfl (fun w h => ?_))
  exact ⟨rfl, h⟩
theorem once_Load (i : Int) (w : World) (F : List HProp) (hw : holds w (Y (.int .u32 i) :: F)) :
    Ct Tryz.prog 149 #[.pointer (some ⟨b, o, none⟩)] w fun e w' => e = .returned (.bool (decide (i ≠ 0))) ∧ holds w' (Y (.int .u32 i) :: F) := by
  refine Ct.go (args := [.pointer (some ⟨b, o, none⟩)]) Tryz.func149 rfl rfl rfl hw ?_
  repeat' (first | ((apply GL.isAny; refine GL.run (Runs.extLoadC hY (k := .u32) (i := i) rfl) rfl ?_)) | first | (apply GL.isAny; first | refine GL.runA rfl ?_ | (apply GL.isStore; first | refine GL.storeBlk rfl rfl rfl rfl rfl ?_ | refine GL.storeWhole rfl rfl rfl rfl rfl ?_ | refine GL.storeBlkA rfl rfl rfl rfl rfl ?_) | refine GL.guardY rfl rfl ?_ | refine GL.guardN rfl rfl rfl ?_ | refine GL.guardU rfl rfl rfl ?_ | (apply GL.isBox; first | refine GL.boxA rfl rfl (fun _ => ?_) | refine GL.box1 rfl rfl rfl (fun _ => ?_) | refine GL.box rfl rfl (fun _ => ?_)) | (apply GL.isBuildS; first | refine GL.buildSlice1A rfl rfl rfl rfl rfl (fun _ => ?_) | refine GL.buildSlice1 rfl rfl rfl rfl rfl (fun _ => ?_)) | (apply GL.isCall; refine GL.append1 _ rfl rfl rfl rfl (by rfl) (by omega) (by omega) rfl (fun _ => ?_)) | (apply GL.isAlloc; refine GL.alloc rfl (fun _ => ?_))) | apply GL.nil | first | apply G.seq | apply G.region | apply G.block | apply G.skip | apply G.exit | apply G.ret | (apply G.isCond; first | refine G.condT rfl ?_ | refine G.condF rfl ?_) | refine G.draw (by kernel_rfl) (by kernel_rfl) ?_ | (apply GE.isAny; first | apply GE.again | apply GE.thenG | apply GE.blockN | apply GE.blockE | apply GE.thenE | apply GE.thenR | apply GE.blockR | refine GE.blockO rfl ?_ | apply GE.only) | (apply GD.isAny; first | refine GD.runA rfl ?_ | refine GD.guardY rfl rfl ?_ | refine GD.guardN rfl rfl rfl ?_ | refine GD.guardU rfl rfl rfl ?_) | apply GD.nilE | apply GD.nilL | (apply GT.isAny; refine GT.runA rfl rfl ?_) | ((first | (apply GL.isAny; refine GL.guard rfl rfl (fun hc => ?_) (fun hc => ?_)) | (apply G.isCond; refine G.cond rfl (fun hc => ?_) (fun hc => ?_)) | (apply GD.isAny; refine GD.guard rfl rfl (fun hc => ?_) (fun hc => ?_))) <;> ((try simp only [decide_eq_true_eq, decide_eq_false_iff_not, Bool.not_true, Bool.not_false, ne_eq, Classical.not_not, Int.not_lt, Int.not_le] at hc); (try (exfalso; first | omega | exact hc trivial | exact hc rfl)))))
  refine GE.resOne rfl (by (repeat (first | apply Res.nil | (apply Res.tmp; rfl) | (refine Res.cellA rfl rfl rfl ?_) | (refine Res.cell1 rfl rfl ?_)))) (fun w h => ?_); exact ⟨rfl, h.sub⟩
theorem once_lockI (w : World) (F : List HProp) (hw : holds w (Y (.int .i32 0) :: F)) :
    Ct Tryz.prog 226 #[.pointer (some ⟨b, o, none⟩)] w fun e w' => e = .returned (.tuple #[]) ∧ holds w' (Y (.int .i32 1) :: F) := by
  refine Ct.go (args := [.pointer (some ⟨b, o, none⟩)]) Tryz.func226 rfl rfl rfl hw ?_
  repeat' (first | (first | (apply GL.isAny; refine GL.run Runs.markF rfl ?_) | (apply GL.isAny; refine GL.run (Runs.markA rfl) rfl ?_) | (refine GL.extCasC hY (k := .i32) (i := 0) (j := 1) rfl rfl ?_) | (apply GL.isAny; refine GL.run (Runs.convUns hY (v := .int .i32 1) (by kernel_rfl) rfl) rfl ?_)) | first | (apply GL.isAny; first | refine GL.runA rfl ?_ | (apply GL.isStore; first | refine GL.storeBlk rfl rfl rfl rfl rfl ?_ | refine GL.storeWhole rfl rfl rfl rfl rfl ?_ | refine GL.storeBlkA rfl rfl rfl rfl rfl ?_) | refine GL.guardY rfl rfl ?_ | refine GL.guardN rfl rfl rfl ?_ | refine GL.guardU rfl rfl rfl ?_ | (apply GL.isBox; first | refine GL.boxA rfl rfl (fun _ => ?_) | refine GL.box1 rfl rfl rfl (fun _ => ?_) | refine GL.box rfl rfl (fun _ => ?_)) | (apply GL.isBuildS; first | refine GL.buildSlice1A rfl rfl rfl rfl rfl (fun _ => ?_) | refine GL.buildSlice1 rfl rfl rfl rfl rfl (fun _ => ?_)) | (apply GL.isCall; refine GL.append1 _ rfl rfl rfl rfl (by rfl) (by omega) (by omega) rfl (fun _ => ?_)) | (apply GL.isAlloc; refine GL.alloc rfl (fun _ => ?_))) | apply GL.nil | first | apply G.seq | apply G.region | apply G.block | apply G.skip | apply G.exit | apply G.ret | (apply G.isCond; first | refine G.condT rfl ?_ | refine G.condF rfl ?_) | refine G.draw (by kernel_rfl) (by kernel_rfl) ?_ | (apply GE.isAny; first | apply GE.again | apply GE.thenG | apply GE.blockN | apply GE.blockE | apply GE.thenE | apply GE.thenR | apply GE.blockR | refine GE.blockO rfl ?_ | apply GE.only) | (apply GD.isAny; first | refine GD.runA rfl ?_ | refine GD.guardY rfl rfl ?_ | refine GD.guardN rfl rfl rfl ?_ | refine GD.guardU rfl rfl rfl ?_) | apply GD.nilE | apply GD.nilL | (apply GT.isAny; refine GT.runA rfl rfl ?_) | ((first | (apply GL.isAny; refine GL.guard rfl rfl (fun hc => ?_) (fun hc => ?_)) | (apply G.isCond; refine G.cond rfl (fun hc => ?_) (fun hc => ?_)) | (apply GD.isAny; refine GD.guard rfl rfl (fun hc => ?_) (fun hc => ?_))) <;> ((try simp only [decide_eq_true_eq, decide_eq_false_iff_not, Bool.not_true, Bool.not_false, ne_eq, Classical.not_not, Int.not_lt, Int.not_le] at hc); (try (exfalso; first | omega | exact hc trivial | exact hc rfl)))))
  all_goals (first | (exfalso; simp at hc; done) | ((first | refine GE.res0 (.inl rfl) rfl (fun w h => ?_) | refine GE.res0 (.inr rfl) rfl (fun w h => ?_)); exact ⟨rfl, h⟩))
theorem once_lock (w : World) (F : List HProp) (hw : holds w (Y (.int .i32 0) :: F)) :
    Ct Tryz.prog 204 #[.pointer (some ⟨b, o, none⟩)] w fun e w' => e = .returned (.tuple #[]) ∧ holds w' (Y (.int .i32 1) :: F) := by
  refine Ct.go (args := [.pointer (some ⟨b, o, none⟩)]) Tryz.func204 rfl rfl rfl hw ?_
  repeat' (first | ((apply GL.isCall; refine GL.call1 (vs := [.pointer (some ⟨b, o, none⟩)]) rfl rfl (fun w h => once_lockI b o Y hY w _ h) ?_)) | first | (apply GL.isAny; first | refine GL.runA rfl ?_ | (apply GL.isStore; first | refine GL.storeBlk rfl rfl rfl rfl rfl ?_ | refine GL.storeWhole rfl rfl rfl rfl rfl ?_ | refine GL.storeBlkA rfl rfl rfl rfl rfl ?_) | refine GL.guardY rfl rfl ?_ | refine GL.guardN rfl rfl rfl ?_ | refine GL.guardU rfl rfl rfl ?_ | (apply GL.isBox; first | refine GL.boxA rfl rfl (fun _ => ?_) | refine GL.box1 rfl rfl rfl (fun _ => ?_) | refine GL.box rfl rfl (fun _ => ?_)) | (apply GL.isBuildS; first | refine GL.buildSlice1A rfl rfl rfl rfl rfl (fun _ => ?_) | refine GL.buildSlice1 rfl rfl rfl rfl rfl (fun _ => ?_)) | (apply GL.isCall; refine GL.append1 _ rfl rfl rfl rfl (by rfl) (by omega) (by omega) rfl (fun _ => ?_)) | (apply GL.isAlloc; refine GL.alloc rfl (fun _ => ?_))) | apply GL.nil | first | apply G.seq | apply G.region | apply G.block | apply G.skip | apply G.exit | apply G.ret | (apply G.isCond; first | refine G.condT rfl ?_ | refine G.condF rfl ?_) | refine G.draw (by kernel_rfl) (by kernel_rfl) ?_ | (apply GE.isAny; first | apply GE.again | apply GE.thenG | apply GE.blockN | apply GE.blockE | apply GE.thenE | apply GE.thenR | apply GE.blockR | refine GE.blockO rfl ?_ | apply GE.only) | (apply GD.isAny; first | refine GD.runA rfl ?_ | refine GD.guardY rfl rfl ?_ | refine GD.guardN rfl rfl rfl ?_ | refine GD.guardU rfl rfl rfl ?_) | apply GD.nilE | apply GD.nilL | (apply GT.isAny; refine GT.runA rfl rfl ?_) | ((first | (apply GL.isAny; refine GL.guard rfl rfl (fun hc => ?_) (fun hc => ?_)) | (apply G.isCond; refine G.cond rfl (fun hc => ?_) (fun hc => ?_)) | (apply GD.isAny; refine GD.guard rfl rfl (fun hc => ?_) (fun hc => ?_))) <;> ((try simp only [decide_eq_true_eq, decide_eq_false_iff_not, Bool.not_true, Bool.not_false, ne_eq, Classical.not_not, Int.not_lt, Int.not_le] at hc); (try (exfalso; first | omega | exact hc trivial | exact hc rfl)))))
  (first | refine GE.res0 (.inl rfl) rfl (fun w h => ?_) | refine GE.res0 (.inr rfl) rfl (fun w h => ?_))
  exact ⟨rfl, h⟩
theorem once_unlockI (w : World) (F : List HProp) (hw : holds w (Y (.int .i32 1) :: F)) :
    Ct Tryz.prog 227 #[.pointer (some ⟨b, o, none⟩)] w fun e w' => e = .returned (.tuple #[]) ∧ holds w' (Y (.int .i32 0) :: F) := by
  refine Ct.go (args := [.pointer (some ⟨b, o, none⟩)]) Tryz.func227 rfl rfl rfl hw ?_
  repeat' (first | (first | (apply GL.isAny; refine GL.run Runs.markF rfl ?_) | (apply GL.isAny; refine GL.run (Runs.markA rfl) rfl ?_) | (refine GL.extAddC hY (k := .i32) (i := 1) (j := -1) rfl rfl ?_) | (apply GL.isAny; refine GL.run (Runs.convUns hY (v := .int .i32 1) (by kernel_rfl) rfl) rfl ?_) | (apply GL.isAny; refine GL.run (Runs.loadC hY (v := .int .i32 1) rfl) rfl ?_)) | first | (apply GL.isAny; first | refine GL.runA rfl ?_ | (apply GL.isStore; first | refine GL.storeBlk rfl rfl rfl rfl rfl ?_ | refine GL.storeWhole rfl rfl rfl rfl rfl ?_ | refine GL.storeBlkA rfl rfl rfl rfl rfl ?_) | refine GL.guardY rfl rfl ?_ | refine GL.guardN rfl rfl rfl ?_ | refine GL.guardU rfl rfl rfl ?_ | (apply GL.isBox; first | refine GL.boxA rfl rfl (fun _ => ?_) | refine GL.box1 rfl rfl rfl (fun _ => ?_) | refine GL.box rfl rfl (fun _ => ?_)) | (apply GL.isBuildS; first | refine GL.buildSlice1A rfl rfl rfl rfl rfl (fun _ => ?_) | refine GL.buildSlice1 rfl rfl rfl rfl rfl (fun _ => ?_)) | (apply GL.isCall; refine GL.append1 _ rfl rfl rfl rfl (by rfl) (by omega) (by omega) rfl (fun _ => ?_)) | (apply GL.isAlloc; refine GL.alloc rfl (fun _ => ?_))) | apply GL.nil | first | apply G.seq | apply G.region | apply G.block | apply G.skip | apply G.exit | apply G.ret | (apply G.isCond; first | refine G.condT rfl ?_ | refine G.condF rfl ?_) | refine G.draw (by kernel_rfl) (by kernel_rfl) ?_ | (apply GE.isAny; first | apply GE.again | apply GE.thenG | apply GE.blockN | apply GE.blockE | apply GE.thenE | apply GE.thenR | apply GE.blockR | refine GE.blockO rfl ?_ | apply GE.only) | (apply GD.isAny; first | refine GD.runA rfl ?_ | refine GD.guardY rfl rfl ?_ | refine GD.guardN rfl rfl rfl ?_ | refine GD.guardU rfl rfl rfl ?_) | apply GD.nilE | apply GD.nilL | (apply GT.isAny; refine GT.runA rfl rfl ?_) | ((first | (apply GL.isAny; refine GL.guard rfl rfl (fun hc => ?_) (fun hc => ?_)) | (apply G.isCond; refine G.cond rfl (fun hc => ?_) (fun hc => ?_)) | (apply GD.isAny; refine GD.guard rfl rfl (fun hc => ?_) (fun hc => ?_))) <;> ((try simp only [decide_eq_true_eq, decide_eq_false_iff_not, Bool.not_true, Bool.not_false, ne_eq, Classical.not_not, Int.not_lt, Int.not_le] at hc); (try (exfalso; first | omega | exact hc trivial | exact hc rfl)))))
  all_goals (first | (exfalso; simp at hc; done) | ((first | refine GE.res0 (.inl rfl) rfl (fun w h => ?_) | refine GE.res0 (.inr rfl) rfl (fun w h => ?_)); exact ⟨rfl, h⟩))
theorem once_unlock (u : FrameMode) (w : World) (F : List HProp) (hw : holds w (Y (.int .i32 1) :: F)) :
    CallsD Tryz.prog 205 #[.pointer (some ⟨b, o, none⟩)] u w fun e u' w' => u' = u ∧ (e = .returned (.tuple #[]) ∧ holds w' (Y (.int .i32 0) :: F)) := by
  refine CtD.go (args := [.pointer (some ⟨b, o, none⟩)]) Tryz.func205 rfl rfl rfl hw ?_
  repeat' (first | ((apply GL.isCall; refine GL.call1 (vs := [.pointer (some ⟨b, o, none⟩)]) rfl rfl (fun w h => once_unlockI b o Y hY w _ h) ?_)) | first | (apply GL.isAny; first | refine GL.runA rfl ?_ | (apply GL.isStore; first | refine GL.storeBlk rfl rfl rfl rfl rfl ?_ | refine GL.storeWhole rfl rfl rfl rfl rfl ?_ | refine GL.storeBlkA rfl rfl rfl rfl rfl ?_) | refine GL.guardY rfl rfl ?_ | refine GL.guardN rfl rfl rfl ?_ | refine GL.guardU rfl rfl rfl ?_ | (apply GL.isBox; first | refine GL.boxA rfl rfl (fun _ => ?_) | refine GL.box1 rfl rfl rfl (fun _ => ?_) | refine GL.box rfl rfl (fun _ => ?_)) | (apply GL.isBuildS; first | refine GL.buildSlice1A rfl rfl rfl rfl rfl (fun _ => ?_) | refine GL.buildSlice1 rfl rfl rfl rfl rfl (fun _ => ?_)) | (apply GL.isCall; refine GL.append1 _ rfl rfl rfl rfl (by rfl) (by omega) (by omega) rfl (fun _ => ?_)) | (apply GL.isAlloc; refine GL.alloc rfl (fun _ => ?_))) | apply GL.nil | first | apply G.seq | apply G.region | apply G.block | apply G.skip | apply G.exit | apply G.ret | (apply G.isCond; first | refine G.condT rfl ?_ | refine G.condF rfl ?_) | refine G.draw (by kernel_rfl) (by kernel_rfl) ?_ | (apply GE.isAny; first | apply GE.again | apply GE.thenG | apply GE.blockN | apply GE.blockE | apply GE.thenE | apply GE.thenR | apply GE.blockR | refine GE.blockO rfl ?_ | apply GE.only) | (apply GD.isAny; first | refine GD.runA rfl ?_ | refine GD.guardY rfl rfl ?_ | refine GD.guardN rfl rfl rfl ?_ | refine GD.guardU rfl rfl rfl ?_) | apply GD.nilE | apply GD.nilL | (apply GT.isAny; refine GT.runA rfl rfl ?_) | ((first | (apply GL.isAny; refine GL.guard rfl rfl (fun hc => ?_) (fun hc => ?_)) | (apply G.isCond; refine G.cond rfl (fun hc => ?_) (fun hc => ?_)) | (apply GD.isAny; refine GD.guard rfl rfl (fun hc => ?_) (fun hc => ?_))) <;> ((try simp only [decide_eq_true_eq, decide_eq_false_iff_not, Bool.not_true, Bool.not_false, ne_eq, Classical.not_not, Int.not_lt, Int.not_le] at hc); (try (exfalso; first | omega | exact hc trivial | exact hc rfl)))))
  (first | refine GE.res0 (.inl rfl) rfl (fun w h => ?_) | refine GE.res0 (.inr rfl) rfl (fun w h => ?_))
  exact ⟨rfl, h⟩
end
/-- A place where a sync.Once lies: what it says (done, the lock) beside the rest s. -/
structure OnceAt {σ : Type} (b o : Nat) (X : σ → Value → Value → HProp) : Prop where
  c0 : ∀ s l, CellAt b o (fun d => X s d l)
  c1 : ∀ s d, CellAt b (o + 1) (fun l => X s d l)
section
variable {σ α : Type} {b o : Nat} {X : σ → Value → Value → HProp} (hX : OnceAt b o X) (s0 : σ) (s1 : α → σ) (g : FuncId) (first cap : List Value) (w : World) (F : List HProp) (F' : α → List HProp)
include hX
theorem once_slow (hg : ∀ (args : Array Value) (w : World), (callFunc g args).run Tryz.prog w = .ok (.enter g args) w) (hf : ∀ w, holds w (X s0 (.int .u32 0) (.int .i32 1) :: F) → Ct Tryz.prog g (first ++ cap).toArray w fun e w' => ∃ x, e = .returned (.tuple #[]) ∧ holds w' (X (s1 x) (.int .u32 0) (.int .i32 1) :: F' x))
    (hw : holds w (X s0 (.int .u32 0) (.int .i32 0) :: F)) :
    Ct Tryz.prog 150 #[.pointer (some ⟨b, o, none⟩), .func (.func g) first.toArray cap.toArray] w fun e w' => ∃ x, e = .returned (.tuple #[]) ∧ holds w' (X (s1 x) (.int .u32 1) (.int .i32 0) :: F' x) := by
  have hL := (once_lock b (o + 1) _ (hX.c1 s0 (.int .u32 0)) w F hw).out
  have hnot : ∀ (x : Bool) (w : World), (Op.unary .not (.bool x)).run Tryz.prog w = .ok (.bool (!x)) w := fun _ _ => rfl
  refine ⟨?_⟩
  go_enter_defers Tryz.func150, Tryz.ntmps150
  go_wp2_with (go_at_call 204; refine hL.mono ?_; rintro e w1 ⟨rfl, h1⟩)
  have hD := (once_Load b o _ (hX.c0 s0 (.int .i32 1)) 0 w1 F h1).out
  refine hD.mono ?_
  rintro e w2 ⟨rfl, h2⟩
  go_wp2_with fail
  refine (hf _ h2).out.mono ?_
  rintro e w3 ⟨x, rfl, h3⟩
  go_wp2
  have hS := fun u w h => once_Store b o _ (hX.c0 (s1 x) (.int .i32 1)) (.int .u32 0) u w (F' x) h
  have hU := fun u w h => once_unlock b (o + 1) _ (hX.c1 (s1 x) (.int .u32 1)) u w (F' x) h
  refine leaves_cons (f := 206) (args := #[.pointer (some ⟨b, o, none⟩), .bool true]) (by simp) (by simp [go_sem]) ?_
  refine (hS .returning _ h3).mono ?_
  rintro e u' w'' ⟨rfl, rfl, h4⟩
  refine leaves_cons (f := 205) (args := #[.pointer (some ⟨b, o + 1, none⟩)]) (by simp [settle]) (by simp [go_sem]) ?_
  refine (hU _ _ h4).mono ?_
  rintro e u' w'' ⟨rfl, rfl, h5⟩
  simp only [Leaves, settle]
  exact ⟨_, results_none rfl _ _ _, x, rfl, h5⟩
theorem once_Do (hg : ∀ (args : Array Value) (w : World), (callFunc g args).run Tryz.prog w = .ok (.enter g args) w) (hf : ∀ w, holds w (X s0 (.int .u32 0) (.int .i32 1) :: F) → Ct Tryz.prog g (first ++ cap).toArray w fun e w' => ∃ x, e = .returned (.tuple #[]) ∧ holds w' (X (s1 x) (.int .u32 0) (.int .i32 1) :: F' x))
    (hw : holds w (X s0 (.int .u32 0) (.int .i32 0) :: F)) :
    Ct Tryz.prog 82 #[.pointer (some ⟨b, o, none⟩), .func (.func g) first.toArray cap.toArray] w fun e w' => ∃ x, e = .returned (.tuple #[]) ∧ holds w' (X (s1 x) (.int .u32 1) (.int .i32 0) :: F' x) := by
  refine Ct.go (args := [.pointer (some ⟨b, o, none⟩), .func (.func g) first.toArray cap.toArray]) Tryz.func82 rfl rfl rfl hw ?_
  have h0 := fun w h => once_Load b o _ (hX.c0 s0 (.int .i32 0)) 0 w F h
  repeat' (first | (first | (apply GL.isCall; refine GL.call1 (vs := [.pointer (some ⟨b, o, none⟩)]) rfl rfl (fun w h => h0 w h) ?_) | (apply GL.isCall; refine GL.call (vs := [.pointer (some ⟨b, o, none⟩), .func (.func g) first.toArray cap.toArray]) rfl rfl (fun w h => once_slow hX s0 s1 g first cap w F F' hg hf h) (fun x => ?_))) | first | (apply GL.isAny; first | refine GL.runA rfl ?_ | (apply GL.isStore; first | refine GL.storeBlk rfl rfl rfl rfl rfl ?_ | refine GL.storeWhole rfl rfl rfl rfl rfl ?_ | refine GL.storeBlkA rfl rfl rfl rfl rfl ?_) | refine GL.guardY rfl rfl ?_ | refine GL.guardN rfl rfl rfl ?_ | refine GL.guardU rfl rfl rfl ?_ | (apply GL.isBox; first | refine GL.boxA rfl rfl (fun _ => ?_) | refine GL.box1 rfl rfl rfl (fun _ => ?_) | refine GL.box rfl rfl (fun _ => ?_)) | (apply GL.isBuildS; first | refine GL.buildSlice1A rfl rfl rfl rfl rfl (fun _ => ?_) | refine GL.buildSlice1 rfl rfl rfl rfl rfl (fun _ => ?_)) | (apply GL.isCall; refine GL.append1 _ rfl rfl rfl rfl (by rfl) (by omega) (by omega) rfl (fun _ => ?_)) | (apply GL.isAlloc; refine GL.alloc rfl (fun _ => ?_))) | apply GL.nil | first | apply G.seq | apply G.region | apply G.block | apply G.skip | apply G.exit | apply G.ret | (apply G.isCond; first | refine G.condT rfl ?_ | refine G.condF rfl ?_) | refine G.draw (by kernel_rfl) (by kernel_rfl) ?_ | (apply GE.isAny; first | apply GE.again | apply GE.thenG | apply GE.blockN | apply GE.blockE | apply GE.thenE | apply GE.thenR | apply GE.blockR | refine GE.blockO rfl ?_ | apply GE.only) | (apply GD.isAny; first | refine GD.runA rfl ?_ | refine GD.guardY rfl rfl ?_ | refine GD.guardN rfl rfl rfl ?_ | refine GD.guardU rfl rfl rfl ?_) | apply GD.nilE | apply GD.nilL | (apply GT.isAny; refine GT.runA rfl rfl ?_) | ((first | (apply GL.isAny; refine GL.guard rfl rfl (fun hc => ?_) (fun hc => ?_)) | (apply G.isCond; refine G.cond rfl (fun hc => ?_) (fun hc => ?_)) | (apply GD.isAny; refine GD.guard rfl rfl (fun hc => ?_) (fun hc => ?_))) <;> ((try simp only [decide_eq_true_eq, decide_eq_false_iff_not, Bool.not_true, Bool.not_false, ne_eq, Classical.not_not, Int.not_lt, Int.not_le] at hc); (try (exfalso; first | omega | exact hc trivial | exact hc rfl)))))
  all_goals (first | (exfalso; simp at hc; done) | ((first | refine GE.res0 (.inl rfl) rfl (fun w h => ?_) | refine GE.res0 (.inr rfl) rfl (fun w h => ?_)); exact ⟨_, rfl, h⟩))
/-- Done already. -/
theorem once_Done (fv : Value) (hw : holds w (X s0 (.int .u32 1) (.int .i32 0) :: F)) :
    Ct Tryz.prog 82 #[.pointer (some ⟨b, o, none⟩), fv] w fun e w' => e = .returned (.tuple #[]) ∧ holds w' (X s0 (.int .u32 1) (.int .i32 0) :: F) := by
  refine Ct.go (args := [.pointer (some ⟨b, o, none⟩), fv]) Tryz.func82 rfl rfl rfl hw ?_
  have h0 := fun w h => once_Load b o _ (hX.c0 s0 (.int .i32 0)) 1 w F h
  repeat' (first | ((apply GL.isCall; refine GL.call1 (vs := [.pointer (some ⟨b, o, none⟩)]) rfl rfl (fun w h => h0 w h) ?_)) | first | (apply GL.isAny; first | refine GL.runA rfl ?_ | (apply GL.isStore; first | refine GL.storeBlk rfl rfl rfl rfl rfl ?_ | refine GL.storeWhole rfl rfl rfl rfl rfl ?_ | refine GL.storeBlkA rfl rfl rfl rfl rfl ?_) | refine GL.guardY rfl rfl ?_ | refine GL.guardN rfl rfl rfl ?_ | refine GL.guardU rfl rfl rfl ?_ | (apply GL.isBox; first | refine GL.boxA rfl rfl (fun _ => ?_) | refine GL.box1 rfl rfl rfl (fun _ => ?_) | refine GL.box rfl rfl (fun _ => ?_)) | (apply GL.isBuildS; first | refine GL.buildSlice1A rfl rfl rfl rfl rfl (fun _ => ?_) | refine GL.buildSlice1 rfl rfl rfl rfl rfl (fun _ => ?_)) | (apply GL.isCall; refine GL.append1 _ rfl rfl rfl rfl (by rfl) (by omega) (by omega) rfl (fun _ => ?_)) | (apply GL.isAlloc; refine GL.alloc rfl (fun _ => ?_))) | apply GL.nil | first | apply G.seq | apply G.region | apply G.block | apply G.skip | apply G.exit | apply G.ret | (apply G.isCond; first | refine G.condT rfl ?_ | refine G.condF rfl ?_) | refine G.draw (by kernel_rfl) (by kernel_rfl) ?_ | (apply GE.isAny; first | apply GE.again | apply GE.thenG | apply GE.blockN | apply GE.blockE | apply GE.thenE | apply GE.thenR | apply GE.blockR | refine GE.blockO rfl ?_ | apply GE.only) | (apply GD.isAny; first | refine GD.runA rfl ?_ | refine GD.guardY rfl rfl ?_ | refine GD.guardN rfl rfl rfl ?_ | refine GD.guardU rfl rfl rfl ?_) | apply GD.nilE | apply GD.nilL | (apply GT.isAny; refine GT.runA rfl rfl ?_) | ((first | (apply GL.isAny; refine GL.guard rfl rfl (fun hc => ?_) (fun hc => ?_)) | (apply G.isCond; refine G.cond rfl (fun hc => ?_) (fun hc => ?_)) | (apply GD.isAny; refine GD.guard rfl rfl (fun hc => ?_) (fun hc => ?_))) <;> ((try simp only [decide_eq_true_eq, decide_eq_false_iff_not, Bool.not_true, Bool.not_false, ne_eq, Classical.not_not, Int.not_lt, Int.not_le] at hc); (try (exfalso; first | omega | exact hc trivial | exact hc rfl)))))
  all_goals (first | (exfalso; simp at hc; done) | ((first | refine GE.res0 (.inl rfl) rfl (fun w h => ?_) | refine GE.res0 (.inr rfl) rfl (fun w h => ?_)); exact ⟨rfl, h⟩))
end
end Go.Proofs.YtipkgamiejenaaaGreat
