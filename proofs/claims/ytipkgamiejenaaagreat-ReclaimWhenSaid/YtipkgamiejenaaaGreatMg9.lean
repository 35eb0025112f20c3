import Derived.Test.YtipkgamiejenaaaGreatMg8
import Derived.Test.YtipkgamiejenaaaGreatTypes
import Derived.Tactics
import Derived.Tactics2
import Derived.Defers
import Derived.Laws.Pointers
import Derived.Laws.LoneSync
import Derived.RegionTactic
import Derived.RegionCalls
import Derived.ChangeAlike

/- sync.Once, one goroutine: Do calls the function the first time, and nothing later. -/
namespace Go.Proofs.YtipkgamiejenaaaGreat
open Go Go.RowKit Go.MapKept
set_option linter.unusedVariables false
set_option linter.unusedSimpArgs false
set_option maxRecDepth 100000
set_option maxHeartbeats 1600000
/-- A cell among others. -/
structure CellAt (b o : Nat) (Y : Value → HProp) : Prop where
  get : ∀ v w F, holds w (Y v :: F) → w.cell? ⟨b, o, none⟩ = some v ∧ w.frozen? ⟨b, o, none⟩ = false
  set : ∀ v v' w F, holds w (Y v :: F) → holds (w.setCell ⟨b, o, none⟩ v') (Y v' :: F)
class MarkF (P : Program) (f : FuncId) : Prop where
  run : ∀ w, (callFunc f #[]).run P w = .ok (.value (.tuple #[])) w
class MarkA (P : Program) (f : FuncId) : Prop where
  run : ∀ (a : Addr) w, (callFunc f #[.pointer (some a)]).run P w = .ok (.value (.tuple #[])) w
section
variable {P : Program} {n d : Nat} {Q : Exit → Act → World → Prop} {env : Env} {F F' : List HProp} {ops : Array Oper} {rest : List Oper} {ty T : TypeId} {pos : String} {aft : Array Edge} {f : FuncId} {k : IntKind} {xs : List Operand} {b o : Nat} {i j : Int} {ts : Array TypeId} {u v : Value} {Y : Value → HProp}
theorem Runs.loadC {t : TypeId} {x : Operand} (hY : CellAt b o Y) [CellT P t] (hx : opnd env x = some (.pointer (some ⟨b, o, none⟩))) [hh : Has F (Y v) F'] : Runs P n env F (.load t x) v := .mk fun a w ty pos aft g d hf hw => by
  have h1 := (hY.get _ _ _ (hw.perm hh.perm)).1
  have := run_loadCell (P := P) (t := t) h1
  simp [execOp, hf.eval hx, Instr.loadAt, Instr.sureAddr, this, Result.andThen]
theorem Runs.markF [hm : MarkF P f] : Runs P n env F (.call { callee := .value (.func f), args := #[], argTypes := ts }) (.tuple #[]) := .mk fun a w ty pos aft g d hf hw => hf.callRun (xs := []) (vs := []) rfl (hm.run w)
theorem Runs.markA {p : Addr} [hm : MarkA P f] (hx : opnds env xs = some [.pointer (some p)]) : Runs P n env F (.call { callee := .value (.func f), args := xs.toArray, argTypes := ts }) (.tuple #[]) := .mk fun a w ty pos aft g d hf hw => hf.callRun hx (hm.run p w)
theorem Runs.extLoadC (hY : CellAt b o Y) [he : ExtLoad P f k] [hh : Has F (Y (.int k i)) F'] (hx : opnds env xs = some [.pointer (some ⟨b, o, none⟩)]) : Runs P n env F (.call { callee := .value (.func f), args := xs.toArray, argTypes := ts }) (.int k i) := .mk fun a w ty pos aft g d hf hw =>
  hf.callRun hx (he.run _ _ w (hY.get _ _ _ (hw.perm hh.perm)).1)
theorem GL.extStoreC (hY : CellAt b o Y) [hs : ExtStore P f] (hx : opnds env xs = some [.pointer (some ⟨b, o, none⟩), .int k i]) [hh : Has F (Y u) F'] (hd : Nat.blt d n = true)
    (h : GL P n ops Q rest ((d, .tuple #[]) :: env) (Y (.int k i) :: F')) :
    GL P n ops Q (⟨some d, .call { callee := .value (.func f), args := xs.toArray, argTypes := ts }, ty, pos, aft, none⟩ :: rest) env F := .mk fun a w hf hw => by
  refine wpList_plain rfl fun K hK => ?_
  have h1 := hw.perm hh.perm
  obtain ⟨g1, g2⟩ := hY.get _ _ _ h1
  unfold Oper.wp
  rw [hf.callRun hx (hs.run ⟨b, o, none⟩ k i u w g1 g2)]
  exact hK _ _ (h _ _ (hf.put hd _) (hY.set _ _ _ _ h1))
theorem GL.extAddC (hY : CellAt b o Y) [hs : ExtAdd P f k] (hx : opnds env xs = some [.pointer (some ⟨b, o, none⟩), .int k j]) [hh : Has F (Y (.int k i)) F'] (hd : Nat.blt d n = true)
    (h : GL P n ops Q rest ((d, .int k (k.wrap (i + j))) :: env) (Y (.int k (k.wrap (i + j))) :: F')) :
    GL P n ops Q (⟨some d, .call { callee := .value (.func f), args := xs.toArray, argTypes := ts }, ty, pos, aft, none⟩ :: rest) env F := .mk fun a w hf hw => by
  refine wpList_plain rfl fun K hK => ?_
  have h1 := hw.perm hh.perm
  obtain ⟨g1, g2⟩ := hY.get _ _ _ h1
  unfold Oper.wp
  rw [hf.callRun hx (hs.run ⟨b, o, none⟩ i j w g1 g2)]
  exact hK _ _ (h _ _ (hf.put hd _) (hY.set _ _ _ _ h1))
theorem GL.extCasC (hY : CellAt b o Y) [hs : ExtCas P f k] (hx : opnds env xs = some [.pointer (some ⟨b, o, none⟩), .int k i, .int k j]) [hh : Has F (Y (.int k i)) F'] (hd : Nat.blt d n = true)
    (h : GL P n ops Q rest ((d, .bool true) :: env) (Y (.int k j) :: F')) :
    GL P n ops Q (⟨some d, .call { callee := .value (.func f), args := xs.toArray, argTypes := ts }, ty, pos, aft, none⟩ :: rest) env F := .mk fun a w hf hw => by
  refine wpList_plain rfl fun K hK => ?_
  have h1 := hw.perm hh.perm
  obtain ⟨g1, g2⟩ := hY.get _ _ _ h1
  unfold Oper.wp
  rw [hf.callRun hx (hs.run ⟨b, o, none⟩ i j w g1 g2)]
  exact hK _ _ (h _ _ (hf.put hd _) (hY.set _ _ _ _ h1))
def unsB (P : Program) (s t : TypeId) : Bool := match P.underlying s, P.underlying t with
  | some (.pointer e), some .unsafePointer => (P.info? e).map (fun i => decide (i.size = 0)) == some false
  | _, _ => false
theorem Runs.convUns {s t : TypeId} {x : Operand} (hY : CellAt b o Y) (hb : unsB P s t = true) (hx : opnd env x = some (.pointer (some ⟨b, o, none⟩))) [hh : Has F (Y v) F'] : Runs P n env F (.convert s t x) (.pointer (some ⟨b, o, none⟩)) := .mk fun a w ty pos aft g d hf hw => by
  have h1 := (hY.get _ _ _ (hw.perm hh.perm)).1
  unfold unsB at hb
  split at hb
  · rename_i e g1 g2
    have := run_convert_to_unsafe g1 g2 (by simpa using hb) h1
    simp [execOp, hf.eval hx, this, Result.andThen]
  · cases hb
theorem CtD.go {fn : Func} {c : Code} {args : List Value} {w : World} {u : FrameMode} {R : Ending → World → Prop} (hf : P.funcs[f]? = some fn) (hb : fn.body = some c) (hn : fn.ntmps = n) (hargs : Nat.ble args.length n = true) (hw : holds w F)
    (h : G P n c (bodyPost P fn R) (env0 0 args) F) : CallsD P f args.toArray u w fun e u' w' => u' = u ∧ R e w' := by
  have hle : args.length ≤ n := by simpa using hargs
  refine callsD_of_wp hf hb (h _ w ⟨?_, rfl, fun k v hk => ?_⟩ hw)
  · simp [hn]; omega
  · obtain ⟨h1, h2⟩ := look_env0 _ _ _ _ hk
    rw [Nat.sub_zero] at h2
    have hlt := (List.getElem?_eq_some_iff.1 h2).1
    have h3 : args[k] = v := by have := List.getElem?_eq_getElem hlt; rw [h2] at this; exact (Option.some.inj this).symm
    simp [Array.getElem?_append, hlt, h3]
end
instance : FieldT Tryz.prog 140 0 0 21 := .of (by kernel_rfl)
instance : Own Tryz.prog 226 := ⟨Tryz.call226⟩
instance : Own Tryz.prog 227 := ⟨Tryz.call227⟩
instance : MarkF Tryz.prog 233 := ⟨fun w => run_call_mark0 Tryz.func233 (by kernel_rfl) (by kernel_rfl) (by kernel_rfl) .disable (by kernel_rfl) w⟩
instance : MarkF Tryz.prog 235 := ⟨fun w => run_call_mark0 Tryz.func235 (by kernel_rfl) (by kernel_rfl) (by kernel_rfl) .enable (by kernel_rfl) w⟩
instance : MarkA Tryz.prog 236 := ⟨fun a w => run_call_marked Tryz.func236 (by kernel_rfl) (by kernel_rfl) (by kernel_rfl) .acquire (by kernel_rfl) a w⟩
instance : MarkA Tryz.prog 238 := ⟨fun a w => run_call_marked Tryz.func238 (by kernel_rfl) (by kernel_rfl) (by kernel_rfl) .releaseMerge (by kernel_rfl) a w⟩
instance : ExtStore Tryz.prog 228 := .of Tryz.func228 (by kernel_rfl) (by kernel_rfl) (by kernel_rfl) (by kernel_rfl)
instance : ExtLoad Tryz.prog 203 .u32 := .of Tryz.func203 (by kernel_rfl) (by kernel_rfl) (by kernel_rfl) .u32 (by kernel_rfl)
instance : ExtAdd Tryz.prog 239 .i32 := .of Tryz.func239 (by kernel_rfl) (by kernel_rfl) (by kernel_rfl) .i32 (by kernel_rfl)
instance : ExtCas Tryz.prog 234 .i32 := .of Tryz.func234 (by kernel_rfl) (by kernel_rfl) (by kernel_rfl) .i32 (by kernel_rfl)
theorem once_b32 (w : World) (F : List HProp) (hw : holds w F) :
    Ct Tryz.prog 229 #[.bool true] w fun e w' => e = .returned (.int .u32 1) ∧ holds w' F := by
  refine Ct.go (args := [.bool true]) Tryz.func229 rfl rfl rfl hw ?_
  repeat' (first | refine stp ?_ | (refine stpB ?_; intro _) | (refine spl ?_ ?_ <;> intro hc <;> ((try simp only [decide_eq_true_eq, decide_eq_false_iff_not, Bool.not_true, Bool.not_false, ne_eq, Classical.not_not, Int.not_lt, Int.not_le] at hc); (try (exfalso; first | omega | exact hc trivial | exact hc rfl)))))
  all_goals (first | (exfalso; simp at hc; done) | (refine GE.resOne rfl (by (repeat (first | apply Res.nil | (apply Res.tmp; rfl) | (refine Res.cellA rfl rfl rfl ?_) | (refine Res.cell1 rfl rfl ?_)))) (fun w h => ?_); exact ⟨rfl, h.sub⟩))
section
variable (b o : Nat) (Y : Value → HProp) (hY : CellAt b o Y)
include hY
theorem once_Store (v : Value) (u : FrameMode) (w : World) (F : List HProp) (hw : holds w (Y v :: F)) :
    CallsD Tryz.prog 206 #[.pointer (some ⟨b, o, none⟩), .bool true] u w fun e u' w' => u' = u ∧ (e = .returned (.tuple #[]) ∧ holds w' (Y (.int .u32 1) :: F)) := by
  refine CtD.go (args := [.pointer (some ⟨b, o, none⟩), .bool true]) Tryz.func206 rfl rfl rfl hw ?_
  repeat' (first | (first | refine G.drawTail 5 (by kernel_rfl) (by simp only [List.take_succ_cons, List.take_zero]; rfl) (by simp only [List.drop_succ_cons, List.drop_zero]; rfl) (by kernel_rfl) ?_ | (apply GD.isAny; refine GD.call rfl rfl (fun w F' h => once_b32 w _ h) ?_) | (refine GL.extStoreC hY (u := v) (k := .u32) (i := 1) rfl rfl ?_)) | first | refine stp ?_ | (refine stpB ?_; intro _) | (refine spl ?_ ?_ <;> intro hc <;> ((try simp only [decide_eq_true_eq, decide_eq_false_iff_not, Bool.not_true, Bool.not_false, ne_eq, Classical.not_not, Int.not_lt, Int.not_le] at hc); (try (exfalso; first | omega | exact hc trivial | exact hc rfl)))))
  (first | refine GE.res0 (.inl rfl) rfl (fun w h => ?_) | refine GE.res0 (.inr rfl) rfl (fun w h => ?_))
  exact ⟨rfl, h⟩
theorem once_Load (i : Int) (w : World) (F : List HProp) (hw : holds w (Y (.int .u32 i) :: F)) :
    Ct Tryz.prog 149 #[.pointer (some ⟨b, o, none⟩)] w fun e w' => e = .returned (.bool (decide (i ≠ 0))) ∧ holds w' (Y (.int .u32 i) :: F) := by
  refine Ct.go (args := [.pointer (some ⟨b, o, none⟩)]) Tryz.func149 rfl rfl rfl hw ?_
  repeat' (first | ((apply GL.isAny; refine GL.run (Runs.extLoadC hY (k := .u32) (i := i) rfl) rfl ?_)) | first | refine stp ?_ | (refine stpB ?_; intro _) | (refine spl ?_ ?_ <;> intro hc <;> ((try simp only [decide_eq_true_eq, decide_eq_false_iff_not, Bool.not_true, Bool.not_false, ne_eq, Classical.not_not, Int.not_lt, Int.not_le] at hc); (try (exfalso; first | omega | exact hc trivial | exact hc rfl)))))
  refine GE.resOne rfl (by (repeat (first | apply Res.nil | (apply Res.tmp; rfl) | (refine Res.cellA rfl rfl rfl ?_) | (refine Res.cell1 rfl rfl ?_)))) (fun w h => ?_); exact ⟨rfl, h.sub⟩
theorem once_lockI (w : World) (F : List HProp) (hw : holds w (Y (.int .i32 0) :: F)) :
    Ct Tryz.prog 226 #[.pointer (some ⟨b, o, none⟩)] w fun e w' => e = .returned (.tuple #[]) ∧ holds w' (Y (.int .i32 1) :: F) := by
  refine Ct.go (args := [.pointer (some ⟨b, o, none⟩)]) Tryz.func226 rfl rfl rfl hw ?_
  repeat' (first | (first | (apply GL.isAny; refine GL.run Runs.markF rfl ?_) | (apply GL.isAny; refine GL.run (Runs.markA rfl) rfl ?_) | (refine GL.extCasC hY (k := .i32) (i := 0) (j := 1) rfl rfl ?_) | (apply GL.isAny; refine GL.run (Runs.convUns hY (v := .int .i32 1) (by kernel_rfl) rfl) rfl ?_)) | first | refine stp ?_ | (refine stpB ?_; intro _) | (refine spl ?_ ?_ <;> intro hc <;> ((try simp only [decide_eq_true_eq, decide_eq_false_iff_not, Bool.not_true, Bool.not_false, ne_eq, Classical.not_not, Int.not_lt, Int.not_le] at hc); (try (exfalso; first | omega | exact hc trivial | exact hc rfl)))))
  all_goals (first | (exfalso; simp at hc; done) | ((first | refine GE.res0 (.inl rfl) rfl (fun w h => ?_) | refine GE.res0 (.inr rfl) rfl (fun w h => ?_)); exact ⟨rfl, h⟩))
theorem once_lock (w : World) (F : List HProp) (hw : holds w (Y (.int .i32 0) :: F)) :
    Ct Tryz.prog 204 #[.pointer (some ⟨b, o, none⟩)] w fun e w' => e = .returned (.tuple #[]) ∧ holds w' (Y (.int .i32 1) :: F) := by
  refine Ct.go (args := [.pointer (some ⟨b, o, none⟩)]) Tryz.func204 rfl rfl rfl hw ?_
  repeat' (first | ((apply GL.isCall; refine GL.call1 (vs := [.pointer (some ⟨b, o, none⟩)]) rfl rfl (fun w h => once_lockI b o Y hY w _ h) ?_)) | first | refine stp ?_ | (refine stpB ?_; intro _) | (refine spl ?_ ?_ <;> intro hc <;> ((try simp only [decide_eq_true_eq, decide_eq_false_iff_not, Bool.not_true, Bool.not_false, ne_eq, Classical.not_not, Int.not_lt, Int.not_le] at hc); (try (exfalso; first | omega | exact hc trivial | exact hc rfl)))))
  (first | refine GE.res0 (.inl rfl) rfl (fun w h => ?_) | refine GE.res0 (.inr rfl) rfl (fun w h => ?_))
  exact ⟨rfl, h⟩
theorem once_unlockI (w : World) (F : List HProp) (hw : holds w (Y (.int .i32 1) :: F)) :
    Ct Tryz.prog 227 #[.pointer (some ⟨b, o, none⟩)] w fun e w' => e = .returned (.tuple #[]) ∧ holds w' (Y (.int .i32 0) :: F) := by
  refine Ct.go (args := [.pointer (some ⟨b, o, none⟩)]) Tryz.func227 rfl rfl rfl hw ?_
  repeat' (first | (first | (apply GL.isAny; refine GL.run Runs.markF rfl ?_) | (apply GL.isAny; refine GL.run (Runs.markA rfl) rfl ?_) | (refine GL.extAddC hY (k := .i32) (i := 1) (j := -1) rfl rfl ?_) | (apply GL.isAny; refine GL.run (Runs.convUns hY (v := .int .i32 1) (by kernel_rfl) rfl) rfl ?_) | (apply GL.isAny; refine GL.run (Runs.loadC hY (v := .int .i32 1) rfl) rfl ?_)) | first | refine stp ?_ | (refine stpB ?_; intro _) | (refine spl ?_ ?_ <;> intro hc <;> ((try simp only [decide_eq_true_eq, decide_eq_false_iff_not, Bool.not_true, Bool.not_false, ne_eq, Classical.not_not, Int.not_lt, Int.not_le] at hc); (try (exfalso; first | omega | exact hc trivial | exact hc rfl)))))
  all_goals (first | (exfalso; simp at hc; done) | ((first | refine GE.res0 (.inl rfl) rfl (fun w h => ?_) | refine GE.res0 (.inr rfl) rfl (fun w h => ?_)); exact ⟨rfl, h⟩))
theorem once_unlock (u : FrameMode) (w : World) (F : List HProp) (hw : holds w (Y (.int .i32 1) :: F)) :
    CallsD Tryz.prog 205 #[.pointer (some ⟨b, o, none⟩)] u w fun e u' w' => u' = u ∧ (e = .returned (.tuple #[]) ∧ holds w' (Y (.int .i32 0) :: F)) := by
  refine CtD.go (args := [.pointer (some ⟨b, o, none⟩)]) Tryz.func205 rfl rfl rfl hw ?_
  repeat' (first | ((apply GL.isCall; refine GL.call1 (vs := [.pointer (some ⟨b, o, none⟩)]) rfl rfl (fun w h => once_unlockI b o Y hY w _ h) ?_)) | first | refine stp ?_ | (refine stpB ?_; intro _) | (refine spl ?_ ?_ <;> intro hc <;> ((try simp only [decide_eq_true_eq, decide_eq_false_iff_not, Bool.not_true, Bool.not_false, ne_eq, Classical.not_not, Int.not_lt, Int.not_le] at hc); (try (exfalso; first | omega | exact hc trivial | exact hc rfl)))))
  (first | refine GE.res0 (.inl rfl) rfl (fun w h => ?_) | refine GE.res0 (.inr rfl) rfl (fun w h => ?_))
  exact ⟨rfl, h⟩
end
/-- A place where a sync.Once lies: what it says (done, the lock) beside the rest s. -/
structure OnceAt {σ : Type} (b o : Nat) (X : σ → Value → Value → HProp) : Prop where
  c0 : ∀ s l, CellAt b o (fun d => X s d l)
  c1 : ∀ s d, CellAt b (o + 1) (fun l => X s d l)
section
variable {σ α : Type} {b o : Nat} {X : σ → Value → Value → HProp} (hX : OnceAt b o X) (s0 : σ) (s1 : α → σ) (g : FuncId) (first cap : List Value) (w : World) (F : List HProp) (F' : α → List HProp)
include hX
theorem once_slow (hg : ∀ (args : Array Value) (w : World), (callFunc g args).run Tryz.prog w = .ok (.enter g args) w) (hf : ∀ w, holds w (X s0 (.int .u32 0) (.int .i32 1) :: F) → Ct Tryz.prog g (first ++ cap).toArray w fun e w' => ∃ x, e = .returned (.tuple #[]) ∧ holds w' (X (s1 x) (.int .u32 0) (.int .i32 1) :: F' x))
    (hw : holds w (X s0 (.int .u32 0) (.int .i32 0) :: F)) :
    Ct Tryz.prog 150 #[.pointer (some ⟨b, o, none⟩), .func (.func g) first.toArray cap.toArray] w fun e w' => ∃ x, e = .returned (.tuple #[]) ∧ holds w' (X (s1 x) (.int .u32 1) (.int .i32 0) :: F' x) := by
  have hL := (once_lock b (o + 1) _ (hX.c1 s0 (.int .u32 0)) w F hw).out
  have hnot : ∀ (x : Bool) (w : World), (Op.unary .not (.bool x)).run Tryz.prog w = .ok (.bool (!x)) w := fun _ _ => rfl
  refine ⟨?_⟩
  go_enter_defers Tryz.func150, Tryz.ntmps150
  go_wp2_with (go_at_call 204; refine hL.mono ?_; rintro e w1 ⟨rfl, h1⟩)
  have hD := (once_Load b o _ (hX.c0 s0 (.int .i32 1)) 0 w1 F h1).out
  refine hD.mono ?_
  rintro e w2 ⟨rfl, h2⟩
  go_wp2_with fail
  refine (hf _ h2).out.mono ?_
  rintro e w3 ⟨x, rfl, h3⟩
  go_wp2
  have hS := fun u w h => once_Store b o _ (hX.c0 (s1 x) (.int .i32 1)) (.int .u32 0) u w (F' x) h
  have hU := fun u w h => once_unlock b (o + 1) _ (hX.c1 (s1 x) (.int .u32 1)) u w (F' x) h
  refine leaves_cons (f := 206) (args := #[.pointer (some ⟨b, o, none⟩), .bool true]) (by simp) (by simp [go_sem]) ?_
  refine (hS .returning _ h3).mono ?_
  rintro e u' w'' ⟨rfl, rfl, h4⟩
  refine leaves_cons (f := 205) (args := #[.pointer (some ⟨b, o + 1, none⟩)]) (by simp [settle]) (by simp [go_sem]) ?_
  refine (hU _ _ h4).mono ?_
  rintro e u' w'' ⟨rfl, rfl, h5⟩
  simp only [Leaves, settle]
  exact ⟨_, results_none rfl _ _ _, x, rfl, h5⟩
theorem once_Do (hg : ∀ (args : Array Value) (w : World), (callFunc g args).run Tryz.prog w = .ok (.enter g args) w) (hf : ∀ w, holds w (X s0 (.int .u32 0) (.int .i32 1) :: F) → Ct Tryz.prog g (first ++ cap).toArray w fun e w' => ∃ x, e = .returned (.tuple #[]) ∧ holds w' (X (s1 x) (.int .u32 0) (.int .i32 1) :: F' x))
    (hw : holds w (X s0 (.int .u32 0) (.int .i32 0) :: F)) :
    Ct Tryz.prog 82 #[.pointer (some ⟨b, o, none⟩), .func (.func g) first.toArray cap.toArray] w fun e w' => ∃ x, e = .returned (.tuple #[]) ∧ holds w' (X (s1 x) (.int .u32 1) (.int .i32 0) :: F' x) := by
  refine Ct.go (args := [.pointer (some ⟨b, o, none⟩), .func (.func g) first.toArray cap.toArray]) Tryz.func82 rfl rfl rfl hw ?_
  have h0 := fun w h => once_Load b o _ (hX.c0 s0 (.int .i32 0)) 0 w F h
  repeat' (first | (first | (apply GL.isCall; refine GL.call1 (vs := [.pointer (some ⟨b, o, none⟩)]) rfl rfl (fun w h => h0 w h) ?_) | (apply GL.isCall; refine GL.call (vs := [.pointer (some ⟨b, o, none⟩), .func (.func g) first.toArray cap.toArray]) rfl rfl (fun w h => once_slow hX s0 s1 g first cap w F F' hg hf h) (fun x => ?_))) | first | refine stp ?_ | (refine stpB ?_; intro _) | (refine spl ?_ ?_ <;> intro hc <;> ((try simp only [decide_eq_true_eq, decide_eq_false_iff_not, Bool.not_true, Bool.not_false, ne_eq, Classical.not_not, Int.not_lt, Int.not_le] at hc); (try (exfalso; first | omega | exact hc trivial | exact hc rfl)))))
  all_goals (first | (exfalso; simp at hc; done) | ((first | refine GE.res0 (.inl rfl) rfl (fun w h => ?_) | refine GE.res0 (.inr rfl) rfl (fun w h => ?_)); exact ⟨_, rfl, h⟩))
/-- Done already. -/
theorem once_Done (fv : Value) (hw : holds w (X s0 (.int .u32 1) (.int .i32 0) :: F)) :
    Ct Tryz.prog 82 #[.pointer (some ⟨b, o, none⟩), fv] w fun e w' => e = .returned (.tuple #[]) ∧ holds w' (X s0 (.int .u32 1) (.int .i32 0) :: F) := by
  refine Ct.go (args := [.pointer (some ⟨b, o, none⟩), fv]) Tryz.func82 rfl rfl rfl hw ?_
  have h0 := fun w h => once_Load b o _ (hX.c0 s0 (.int .i32 0)) 1 w F h
  repeat' (first | ((apply GL.isCall; refine GL.call1 (vs := [.pointer (some ⟨b, o, none⟩)]) rfl rfl (fun w h => h0 w h) ?_)) | first | refine stp ?_ | (refine stpB ?_; intro _) | (refine spl ?_ ?_ <;> intro hc <;> ((try simp only [decide_eq_true_eq, decide_eq_false_iff_not, Bool.not_true, Bool.not_false, ne_eq, Classical.not_not, Int.not_lt, Int.not_le] at hc); (try (exfalso; first | omega | exact hc trivial | exact hc rfl)))))
  all_goals (first | (exfalso; simp at hc; done) | ((first | refine GE.res0 (.inl rfl) rfl (fun w h => ?_) | refine GE.res0 (.inr rfl) rfl (fun w h => ?_)); exact ⟨rfl, h⟩))
end
end Go.Proofs.YtipkgamiejenaaaGreat

/- Package count: a book of counts that are laid when the first is asked for. -/
namespace Go.Proofs.YtipkgamiejenaaaGreat
open Go Go.RowKit Go.MapKept
set_option linter.unusedVariables false
set_option linter.unusedSimpArgs false
set_option maxRecDepth 100000
set_option maxHeartbeats 1000000
instance : ExtLoad Tryz.prog 216 .i64 := .of Tryz.func216 (by kernel_rfl) (by kernel_rfl) (by kernel_rfl) .i64 (by kernel_rfl)
instance : ExtAdd Tryz.prog 217 .i64 := .of Tryz.func217 (by kernel_rfl) (by kernel_rfl) (by kernel_rfl) .i64 (by kernel_rfl)
theorem cellAt_blk (b : Nat) (c1 c2 : List Value) (T : TypeId) : CellAt b c1.length (fun v => blk b (.cells (c1 ++ v :: c2).toArray T (0, 0))) := by
  refine ⟨fun v w F h => ⟨?_, h.notFrozen⟩, fun v v' w F h => ?_⟩
  · rw [cell_of_row w b c1.length _ T (0, 0) h.get_blk]; simp
  · have := h.setAt (o := c1.length) (u := v')
    rw [show (c1 ++ v :: c2).toArray.toList.set c1.length v' = c1 ++ v' :: c2 by simp] at this
    exact this
/-- A whole block of ints, of k cells. -/
def rowX (T : TypeId) (g k : Nat) (l : List Int) : HProp := fun f => l.length = k ∧ blk g (.cells (l.map (.int .i64 ·)).toArray T (0, 0)) f
theorem rowX.open {w : World} {T : TypeId} {g k : Nat} {l : List Int} {F : List HProp} (h : holds w (rowX T g k l :: F)) : l.length = k ∧ holds w (blk g (.cells (l.map (.int .i64 ·)).toArray T (0, 0)) :: F) := holds.open_pure h
theorem rowX.shut {w : World} {T : TypeId} {g k : Nat} {l : List Int} {F : List HProp} (e : l.length = k) (h : holds w (blk g (.cells (l.map (.int .i64 ·)).toArray T (0, 0)) :: F)) : holds w (rowX T g k l :: F) := h.mono fun f hf => ⟨e, hf⟩
instance {T : TypeId} {g k : Nat} {l : List Int} {F : List HProp} : Reads (rowX T g k l :: F) (.slice (some ⟨g, 0, none⟩) k k) encI1 1 l := ⟨fun w h => by
  obtain ⟨rfl, h1⟩ := rowX.open h
  refine ⟨by simpa using Enc.flat_len (enc := encI1) (n := 1) l, _, _, rfl, Nat.le_refl _, .inr ⟨g, 0, rfl, fun i hi => ?_⟩⟩
  rw [cell_of_row w g (0 + i) _ T (0, 0) h1.get_blk, flat_ints]
  simp⟩
theorem rowX.ofOwn {w : World} {T : TypeId} {g k : Nat} {l : List Int} {F : List HProp} (h : holds w (owns T encI1 1 (.slice (some ⟨g, 0, none⟩) k k) l :: F)) : holds w (rowX T g k l :: F) := by
  obtain ⟨hl, ho⟩ := holds.open_own h
  rcases ho with ⟨h1, _⟩ | ⟨g', cap, cur, h1, h2, h3, h4, h5, h6⟩
  · cases h1
  · simp only [Value.slice.injEq, Option.some.injEq, Addr.mk.injEq] at h1
    obtain ⟨⟨rfl, -, -⟩, hk, rfl⟩ := h1
    refine rowX.shut hk.symm ?_
    have e : cur = (l.map (.int .i64 ·)).toArray := by
      apply Array.ext'
      rw [List.take_of_length_le (by simp at h4 ⊢; omega), flat_ints] at h5
      exact h5
    rw [← e]; exact h6
theorem CellAt.pure {b o : Nat} {Y : Value → HProp} (p : Prop) (h : CellAt b o Y) : CellAt b o (fun v f => p ∧ Y v f) := ⟨fun v w F hw => h.get v w F (holds.open_pure hw).2, fun v v' w F hw => by
  obtain ⟨hp, hw⟩ := holds.open_pure hw
  exact (h.set v v' w F hw).mono fun f hf => ⟨hp, hf⟩⟩
/-- The cell i of a row. -/
def rowC (T : TypeId) (g k i : Nat) (l : List Int) (v : Value) : HProp := fun f => l.length = k ∧ blk g (.cells ((l.take i).map (Value.int .i64 ·) ++ v :: (l.drop (i + 1)).map (Value.int .i64 ·)).toArray T (0, 0)) f
theorem rowC.cellAt (T : TypeId) (g k i : Nat) (l : List Int) (hi : i < l.length) : CellAt g i (rowC T g k i l) := by
  have h := cellAt_blk g ((l.take i).map (Value.int .i64 ·)) ((l.drop (i + 1)).map (Value.int .i64 ·)) T
  rw [List.length_map, List.length_take, Nat.min_eq_left (by omega)] at h
  exact h.pure (l.length = k)
theorem rowX.cell {w : World} {T : TypeId} {g k i : Nat} {l : List Int} {F : List HProp} (hi : i < l.length) (h : holds w (rowX T g k l :: F)) : holds w (rowC T g k i l (.int .i64 l[i]) :: F) := h.mono fun f ⟨e, hf⟩ => ⟨e, by
  have e2 : (l.take i).map (Value.int .i64 ·) ++ Value.int .i64 l[i] :: (l.drop (i + 1)).map (Value.int .i64 ·) = l.map (Value.int .i64 ·) := by
    rw [← List.map_cons, ← List.map_append, ← List.drop_eq_getElem_cons hi, List.take_append_drop]
  rw [e2]; exact hf⟩
theorem rowX.back {w : World} {T : TypeId} {g k i : Nat} {l : List Int} {x : Int} {F : List HProp} (hi : i < l.length) (h : holds w (rowC T g k i l (.int .i64 x) :: F)) : holds w (rowX T g k (l.set i x) :: F) := h.mono fun f ⟨e, hf⟩ => ⟨by simpa using e, by
  have e2 : (l.take i).map (Value.int .i64 ·) ++ Value.int .i64 x :: (l.drop (i + 1)).map (Value.int .i64 ·) = (l.set i x).map (Value.int .i64 ·) := by
    rw [List.set_eq_take_append_cons_drop, if_pos hi, List.map_append, List.map_cons]
  rw [← e2]; exact hf⟩
section
variable (b o : Nat) (Y : Value → HProp) (hY : CellAt b o Y) (x : Int)
include hY
theorem i64_Load (w : World) (F : List HProp) {F' : List HProp} [hh : Has F (Y (.int .i64 x)) F'] (hw : holds w F) :
    Ct Tryz.prog 177 #[.pointer (some ⟨b, o, none⟩)] w fun e w' => e = .returned (.int .i64 x) ∧ holds w' F := by
  refine Ct.go (args := [.pointer (some ⟨b, o, none⟩)]) Tryz.func177 rfl rfl rfl hw ?_
  repeat' (first | ((apply GL.isAny; refine GL.run (Runs.extLoadC hY (k := .i64) (i := x) rfl) rfl ?_)) | first | refine stp ?_ | (refine stpB ?_; intro _) | (refine spl ?_ ?_ <;> intro hc <;> ((try simp only [decide_eq_true_eq, decide_eq_false_iff_not, Bool.not_true, Bool.not_false, ne_eq, Classical.not_not, Int.not_lt, Int.not_le] at hc); (try (exfalso; first | omega | exact hc trivial | exact hc rfl)))))
  refine GE.resOne rfl (by (repeat (first | apply Res.nil | (apply Res.tmp; rfl) | (refine Res.cellA rfl rfl rfl ?_) | (refine Res.cell1 rfl rfl ?_)))) (fun w h => ?_); exact ⟨rfl, h.sub⟩
theorem i64_Add (y : Int) (hb : -9223372036854775808 ≤ x + y ∧ x + y ≤ 9223372036854775807) (w : World) (F : List HProp) (hw : holds w (Y (.int .i64 x) :: F)) :
    Ct Tryz.prog 178 #[.pointer (some ⟨b, o, none⟩), .int .i64 y] w fun e w' => e = .returned (.int .i64 (x + y)) ∧ holds w' (Y (.int .i64 (x + y)) :: F) := by
  refine Ct.go (args := [.pointer (some ⟨b, o, none⟩), .int .i64 y]) Tryz.func178 rfl rfl rfl hw ?_
  have e : IntKind.i64.wrap (x + y) = x + y := IntWalk.i64_in _ hb
  repeat' (first | ((refine GL.extAddC hY (k := .i64) (i := x) (j := y) rfl rfl ?_; rw [e])) | first | refine stp ?_ | (refine stpB ?_; intro _) | (refine spl ?_ ?_ <;> intro hc <;> ((try simp only [decide_eq_true_eq, decide_eq_false_iff_not, Bool.not_true, Bool.not_false, ne_eq, Classical.not_not, Int.not_lt, Int.not_le] at hc); (try (exfalso; first | omega | exact hc trivial | exact hc rfl)))))
  refine GE.resOne rfl (by (repeat (first | apply Res.nil | (apply Res.tmp; rfl) | (refine Res.cellA rfl rfl rfl ?_) | (refine Res.cell1 rfl rfl ?_)))) (fun w h => ?_); exact ⟨rfl, h.sub⟩
end
/-- A book of n counts. -/
def bookP (v : Value) (n : Nat) (l : List Int) : HProp := fun f => ∃ kb, v = .pointer (some ⟨kb, 0, none⟩) ∧ ((l = List.replicate n 0 ∧ blk kb (.cells #[.int .i64 (n : Nat), .int .u32 0, .int .i32 0, .int .u32 0, .slice none 0 0] 209 (0, 0)) f) ∨ ∃ g, sep [blk kb (.cells #[.int .i64 (n : Nat), .int .u32 1, .int .i32 0, .int .u32 0, .slice (some ⟨g, 0, none⟩) n n] 209 (0, 0)), rowX 260 g n l] f)
theorem bookP.open {w : World} {v : Value} {n : Nat} {l : List Int} {F : List HProp} (h : holds w (bookP v n l :: F)) : ∃ kb, v = .pointer (some ⟨kb, 0, none⟩) ∧ ((l = List.replicate n 0 ∧ holds w (blk kb (.cells #[.int .i64 (n : Nat), .int .u32 0, .int .i32 0, .int .u32 0, .slice none 0 0] 209 (0, 0)) :: F)) ∨ ∃ g, holds w (blk kb (.cells #[.int .i64 (n : Nat), .int .u32 1, .int .i32 0, .int .u32 0, .slice (some ⟨g, 0, none⟩) n n] 209 (0, 0)) :: rowX 260 g n l :: F)) := by
  obtain ⟨kb, h⟩ := holds.open_ex h
  obtain ⟨e, h⟩ := holds.open_pure h
  refine ⟨kb, e, ?_⟩
  obtain ⟨f, hf, f1, f2, ha, hs, j⟩ := h
  rcases ha with ⟨e, ha⟩ | ⟨g, ha⟩
  · exact .inl ⟨e, f, hf, f1, f2, ha, hs, j⟩
  · exact .inr ⟨g, holds_sep.1 ⟨f, hf, f1, f2, ha, hs, j⟩⟩
theorem bookP.shutN {w : World} {kb n : Nat} {F : List HProp} (h : holds w (blk kb (.cells #[.int .i64 (n : Nat), .int .u32 0, .int .i32 0, .int .u32 0, .slice none 0 0] 209 (0, 0)) :: F)) : holds w (bookP (.pointer (some ⟨kb, 0, none⟩)) n (List.replicate n 0) :: F) := h.mono fun f hf => ⟨kb, rfl, .inl ⟨rfl, hf⟩⟩
theorem bookP.shutL {w : World} {kb n g : Nat} {l : List Int} {F : List HProp} (h : holds w (blk kb (.cells #[.int .i64 (n : Nat), .int .u32 1, .int .i32 0, .int .u32 0, .slice (some ⟨g, 0, none⟩) n n] 209 (0, 0)) :: rowX 260 g n l :: F)) : holds w (bookP (.pointer (some ⟨kb, 0, none⟩)) n l :: F) :=
  (holds_sep (l := [blk kb (.cells #[.int .i64 (n : Nat), .int .u32 1, .int .i32 0, .int .u32 0, .slice (some ⟨g, 0, none⟩) n n] 209 (0, 0)), rowX 260 g n l]).2 h).mono fun f hf => ⟨kb, rfl, .inr ⟨g, hf⟩⟩
theorem count_New (n : Nat) (h0 : 0 < n) (hn : n ≤ 64) (w : World) (F : List HProp) (hw : holds w F) :
    Ct Tryz.prog 67 #[.int .i64 (n : Nat)] w fun e w' => ∃ v : Nat, e = .returned (.pointer (some ⟨v, 0, none⟩)) ∧ holds w' (bookP (.pointer (some ⟨v, 0, none⟩)) n (List.replicate n 0) :: F) := by
  refine Ct.go (args := [.int .i64 (n : Nat)]) Tryz.func67 rfl rfl rfl hw ?_
  repeat' (first | ((apply GL.isBox; refine GL.boxA (cs := #[.int .i64 (n : Nat), .int .u32 0, .int .i32 0, .int .u32 0, .slice none 0 0]) rfl rfl (fun bb => ?_))) | first | refine stp ?_ | (refine stpB ?_; intro _) | (refine spl ?_ ?_ <;> intro hc <;> ((try simp only [decide_eq_true_eq, decide_eq_false_iff_not, Bool.not_true, Bool.not_false, ne_eq, Classical.not_not, Int.not_lt, Int.not_le] at hc); (try (exfalso; first | omega | exact hc trivial | exact hc rfl)))))
  all_goals (first | (exfalso; omega) | (refine GE.resOne rfl (by (repeat (first | apply Res.nil | (apply Res.tmp; rfl) | (refine Res.cellA rfl rfl rfl ?_) | (refine Res.cell1 rfl rfl ?_)))) (fun w h => ?_); exact ⟨bb, rfl, bookP.shutN h⟩))
theorem once_book (kb n : Nat) : OnceAt kb 1 (fun (s d l : Value) => blk kb (.cells #[.int .i64 (n : Nat), d, l, .int .u32 0, s] 209 (0, 0))) := ⟨fun s l => cellAt_blk kb [.int .i64 (n : Nat)] [l, .int .u32 0, s] 209, fun s d => cellAt_blk kb [.int .i64 (n : Nat), d] [.int .u32 0, s] 209⟩
theorem count_lay (kb n : Nat) (hn : n ≤ 64) (w : World) (F : List HProp) (hw : holds w (blk kb (.cells #[.int .i64 (n : Nat), .int .u32 0, .int .i32 1, .int .u32 0, .slice none 0 0] 209 (0, 0)) :: F)) :
    Ct Tryz.prog 215 #[.pointer (some ⟨kb, 0, none⟩)] w fun e w' => ∃ g : Nat, e = .returned (.tuple #[]) ∧ holds w' (blk kb (.cells #[.int .i64 (n : Nat), .int .u32 0, .int .i32 1, .int .u32 0, .slice (some ⟨g, 0, none⟩) n n] 209 (0, 0)) :: rowX 260 g n (List.replicate n 0) :: F) := by
  refine Ct.go (args := [.pointer (some ⟨kb, 0, none⟩)]) Tryz.func215 rfl rfl rfl hw ?_
  repeat' (first | ((apply GL.isAny; refine GL.makeSl encI1 0 n n rfl rfl rfl rfl rfl (Nat.le_refl _) (by omega) (by unfold maxLen; omega) rfl (fun g => ?_))) | first | refine stp ?_ | (refine stpB ?_; intro _) | (refine spl ?_ ?_ <;> intro hc <;> ((try simp only [decide_eq_true_eq, decide_eq_false_iff_not, Bool.not_true, Bool.not_false, ne_eq, Classical.not_not, Int.not_lt, Int.not_le] at hc); (try (exfalso; first | omega | exact hc trivial | exact hc rfl)))))
  (first | refine GE.res0 (.inl rfl) rfl (fun w h => ?_) | refine GE.res0 (.inr rfl) rfl (fun w h => ?_))
  exact ⟨g, rfl, (rowX.ofOwn (h.order [1, 0])).order [1, 0]⟩
section
variable (v : Value) (n : Nat) (hn : n ≤ 64) (l : List Int) (hl : l.length = n)
include hn
/-- The place of a count, laid. -/
theorem count_count (i : Nat) (hi : i < n) (w : World) (F : List HProp) (hw : holds w (bookP v n l :: F)) :
    Ct Tryz.prog 176 #[v, .int .i64 (i : Nat)] w fun e w' => ∃ x : {x : Nat × Nat // v = .pointer (some ⟨x.1, 0, none⟩)}, e = .returned (.pointer (some ⟨x.1.2, i, none⟩)) ∧ holds w' (blk x.1.1 (.cells #[.int .i64 (n : Nat), .int .u32 1, .int .i32 0, .int .u32 0, .slice (some ⟨x.1.2, 0, none⟩) n n] 209 (0, 0)) :: rowX 260 x.1.2 n l :: F) := by
  obtain ⟨kb, rfl, ⟨rfl, h1⟩ | ⟨g, h1⟩⟩ := bookP.open hw
  · refine Ct.go (args := [.pointer (some ⟨kb, 0, none⟩), .int .i64 (i : Nat)]) Tryz.func176 rfl rfl rfl h1 ?_
    have hO := fun w h => once_Do (once_book kb n) (.slice none 0 0) (fun g : Nat => .slice (some ⟨g, 0, none⟩) n n) 215 [.pointer (some ⟨kb, 0, none⟩)] [] w F (fun g => rowX 260 g n (List.replicate n 0) :: F) (fun _ _ => rfl) (fun w h => count_lay kb n hn w F h) h
    repeat' (first | (first | (apply GL.isCall; refine GL.call (vs := [.pointer (some ⟨kb, 1, none⟩), .func (.func 215) #[.pointer (some ⟨kb, 0, none⟩)] #[]]) rfl rfl (fun w h => hO w h) (fun g => ?_)) | (apply GL.isAny; refine GL.run (by apply Runs.isIndexA; exact Runs.indexAddr (k := i) rfl rfl rfl rfl (by rw [List.length_replicate]; exact hi)) rfl ?_)) | first | refine stp ?_ | (refine stpB ?_; intro _) | (refine spl ?_ ?_ <;> intro hc <;> ((try simp only [decide_eq_true_eq, decide_eq_false_iff_not, Bool.not_true, Bool.not_false, ne_eq, Classical.not_not, Int.not_lt, Int.not_le] at hc); (try (exfalso; first | omega | exact hc trivial | exact hc rfl)))))
    all_goals (first | (exfalso; omega) | (refine GE.resOne rfl (by (repeat (first | apply Res.nil | (apply Res.tmp; rfl) | (refine Res.cellA rfl rfl rfl ?_) | (refine Res.cell1 rfl rfl ?_)))) (fun w h => ?_); exact ⟨⟨(kb, g), rfl⟩, by simp [rowB, rowO], h⟩))
  · refine Ct.go (args := [.pointer (some ⟨kb, 0, none⟩), .int .i64 (i : Nat)]) Tryz.func176 rfl rfl rfl h1 ?_
    have hl := (rowX.open (h1.order [1, 0])).1
    have hO := fun w h => once_Done (once_book kb n) (.slice (some ⟨g, 0, none⟩) n n) w (rowX 260 g n l :: F) (.func (.func 215) #[.pointer (some ⟨kb, 0, none⟩)] #[]) h
    repeat' (first | (first | (apply GL.isCall; refine GL.call1 (vs := [.pointer (some ⟨kb, 1, none⟩), .func (.func 215) #[.pointer (some ⟨kb, 0, none⟩)] #[]]) rfl rfl (fun w h => hO w h) ?_) | (apply GL.isAny; refine GL.run (by apply Runs.isIndexA; exact Runs.indexAddr (k := i) rfl rfl rfl rfl (by omega)) rfl ?_)) | first | refine stp ?_ | (refine stpB ?_; intro _) | (refine spl ?_ ?_ <;> intro hc <;> ((try simp only [decide_eq_true_eq, decide_eq_false_iff_not, Bool.not_true, Bool.not_false, ne_eq, Classical.not_not, Int.not_lt, Int.not_le] at hc); (try (exfalso; first | omega | exact hc trivial | exact hc rfl)))))
    all_goals (first | (exfalso; omega) | (refine GE.resOne rfl (by (repeat (first | apply Res.nil | (apply Res.tmp; rfl) | (refine Res.cellA rfl rfl rfl ?_) | (refine Res.cell1 rfl rfl ?_)))) (fun w h => ?_); exact ⟨⟨(kb, g), rfl⟩, by simp [rowB, rowO], h⟩))
include hl
theorem count_Add (i : Nat) (hi : i < n) (y : Int) (hy : 0 ≤ y) (h0 : 0 ≤ l.getD i 0) (hb : l.getD i 0 + y ≤ 4611686018427387904) (w : World) (F : List HProp) (hw : holds w (bookP v n l :: F)) :
    Ct Tryz.prog 112 #[v, .int .i64 (i : Nat), .int .i64 y] w fun e w' => e = .returned (.int .i64 0) ∧ holds w' (bookP v n (l.set i (l.getD i 0 + y)) :: F) := by
  have hil : i < l.length := by omega
  have eg : l.getD i 0 = l[i] := by rw [List.getD_eq_getElem?_getD, List.getElem?_eq_getElem hil]; rfl
  rw [eg] at h0 hb ⊢
  obtain ⟨kb0, hv, hcase⟩ := bookP.open hw
  have hn0 : (n : Int) ≠ 0 := by omega
  have hsee : ∃ c2 : List Value, ∃ FF : List HProp, holds w (blk kb0 (.cells (.int .i64 (n : Nat) :: c2).toArray 209 (0, 0)) :: FF) ∧ ∀ w', holds w' (blk kb0 (.cells (.int .i64 (n : Nat) :: c2).toArray 209 (0, 0)) :: FF) → holds w' (bookP v n l :: F) := by
    subst hv
    rcases hcase with ⟨rfl, h⟩ | ⟨g, h⟩
    · exact ⟨_, _, h, fun w' h' => bookP.shutN h'⟩
    · exact ⟨_, _, h, fun w' h' => bookP.shutL h'⟩
  obtain ⟨c2, FF, h1, hback⟩ := hsee
  have hCC := fun w (h : holds w (bookP v n l :: F)) => count_count v n hn l i hi w F h
  subst hv
  refine Ct.go (args := [.pointer (some ⟨kb0, 0, none⟩), .int .i64 (i : Nat), .int .i64 y]) Tryz.func112 rfl rfl rfl h1 ?_
  repeat' (first | (first | (refine G.isRegion 3 ?_; refine G.imp (F' := bookP (.pointer (some ⟨kb0, 0, none⟩)) n l :: F) ?_ (fun w h => hback w h); apply G.region) | (apply GL.isCall; refine GL.call (vs := [.pointer (some ⟨kb0, 0, none⟩), .int .i64 (i : Nat)]) rfl rfl (fun w h => hCC w h) (fun x => ?_); obtain ⟨⟨kb, g⟩, hx⟩ := x; dsimp only; refine GL.imp (F' := rowC 260 g n i l (.int .i64 l[i]) :: blk kb (.cells #[.int .i64 (n : Nat), .int .u32 1, .int .i32 0, .int .u32 0, .slice (some ⟨g, 0, none⟩) n n] 209 (0, 0)) :: F) ?_ (fun w h => rowX.cell hil (h.order [1, 0]))) | first | (apply GL.isCall; refine GL.call1 rfl rfl (fun w h => i64_Load g i _ (rowC.cellAt 260 g n i l hil) l[i] w _ h) ?_) | (apply GD.isAny; refine GD.call rfl rfl (fun w F' h => i64_Load g i _ (rowC.cellAt 260 g n i l hil) l[i] w _ h) ?_) | first | (apply GL.isCall; refine GL.call1 rfl rfl (fun w h => i64_Add g i _ (rowC.cellAt 260 g n i l hil) l[i] y (by omega) w _ h) ?_) | (apply GD.isAny; refine GD.call rfl rfl (fun w F' h => i64_Add g i _ (rowC.cellAt 260 g n i l hil) l[i] y (by omega) w _ h) ?_)) | first | refine stp ?_ | (refine stpB ?_; intro _) | (refine spl ?_ ?_ <;> intro hc <;> ((try simp only [decide_eq_true_eq, decide_eq_false_iff_not, Bool.not_true, Bool.not_false, ne_eq, Classical.not_not, Int.not_lt, Int.not_le] at hc); (try (exfalso; first | omega | exact hc trivial | exact hc rfl)))))
  all_goals (first | (exfalso; omega) | skip)
  refine GE.resOne rfl (by (repeat (first | apply Res.nil | (apply Res.tmp; rfl) | (refine Res.cellA rfl rfl rfl ?_) | (refine Res.cell1 rfl rfl ?_)))) (fun w h => ?_)
  obtain ⟨rfl⟩ : kb0 = kb := by simpa using hx
  exact ⟨rfl, bookP.shutL ((rowX.back hil h).order [1, 0])⟩
theorem count_Get (i : Nat) (hi : i < n) (w : World) (F : List HProp) (hw : holds w (bookP v n l :: F)) :
    Ct Tryz.prog 125 #[v, .int .i64 (i : Nat)] w fun e w' => e = .returned (.int .i64 (l.getD i 0)) ∧ holds w' (bookP v n l :: F) := by
  have hil : i < l.length := by omega
  have eg : l.getD i 0 = l[i] := by rw [List.getD_eq_getElem?_getD, List.getElem?_eq_getElem hil]; rfl
  rw [eg]
  refine Ct.go (args := [v, .int .i64 (i : Nat)]) Tryz.func125 rfl rfl rfl hw ?_
  repeat' (first | (first | (apply GL.isCall; refine GL.call (vs := [v, .int .i64 (i : Nat)]) rfl rfl (fun w h => count_count v n hn l i hi w F h) (fun x => ?_); obtain ⟨⟨kb, g⟩, hx⟩ := x; dsimp only at hx ⊢; refine GL.imp (F' := rowC 260 g n i l (.int .i64 l[i]) :: blk kb (.cells #[.int .i64 (n : Nat), .int .u32 1, .int .i32 0, .int .u32 0, .slice (some ⟨g, 0, none⟩) n n] 209 (0, 0)) :: F) ?_ (fun w h => rowX.cell hil (h.order [1, 0]))) | first | (apply GL.isCall; refine GL.call1 rfl rfl (fun w h => i64_Load g i _ (rowC.cellAt 260 g n i l hil) l[i] w _ h) ?_) | (apply GD.isAny; refine GD.call rfl rfl (fun w F' h => i64_Load g i _ (rowC.cellAt 260 g n i l hil) l[i] w _ h) ?_)) | first | refine stp ?_ | (refine stpB ?_; intro _) | (refine spl ?_ ?_ <;> intro hc <;> ((try simp only [decide_eq_true_eq, decide_eq_false_iff_not, Bool.not_true, Bool.not_false, ne_eq, Classical.not_not, Int.not_lt, Int.not_le] at hc); (try (exfalso; first | omega | exact hc trivial | exact hc rfl)))))
  all_goals (first | (exfalso; omega) | skip)
  refine GE.resOne rfl (by (repeat (first | apply Res.nil | (apply Res.tmp; rfl) | (refine Res.cellA rfl rfl rfl ?_) | (refine Res.cell1 rfl rfl ?_)))) (fun w h => ?_)
  subst hx
  have h2 := rowX.back hil h
  rw [List.set_getElem_self] at h2
  exact ⟨rfl, bookP.shutL (h2.order [1, 0])⟩
end
end Go.Proofs.YtipkgamiejenaaaGreat

/- Package scrub: the walks. -/
namespace Go.Proofs.YtipkgamiejenaaaGreat
open Go Go.RowKit Go.MapKept
set_option linter.unusedVariables false
set_option linter.unusedSimpArgs false
set_option maxRecDepth 100000
set_option maxHeartbeats 2000000
instance (priority := 400) SeesBlk.appendS {F F2 : List HProp} {b : Nat} {c : Array Value} [h : SeesBlk F b c] : SeesBlk (F ++ F2) b c := ⟨fun w hw => h.at_ w (by obtain ⟨f, hf, hs⟩ := hw; obtain ⟨f1, f2, h1, h2, j⟩ := (sep_append F F2 f).1 hs; exact ⟨f, hf, sep_sub F f1 f j h1⟩)⟩
theorem i64_LoadS (b o : Nat) (c : Array Value) (x : Int) (hu : nthL c.toList o = some (.int .i64 x)) (w : World) (F : List HProp) [SeesBlk F b c] (hw : holds w F) :
    Ct Tryz.prog 177 #[.pointer (some ⟨b, o, none⟩)] w fun e w' => e = .returned (.int .i64 x) ∧ holds w' F := by
  refine Ct.go (args := [.pointer (some ⟨b, o, none⟩)]) Tryz.func177 rfl rfl rfl hw ?_
  repeat' (first | ((apply GL.isAny; refine GL.run (Runs.extLoad rfl hu) rfl ?_)) | first | refine stp ?_ | (refine stpB ?_; intro _) | (refine spl ?_ ?_ <;> intro hc <;> ((try simp only [decide_eq_true_eq, decide_eq_false_iff_not, Bool.not_true, Bool.not_false, ne_eq, Classical.not_not, Int.not_lt, Int.not_le] at hc); (try (exfalso; first | omega | exact hc trivial | exact hc rfl)))))
  refine GE.resOne rfl (by (repeat (first | apply Res.nil | (apply Res.tmp; rfl) | (refine Res.cellA rfl rfl rfl ?_) | (refine Res.cell1 rfl rfl ?_)))) (fun w h => ?_); exact ⟨rfl, h.sub⟩
theorem bytes_SizeP (b sz : Nat) (tx : List UInt8) (w : World) (F : List HProp) (hw : holds w (bytesP b sz tx :: F)) :
    Ct Tryz.prog 188 #[.pointer (some ⟨b, 0, none⟩)] w fun e w' => e = .returned (.int .i64 (sz : Nat)) ∧ holds w' (bytesP b sz tx :: F) := by
  obtain ⟨m, am, e, h1⟩ := bytesP.open hw
  exact (bytes_Size b sz m w _ h1).mono fun e' w' ⟨h2, h3⟩ => ⟨h2, bytesP.shut (m := m) e h3⟩
section
variable (wb b sz : Nat) (x : Int)
theorem scrub_Begin (tx : List UInt8) (h0 : 0 < sz) (w : World) (F : List HProp) (hw : holds w (bytesP b sz tx :: F)) :
    Ct Tryz.prog 131 #[.pointer (some ⟨b, 0, none⟩)] w fun e w' => ∃ wb : Nat, e = .returned (.pointer (some ⟨wb, 0, none⟩)) ∧ holds w' (blk wb (.cells #[.pointer (some ⟨b, 0, none⟩), .int .i64 0] 262 (0, 0)) :: bytesP b sz tx :: F) := by
  refine Ct.go (args := [.pointer (some ⟨b, 0, none⟩)]) Tryz.func131 rfl rfl rfl hw ?_
  repeat' (first | (first | first | (apply GL.isCall; refine GL.call1 rfl rfl (fun w h => bytes_SizeP b sz tx w _ h) ?_) | (apply GD.isAny; refine GD.call rfl rfl (fun w F' h => bytes_SizeP b sz tx w _ h) ?_) | (apply GL.isBox; refine GL.boxA (cs := #[.pointer (some ⟨b, 0, none⟩), .int .i64 0]) rfl rfl (fun wb => ?_))) | first | refine stp ?_ | (refine stpB ?_; intro _) | (refine spl ?_ ?_ <;> intro hc <;> ((try simp only [decide_eq_true_eq, decide_eq_false_iff_not, Bool.not_true, Bool.not_false, ne_eq, Classical.not_not, Int.not_lt, Int.not_le] at hc); (try (exfalso; first | omega | exact hc trivial | exact hc rfl)))))
  all_goals (first | (exfalso; omega) | (refine GE.resOne rfl (by (repeat (first | apply Res.nil | (apply Res.tmp; rfl) | (refine Res.cellA rfl rfl rfl ?_) | (refine Res.cell1 rfl rfl ?_)))) (fun w h => ?_); exact ⟨wb, rfl, h.sub⟩))
theorem scrub_is (w : World) (F : List HProp) [SeesBlk F wb #[.pointer (some ⟨b, 0, none⟩), .int .i64 x]] (hw : holds w F) :
    Ct Tryz.prog 189 #[.pointer (some ⟨wb, 0, none⟩)] w fun e w' => e = .returned (.bool true) ∧ holds w' F := by
  refine Ct.go (args := [.pointer (some ⟨wb, 0, none⟩)]) Tryz.func189 rfl rfl rfl hw ?_
  repeat' (first | refine stp ?_ | (refine stpB ?_; intro _) | (refine spl ?_ ?_ <;> intro hc <;> ((try simp only [decide_eq_true_eq, decide_eq_false_iff_not, Bool.not_true, Bool.not_false, ne_eq, Classical.not_not, Int.not_lt, Int.not_le] at hc); (try (exfalso; first | omega | exact hc trivial | exact hc rfl)))))
  refine GE.resOne rfl (by (repeat (first | apply Res.nil | (apply Res.tmp; rfl) | (refine Res.cellA rfl rfl rfl ?_) | (refine Res.cell1 rfl rfl ?_)))) (fun w h => ?_); exact ⟨rfl, h.sub⟩
theorem scrub_Place (w : World) (F : List HProp) [SeesBlk F wb #[.pointer (some ⟨b, 0, none⟩), .int .i64 x]] (hw : holds w F) :
    Ct Tryz.prog 192 #[.pointer (some ⟨wb, 0, none⟩)] w fun e w' => e = .returned (.int .i64 x) ∧ holds w' F := by
  refine Ct.go (args := [.pointer (some ⟨wb, 0, none⟩)]) Tryz.func192 rfl rfl rfl hw ?_
  repeat' (first | (first | first | (apply GL.isCall; refine GL.call1 rfl rfl (fun w h => scrub_is wb b x w _ h) ?_) | (apply GD.isAny; refine GD.call rfl rfl (fun w F' h => scrub_is wb b x w _ h) ?_) | (apply GL.isCall; refine GL.call1 (vs := [.pointer (some ⟨wb, 1, none⟩)]) rfl rfl (fun w h => i64_LoadS wb 1 #[.pointer (some ⟨b, 0, none⟩), .int .i64 x] x rfl w _ h) ?_)) | first | refine stp ?_ | (refine stpB ?_; intro _) | (refine spl ?_ ?_ <;> intro hc <;> ((try simp only [decide_eq_true_eq, decide_eq_false_iff_not, Bool.not_true, Bool.not_false, ne_eq, Classical.not_not, Int.not_lt, Int.not_le] at hc); (try (exfalso; first | omega | exact hc trivial | exact hc rfl)))))
  all_goals (first | (exfalso; simp at hc; done) | (refine GE.resOne rfl (by (repeat (first | apply Res.nil | (apply Res.tmp; rfl) | (refine Res.cellA rfl rfl rfl ?_) | (refine Res.cell1 rfl rfl ?_)))) (fun w h => ?_); exact ⟨rfl, h.sub⟩))
theorem scrub_Left (hs : sz ≤ 1048576) (hx : 0 ≤ x ∧ x ≤ sz) (m : Nat) (w : World) (F : List HProp) [SeesBlk F wb #[.pointer (some ⟨b, 0, none⟩), .int .i64 x]] [SeesBlk F b #[.map (some m), .int .i64 (sz : Nat)]] (hw : holds w F) :
    Ct Tryz.prog 190 #[.pointer (some ⟨wb, 0, none⟩)] w fun e w' => e = .returned (.int .i64 ((sz : Int) - x)) ∧ holds w' F := by
  refine Ct.go (args := [.pointer (some ⟨wb, 0, none⟩)]) Tryz.func190 rfl rfl rfl hw ?_
  repeat' (first | (first | first | (apply GL.isCall; refine GL.call1 rfl rfl (fun w h => scrub_is wb b x w _ h) ?_) | (apply GD.isAny; refine GD.call rfl rfl (fun w F' h => scrub_is wb b x w _ h) ?_) | first | (apply GL.isCall; refine GL.call1 rfl rfl (fun w h => bytes_Size b sz m w _ h) ?_) | (apply GD.isAny; refine GD.call rfl rfl (fun w F' h => bytes_Size b sz m w _ h) ?_) | first | (apply GL.isCall; refine GL.call1 rfl rfl (fun w h => scrub_Place wb b x w _ h) ?_) | (apply GD.isAny; refine GD.call rfl rfl (fun w F' h => scrub_Place wb b x w _ h) ?_)) | first | refine stp ?_ | (refine stpB ?_; intro _) | (refine spl ?_ ?_ <;> intro hc <;> ((try simp only [decide_eq_true_eq, decide_eq_false_iff_not, Bool.not_true, Bool.not_false, ne_eq, Classical.not_not, Int.not_lt, Int.not_le] at hc); (try (exfalso; first | omega | exact hc trivial | exact hc rfl)))))
  all_goals (first | (exfalso; simp at hc; done) | (refine GE.resOne rfl (by (repeat (first | apply Res.nil | (apply Res.tmp; rfl) | (refine Res.cellA rfl rfl rfl ?_) | (refine Res.cell1 rfl rfl ?_)))) (fun w h => ?_); exact ⟨rfl, h.sub⟩))
theorem scrub_Done (tx : List UInt8) (hx : 0 ≤ x ∧ x ≤ sz) (w : World) (F : List HProp) (hw : holds w (bytesP b sz tx :: blk wb (.cells #[.pointer (some ⟨b, 0, none⟩), .int .i64 x] 262 (0, 0)) :: F)) :
    Ct Tryz.prog 133 #[.pointer (some ⟨wb, 0, none⟩)] w fun e w' => e = .returned (.bool (decide ((sz : Int) - x = 0))) ∧ holds w' (bytesP b sz tx :: blk wb (.cells #[.pointer (some ⟨b, 0, none⟩), .int .i64 x] 262 (0, 0)) :: F) := by
  obtain ⟨m, am, e0, h1⟩ := bytesP.open hw
  refine Ct.go (args := [.pointer (some ⟨wb, 0, none⟩)]) Tryz.func133 rfl rfl rfl h1 ?_
  repeat' (first | (first | first | (apply GL.isCall; refine GL.call1 rfl rfl (fun w h => scrub_is wb b x w _ h) ?_) | (apply GD.isAny; refine GD.call rfl rfl (fun w F' h => scrub_is wb b x w _ h) ?_) | first | (apply GL.isCall; refine GL.call1 rfl rfl (fun w h => scrub_Left wb b sz x e0.2.2.1.2 hx m w _ h) ?_) | (apply GD.isAny; refine GD.call rfl rfl (fun w F' h => scrub_Left wb b sz x e0.2.2.1.2 hx m w _ h) ?_)) | first | refine stp ?_ | (refine stpB ?_; intro _) | (refine spl ?_ ?_ <;> intro hc <;> ((try simp only [decide_eq_true_eq, decide_eq_false_iff_not, Bool.not_true, Bool.not_false, ne_eq, Classical.not_not, Int.not_lt, Int.not_le] at hc); (try (exfalso; first | omega | exact hc trivial | exact hc rfl)))))
  all_goals (first | (exfalso; simp at hc; done) | (refine GE.resOne rfl (by (repeat (first | apply Res.nil | (apply Res.tmp; rfl) | (refine Res.cellA rfl rfl rfl ?_) | (refine Res.cell1 rfl rfl ?_)))) (fun w h => ?_); exact ⟨rfl, bytesP.shut (m := m) e0 h.sub⟩))
theorem scrub_Step (tx : List UInt8) (hx : 0 ≤ x ∧ x ≤ sz) (n : Int) (hn : 1 ≤ n) (w : World) (F : List HProp) (hw : holds w (bytesP b sz tx :: blk wb (.cells #[.pointer (some ⟨b, 0, none⟩), .int .i64 x] 262 (0, 0)) :: F)) :
    Ct Tryz.prog 132 #[.pointer (some ⟨wb, 0, none⟩), .int .i64 n] w fun e w' => e = .returned (.tuple #[.int .i64 (min n ((sz : Int) - x)), .int .i64 0]) ∧ holds w' (bytesP b sz (By.splice tx x.toNat (St.zeros (min n ((sz : Int) - x)).toNat)) :: blk wb (.cells #[.pointer (some ⟨b, 0, none⟩), .int .i64 (x + min n ((sz : Int) - x))] 262 (0, 0)) :: F) := by
  obtain ⟨m, am, e0, h1⟩ := bytesP.open hw
  obtain ⟨q, hq⟩ : ∃ q, q = min n ((sz : Int) - x) := ⟨_, rfl⟩
  have hsz := e0.2.2.1.2
  have hl := e0.1
  have hno : ¬ St.off tx x q := by unfold St.off; rw [hl]; omega
  have hWi := fun w (F : List HProp) h => bytes_Wipe b sz tx x q (by omega) w F h
  rw [if_neg hno, if_neg hno] at hWi
  have hAd := fun w (F : List HProp) h => i64_Add wb 1 _ (cellAt_blk wb [.pointer (some ⟨b, 0, none⟩)] [] 262) x q (by omega) w F h
  rw [← hq]
  refine Ct.go (args := [.pointer (some ⟨wb, 0, none⟩), .int .i64 n]) Tryz.func132 rfl rfl rfl h1 ?_
  repeat' (first | (first | (rw [← hq]) | first | (apply GL.isCall; refine GL.call1 rfl rfl (fun w h => scrub_is wb b x w _ h) ?_) | (apply GD.isAny; refine GD.call rfl rfl (fun w F' h => scrub_is wb b x w _ h) ?_) | first | (apply GL.isCall; refine GL.call1 rfl rfl (fun w h => scrub_Left wb b sz x hsz hx m w _ h) ?_) | (apply GD.isAny; refine GD.call rfl rfl (fun w F' h => scrub_Left wb b sz x hsz hx m w _ h) ?_) | refine G.drawTail 7 (by kernel_rfl) (by simp only [List.take_succ_cons, List.take_zero]; rfl) (by simp only [List.drop_succ_cons, List.drop_zero]; rfl) (by kernel_rfl) ?_ | (apply GD.isAny; refine GD.call (vs := [.pointer (some ⟨wb, 0, none⟩)]) (v := .int .i64 x) rfl rfl (fun w F' h => by exact scrub_Place wb b x w _ h) ?_) | (apply GL.isCall; refine GL.call1 (vs := [.pointer (some ⟨b, 0, none⟩), .int .i64 x, .int .i64 q]) rfl rfl (fun w h => hWi w (blk wb (.cells #[.pointer (some ⟨b, 0, none⟩), .int .i64 x] 262 (0, 0)) :: F) (bytesP.shut (m := m) (am := am) e0 h.sub)) ?_) | (apply GL.isCall; refine GL.call1 (vs := [.pointer (some ⟨wb, 1, none⟩), .int .i64 q]) rfl rfl (fun w h => hAd w (bytesP b sz (By.splice tx x.toNat (St.zeros q.toNat)) :: F) (holds.sub (H := blk wb (.cells #[.pointer (some ⟨b, 0, none⟩), .int .i64 x] 262 (0, 0)) :: bytesP b sz (By.splice tx x.toNat (St.zeros q.toNat)) :: F) h)) ?_)) | first | refine stp ?_ | (refine stpB ?_; intro _) | (refine spl ?_ ?_ <;> intro hc <;> ((try simp only [decide_eq_true_eq, decide_eq_false_iff_not, Bool.not_true, Bool.not_false, ne_eq, Classical.not_not, Int.not_lt, Int.not_le] at hc); (try (exfalso; first | omega | exact hc trivial | exact hc rfl)))))
  all_goals (first | (exfalso; simp at hc; done) | (exfalso; omega) | skip)
  refine GE.resMany rfl (by (repeat (first | apply Res.nil | (apply Res.tmp; rfl) | (refine Res.cellA rfl rfl rfl ?_) | (refine Res.cell1 rfl rfl ?_)))) (fun w h => ?_)
  exact ⟨rfl, holds.order h [1, 0]⟩
end
end Go.Proofs.YtipkgamiejenaaaGreat
