import Derived.Test.YtipkgamiejenaaaGreatMg6
import Derived.Test.YtipkgamiejenaaaGreatMg7
import Derived.Test.YtipkgamiejenaaaGreatTypes
import Derived.Laws.LoneSync
import Derived.Test.YtipkgamiejenaaaGreatMg5

/- Package bytes: the walks. -/
namespace Go.Proofs.YtipkgamiejenaaaGreat
open Go Go.RowKit Go.MapKept
set_option linter.unusedVariables false
set_option linter.unusedSimpArgs false
set_option maxRecDepth 100000
set_option maxHeartbeats 2000000
def encRow (r : List UInt8) : Value := .agg (r.map u8v).toArray
instance : BuildT Tryz.prog 274 [] (By.zrow.map u8v) := ⟨fun ps r hr => by
  cases ps with
  | nil => simp only [fillL, Option.some.injEq] at hr; subst hr; kernel_rfl
  | cons p ps => simp [fillL] at hr⟩
instance : CellsT Tryz.prog 274 (List.replicate 64 [CelK.i .u8]).flatten := ⟨by kernel_rfl, by kernel_rfl, by kernel_rfl⟩
/-- The bytes tx. -/
def bytesP (b sz : Nat) (tx : List UInt8) : HProp := fun f => ∃ (m : Nat) (am : List (Int × List UInt8)), (tx.length = sz ∧ sz % 64 = 0 ∧ (1 ≤ sz ∧ sz ≤ 1048576) ∧ By.Rows am tx) ∧ sep [blk b (.cells #[.map (some m), .int .i64 (sz : Nat)] 219 (0, 0)), imap encRow m am] f
theorem bytesP.open {w : World} {b sz : Nat} {tx : List UInt8} {F : List HProp} (h : holds w (bytesP b sz tx :: F)) : ∃ (m : Nat) (am : List (Int × List UInt8)), (tx.length = sz ∧ sz % 64 = 0 ∧ (1 ≤ sz ∧ sz ≤ 1048576) ∧ By.Rows am tx) ∧ holds w (blk b (.cells #[.map (some m), .int .i64 (sz : Nat)] 219 (0, 0)) :: imap encRow m am :: F) := by
  obtain ⟨m, h⟩ := holds.open_ex h
  obtain ⟨am, h⟩ := holds.open_ex h
  obtain ⟨e, h⟩ := holds.open_pure h
  exact ⟨m, am, e, holds_sep.1 h⟩
theorem bytesP.shut {w : World} {b sz m : Nat} {tx : List UInt8} {am : List (Int × List UInt8)} {F : List HProp} (e : tx.length = sz ∧ sz % 64 = 0 ∧ (1 ≤ sz ∧ sz ≤ 1048576) ∧ By.Rows am tx) (h : holds w (blk b (.cells #[.map (some m), .int .i64 (sz : Nat)] 219 (0, 0)) :: imap encRow m am :: F)) : holds w (bytesP b sz tx :: F) :=
  (holds_sep (l := [blk b (.cells #[.map (some m), .int .i64 (sz : Nat)] 219 (0, 0)), imap encRow m am]).2 h).mono fun f hf => ⟨m, am, e, hf⟩
theorem bytes_New (sz : Nat) (h64 : sz % 64 = 0) (h0 : 1 ≤ sz) (h1 : sz ≤ 1048576) (w : World) (F : List HProp) (hw : holds w F) :
    Ct Tryz.prog 84 #[.int .i64 (sz : Nat)] w fun e w' => ∃ b : Nat, e = .returned (.pointer (some ⟨b, 0, none⟩)) ∧ holds w' (bytesP b sz (St.zeros sz) :: F) := by
  refine Ct.go (args := [.int .i64 (sz : Nat)]) Tryz.func84 rfl rfl rfl hw ?_
  repeat' (first | (first | (apply qac; refine GL.makeMap encRow rfl (fun m => ?_)) | (apply qaw; refine qa5 (cs := #[.map (some m), .int .i64 (sz : Nat)]) rfl rfl (fun b => ?_))) | first | (apply qac; first | refine qa6 rfl ?_ | (apply qaj; first | refine qah rfl rfl rfl rfl rfl ?_ | refine qae rfl rfl rfl rfl rfl ?_ | refine qaf rfl rfl rfl rfl rfl ?_) | refine qam rfl rfl ?_ | refine qao rfl rfl rfl ?_ | refine qan rfl rfl rfl ?_ | (apply qaw; first | refine qa5 rfl rfl (fun _ => ?_) | refine qa7 rfl rfl rfl (fun _ => ?_) | refine GL.box rfl rfl (fun _ => ?_)) | (apply qai; first | refine qaa rfl rfl rfl rfl rfl (fun _ => ?_) | refine qab rfl rfl rfl rfl rfl (fun _ => ?_)) | (apply GL.isCall; refine qal _ rfl rfl rfl rfl (by rfl) (by omega) (by omega) rfl (fun _ => ?_)) | (apply qak; refine GL.alloc rfl (fun _ => ?_))) | apply GL.nil | first | apply G.seq | apply G.region | apply G.block | apply G.skip | apply G.exit | apply G.ret | (apply qag; first | refine qbd rfl ?_ | refine qbe rfl ?_) | refine qbi (by kernel_rfl) (by kernel_rfl) ?_ | (apply qa3; first | apply qa4 | apply qa1 | apply qar | apply qas | apply qa2 | apply qa0 | apply qap | refine qaq rfl ?_ | apply qa9) | (apply qad; first | refine qba rfl ?_ | refine qat rfl rfl ?_ | refine qav rfl rfl rfl ?_ | refine qau rfl rfl rfl ?_) | apply qbc | apply qbb | (apply qaz; refine qa8 rfl rfl ?_) | ((first | (apply qac; refine GL.guard rfl rfl (fun hc => ?_) (fun hc => ?_)) | (apply qag; refine G.cond rfl (fun hc => ?_) (fun hc => ?_)) | (apply qad; refine GD.guard rfl rfl (fun hc => ?_) (fun hc => ?_))) <;> ((try simp only [decide_eq_true_eq, decide_eq_false_iff_not, Bool.not_true, Bool.not_false, ne_eq, Classical.not_not, Int.not_lt, Int.not_le] at hc); (try (exfalso; first | omega | exact hc trivial | exact hc rfl)))))
  all_goals (first | (exfalso; omega) | (refine qbg rfl (by (repeat (first | apply Res.nil | (apply Res.tmp; rfl) | (refine qax rfl rfl rfl ?_) | (refine qay rfl rfl ?_)))) (fun w h => ?_); exact ⟨b, rfl, bytesP.shut (m := m) ⟨by simp [St.zeros], h64, ⟨h0, h1⟩, By.Rows.new sz h64⟩ h.sub⟩))
section
variable (b sz : Nat) (tx : List UInt8)
theorem bytes_Size (m : Nat) (w : World) (F : List HProp) [SeesBlk F b #[.map (some m), .int .i64 (sz : Nat)]] (hw : holds w F) :
    Ct Tryz.prog 188 #[.pointer (some ⟨b, 0, none⟩)] w fun e w' => e = .returned (.int .i64 (sz : Nat)) ∧ holds w' F := by
  refine Ct.go (args := [.pointer (some ⟨b, 0, none⟩)]) Tryz.func188 rfl rfl rfl hw ?_
  repeat' (first | (apply qac; first | refine qa6 rfl ?_ | (apply qaj; first | refine qah rfl rfl rfl rfl rfl ?_ | refine qae rfl rfl rfl rfl rfl ?_ | refine qaf rfl rfl rfl rfl rfl ?_) | refine qam rfl rfl ?_ | refine qao rfl rfl rfl ?_ | refine qan rfl rfl rfl ?_ | (apply qaw; first | refine qa5 rfl rfl (fun _ => ?_) | refine qa7 rfl rfl rfl (fun _ => ?_) | refine GL.box rfl rfl (fun _ => ?_)) | (apply qai; first | refine qaa rfl rfl rfl rfl rfl (fun _ => ?_) | refine qab rfl rfl rfl rfl rfl (fun _ => ?_)) | (apply GL.isCall; refine qal _ rfl rfl rfl rfl (by rfl) (by omega) (by omega) rfl (fun _ => ?_)) | (apply qak; refine GL.alloc rfl (fun _ => ?_))) | apply GL.nil | first | apply G.seq | apply G.region | apply G.block | apply G.skip | apply G.exit | apply G.ret | (apply qag; first | refine qbd rfl ?_ | refine qbe rfl ?_) | refine qbi (by kernel_rfl) (by kernel_rfl) ?_ | (apply qa3; first | apply qa4 | apply qa1 | apply qar | apply qas | apply qa2 | apply qa0 | apply qap | refine qaq rfl ?_ | apply qa9) | (apply qad; first | refine qba rfl ?_ | refine qat rfl rfl ?_ | refine qav rfl rfl rfl ?_ | refine qau rfl rfl rfl ?_) | apply qbc | apply qbb | (apply qaz; refine qa8 rfl rfl ?_) | ((first | (apply qac; refine GL.guard rfl rfl (fun hc => ?_) (fun hc => ?_)) | (apply qag; refine G.cond rfl (fun hc => ?_) (fun hc => ?_)) | (apply qad; refine GD.guard rfl rfl (fun hc => ?_) (fun hc => ?_))) <;> ((try simp only [decide_eq_true_eq, decide_eq_false_iff_not, Bool.not_true, Bool.not_false, ne_eq, Classical.not_not, Int.not_lt, Int.not_le] at hc); (try (exfalso; first | omega | exact hc trivial | exact hc rfl)))))
  refine qbg rfl (by (repeat (first | apply Res.nil | (apply Res.tmp; rfl) | (refine qax rfl rfl rfl ?_) | (refine qay rfl rfl ?_)))) (fun w h => ?_); exact ⟨rfl, h.sub⟩
theorem bytes_check (hsz : sz ≤ 1048576) (m : Nat) (k n : Int) (w : World) (F : List HProp) [SeesBlk F b #[.map (some m), .int .i64 (sz : Nat)]] (hw : holds w F) :
    Ct Tryz.prog 168 #[.pointer (some ⟨b, 0, none⟩), .int .i64 k, .int .i64 n] w fun e w' => e = .returned (.int .i64 (if k < 0 ∨ n < 0 ∨ (sz : Int) < k + n then 15 else 0)) ∧ holds w' F := by
  refine Ct.go (args := [.pointer (some ⟨b, 0, none⟩), .int .i64 k, .int .i64 n]) Tryz.func168 rfl rfl rfl hw ?_
  repeat' (first | (apply qac; first | refine qa6 rfl ?_ | (apply qaj; first | refine qah rfl rfl rfl rfl rfl ?_ | refine qae rfl rfl rfl rfl rfl ?_ | refine qaf rfl rfl rfl rfl rfl ?_) | refine qam rfl rfl ?_ | refine qao rfl rfl rfl ?_ | refine qan rfl rfl rfl ?_ | (apply qaw; first | refine qa5 rfl rfl (fun _ => ?_) | refine qa7 rfl rfl rfl (fun _ => ?_) | refine GL.box rfl rfl (fun _ => ?_)) | (apply qai; first | refine qaa rfl rfl rfl rfl rfl (fun _ => ?_) | refine qab rfl rfl rfl rfl rfl (fun _ => ?_)) | (apply GL.isCall; refine qal _ rfl rfl rfl rfl (by rfl) (by omega) (by omega) rfl (fun _ => ?_)) | (apply qak; refine GL.alloc rfl (fun _ => ?_))) | apply GL.nil | first | apply G.seq | apply G.region | apply G.block | apply G.skip | apply G.exit | apply G.ret | (apply qag; first | refine qbd rfl ?_ | refine qbe rfl ?_) | refine qbi (by kernel_rfl) (by kernel_rfl) ?_ | (apply qa3; first | apply qa4 | apply qa1 | apply qar | apply qas | apply qa2 | apply qa0 | apply qap | refine qaq rfl ?_ | apply qa9) | (apply qad; first | refine qba rfl ?_ | refine qat rfl rfl ?_ | refine qav rfl rfl rfl ?_ | refine qau rfl rfl rfl ?_) | apply qbc | apply qbb | (apply qaz; refine qa8 rfl rfl ?_) | ((first | (apply qac; refine GL.guard rfl rfl (fun hc => ?_) (fun hc => ?_)) | (apply qag; refine G.cond rfl (fun hc => ?_) (fun hc => ?_)) | (apply qad; refine GD.guard rfl rfl (fun hc => ?_) (fun hc => ?_))) <;> ((try simp only [decide_eq_true_eq, decide_eq_false_iff_not, Bool.not_true, Bool.not_false, ne_eq, Classical.not_not, Int.not_lt, Int.not_le] at hc); (try (exfalso; first | omega | exact hc trivial | exact hc rfl)))))
  all_goals (first | (exfalso; omega) | (refine qbg rfl (by (repeat (first | apply Res.nil | (apply Res.tmp; rfl) | (refine qax rfl rfl rfl ?_) | (refine qay rfl rfl ?_)))) (fun w h => ?_); exact ⟨by first | rw [if_pos (by omega)] | rw [if_neg (by omega)], h⟩))
theorem bytes_Clean (w : World) (F : List HProp) (hw : holds w (bytesP b sz tx :: F)) :
    Ct Tryz.prog 116 #[.pointer (some ⟨b, 0, none⟩)] w fun e w' => e = .returned (.bool (decide (∀ y ∈ tx, y = 0))) ∧ holds w' (bytesP b sz tx :: F) := by
  obtain ⟨m, am, ⟨e1, e2, e3, e4⟩, h1⟩ := bytesP.open hw
  refine Ct.go (args := [.pointer (some ⟨b, 0, none⟩)]) Tryz.func116 rfl rfl rfl h1 ?_
  have hc2 := e4.clean (by omega)
  repeat' (first | (apply qac; first | refine qa6 rfl ?_ | (apply qaj; first | refine qah rfl rfl rfl rfl rfl ?_ | refine qae rfl rfl rfl rfl rfl ?_ | refine qaf rfl rfl rfl rfl rfl ?_) | refine qam rfl rfl ?_ | refine qao rfl rfl rfl ?_ | refine qan rfl rfl rfl ?_ | (apply qaw; first | refine qa5 rfl rfl (fun _ => ?_) | refine qa7 rfl rfl rfl (fun _ => ?_) | refine GL.box rfl rfl (fun _ => ?_)) | (apply qai; first | refine qaa rfl rfl rfl rfl rfl (fun _ => ?_) | refine qab rfl rfl rfl rfl rfl (fun _ => ?_)) | (apply GL.isCall; refine qal _ rfl rfl rfl rfl (by rfl) (by omega) (by omega) rfl (fun _ => ?_)) | (apply qak; refine GL.alloc rfl (fun _ => ?_))) | apply GL.nil | first | apply G.seq | apply G.region | apply G.block | apply G.skip | apply G.exit | apply G.ret | (apply qag; first | refine qbd rfl ?_ | refine qbe rfl ?_) | refine qbi (by kernel_rfl) (by kernel_rfl) ?_ | (apply qa3; first | apply qa4 | apply qa1 | apply qar | apply qas | apply qa2 | apply qa0 | apply qap | refine qaq rfl ?_ | apply qa9) | (apply qad; first | refine qba rfl ?_ | refine qat rfl rfl ?_ | refine qav rfl rfl rfl ?_ | refine qau rfl rfl rfl ?_) | apply qbc | apply qbb | (apply qaz; refine qa8 rfl rfl ?_) | ((first | (apply qac; refine GL.guard rfl rfl (fun hc => ?_) (fun hc => ?_)) | (apply qag; refine G.cond rfl (fun hc => ?_) (fun hc => ?_)) | (apply qad; refine GD.guard rfl rfl (fun hc => ?_) (fun hc => ?_))) <;> ((try simp only [decide_eq_true_eq, decide_eq_false_iff_not, Bool.not_true, Bool.not_false, ne_eq, Classical.not_not, Int.not_lt, Int.not_le] at hc); (try (exfalso; first | omega | exact hc trivial | exact hc rfl)))))
  all_goals (first | (exfalso; simp at hc; done) | skip)
  refine qbg rfl (by (repeat (first | apply Res.nil | (apply Res.tmp; rfl) | (refine qax rfl rfl rfl ?_) | (refine qay rfl rfl ?_)))) (fun w h => ?_)
  refine ⟨?_, bytesP.shut (m := m) ⟨e1, e2, e3, e4⟩ h.sub⟩
  congr 2
  rw [decide_eq_decide, ← hc2]
  constructor
  · intro h; exact List.eq_nil_of_length_eq_zero (by omega)
  · rintro rfl; rfl
end
end Go.Proofs.YtipkgamiejenaaaGreat

/- Functions of sync/atomic, which have no body: they load, store, add and swap. -/
namespace Go.Proofs.YtipkgamiejenaaaGreat
open Go Go.RowKit Go.MapKept
set_option linter.unusedVariables false
set_option linter.unusedSimpArgs false
section
variable {P : Program} {f : FuncId} {fn : Func}
class ExtLoad (P : Program) (f : FuncId) (k : outParam IntKind) : Prop where
  run : ∀ (a : Addr) (x : Int) (w : World), w.cell? a = some (.int k x) → (callFunc f #[.pointer (some a)]).run P w = .ok (.value (.int k x)) w
theorem ExtLoad.of (hf : P.funcs[f]? = some fn) (hname : (fn.name == "runtime.NumGoroutine") = false) (hb : fn.body.isNone = true) (hn : Extern.findNext fn = none) (k : IntKind) (he : Extern.find fn = some (Extern.Atomic.loadT (.int k))) : ExtLoad P f k := ⟨fun a x w hc => run_call_load hf hname hb hn k he hc⟩
class ExtStore (P : Program) (f : FuncId) : Prop where
  run : ∀ (a : Addr) (k : IntKind) (y : Int) (u : Value) (w : World), w.cell? a = some u → w.frozen? a = false → (callFunc f #[.pointer (some a), .int k y]).run P w = .ok (.value (.tuple #[])) (w.setCell a (.int k y))
theorem ExtStore.of (hf : P.funcs[f]? = some fn) (hname : (fn.name == "runtime.NumGoroutine") = false) (hb : fn.body.isNone = true) (hn : Extern.findNext fn = none) (he : Extern.find fn = some Extern.Atomic.storeT) : ExtStore P f := ⟨fun a k y u w hc hz => run_call_store hf hname hb hn he hc hz⟩
class ExtAdd (P : Program) (f : FuncId) (k : outParam IntKind) : Prop where
  run : ∀ (a : Addr) (x y : Int) (w : World), w.cell? a = some (.int k x) → w.frozen? a = false → (callFunc f #[.pointer (some a), .int k y]).run P w = .ok (.value (.int k (k.wrap (x + y)))) (w.setCell a (.int k (k.wrap (x + y))))
theorem ExtAdd.of (hf : P.funcs[f]? = some fn) (hname : (fn.name == "runtime.NumGoroutine") = false) (hb : fn.body.isNone = true) (hn : Extern.findNext fn = none) (k : IntKind) (he : Extern.find fn = some (Extern.Atomic.update (Op.intArith .add) k true)) : ExtAdd P f k := ⟨fun a x y w hc hz => run_call_add hf hname hb hn k he hc hz (by simp [Op.intArith])⟩
class ExtCas (P : Program) (f : FuncId) (k : outParam IntKind) : Prop where
  run : ∀ (a : Addr) (x y : Int) (w : World), w.cell? a = some (.int k x) → w.frozen? a = false → (callFunc f #[.pointer (some a), .int k x, .int k y]).run P w = .ok (.value (.bool true)) (w.setCell a (.int k y))
theorem ExtCas.of (hf : P.funcs[f]? = some fn) (hname : (fn.name == "runtime.NumGoroutine") = false) (hb : fn.body.isNone = true) (hn : Extern.findNext fn = none) (k : IntKind) (he : Extern.find fn = some (Extern.Atomic.casT (.int k))) : ExtCas P f k := ⟨fun a x y w hc hz => run_call_cas_hit hf hname hb hn k he hc hz⟩
end
theorem holds.notFrozen {w : World} {l : List HProp} {b o : Nat} {c : Array Value} {T : TypeId} (h : holds w (blk b (.cells c T (0, 0)) :: l)) : w.frozen? ⟨b, o, none⟩ = false := by
  simp [World.frozen?, h.get_blk]
theorem holds.cellAt {w : World} {l : List HProp} {b o : Nat} {c : Array Value} {T : TypeId} {u : Value} (h : holds w (blk b (.cells c T (0, 0)) :: l)) (hu : nthL c.toList o = some u) : w.cell? ⟨b, o, none⟩ = some u := (cell_of_row w b o c T (0, 0) h.get_blk).trans (nthL_arr hu)
theorem holds.setAt {w : World} {l : List HProp} {b o : Nat} {c : Array Value} {T : TypeId} {u : Value} (h : holds w (blk b (.cells c T (0, 0)) :: l)) : holds (w.setCell ⟨b, o, none⟩ u) (blk b (.cells (c.toList.set o u).toArray T (0, 0)) :: l) := by
  have h1 := h.setCell o u
  have : (c.toList.set o u).toArray = c.setIfInBounds o u := by apply Array.ext'; simp
  rw [this]; exact h1
section
variable {P : Program} {n d : Nat} {Q : Exit → Act → World → Prop} {env : Env} {F F' : List HProp} {ops : Array Oper} {rest : List Oper} {ty T : TypeId} {pos : String} {aft : Array Edge} {f : FuncId} {k : IntKind} {xs : List Operand} {b o : Nat} {c : Array Value} {i j : Int} {ts : Array TypeId} {u : Value}
theorem Fits.callRun {a : Act} {w w' : World} {vs : List Value} {r : Next} {d : Option Tmp} {g : Option (Nat × Bool)} (hf : Fits n a env) (hx : opnds env xs = some vs) (hr : (callFunc f vs.toArray).run P w = .ok r w') :
    (execOp a.eval ⟨d, .call { callee := .value (.func f), args := xs.toArray, argTypes := ts }, ty, pos, aft, g⟩).run P w = .ok r w' := by
  simp [execOp, resolve, Act.eval, Deferred.ofValue, invoke, hf.evals hx, Result.andThen]
  exact hr
theorem Runs.extLoad [he : ExtLoad P f k] [hb : SeesBlk F b c] (hx : opnds env xs = some [.pointer (some ⟨b, o, none⟩)]) (hu : nthL c.toList o = some (.int k i)) : Runs P n env F (.call { callee := .value (.func f), args := xs.toArray, argTypes := ts }) (.int k i) := .mk fun a w ty pos aft g d hf hw => by
  obtain ⟨T, fz, h⟩ := hb.at_ w hw
  have hc : w.cell? ⟨b, o, none⟩ = some (.int k i) := (cell_of_row w b o c T fz h).trans (nthL_arr hu)
  exact hf.callRun hx (he.run _ _ w hc)
/-- The end of a function without results. -/
theorem GE.res0 {fn : Func} {R : Ending → World → Prop} {e : Exit} (he : e = .normal ∨ e = .ret) (hr : fn.results = #[]) (hR : ∀ w, holds w F → R (.returned (.tuple #[])) w) : GE n e (bodyPost P fn R) env F := .mk fun a w hf hw => by
  have h1 : (results fn a.tmps).run P w = .ok (.tuple #[]) w := by simp [results, hr]
  rcases he with rfl | rfl <;> exact ⟨hf.defs, _, h1, hR w hw⟩
end
end Go.Proofs.YtipkgamiejenaaaGreat

/- Which types are strings. Printed by gentypes.py. -/
namespace Go.Proofs.YtipkgamiejenaaaGreat
open Go Go.RowKit
set_option maxRecDepth 100000
instance : StrT Tryz.prog 9 := ⟨by kernel_rfl⟩
end Go.Proofs.YtipkgamiejenaaaGreat

/- Package bytes: bytes are put row by row; a text is put, bytes are wiped. -/
namespace Go.Proofs.YtipkgamiejenaaaGreat
open Go Go.RowKit Go.MapKept
set_option linter.unusedVariables false
set_option linter.unusedSimpArgs false
set_option maxRecDepth 100000
set_option maxHeartbeats 2000000
instance : ZeroT Tryz.prog 274 (encRow By.zrow) 64 64 := (inferInstance : ZeroT Tryz.prog 274 _ _ _)
theorem Runs.lookRow {P : Program} {n : Nat} {env : Env} {F F' : List HProp} {t k e : TypeId} {x y : Operand} {b size bytes : Nat} {i : Int} {m : List (Int × List UInt8)} [hm : MapT P t k e] [hk : IntT P k .i64] [hz : ZeroT P e (encRow By.zrow) size bytes] (hx : opnd env x = some (.map (some b))) (hy : opnd env y = some (.int .i64 i)) [hr : HasMap F b encRow m F'] :
    Runs P n env F (.lookup t x y false) (encRow ((alGet m i).getD By.zrow)) := by
  cases h : alGet m i with
  | none => exact Runs.lookupN hx hy h
  | some u => exact Runs.lookupS hx hy h
theorem Runs.sliceArrM {P : Program} {n : Nat} {env : Env} {F : List HProp} {t e : TypeId} {x y z : Operand} {b m : Nat} {i j : Int} (k q : Nat) [ht : ArrT P t m e 1] (hx : opnd env x = some (.pointer (some ⟨b, 0, none⟩))) (hlo : opnd env y = some (.int .i64 i)) (hhi : opnd env z = some (.int .i64 j)) (hi : i = (k : Nat)) (hj : j = (k : Int) + (q : Nat)) (hqm : k + q ≤ m) (hkm : k < m) :
    Runs P n env F (.slice t x (some y) (some z) none) (.slice (some ⟨b, k, none⟩) q (m - k)) := by
  have h := Runs.sliceArr (P := P) (n := n) (env := env) (F := F) (t := t) (x := x) (lo := some y) (up := some z) (b := b) (m := m) (i := i) (j := j) k (k + q) hx (by simp [bnd, hlo]) (by simp [bnd, hhi]) hi (by omega) (by omega) hqm hkm
  rw [Nat.add_sub_cancel_left] at h; exact h
section
variable (b sz : Nat) (tx : List UInt8)
theorem bytes_put (g : FuncId) [hg : Own Tryz.prog g] (first cap : List Value) (E : HProp) (k0 nn : Nat) (d : List UInt8) (hnn : d.length = nn) (hfit : k0 + d.length ≤ sz)
    (hfill : ∀ (rb k mm i : Nat) (row : List UInt8) (w : World) (F : List HProp), k + mm ≤ 64 → 0 < mm → i + mm ≤ d.length → holds w (byB 274 rb 64 row :: E :: F) → Ct Tryz.prog g (first ++ [Value.slice (some ⟨rb, k, none⟩) mm (64 - k), Value.int .i64 (i : Nat)] ++ cap).toArray w fun e w' => e = .returned (.tuple #[]) ∧ holds w' (byB 274 rb 64 (By.splice row k ((d.drop i).take mm)) :: E :: F))
    (w : World) (F : List HProp) (hw : holds w (bytesP b sz tx :: E :: F)) :
    Ct Tryz.prog 169 #[.pointer (some ⟨b, 0, none⟩), .int .i64 (k0 : Nat), .int .i64 (nn : Nat), .func (.func g) first.toArray cap.toArray] w fun e w' => e = .returned (.tuple #[]) ∧ holds w' (bytesP b sz (By.splice tx k0 d) :: E :: F) := by
  subst hnn
  obtain ⟨m, am, ⟨e1, e2, e3, e4⟩, h1⟩ := bytesP.open hw
  refine Ct.go (args := [.pointer (some ⟨b, 0, none⟩), .int .i64 (k0 : Nat), .int .i64 (d.length : Nat), .func (.func g) first.toArray cap.toArray]) Tryz.func169 rfl rfl rfl h1 ?_
  repeat' (first | (apply qac; first | refine qa6 rfl ?_ | (apply qaj; first | refine qah rfl rfl rfl rfl rfl ?_ | refine qae rfl rfl rfl rfl rfl ?_ | refine qaf rfl rfl rfl rfl rfl ?_) | refine qam rfl rfl ?_ | refine qao rfl rfl rfl ?_ | refine qan rfl rfl rfl ?_ | (apply qaw; first | refine qa5 rfl rfl (fun _ => ?_) | refine qa7 rfl rfl rfl (fun _ => ?_) | refine GL.box rfl rfl (fun _ => ?_)) | (apply qai; first | refine qaa rfl rfl rfl rfl rfl (fun _ => ?_) | refine qab rfl rfl rfl rfl rfl (fun _ => ?_)) | (apply GL.isCall; refine qal _ rfl rfl rfl rfl (by rfl) (by omega) (by omega) rfl (fun _ => ?_)) | (apply qak; refine GL.alloc rfl (fun _ => ?_))) | apply GL.nil | first | apply G.seq | apply G.region | apply G.block | apply G.skip | apply G.exit | apply G.ret | (apply qag; first | refine qbd rfl ?_ | refine qbe rfl ?_) | refine qbi (by kernel_rfl) (by kernel_rfl) ?_ | (apply qa3; first | apply qa4 | apply qa1 | apply qar | apply qas | apply qa2 | apply qa0 | apply qap | refine qaq rfl ?_ | apply qa9) | (apply qad; first | refine qba rfl ?_ | refine qat rfl rfl ?_ | refine qav rfl rfl rfl ?_ | refine qau rfl rfl rfl ?_) | apply qbc | apply qbb | (apply qaz; refine qa8 rfl rfl ?_) | ((first | (apply qac; refine GL.guard rfl rfl (fun hc => ?_) (fun hc => ?_)) | (apply qag; refine G.cond rfl (fun hc => ?_) (fun hc => ?_)) | (apply qad; refine GD.guard rfl rfl (fun hc => ?_) (fun hc => ?_))) <;> ((try simp only [decide_eq_true_eq, decide_eq_false_iff_not, Bool.not_true, Bool.not_false, ne_eq, Classical.not_not, Int.not_lt, Int.not_le] at hc); (try (exfalso; first | omega | exact hc trivial | exact hc rfl)))))
  refine G.loopK [0, 1, 2, 3] (Nat × List (Int × List UInt8)) (fun y => [(8, .int .i64 y.1)]) (fun y => blk b (.cells #[.map (some m), .int .i64 (sz : Nat)] 219 (0, 0)) :: imap encRow m y.2 :: E :: F) (fun y => y.1 ≤ d.length ∧ By.Rows y.2 (By.splice tx k0 (d.take y.1))) (fun y => d.length - y.1) ((0, am)) (⟨Nat.zero_le _, by rw [List.take_zero, By.splice_nil]; exact e4⟩) (by repeat (first | exact trivial | refine And.intro rfl ?_)) (fun w h => by (try dsimp only); first | exact h | exact h.sub | ((try simp only [List.take_zero, List.drop_zero, List.map_nil, List.nil_append, List.zipIdx_nil, List.filter_nil]); exact h.sub)) ?_
  rintro ⟨i, am2⟩ ⟨hi, hR⟩
  dsimp only at hi hR ⊢
  by_cases hlt : i < d.length
  · obtain ⟨a, ha⟩ : ∃ a, a = (k0 + i) / 64 := ⟨_, rfl⟩
    obtain ⟨k, hk⟩ : ∃ k, k = (k0 + i) % 64 := ⟨_, rfl⟩
    obtain ⟨mm, hm⟩ : ∃ mm, mm = min (64 - k) (d.length - i) := ⟨_, rfl⟩
    have hda : ((k0 : Int) + i) / 64 = (a : Nat) := by omega
    have hdk : ((k0 : Int) + i) % 64 = (k : Nat) := by omega
    have hdm : min (64 - (k : Int)) ((d.length : Int) - i) = (mm : Nat) := by omega
    have hl : (By.splice tx k0 (d.take i)).length = sz := by rw [By.splice_len _ _ _ (by rw [List.length_take]; omega)]; exact e1
    generalize ht : By.splice tx k0 (d.take i) = t at hR hl
    have ha64 : 64 * a < t.length := by omega
    have hrow := hR.get a ha64
    have hrl := By.row_len t a (by omega)
    have hsl : ((d.drop i).take mm).length = mm := by rw [List.length_take, List.length_drop]; omega
    have hput := hR.put (by omega) a k (s := (d.drop i).take mm) (by omega) ha64
    have hmore := By.splice_more tx d k0 i mm (by omega) (by omega)
    rw [ht, show k0 + i = 64 * a + k by omega] at hmore
    rw [hmore] at hput
    have hsp : (By.splice (By.row t a) k ((d.drop i).take mm)).length = 64 := by rw [By.splice_len _ _ _ (by omega)]; exact hrl
    have hz : By.zrow.length = 64 := rfl
    have hF := fun rb w F h => hfill rb k mm i (By.row t a) w F (by omega) (by omega) (by omega) h
    generalize hq : By.splice (By.row t a) k ((d.drop i).take mm) = q at hput hsp hF
    have hn : (i : Int) + mm = ((i + mm : Nat) : Int) := by omega
    repeat' (first | (first | (refine qbj 3 ?_; rw [hda, hdk]; apply G.region) | (refine qbj 5 ?_; rw [hdm]; apply G.region) | (apply qac; refine GL.run (v := encRow (By.row t a)) (by apply Runs.isLookup; rw [← hrow]; exact Runs.lookRow rfl rfl) rfl ?_) | (apply qak; refine GL.alloc rfl (fun rb => ?_)) | (apply qaj; refine GL.storeBy (l := By.row t a) rfl rfl hrl rfl ?_) | (apply qac; refine GL.run (by apply Runs.isSlice; exact Runs.sliceArrM k mm rfl rfl rfl rfl rfl (by omega) (by omega)) rfl ?_) | (apply GL.isCall; refine GL.callV1 (first := first) (captured := cap) (vs := [.slice (some ⟨rb, k, none⟩) mm (64 - k), .int .i64 (i : Nat)]) rfl rfl rfl (fun w h => hF rb w (blk b (.cells #[.map (some m), .int .i64 (sz : Nat)] 219 (0, 0)) :: imap encRow m am2 :: F) h.sub) ?_) | (apply qac; refine GL.run (by apply Runs.isLoad; exact Runs.loadBy rfl) rfl ?_) | (apply qac; refine GL.run (by apply Runs.isBin; exact Runs.eqlBy (m := 64) (l := q) (r := By.zrow) rfl rfl hsp hz) rfl ?_) | refine G.drawTail 6 (by kernel_rfl) (by simp only [List.take_succ_cons, List.take_zero]; rfl) (by simp only [List.drop_succ_cons, List.drop_zero]; rfl) (by kernel_rfl) ?_ | (apply qad; refine GD.run (by apply Runs.isLoad; exact Runs.loadBy rfl) rfl ?_) | (refine GL.mapDelete rfl rfl rfl ?_) | (refine GL.mapUpdate q rfl rfl rfl rfl ?_)) | first | (apply qac; first | refine qa6 rfl ?_ | (apply qaj; first | refine qah rfl rfl rfl rfl rfl ?_ | refine qae rfl rfl rfl rfl rfl ?_ | refine qaf rfl rfl rfl rfl rfl ?_) | refine qam rfl rfl ?_ | refine qao rfl rfl rfl ?_ | refine qan rfl rfl rfl ?_ | (apply qaw; first | refine qa5 rfl rfl (fun _ => ?_) | refine qa7 rfl rfl rfl (fun _ => ?_) | refine GL.box rfl rfl (fun _ => ?_)) | (apply qai; first | refine qaa rfl rfl rfl rfl rfl (fun _ => ?_) | refine qab rfl rfl rfl rfl rfl (fun _ => ?_)) | (apply GL.isCall; refine qal _ rfl rfl rfl rfl (by rfl) (by omega) (by omega) rfl (fun _ => ?_)) | (apply qak; refine GL.alloc rfl (fun _ => ?_))) | apply GL.nil | first | apply G.seq | apply G.region | apply G.block | apply G.skip | apply G.exit | apply G.ret | (apply qag; first | refine qbd rfl ?_ | refine qbe rfl ?_) | refine qbi (by kernel_rfl) (by kernel_rfl) ?_ | (apply qa3; first | apply qa4 | apply qa1 | apply qar | apply qas | apply qa2 | apply qa0 | apply qap | refine qaq rfl ?_ | apply qa9) | (apply qad; first | refine qba rfl ?_ | refine qat rfl rfl ?_ | refine qav rfl rfl rfl ?_ | refine qau rfl rfl rfl ?_) | apply qbc | apply qbb | (apply qaz; refine qa8 rfl rfl ?_) | ((first | (apply qac; refine GL.guard rfl rfl (fun hc => ?_) (fun hc => ?_)) | (apply qag; refine G.cond rfl (fun hc => ?_) (fun hc => ?_)) | (apply qad; refine GD.guard rfl rfl (fun hc => ?_) (fun hc => ?_))) <;> ((try simp only [decide_eq_true_eq, decide_eq_false_iff_not, Bool.not_true, Bool.not_false, ne_eq, Classical.not_not, Int.not_lt, Int.not_le] at hc); (try (exfalso; first | omega | exact hc trivial | exact hc rfl)))))
    all_goals (first | (exfalso; omega) | skip)
    · have hp : By.putRow am2 a q = alDel am2 a := by unfold By.putRow; rw [if_pos hc]
      rw [hp] at hput
      rw [hn]
      refine GE.round ((i + mm, alDel am2 a)) (⟨by omega, hput⟩) (by repeat (first | exact trivial | refine And.intro rfl ?_)) (fun w h => by (try dsimp only); exact h.sub) (by (try dsimp only); omega)
    · have hp : By.putRow am2 a q = alSet am2 a q := by unfold By.putRow; rw [if_neg hc]
      rw [hp] at hput
      rw [hn]
      refine GE.round ((i + mm, alSet am2 a q)) (⟨by omega, hput⟩) (by repeat (first | exact trivial | refine And.intro rfl ?_)) (fun w h => by (try dsimp only); exact h.sub) (by (try dsimp only); omega)
  · obtain rfl : i = d.length := by omega
    rw [List.take_of_length_le (Nat.le_refl _)] at hR
    repeat' (first | (apply qac; first | refine qa6 rfl ?_ | (apply qaj; first | refine qah rfl rfl rfl rfl rfl ?_ | refine qae rfl rfl rfl rfl rfl ?_ | refine qaf rfl rfl rfl rfl rfl ?_) | refine qam rfl rfl ?_ | refine qao rfl rfl rfl ?_ | refine qan rfl rfl rfl ?_ | (apply qaw; first | refine qa5 rfl rfl (fun _ => ?_) | refine qa7 rfl rfl rfl (fun _ => ?_) | refine GL.box rfl rfl (fun _ => ?_)) | (apply qai; first | refine qaa rfl rfl rfl rfl rfl (fun _ => ?_) | refine qab rfl rfl rfl rfl rfl (fun _ => ?_)) | (apply GL.isCall; refine qal _ rfl rfl rfl rfl (by rfl) (by omega) (by omega) rfl (fun _ => ?_)) | (apply qak; refine GL.alloc rfl (fun _ => ?_))) | apply GL.nil | first | apply G.seq | apply G.region | apply G.block | apply G.skip | apply G.exit | apply G.ret | (apply qag; first | refine qbd rfl ?_ | refine qbe rfl ?_) | refine qbi (by kernel_rfl) (by kernel_rfl) ?_ | (apply qa3; first | apply qa4 | apply qa1 | apply qar | apply qas | apply qa2 | apply qa0 | apply qap | refine qaq rfl ?_ | apply qa9) | (apply qad; first | refine qba rfl ?_ | refine qat rfl rfl ?_ | refine qav rfl rfl rfl ?_ | refine qau rfl rfl rfl ?_) | apply qbc | apply qbb | (apply qaz; refine qa8 rfl rfl ?_) | ((first | (apply qac; refine GL.guard rfl rfl (fun hc => ?_) (fun hc => ?_)) | (apply qag; refine G.cond rfl (fun hc => ?_) (fun hc => ?_)) | (apply qad; refine GD.guard rfl rfl (fun hc => ?_) (fun hc => ?_))) <;> ((try simp only [decide_eq_true_eq, decide_eq_false_iff_not, Bool.not_true, Bool.not_false, ne_eq, Classical.not_not, Int.not_lt, Int.not_le] at hc); (try (exfalso; first | omega | exact hc trivial | exact hc rfl)))))
    all_goals (first | (exfalso; omega) | skip)
    (first | refine GE.res0 (.inl rfl) rfl (fun w h => ?_) | refine GE.res0 (.inr rfl) rfl (fun w h => ?_))
    exact ⟨rfl, bytesP.shut (m := m) ⟨by rw [By.splice_len _ _ _ (by omega)]; exact e1, e2, e3, hR⟩ h.sub⟩
theorem bytes_Store1 (rb sb k mm i : Nat) (row s : List UInt8) (hk : k + mm ≤ 64) (hi : i + mm ≤ s.length) (w : World) (F : List HProp) (hw : holds w (byB 274 rb 64 row :: blk sb (.cells #[.string (bs s)] 9 (0, 0)) :: F)) :
    Ct Tryz.prog 170 #[.slice (some ⟨rb, k, none⟩) mm (64 - k), .int .i64 (i : Nat), .pointer (some ⟨sb, 0, none⟩)] w fun e w' => e = .returned (.tuple #[]) ∧ holds w' (byB 274 rb 64 (By.splice row k ((s.drop i).take mm)) :: blk sb (.cells #[.string (bs s)] 9 (0, 0)) :: F) := by
  refine Ct.go (args := [.slice (some ⟨rb, k, none⟩) mm (64 - k), .int .i64 (i : Nat), .pointer (some ⟨sb, 0, none⟩)]) Tryz.func170 rfl rfl rfl hw ?_
  repeat' (first | (first | (apply qac; refine GL.run (by apply Runs.isSlice; exact Runs.strFrom (a := i) rfl rfl rfl (by omega)) rfl ?_) | (refine GL.copyBS (s := s.drop i) rfl rfl (by rw [List.length_drop]; omega) (by omega) rfl ?_)) | first | (apply qac; first | refine qa6 rfl ?_ | (apply qaj; first | refine qah rfl rfl rfl rfl rfl ?_ | refine qae rfl rfl rfl rfl rfl ?_ | refine qaf rfl rfl rfl rfl rfl ?_) | refine qam rfl rfl ?_ | refine qao rfl rfl rfl ?_ | refine qan rfl rfl rfl ?_ | (apply qaw; first | refine qa5 rfl rfl (fun _ => ?_) | refine qa7 rfl rfl rfl (fun _ => ?_) | refine GL.box rfl rfl (fun _ => ?_)) | (apply qai; first | refine qaa rfl rfl rfl rfl rfl (fun _ => ?_) | refine qab rfl rfl rfl rfl rfl (fun _ => ?_)) | (apply GL.isCall; refine qal _ rfl rfl rfl rfl (by rfl) (by omega) (by omega) rfl (fun _ => ?_)) | (apply qak; refine GL.alloc rfl (fun _ => ?_))) | apply GL.nil | first | apply G.seq | apply G.region | apply G.block | apply G.skip | apply G.exit | apply G.ret | (apply qag; first | refine qbd rfl ?_ | refine qbe rfl ?_) | refine qbi (by kernel_rfl) (by kernel_rfl) ?_ | (apply qa3; first | apply qa4 | apply qa1 | apply qar | apply qas | apply qa2 | apply qa0 | apply qap | refine qaq rfl ?_ | apply qa9) | (apply qad; first | refine qba rfl ?_ | refine qat rfl rfl ?_ | refine qav rfl rfl rfl ?_ | refine qau rfl rfl rfl ?_) | apply qbc | apply qbb | (apply qaz; refine qa8 rfl rfl ?_) | ((first | (apply qac; refine GL.guard rfl rfl (fun hc => ?_) (fun hc => ?_)) | (apply qag; refine G.cond rfl (fun hc => ?_) (fun hc => ?_)) | (apply qad; refine GD.guard rfl rfl (fun hc => ?_) (fun hc => ?_))) <;> ((try simp only [decide_eq_true_eq, decide_eq_false_iff_not, Bool.not_true, Bool.not_false, ne_eq, Classical.not_not, Int.not_lt, Int.not_le] at hc); (try (exfalso; first | omega | exact hc trivial | exact hc rfl)))))
  (first | refine GE.res0 (.inl rfl) rfl (fun w h => ?_) | refine GE.res0 (.inr rfl) rfl (fun w h => ?_))
  exact ⟨rfl, h.sub⟩
theorem bytes_Wipe1 (rb k mm i : Nat) (row : List UInt8) (hk : k + mm ≤ 64) (hm : 0 < mm) (w : World) (F : List HProp) (hw : holds w (byB 274 rb 64 row :: F)) :
    Ct Tryz.prog 224 #[.slice (some ⟨rb, k, none⟩) mm (64 - k), .int .i64 (i : Nat)] w fun e w' => e = .returned (.tuple #[]) ∧ holds w' (byB 274 rb 64 (By.splice row k (List.replicate mm 0)) :: F) := by
  refine Ct.go (args := [.slice (some ⟨rb, k, none⟩) mm (64 - k), .int .i64 (i : Nat)]) Tryz.func224 rfl rfl rfl hw ?_
  repeat' (first | ((refine GL.clearBy rfl hm (by omega) ?_)) | first | (apply qac; first | refine qa6 rfl ?_ | (apply qaj; first | refine qah rfl rfl rfl rfl rfl ?_ | refine qae rfl rfl rfl rfl rfl ?_ | refine qaf rfl rfl rfl rfl rfl ?_) | refine qam rfl rfl ?_ | refine qao rfl rfl rfl ?_ | refine qan rfl rfl rfl ?_ | (apply qaw; first | refine qa5 rfl rfl (fun _ => ?_) | refine qa7 rfl rfl rfl (fun _ => ?_) | refine GL.box rfl rfl (fun _ => ?_)) | (apply qai; first | refine qaa rfl rfl rfl rfl rfl (fun _ => ?_) | refine qab rfl rfl rfl rfl rfl (fun _ => ?_)) | (apply GL.isCall; refine qal _ rfl rfl rfl rfl (by rfl) (by omega) (by omega) rfl (fun _ => ?_)) | (apply qak; refine GL.alloc rfl (fun _ => ?_))) | apply GL.nil | first | apply G.seq | apply G.region | apply G.block | apply G.skip | apply G.exit | apply G.ret | (apply qag; first | refine qbd rfl ?_ | refine qbe rfl ?_) | refine qbi (by kernel_rfl) (by kernel_rfl) ?_ | (apply qa3; first | apply qa4 | apply qa1 | apply qar | apply qas | apply qa2 | apply qa0 | apply qap | refine qaq rfl ?_ | apply qa9) | (apply qad; first | refine qba rfl ?_ | refine qat rfl rfl ?_ | refine qav rfl rfl rfl ?_ | refine qau rfl rfl rfl ?_) | apply qbc | apply qbb | (apply qaz; refine qa8 rfl rfl ?_) | ((first | (apply qac; refine GL.guard rfl rfl (fun hc => ?_) (fun hc => ?_)) | (apply qag; refine G.cond rfl (fun hc => ?_) (fun hc => ?_)) | (apply qad; refine GD.guard rfl rfl (fun hc => ?_) (fun hc => ?_))) <;> ((try simp only [decide_eq_true_eq, decide_eq_false_iff_not, Bool.not_true, Bool.not_false, ne_eq, Classical.not_not, Int.not_lt, Int.not_le] at hc); (try (exfalso; first | omega | exact hc trivial | exact hc rfl)))))

  (first | refine GE.res0 (.inl rfl) rfl (fun w h => ?_) | refine GE.res0 (.inr rfl) rfl (fun w h => ?_))
  exact ⟨rfl, h.sub⟩
end
end Go.Proofs.YtipkgamiejenaaaGreat
