/- Drawn regions that make rows and variables, whose shape is told. -/
import Derived.Test.YtlniadnlomnlaaaGoWr
import Derived.Test.YtlniadnlomnlaaaGoSl
namespace Go.Proofs.Ytlniadnlomnlaaa
open Go Go.RowKit Go.MapKept
set_option linter.unusedVariables false
set_option linter.unusedSectionVars false
set_option linter.unusedSimpArgs false

def IsSl (a b : Nat) (u : Value) : Prop := ∃ g, u = .slice (some ⟨g, 0, none⟩) a b
theorem IsSl.defd {a b : Nat} {u : Value} (h : IsSl a b u) : isUndef u = false := by obtain ⟨g, rfl⟩ := h; rfl
def IsPt (u : Value) : Prop := ∃ g, u = .pointer (some ⟨g, 0, none⟩)
theorem IsPt.defd {u : Value} (h : IsPt u) : isUndef u = false := by obtain ⟨g, rfl⟩ := h; rfl
/-- The block of a pointer. -/
def ptB : Value → Nat
  | .pointer (some a) => a.block
  | _ => 0
section
variable {P : Program} {n : Nat} {env : Env} {F : List HProp} {ops : Array Oper} {Q : Exit → Act → World → Prop} {Z : Act → Prop} {k : Nat} {rest : List Oper} {d : Tmp} {ty : TypeId} {pos : String} {aft : Array Edge} {E : List Wff} {V : List (Nat × List Nat)}
theorem DoesW.makeSl {α : Type} {m : Nat} {t e : TypeId} {x y : Operand} {size bytes : Nat} {z : Value} {i c : Int} {L : List HProp} (enc : α → List Value) [he : Enc enc m] (z0 : α) (a b : Nat) [ht : SliceT P t e size] [hz : ZeroT P e z m bytes] (hz0 : z.cells.toList = enc z0) (hx : opnd env x = some (.int .i64 i)) (hy : opnd env y = some (.int .i64 c)) (hi : i = (a : Int)) (hc : c = (b : Int)) (hab : a ≤ b) (hb : bytes * b ≤ 281474976710656) (h63 : b ≤ maxLen) :
    DoesW P n env F [] L (.makeSlice t x y) (IsSl a b) (fun u => owns e enc m u (List.replicate a z0)) := ⟨fun ac w F' ty pos aft g d hf hw => by
  subst hi hc
  obtain ⟨it, g1, g2, g3⟩ := ht.ok
  obtain ⟨iz, k1, k2, k3, k4, k5⟩ := hz.ok
  have hb' : (iz.bytes : Int) * (b : Int) ≤ 281474976710656 := by
    rw [k4]
    have h1 : ((bytes * b : Nat) : Int) ≤ 281474976710656 := by omega
    rwa [Int.natCast_mul] at h1
  have h63' : (b : Int) ≤ 9223372036854775807 := by
    have h1 := h63
    simp [maxLen] at h1
    omega
  obtain ⟨hr, hh⟩ := run_make_sl (P := P) (t := t) (e := e) (size := m) g1 k1 k2 k3 hw .i64 .i64 (x := a) (c := b) (by omega) (by omega) hb' h63'
  simp only [Int.toNat_natCast] at hr hh
  simp only [execOp, hf.eval hx, hf.eval hy, Sem.run_bind, Sem.run_pure, hr, Result.andThen_ok, looseUpon]
  refine ⟨⟨_, rfl⟩, ?_⟩
  rw [made_flat z0 hz0 a b hab] at hh
  have e1 : owns e enc m (.slice (some ⟨w.heap.size, 0, none⟩) a b) (List.replicate a z0) = ownRow e m (.slice (some ⟨w.heap.size, 0, none⟩) a b) a ((List.replicate a z0).flatMap enc) := by
    unfold owns; rw [List.length_replicate]
  rw [e1]; simpa using hh⟩
theorem DoesW.alloc {e : TypeId} {z : Value} {size bytes : Nat} {L : List HProp} [hz : ZeroT P e z size bytes] : DoesW P n env F [] L (.alloc e) IsPt (fun u => blk (ptB u) (.cells z.cells e (0, 0))) := ⟨fun ac w F' ty pos aft g d hf hw => by
  obtain ⟨i, h1, h2, _⟩ := hz.ok
  have hr : (execOp ac.eval ⟨d, .alloc e, ty, pos, aft, g⟩).run P w = .ok (.value (.pointer (some ⟨w.heap.size, 0, none⟩))) (w.alloc (.cells z.cells e (0, 0))) := by
    simp [execOp, Instr.alloc, zeroValue, typeInfo, h1, h2, newVar, newRow, run_newObj, Result.andThen]
  rw [hr]
  exact ⟨⟨_, rfl⟩, by simpa [ptB] using hw.alloc (.cells z.cells e (0, 0))⟩⟩
/-- A store whose new state hangs on a slot that is known. -/
theorem GW.storeOn {op : Op} {i : Nat} {e : Wff} {d7 : Tmp} {v7 : Value} {T L : List HProp} (hi : wffIdx E 0 k = some (i, e)) (hE : E[i]? = some e) (hek : e.k = some k) (hed : e.d = some d7) (h7 : look env d7 = some v7) (hu7 : isUndef v7 = false) (hT : wffNow E env e.takes = some T) (hdef : wffDef E env e.takes) (hL : wffNow E env (seenBy V k) = some L) (hdefL : wffDef E env (seenBy V k)) (hR : e.R = fun _ => True) (hD : DoesW P n env F T L op (fun _ => True) (fun _ => e.piece v7))
    (h : GW P n ops E V F Z (k + 1) rest env) : GW P n ops E V F Z k (⟨none, op, ty, pos, aft, none⟩ :: rest) env := ⟨fun a hf => by
  refine tok_op (R := fun _ => True) T L (fun u => [e.piece v7]) ?_ ?_ ?_ rfl (fun u hu => ?_) (fun w F' hw => ?_) (fun u hu => h.out _ (hf.put0 u))
  · simp only [wffS, hi]; exact wffNow_at hf _ _ hT hdef
  · simp only [wffS, hi]; exact wffNow_at hf _ _ hL hdefL
  · simp only [wffS, hi, hR]
  · simp only [wffS, hi]
    refine wffNow_at (hf.put0 u) [i] [e.piece v7] ?_ ⟨⟨e, hE, .inr (.inr ⟨d7, v7, hed, h7, hu7⟩)⟩, trivial⟩
    simp [wffNow, hE, hek, hed, h7]
  · have := hD.out a w F' ty pos aft none none hf (by simpa using hw)
    simpa using this⟩
end
end Go.Proofs.Ytlniadnlomnlaaa
