import Derived.Test.YtipkgamiejenaaaGreatMg7
import Derived.Test.YtipkgamiejenaaaGreatLooseT
import Derived.Test.YtipkgamiejenaaaGreatMg24
import Derived.Test.YtipkgamiejenaaaGreatGoMem
/- A drawn region where one operation that only moves a value is taken ahead of all; then a head that only reads; the rest comes up in one order. -/
namespace Go.Proofs.YtipkgamiejenaaaGreat
open Go Go.RowKit Go.MapKept
set_option linter.unusedVariables false
set_option linter.unusedSectionVars false
set_option linter.unusedSimpArgs false

def seqL (md : Region.Mode) (ops : Array Oper) : List Nat → Array Bool → Bool
  | [], l => (Region.ready md ops l).isEmpty
  | i :: is, l => decide (Region.ready md ops l = [i]) && seqL md ops is (l.setIfInBounds i true)
section
variable {P : Program} {n : Nat} {ops : Array Oper} {md : Region.Mode} {F : List HProp} {Z : Act → Prop} {Q : Exit → Act → World → Prop} {env : Env} {ty : TypeId} {pos : String} {aft : Array Edge}
theorem wpAny_of_seqL {Q' : Exit → Act → World → Prop} : ∀ (l : List Oper) (is : List Nat) (listed : Array Bool) (a : Act) (w : World), (is.map fun i => ops[i]?) = l.map some → seqL md ops is listed = true → wpList P ops Q' l a w → wpAny P md ops Q' is.length listed a w
  | [], [], listed, a, w, _, hB, h => ⟨by simpa [seqL] using hB, h⟩
  | o :: l, i :: is, listed, a, w, hl, hB, h => by
    simp only [List.map_cons, List.cons.injEq] at hl
    obtain ⟨h0, hl⟩ := hl
    simp only [seqL, Bool.and_eq_true, decide_eq_true_eq] at hB
    refine ⟨fun h1 => (by rw [hB.1] at h1; cases h1), fun j hj => ?_⟩
    rw [hB.1] at hj
    have hik : j = i := by simpa using hj
    subst hik
    have hw : wpOp P ops Q' j (wpList P ops Q' l) a w := by unfold wpOp; simp only [h0]; exact h
    exact wpOp_mono (fun a' w' h' => wpAny_of_seqL l is _ a' w' hl hB.2 h') hw
  | [], _ :: _, _, _, _, hl, _, _ => by simp at hl
  | _ :: _, [], _, _, _, hl, _, _ => by simp at hl
theorem loose_congr2 {S S' : Nat → Option LSpec} {Z' : Act → Prop} (hs : bareS S) (hs' : bareS S') (hZ : ∀ a, Z a → Z' a) : ∀ (l : List Oper) (k : Nat) (a : Act), (∀ j, k ≤ j → j < k + l.length → S j = S' j) → wpLoose P ops S F Z k l a → wpLoose P ops S' F Z' k l a
  | [], k, a, _, h => hZ a h
  | o :: l, k, a, he, h => by
    unfold wpLoose at h ⊢
    have ih : ∀ a, wpLoose P ops S F Z (k + 1) l a → wpLoose P ops S' F Z' (k + 1) l a := fun a => loose_congr2 hs hs' hZ l (k + 1) a fun j hj hj2 => he j (by omega) (by simp only [List.length_cons]; omega)
    split at h
    · rename_i hw
      rw [if_pos hw]
      unfold LooseOp at h ⊢
      rw [← he k (Nat.le_refl _) (by simp)]
      cases hS : S k with
      | none =>
        rw [hS] at h
        intro w F' hh
        rw [needs_bareS hs'] at hh
        exact exactUpon_mono (h w F' (by rw [needs_bareS hs]; exact hh)) fun v _ hv => ih _ hv
      | some s =>
        rw [hS] at h
        refine ⟨fun w F' hh => ?_, fun u hu => ih _ (h.2 u hu)⟩
        rw [needs_bareS hs'] at hh ⊢
        have := h.1 w F' (by rw [needs_bareS hs]; exact hh)
        rw [needs_bareS hs] at this
        have e1 : ∀ u, lpieces S k u = lpieces S' k u := fun u => by rw [hs, hs']
        simp only [e1] at this
        exact this
    · rename_i hw
      rw [if_neg hw]
      exact ih _ h
def nthO : List Oper → Nat → Option Oper
  | [], _ => none
  | a :: l, n => bif Nat.beq n 0 then some a else nthO l (n - 1)
theorem nthO_eq : ∀ (l : List Oper) (n : Nat), nthO l n = l[n]?
  | [], n => by simp [nthO]
  | a :: l, 0 => rfl
  | a :: l, n + 1 => by
    show (bif Nat.beq (n + 1) 0 then some a else nthO l (n + 1 - 1)) = _
    rw [show Nat.beq (n + 1) 0 = false from rfl, cond_false, Nat.add_sub_cancel, nthO_eq l n]; rfl
theorem nthO_arr {l : List Oper} {o : Nat} {u : Oper} (h : nthO l o = some u) : l.toArray[o]? = some u := by rw [nthO_eq] at h; simpa using h
inductive PickIs (l : List Oper) : List Nat → List Oper → Prop where
  | nil : PickIs l [] []
  | cons {i : Nat} {o : Oper} {is : List Nat} {os : List Oper} (h : nthO l i = some o) (t : PickIs l is os) : PickIs l (i :: is) (o :: os)
theorem PickIs.eq {l : List Oper} {is : List Nat} {os : List Oper} (h : PickIs l is os) : (is.map fun i => l.toArray[i]?) = os.map some := by
  induction h with
  | nil => rfl
  | cons h t ih => rw [List.map_cons, List.map_cons, ih, nthO_arr h]
/-- A walk stands here. -/
structure GStop (p : Prop) : Prop where
  out : p
theorem G.drawAhead {id : Nat} {l l1 l2 : List Oper} {op : Op} {d : Tmp} {v : Value} (m p : Nat) (is : List Nat) (hm : P.follows .mixedOrders = true) (hp : nthO l p = some ⟨some d, op, ty, pos, aft, none⟩) (h1 : l.take m = l1) (h2 : PickIs l is l2)
    (hB : (((headB .any l.toArray m (listPre l.toArray.size [p]) && looseB l.toArray .any) && (Region.free .any l.toArray (Array.replicate l.toArray.size false) p && (Region.ready .any l.toArray (Array.replicate l.toArray.size false)).contains p && decide (l.toArray.size = m + is.length + 1))) && (Nat.ble m p && Nat.ble m l.length && seqL .any l.toArray is (listTo m 0 (listPre l.toArray.size [p])))) = true)
    (hr : Runs P n env [] op v) (hd : Nat.blt d n = true)
    (h : GD P n l.toArray F (fun a' => ∀ w', holds w' F → wpList P l.toArray (onlyN Q) l2 a' w') 0 l1 ((d, v) :: env)) : G P n (.region id l.toArray true) Q env F := .mk fun a w hf hw => by
  subst h1
  rw [Bool.and_eq_true] at hB
  obtain ⟨hB, hB2⟩ := hB
  simp only [Bool.and_eq_true] at hB2
  obtain ⟨⟨hmp, hml⟩, hsq⟩ := hB2
  have hmp : m ≤ p := Nat.le_of_ble_eq_true hmp
  have hml : m ≤ l.length := Nat.le_of_ble_eq_true hml
  obtain ⟨S, hS, h3⟩ := h.out
  let S' : Nat → Option LSpec := fun i => if i < m then S i else none
  have hS' : bareS S' := by
    intro i u
    have := hS i u
    unfold lpieces at this ⊢
    by_cases hi : i < m
    · simp only [S', hi, if_true]; exact this
    · simp only [S', hi, if_false]
  have htl : (l.take m).length = m := by simp; omega
  refine wp_region_cut2 m p is.length S' F hm (op := ⟨some d, op, ty, pos, aft, none⟩) (v := v) (nthO_arr hp) hB (by simp [Region.wanted]) (fun w => ?_) (by simp [S']; omega) hw ?_
  · exact hr a w ty pos aft none (some d) hf (holds.nil w)
  · exact loose_congr2 hS hS' (fun a' ha' w' hw' => wpAny_of_seqL l2 is _ a' w' h2.eq hsq (ha' w' hw')) _ 0 _ (fun j _ hj => by rw [htl] at hj; simp [S']; intro; omega) (h3 _ (hf.put hd v))
end
end Go.Proofs.YtipkgamiejenaaaGreat

/- Reference 19: Take. -/
namespace Go.Proofs.YtipkgamiejenaaaGreat
open Go Go.RowKit Go.MapKept
set_option linter.unusedVariables false
set_option linter.unusedSimpArgs false
set_option maxRecDepth 100000
set_option maxHeartbeats 4000000
section
variable (v : Value) (t : St.S) (K : Nat) (hI : St.Inv t K) (hK : K ≤ 1000000)
include hI hK
theorem rf19_Take (ow : Int) (w : World) (F : List HProp) (hw : holds w (refS v t :: F)) :
    Ct Tryz.prog 31 #[v, .int .i64 ow] w fun e w' => ∃ v', e = .returned (.tuple #[v', .int .i64 (St.take t ow).2.1, .int .i64 (St.take t ow).2.2]) ∧ holds w' (refS v' (St.take t ow).1 :: F) := by
  obtain ⟨q, ⟨rfl, hev⟩, h1⟩ := refS.open hw
  have hnc := hI.ncap
  have hsl := hI.stk
  unfold St.take
  refine Ct.go (args := [.agg #[.int .i64 (t.size : Nat), .slice q.ca t.ch.length q.cc, .slice q.xa t.tx.length q.xc, .slice q.wa t.wi.length q.wc, .slice q.sa t.stack.length q.sc, .int .i64 q.e0, .int .i64 q.e1, .int .i64 q.e2, .int .i64 q.e3], .int .i64 ow]) Tryz.func31 rfl rfl rfl h1 ?_
  by_cases h0 : ow < 1
  · rw [if_pos h0]
    repeat' (first | (apply qac; first | refine qa6 rfl ?_ | (apply qaj; first | refine qah rfl rfl rfl rfl rfl ?_ | refine qae rfl rfl rfl rfl rfl ?_ | refine qaf rfl rfl rfl rfl rfl ?_) | refine qam rfl rfl ?_ | refine qao rfl rfl rfl ?_ | refine qan rfl rfl rfl ?_ | (apply qaw; first | refine qa5 rfl rfl (fun _ => ?_) | refine qa7 rfl rfl rfl (fun _ => ?_) | refine GL.box rfl rfl (fun _ => ?_)) | (apply qai; first | refine qaa rfl rfl rfl rfl rfl (fun _ => ?_) | refine qab rfl rfl rfl rfl rfl (fun _ => ?_)) | (apply GL.isCall; refine qal _ rfl rfl rfl rfl (by rfl) (by omega) (by omega) rfl (fun _ => ?_)) | (apply qak; refine GL.alloc rfl (fun _ => ?_))) | apply GL.nil | first | apply G.seq | apply G.region | apply G.block | apply G.skip | apply G.exit | apply G.ret | (apply qag; first | refine qbd rfl ?_ | refine qbe rfl ?_) | refine qbi (by kernel_rfl) (by kernel_rfl) ?_ | (apply qa3; first | apply qa4 | apply qa1 | apply qar | apply qas | apply qa2 | apply qa0 | apply qap | refine qaq rfl ?_ | apply qa9) | (apply qad; first | refine qba rfl ?_ | refine qat rfl rfl ?_ | refine qav rfl rfl rfl ?_ | refine qau rfl rfl rfl ?_) | apply qbc | apply qbb | (apply qaz; refine qa8 rfl rfl ?_) | ((first | (apply qac; refine GL.guard rfl rfl (fun hc => ?_) (fun hc => ?_)) | (apply qag; refine G.cond rfl (fun hc => ?_) (fun hc => ?_)) | (apply qad; refine GD.guard rfl rfl (fun hc => ?_) (fun hc => ?_))) <;> ((try simp only [decide_eq_true_eq, decide_eq_false_iff_not, Bool.not_true, Bool.not_false, ne_eq, Classical.not_not, Int.not_lt, Int.not_le] at hc); (try (exfalso; first | omega | exact hc trivial | exact hc rfl)))))
    all_goals (refine qbh rfl (by (repeat (first | apply Res.nil | (apply Res.tmp; rfl) | (refine qax rfl rfl rfl ?_) | (refine qay rfl rfl ?_)))) (fun w h => ?_); exact ⟨_, rfl, refS.shut hev h.sub⟩)
  rw [if_neg h0]
  cases hg : t.stack.getLast? with
  | none =>
    have hs : t.stack = [] := List.getLast?_eq_none_iff.1 hg
    dsimp only
    repeat' (first | ((apply GL.isCall; refine GL.callH1 (owns 3 encI1 1 (.slice q.sa t.stack.length q.sc) t.stack) (vs := [.slice q.sa t.stack.length q.sc]) rfl rfl (fun w h => rf17_TakeN' (.slice q.sa t.stack.length q.sc) t.stack hs w _ h) ?_)) | first | (apply qac; first | refine qa6 rfl ?_ | (apply qaj; first | refine qah rfl rfl rfl rfl rfl ?_ | refine qae rfl rfl rfl rfl rfl ?_ | refine qaf rfl rfl rfl rfl rfl ?_) | refine qam rfl rfl ?_ | refine qao rfl rfl rfl ?_ | refine qan rfl rfl rfl ?_ | (apply qaw; first | refine qa5 rfl rfl (fun _ => ?_) | refine qa7 rfl rfl rfl (fun _ => ?_) | refine GL.box rfl rfl (fun _ => ?_)) | (apply qai; first | refine qaa rfl rfl rfl rfl rfl (fun _ => ?_) | refine qab rfl rfl rfl rfl rfl (fun _ => ?_)) | (apply GL.isCall; refine qal _ rfl rfl rfl rfl (by rfl) (by omega) (by omega) rfl (fun _ => ?_)) | (apply qak; refine GL.alloc rfl (fun _ => ?_))) | apply GL.nil | first | apply G.seq | apply G.region | apply G.block | apply G.skip | apply G.exit | apply G.ret | (apply qag; first | refine qbd rfl ?_ | refine qbe rfl ?_) | refine qbi (by kernel_rfl) (by kernel_rfl) ?_ | (apply qa3; first | apply qa4 | apply qa1 | apply qar | apply qas | apply qa2 | apply qa0 | apply qap | refine qaq rfl ?_ | apply qa9) | (apply qad; first | refine qba rfl ?_ | refine qat rfl rfl ?_ | refine qav rfl rfl rfl ?_ | refine qau rfl rfl rfl ?_) | apply qbc | apply qbb | (apply qaz; refine qa8 rfl rfl ?_) | ((first | (apply qac; refine GL.guard rfl rfl (fun hc => ?_) (fun hc => ?_)) | (apply qag; refine G.cond rfl (fun hc => ?_) (fun hc => ?_)) | (apply qad; refine GD.guard rfl rfl (fun hc => ?_) (fun hc => ?_))) <;> ((try simp only [decide_eq_true_eq, decide_eq_false_iff_not, Bool.not_true, Bool.not_false, ne_eq, Classical.not_not, Int.not_lt, Int.not_le] at hc); (try (exfalso; first | omega | exact hc trivial | exact hc rfl)))))
    all_goals (first | (exfalso; simp at hc; done) | skip)
    all_goals (refine qbh rfl (by (repeat (first | apply Res.nil | (apply Res.tmp; rfl) | (refine qax rfl rfl rfl ?_) | (refine qay rfl rfl ?_)))) (fun w h => ?_); exact ⟨_, rfl, refS.shut hev h.sub⟩)
  | some i =>
    have hs := St.snoc_last hg
    obtain ⟨k, hk, rfl, hp⟩ := (hI.free i).1 (by rw [← hs]; simp)
    dsimp only
    rw [t.c_eq k hk]
    obtain ⟨b0, b1, b2, b3⟩ := hI.ev4 hK hev
    repeat' (first | (first | (apply GL.isCall; refine GL.callH (owns 3 encI1 1 (.slice q.sa t.stack.length q.sc) t.stack) (vs := [.slice q.sa t.stack.length q.sc]) rfl rfl (fun w h => rf17_TakeY' (.slice q.sa t.stack.length q.sc) t.stack t.stack.dropLast k hs (by omega) w _ h) (fun r => ?_)) | (refine qbj 7 ?_; refine G.drawAhead 10 11 [10, 12, 13, 14] (by kernel_rfl) rfl (by simp only [List.take_succ_cons, List.take_zero]; rfl) (by repeat (first | exact PickIs.nil | apply PickIs.cons rfl)) (by kernel_rfl) (Runs.move rfl) rfl ?_) | (apply GL.isCall; refine GL.callH (owns 84 encCk 3 (.slice q.ca t.ch.length q.cc) t.ch) (vs := [.agg #[.int .i64 (t.size : Nat), .slice q.ca t.ch.length q.cc, .slice q.xa t.tx.length q.xc, .slice q.wa t.wi.length q.wc, .slice r.1 t.stack.dropLast.length r.2, .int .i64 q.e0, .int .i64 q.e1, .int .i64 q.e2, .int .i64 q.e3], .int .i64 k, .agg (encCk ⟨1, ow, (t.ch[k]).gen⟩).toArray, .int .i64 0]) rfl rfl (fun w h => rf19_with0 (t.size : Nat) q.ca q.xa q.wa r.1 q.cc t.tx.length q.xc t.wi.length q.wc t.stack.dropLast.length r.2 q.e0 q.e1 q.e2 q.e3 b0 t.ch hnc k hk ⟨1, ow, (t.ch[k]).gen⟩ w _ h) (fun r2 => ?_))) | first | (apply qac; first | refine qa6 rfl ?_ | (apply qaj; first | refine qah rfl rfl rfl rfl rfl ?_ | refine qae rfl rfl rfl rfl rfl ?_ | refine qaf rfl rfl rfl rfl rfl ?_) | refine qam rfl rfl ?_ | refine qao rfl rfl rfl ?_ | refine qan rfl rfl rfl ?_ | (apply qaw; first | refine qa5 rfl rfl (fun _ => ?_) | refine qa7 rfl rfl rfl (fun _ => ?_) | refine GL.box rfl rfl (fun _ => ?_)) | (apply qai; first | refine qaa rfl rfl rfl rfl rfl (fun _ => ?_) | refine qab rfl rfl rfl rfl rfl (fun _ => ?_)) | (apply GL.isCall; refine qal _ rfl rfl rfl rfl (by rfl) (by omega) (by omega) rfl (fun _ => ?_)) | (apply qak; refine GL.alloc rfl (fun _ => ?_))) | apply GL.nil | first | apply G.seq | apply G.region | apply G.block | apply G.skip | apply G.exit | apply G.ret | (apply qag; first | refine qbd rfl ?_ | refine qbe rfl ?_) | refine qbi (by kernel_rfl) (by kernel_rfl) ?_ | (apply qa3; first | apply qa4 | apply qa1 | apply qar | apply qas | apply qa2 | apply qa0 | apply qap | refine qaq rfl ?_ | apply qa9) | (apply qad; first | refine qba rfl ?_ | refine qat rfl rfl ?_ | refine qav rfl rfl rfl ?_ | refine qau rfl rfl rfl ?_) | apply qbc | apply qbb | (apply qaz; refine qa8 rfl rfl ?_) | ((first | (apply qac; refine GL.guard rfl rfl (fun hc => ?_) (fun hc => ?_)) | (apply qag; refine G.cond rfl (fun hc => ?_) (fun hc => ?_)) | (apply qad; refine GD.guard rfl rfl (fun hc => ?_) (fun hc => ?_))) <;> ((try simp only [decide_eq_true_eq, decide_eq_false_iff_not, Bool.not_true, Bool.not_false, ne_eq, Classical.not_not, Int.not_lt, Int.not_le] at hc); (try (exfalso; first | omega | exact hc trivial | exact hc rfl)))))
    all_goals (refine qbh rfl (by (repeat (first | apply Res.nil | (apply Res.tmp; rfl) | (refine qax rfl rfl rfl ?_) | (refine qay rfl rfl ?_)))) (fun w h => ?_); exact ⟨_, rfl, refS.shut (t := { t with stack := t.stack.dropLast, ch := t.ch.set k ⟨1, ow, (t.ch[k]).gen⟩, ev := St.up t.ev 0 }) (by rw [hev]; rfl) h.sub⟩)
end
end Go.Proofs.YtipkgamiejenaaaGreat

/- Reference 19: Step. -/
namespace Go.Proofs.YtipkgamiejenaaaGreat
open Go Go.RowKit Go.MapKept
set_option linter.unusedVariables false
set_option linter.unusedSectionVars false
set_option linter.unusedSimpArgs false
set_option maxRecDepth 100000
set_option maxHeartbeats 4000000
section
variable (v : Value) (t : St.S) (K : Nat) (hI : St.Inv t K) (hK : K ≤ 1000000)
include hI hK
theorem rf19_Step (i n : Int) (w : World) (F : List HProp) (hw : holds w (refS v t :: F)) :
    Ct Tryz.prog 72 #[v, .int .i64 i, .int .i64 n] w fun e w' => ∃ v', e = .returned (.tuple #[v', .bool (St.step t i n).2.1, .int .i64 (St.step t i n).2.2]) ∧ holds w' (refS v' (St.step t i n).1 :: F) := by
  obtain ⟨q, ⟨rfl, hev⟩, h1⟩ := refS.open hw
  have hnc := hI.ncap
  have hn1 := hI.n1
  have hn2 := hI.n2
  have hsl := hI.stk
  obtain ⟨b0, b1, b2, b3⟩ := hI.ev4 hK hev
  unfold St.step
  refine Ct.go (args := [.agg #[.int .i64 (t.size : Nat), .slice q.ca t.ch.length q.cc, .slice q.xa t.tx.length q.xc, .slice q.wa t.wi.length q.wc, .slice q.sa t.stack.length q.sc, .int .i64 q.e0, .int .i64 q.e1, .int .i64 q.e2, .int .i64 q.e3], .int .i64 i, .int .i64 n]) Tryz.func72 rfl rfl rfl h1 ?_
  by_cases ho : t.out i
  · rw [if_pos (Or.inl ho)]
    have hd : decide (0 ≤ i ∧ i < (t.ch.length : Int)) = false := decide_eq_false (by unfold St.S.out at ho; omega)
    repeat' (first | (first | (apply GL.isCall; refine qbf rfl rfl (fun w h => rf19_Is (t.size : Nat) q.ca q.xa q.wa q.sa t.ch.length q.cc t.tx.length q.xc t.wi.length q.wc t.stack.length q.sc q.e0 q.e1 q.e2 q.e3 i w _ h) ?_) | (rw [hd])) | first | (apply qac; first | refine qa6 rfl ?_ | (apply qaj; first | refine qah rfl rfl rfl rfl rfl ?_ | refine qae rfl rfl rfl rfl rfl ?_ | refine qaf rfl rfl rfl rfl rfl ?_) | refine qam rfl rfl ?_ | refine qao rfl rfl rfl ?_ | refine qan rfl rfl rfl ?_ | (apply qaw; first | refine qa5 rfl rfl (fun _ => ?_) | refine qa7 rfl rfl rfl (fun _ => ?_) | refine GL.box rfl rfl (fun _ => ?_)) | (apply qai; first | refine qaa rfl rfl rfl rfl rfl (fun _ => ?_) | refine qab rfl rfl rfl rfl rfl (fun _ => ?_)) | (apply GL.isCall; refine qal _ rfl rfl rfl rfl (by rfl) (by omega) (by omega) rfl (fun _ => ?_)) | (apply qak; refine GL.alloc rfl (fun _ => ?_))) | apply GL.nil | first | apply G.seq | apply G.region | apply G.block | apply G.skip | apply G.exit | apply G.ret | (apply qag; first | refine qbd rfl ?_ | refine qbe rfl ?_) | refine qbi (by kernel_rfl) (by kernel_rfl) ?_ | (apply qa3; first | apply qa4 | apply qa1 | apply qar | apply qas | apply qa2 | apply qa0 | apply qap | refine qaq rfl ?_ | apply qa9) | (apply qad; first | refine qba rfl ?_ | refine qat rfl rfl ?_ | refine qav rfl rfl rfl ?_ | refine qau rfl rfl rfl ?_) | apply qbc | apply qbb | (apply qaz; refine qa8 rfl rfl ?_) | ((first | (apply qac; refine GL.guard rfl rfl (fun hc => ?_) (fun hc => ?_)) | (apply qag; refine G.cond rfl (fun hc => ?_) (fun hc => ?_)) | (apply qad; refine GD.guard rfl rfl (fun hc => ?_) (fun hc => ?_))) <;> ((try simp only [decide_eq_true_eq, decide_eq_false_iff_not, Bool.not_true, Bool.not_false, ne_eq, Classical.not_not, Int.not_lt, Int.not_le] at hc); (try (exfalso; first | omega | exact hc trivial | exact hc rfl)))))
    all_goals (first | (exfalso; simp at hc; done) | skip)
    all_goals (refine qbh rfl (by (repeat (first | apply Res.nil | (apply Res.tmp; rfl) | (refine qax rfl rfl rfl ?_) | (refine qay rfl rfl ?_)))) (fun w h => ?_); exact ⟨_, rfl, refS.shut hev h.sub⟩)
  by_cases hn : n < 1
  · rw [if_pos (Or.inr hn)]
    have hd : decide (0 ≤ i ∧ i < (t.ch.length : Int)) = true := decide_eq_true (by unfold St.S.out at ho; omega)
    repeat' (first | (first | (apply GL.isCall; refine qbf rfl rfl (fun w h => rf19_Is (t.size : Nat) q.ca q.xa q.wa q.sa t.ch.length q.cc t.tx.length q.xc t.wi.length q.wc t.stack.length q.sc q.e0 q.e1 q.e2 q.e3 i w _ h) ?_) | (rw [hd])) | first | (apply qac; first | refine qa6 rfl ?_ | (apply qaj; first | refine qah rfl rfl rfl rfl rfl ?_ | refine qae rfl rfl rfl rfl rfl ?_ | refine qaf rfl rfl rfl rfl rfl ?_) | refine qam rfl rfl ?_ | refine qao rfl rfl rfl ?_ | refine qan rfl rfl rfl ?_ | (apply qaw; first | refine qa5 rfl rfl (fun _ => ?_) | refine qa7 rfl rfl rfl (fun _ => ?_) | refine GL.box rfl rfl (fun _ => ?_)) | (apply qai; first | refine qaa rfl rfl rfl rfl rfl (fun _ => ?_) | refine qab rfl rfl rfl rfl rfl (fun _ => ?_)) | (apply GL.isCall; refine qal _ rfl rfl rfl rfl (by rfl) (by omega) (by omega) rfl (fun _ => ?_)) | (apply qak; refine GL.alloc rfl (fun _ => ?_))) | apply GL.nil | first | apply G.seq | apply G.region | apply G.block | apply G.skip | apply G.exit | apply G.ret | (apply qag; first | refine qbd rfl ?_ | refine qbe rfl ?_) | refine qbi (by kernel_rfl) (by kernel_rfl) ?_ | (apply qa3; first | apply qa4 | apply qa1 | apply qar | apply qas | apply qa2 | apply qa0 | apply qap | refine qaq rfl ?_ | apply qa9) | (apply qad; first | refine qba rfl ?_ | refine qat rfl rfl ?_ | refine qav rfl rfl rfl ?_ | refine qau rfl rfl rfl ?_) | apply qbc | apply qbb | (apply qaz; refine qa8 rfl rfl ?_) | ((first | (apply qac; refine GL.guard rfl rfl (fun hc => ?_) (fun hc => ?_)) | (apply qag; refine G.cond rfl (fun hc => ?_) (fun hc => ?_)) | (apply qad; refine GD.guard rfl rfl (fun hc => ?_) (fun hc => ?_))) <;> ((try simp only [decide_eq_true_eq, decide_eq_false_iff_not, Bool.not_true, Bool.not_false, ne_eq, Classical.not_not, Int.not_lt, Int.not_le] at hc); (try (exfalso; first | omega | exact hc trivial | exact hc rfl)))))
    all_goals (first | (exfalso; simp at hc; done) | skip)
    all_goals (refine qbh rfl (by (repeat (first | apply Res.nil | (apply Res.tmp; rfl) | (refine qax rfl rfl rfl ?_) | (refine qay rfl rfl ?_)))) (fun w h => ?_); exact ⟨_, rfl, refS.shut hev h.sub⟩)
  rw [if_neg (fun h => h.elim ho hn)]
  obtain ⟨k, rfl, hk⟩ := St.out_ex ho
  have hd : decide (0 ≤ (k : Int) ∧ (k : Int) < (t.ch.length : Int)) = true := decide_eq_true (by omega)
  rw [t.c_eq k hk]
  by_cases hp : (t.ch[k]).phase ≠ 3
  · rw [if_pos hp]
    repeat' (first | (first | (apply GL.isCall; refine qbf rfl rfl (fun w h => rf19_Is (t.size : Nat) q.ca q.xa q.wa q.sa t.ch.length q.cc t.tx.length q.xc t.wi.length q.wc t.stack.length q.sc q.e0 q.e1 q.e2 q.e3 (k : Int) w _ h) ?_) | (rw [hd])) | first | (apply qac; first | refine qa6 rfl ?_ | (apply qaj; first | refine qah rfl rfl rfl rfl rfl ?_ | refine qae rfl rfl rfl rfl rfl ?_ | refine qaf rfl rfl rfl rfl rfl ?_) | refine qam rfl rfl ?_ | refine qao rfl rfl rfl ?_ | refine qan rfl rfl rfl ?_ | (apply qaw; first | refine qa5 rfl rfl (fun _ => ?_) | refine qa7 rfl rfl rfl (fun _ => ?_) | refine GL.box rfl rfl (fun _ => ?_)) | (apply qai; first | refine qaa rfl rfl rfl rfl rfl (fun _ => ?_) | refine qab rfl rfl rfl rfl rfl (fun _ => ?_)) | (apply GL.isCall; refine qal _ rfl rfl rfl rfl (by rfl) (by omega) (by omega) rfl (fun _ => ?_)) | (apply qak; refine GL.alloc rfl (fun _ => ?_))) | apply GL.nil | first | apply G.seq | apply G.region | apply G.block | apply G.skip | apply G.exit | apply G.ret | (apply qag; first | refine qbd rfl ?_ | refine qbe rfl ?_) | refine qbi (by kernel_rfl) (by kernel_rfl) ?_ | (apply qa3; first | apply qa4 | apply qa1 | apply qar | apply qas | apply qa2 | apply qa0 | apply qap | refine qaq rfl ?_ | apply qa9) | (apply qad; first | refine qba rfl ?_ | refine qat rfl rfl ?_ | refine qav rfl rfl rfl ?_ | refine qau rfl rfl rfl ?_) | apply qbc | apply qbb | (apply qaz; refine qa8 rfl rfl ?_) | ((first | (apply qac; refine GL.guard rfl rfl (fun hc => ?_) (fun hc => ?_)) | (apply qag; refine G.cond rfl (fun hc => ?_) (fun hc => ?_)) | (apply qad; refine GD.guard rfl rfl (fun hc => ?_) (fun hc => ?_))) <;> ((try simp only [decide_eq_true_eq, decide_eq_false_iff_not, Bool.not_true, Bool.not_false, ne_eq, Classical.not_not, Int.not_lt, Int.not_le] at hc); (try (exfalso; first | omega | exact hc trivial | exact hc rfl)))))
    all_goals (first | (exfalso; simp at hc; done) | (exfalso; omega) | skip)
    all_goals (refine qbh rfl (by (repeat (first | apply Res.nil | (apply Res.tmp; rfl) | (refine qax rfl rfl rfl ?_) | (refine qay rfl rfl ?_)))) (fun w h => ?_); exact ⟨_, rfl, refS.shut hev h.sub⟩)
  rw [if_neg hp]
  have hC := hI.cell k hk
  have hcx := hC.len
  have hge := hC.ge
  have hsz := hI.sz
  have hxe : t.x k = t.tx[k]'(by omega) := by unfold St.S.x; rw [Int.toNat_natCast, List.getD_eq_getElem?_getD, List.getElem?_eq_getElem (by omega)]; rfl
  have hwe : t.w k = t.wi[k]'(by omega) := by unfold St.S.w; rw [Int.toNat_natCast, List.getD_eq_getElem?_getD, List.getElem?_eq_getElem (by omega)]; rfl
  obtain ⟨⟨hw0, hw1⟩, _⟩ := hC.wip (by omega)
  rw [hxe] at hcx
  rw [hwe] at hw0 hw1
  obtain ⟨m, hmd⟩ : ∃ m, m = St.portion t k n := ⟨_, rfl⟩
  have hm : min n ((t.size : Int) - t.wi[k]'(by omega)) = (m : Int) := by rw [hmd]; unfold St.portion; rw [hwe]; omega
  have hwm : t.wi[k]'(by omega) + (m : Int) ≤ t.size := by omega
  obtain ⟨X, hX⟩ : ∃ X, X = By.splice (t.tx[k]'(by omega)) (t.wi[k]'(by omega)).toNat (St.zeros m) := ⟨_, rfl⟩
  have hwp : St.wiped t k n = { t with tx := t.tx.set k X, wi := t.wi.set k (t.wi[k]'(by omega) + m) } := by unfold St.wiped; rw [← hmd, hxe, hwe, hX]; rfl
  have hW := fun w (F : List HProp) h => rf10_Wipe (t.tx[k]'(by omega)) (t.wi[k]'(by omega)) m (by omega) w F h
  have hof : ¬ St.off (t.tx[k]'(by omega)) (t.wi[k]'(by omega)) m := by unfold St.off; omega
  rw [if_neg hof, Int.toNat_natCast, ← hX] at hW
  have hgs2 : (t.wi.set k (t.wi[k]'(by omega) + (m : Int)))[k]'(by rw [List.length_set]; omega) = t.wi[k]'(by omega) + (m : Int) := List.getElem_set_self ..
  have hls : (t.wi.set k (t.wi[k]'(by omega) + (m : Int))).length = t.wi.length := List.length_set ..
  rw [hwp, ← hmd, hwe]
  by_cases hlt : t.wi[k]'(by omega) + (m : Int) < t.size
  · rw [if_pos hlt]
    repeat' (first | (first | (apply GL.isCall; refine qbf rfl rfl (fun w h => rf19_Is (t.size : Nat) q.ca q.xa q.wa q.sa t.ch.length q.cc t.tx.length q.xc t.wi.length q.wc t.stack.length q.sc q.e0 q.e1 q.e2 q.e3 (k : Int) w _ h) ?_) | (rw [hd]) | (rw [hm]) | (refine qbj 7 ?_; apply G.region; apply qac; refine GL.build0 encTx 1 rfl (fun u0 _ => ?_)) | (refine qbj 9 ?_; apply G.region; apply qac; refine GL.build0 encI1 1 rfl (fun u0 _ => ?_)) | (refine qbj 13 ?_; apply G.region; apply qac; refine GL.build0 encI1 1 rfl (fun u0 _ => ?_)) | (apply GL.isCall; refine GL.appendAny (enc := encTx) (ys := t.tx) rfl rfl rfl rfl rfl rfl (by simp only [List.length_nil]; omega) (by simp only [List.length_nil]; omega) rfl (fun r _ => ?_); rw [List.nil_append]; refine GL.pure (fun wx hx => ?_); obtain ⟨xa, xc, rfl, _⟩ := (Reads.at_ (v := r) (enc := encTx) (n := 1) (l := t.tx) wx hx).form) | (apply GL.isCall; refine GL.appendAny (enc := encI1) (ys := t.wi) rfl rfl rfl rfl rfl rfl (by simp only [List.length_nil]; omega) (by simp only [List.length_nil]; omega) rfl (fun r _ => ?_); rw [List.nil_append]; refine GL.pure (fun wx hx => ?_); obtain ⟨wa, wc, rfl, _⟩ := (Reads.at_ (v := r) (enc := encI1) (n := 1) (l := t.wi) wx hx).form) | (apply GL.isCall; refine GL.appendAny (enc := encI1) (ys := t.stack) rfl rfl rfl rfl rfl rfl (by simp only [List.length_nil]; omega) (by simp only [List.length_nil]; omega) rfl (fun r _ => ?_); rw [List.nil_append]; refine GL.pure (fun wx hx => ?_); obtain ⟨sa, sc, rfl, _⟩ := (Reads.at_ (v := r) (enc := encI1) (n := 1) (l := t.stack) wx hx).form) | (apply qad; refine GD.run (by apply Runs.isCall; exact Runs.min2 rfl rfl) rfl ?_) | (apply qac; refine GL.run (by apply Runs.isCall; exact Runs.min2 rfl rfl) rfl ?_) | (apply qad; refine GD.call (vs := [.string (bs (t.tx[k]'(by omega))), .int .i64 (t.wi[k]'(by omega)), .int .i64 m]) rfl rfl (fun w F' h => hW w _ h) ?_) | (refine qbj 10 ?_; refine G.drawTail 10 (by kernel_rfl) (by simp only [List.take_succ_cons, List.take_zero]; rfl) (by simp only [List.drop_succ_cons, List.drop_zero]; rfl) (by kernel_rfl) ?_) | (apply qaj; refine GL.setElem (i := k) X rfl rfl (by kernel_rfl) (by omega) rfl ?_) | (apply qaj; refine GL.setElem (i := k) (t.wi[k]'(by omega) + m) rfl rfl (by kernel_rfl) (by omega) rfl ?_) | (apply GL.isCall; refine qal (k : Int) rfl rfl rfl rfl (by rfl) (by omega) (by omega) rfl (fun r => ?_); refine GL.pure (fun wx hx => ?_); obtain ⟨ya, yc, rfl, _⟩ := (Reads.at_ (v := r) (enc := encI1) (n := 1) (l := t.stack ++ [(k : Int)]) wx hx).form) | (refine qbj 14 ?_; refine G.drawTail 10 (by kernel_rfl) (by simp only [List.take_succ_cons, List.take_zero]; rfl) (by simp only [List.drop_succ_cons, List.drop_zero]; rfl) (by kernel_rfl) ?_) | (apply GL.isCall; refine GL.callH (owns 84 encCk 3 (.slice q.ca t.ch.length q.cc) t.ch) (vs := [.agg #[.int .i64 (t.size : Nat), .slice q.ca t.ch.length q.cc, .slice xa t.tx.length xc, .slice wa t.wi.length wc, .slice ya (t.stack ++ [(k : Int)]).length yc, .int .i64 q.e0, .int .i64 q.e1, .int .i64 q.e2, .int .i64 q.e3], .int .i64 k, .agg (encCk ⟨0, 0, (t.ch[k]).gen + 1⟩).toArray, .int .i64 3]) rfl rfl (fun w h => rf19_with3 (t.size : Nat) q.ca xa wa ya q.cc t.tx.length xc t.wi.length wc (t.stack ++ [(k : Int)]).length yc q.e0 q.e1 q.e2 q.e3 b3 t.ch hnc k hk ⟨0, 0, (t.ch[k]).gen + 1⟩ w _ h) (fun r2 => ?_))) | first | (apply qac; first | refine qa6 rfl ?_ | (apply qaj; first | refine qah rfl rfl rfl rfl rfl ?_ | refine qae rfl rfl rfl rfl rfl ?_ | refine qaf rfl rfl rfl rfl rfl ?_) | refine qam rfl rfl ?_ | refine qao rfl rfl rfl ?_ | refine qan rfl rfl rfl ?_ | (apply qaw; first | refine qa5 rfl rfl (fun _ => ?_) | refine qa7 rfl rfl rfl (fun _ => ?_) | refine GL.box rfl rfl (fun _ => ?_)) | (apply qai; first | refine qaa rfl rfl rfl rfl rfl (fun _ => ?_) | refine qab rfl rfl rfl rfl rfl (fun _ => ?_)) | (apply GL.isCall; refine qal _ rfl rfl rfl rfl (by rfl) (by omega) (by omega) rfl (fun _ => ?_)) | (apply qak; refine GL.alloc rfl (fun _ => ?_))) | apply GL.nil | first | apply G.seq | apply G.region | apply G.block | apply G.skip | apply G.exit | apply G.ret | (apply qag; first | refine qbd rfl ?_ | refine qbe rfl ?_) | refine qbi (by kernel_rfl) (by kernel_rfl) ?_ | (apply qa3; first | apply qa4 | apply qa1 | apply qar | apply qas | apply qa2 | apply qa0 | apply qap | refine qaq rfl ?_ | apply qa9) | (apply qad; first | refine qba rfl ?_ | refine qat rfl rfl ?_ | refine qav rfl rfl rfl ?_ | refine qau rfl rfl rfl ?_) | apply qbc | apply qbb | (apply qaz; refine qa8 rfl rfl ?_) | ((first | (apply qac; refine GL.guard rfl rfl (fun hc => ?_) (fun hc => ?_)) | (apply qag; refine G.cond rfl (fun hc => ?_) (fun hc => ?_)) | (apply qad; refine GD.guard rfl rfl (fun hc => ?_) (fun hc => ?_))) <;> ((try simp only [decide_eq_true_eq, decide_eq_false_iff_not, Bool.not_true, Bool.not_false, ne_eq, Classical.not_not, Int.not_lt, Int.not_le] at hc); (try (exfalso; first | omega | exact hc trivial | exact hc rfl)))))
    all_goals (first | (exfalso; simp at hc; done) | (exfalso; omega) | skip)
    all_goals (refine qbh rfl (by (repeat (first | apply Res.nil | (apply Res.tmp; rfl) | (refine qax rfl rfl rfl ?_) | (refine qay rfl rfl ?_)))) (fun w h => ?_); exact ⟨_, rfl, refS.shut (t := { t with tx := t.tx.set k X, wi := t.wi.set k (t.wi[k]'(by omega) + m) }) hev h.sub⟩)
  · rw [if_neg hlt]
    repeat' (first | (first | (apply GL.isCall; refine qbf rfl rfl (fun w h => rf19_Is (t.size : Nat) q.ca q.xa q.wa q.sa t.ch.length q.cc t.tx.length q.xc t.wi.length q.wc t.stack.length q.sc q.e0 q.e1 q.e2 q.e3 (k : Int) w _ h) ?_) | (rw [hd]) | (rw [hm]) | (refine qbj 7 ?_; apply G.region; apply qac; refine GL.build0 encTx 1 rfl (fun u0 _ => ?_)) | (refine qbj 9 ?_; apply G.region; apply qac; refine GL.build0 encI1 1 rfl (fun u0 _ => ?_)) | (refine qbj 13 ?_; apply G.region; apply qac; refine GL.build0 encI1 1 rfl (fun u0 _ => ?_)) | (apply GL.isCall; refine GL.appendAny (enc := encTx) (ys := t.tx) rfl rfl rfl rfl rfl rfl (by simp only [List.length_nil]; omega) (by simp only [List.length_nil]; omega) rfl (fun r _ => ?_); rw [List.nil_append]; refine GL.pure (fun wx hx => ?_); obtain ⟨xa, xc, rfl, _⟩ := (Reads.at_ (v := r) (enc := encTx) (n := 1) (l := t.tx) wx hx).form) | (apply GL.isCall; refine GL.appendAny (enc := encI1) (ys := t.wi) rfl rfl rfl rfl rfl rfl (by simp only [List.length_nil]; omega) (by simp only [List.length_nil]; omega) rfl (fun r _ => ?_); rw [List.nil_append]; refine GL.pure (fun wx hx => ?_); obtain ⟨wa, wc, rfl, _⟩ := (Reads.at_ (v := r) (enc := encI1) (n := 1) (l := t.wi) wx hx).form) | (apply GL.isCall; refine GL.appendAny (enc := encI1) (ys := t.stack) rfl rfl rfl rfl rfl rfl (by simp only [List.length_nil]; omega) (by simp only [List.length_nil]; omega) rfl (fun r _ => ?_); rw [List.nil_append]; refine GL.pure (fun wx hx => ?_); obtain ⟨sa, sc, rfl, _⟩ := (Reads.at_ (v := r) (enc := encI1) (n := 1) (l := t.stack) wx hx).form) | (apply qad; refine GD.run (by apply Runs.isCall; exact Runs.min2 rfl rfl) rfl ?_) | (apply qac; refine GL.run (by apply Runs.isCall; exact Runs.min2 rfl rfl) rfl ?_) | (apply qad; refine GD.call (vs := [.string (bs (t.tx[k]'(by omega))), .int .i64 (t.wi[k]'(by omega)), .int .i64 m]) rfl rfl (fun w F' h => hW w _ h) ?_) | (refine qbj 10 ?_; refine G.drawTail 10 (by kernel_rfl) (by simp only [List.take_succ_cons, List.take_zero]; rfl) (by simp only [List.drop_succ_cons, List.drop_zero]; rfl) (by kernel_rfl) ?_) | (apply qaj; refine GL.setElem (i := k) X rfl rfl (by kernel_rfl) (by omega) rfl ?_) | (apply qaj; refine GL.setElem (i := k) (t.wi[k]'(by omega) + m) rfl rfl (by kernel_rfl) (by omega) rfl ?_) | (apply GL.isCall; refine qal (k : Int) rfl rfl rfl rfl (by rfl) (by omega) (by omega) rfl (fun r => ?_); refine GL.pure (fun wx hx => ?_); obtain ⟨ya, yc, rfl, _⟩ := (Reads.at_ (v := r) (enc := encI1) (n := 1) (l := t.stack ++ [(k : Int)]) wx hx).form) | (refine qbj 14 ?_; refine G.drawTail 10 (by kernel_rfl) (by simp only [List.take_succ_cons, List.take_zero]; rfl) (by simp only [List.drop_succ_cons, List.drop_zero]; rfl) (by kernel_rfl) ?_) | (apply GL.isCall; refine GL.callH (owns 84 encCk 3 (.slice q.ca t.ch.length q.cc) t.ch) (vs := [.agg #[.int .i64 (t.size : Nat), .slice q.ca t.ch.length q.cc, .slice xa t.tx.length xc, .slice wa t.wi.length wc, .slice ya (t.stack ++ [(k : Int)]).length yc, .int .i64 q.e0, .int .i64 q.e1, .int .i64 q.e2, .int .i64 q.e3], .int .i64 k, .agg (encCk ⟨0, 0, (t.ch[k]).gen + 1⟩).toArray, .int .i64 3]) rfl rfl (fun w h => rf19_with3 (t.size : Nat) q.ca xa wa ya q.cc t.tx.length xc t.wi.length wc (t.stack ++ [(k : Int)]).length yc q.e0 q.e1 q.e2 q.e3 b3 t.ch hnc k hk ⟨0, 0, (t.ch[k]).gen + 1⟩ w _ h) (fun r2 => ?_))) | first | (apply qac; first | refine qa6 rfl ?_ | (apply qaj; first | refine qah rfl rfl rfl rfl rfl ?_ | refine qae rfl rfl rfl rfl rfl ?_ | refine qaf rfl rfl rfl rfl rfl ?_) | refine qam rfl rfl ?_ | refine qao rfl rfl rfl ?_ | refine qan rfl rfl rfl ?_ | (apply qaw; first | refine qa5 rfl rfl (fun _ => ?_) | refine qa7 rfl rfl rfl (fun _ => ?_) | refine GL.box rfl rfl (fun _ => ?_)) | (apply qai; first | refine qaa rfl rfl rfl rfl rfl (fun _ => ?_) | refine qab rfl rfl rfl rfl rfl (fun _ => ?_)) | (apply GL.isCall; refine qal _ rfl rfl rfl rfl (by rfl) (by omega) (by omega) rfl (fun _ => ?_)) | (apply qak; refine GL.alloc rfl (fun _ => ?_))) | apply GL.nil | first | apply G.seq | apply G.region | apply G.block | apply G.skip | apply G.exit | apply G.ret | (apply qag; first | refine qbd rfl ?_ | refine qbe rfl ?_) | refine qbi (by kernel_rfl) (by kernel_rfl) ?_ | (apply qa3; first | apply qa4 | apply qa1 | apply qar | apply qas | apply qa2 | apply qa0 | apply qap | refine qaq rfl ?_ | apply qa9) | (apply qad; first | refine qba rfl ?_ | refine qat rfl rfl ?_ | refine qav rfl rfl rfl ?_ | refine qau rfl rfl rfl ?_) | apply qbc | apply qbb | (apply qaz; refine qa8 rfl rfl ?_) | ((first | (apply qac; refine GL.guard rfl rfl (fun hc => ?_) (fun hc => ?_)) | (apply qag; refine G.cond rfl (fun hc => ?_) (fun hc => ?_)) | (apply qad; refine GD.guard rfl rfl (fun hc => ?_) (fun hc => ?_))) <;> ((try simp only [decide_eq_true_eq, decide_eq_false_iff_not, Bool.not_true, Bool.not_false, ne_eq, Classical.not_not, Int.not_lt, Int.not_le] at hc); (try (exfalso; first | omega | exact hc trivial | exact hc rfl)))))
    all_goals (first | (exfalso; simp at hc; done) | (exfalso; omega) | skip)
    all_goals (refine qbh rfl (by (repeat (first | apply Res.nil | (apply Res.tmp; rfl) | (refine qax rfl rfl rfl ?_) | (refine qay rfl rfl ?_)))) (fun w h => ?_); exact ⟨_, rfl, refS.shut (t := { t with tx := t.tx.set k X, wi := t.wi.set k (t.wi[k]'(by omega) + m), stack := t.stack ++ [(k : Int)], ch := t.ch.set k ⟨0, 0, (t.ch[k]).gen + 1⟩, ev := St.up t.ev 3 }) (by rw [hev]; rfl) h.sub⟩)
end
end Go.Proofs.YtipkgamiejenaaaGreat

/- Drawn regions: a call that takes a piece and makes another; a store of a whole struct. -/
namespace Go.Proofs.YtipkgamiejenaaaGreat
open Go Go.RowKit Go.MapKept
set_option linter.unusedVariables false
set_option linter.unusedSectionVars false
set_option linter.unusedSimpArgs false
section
variable {P : Program} {n : Nat} {env : Env} {F : List HProp}
theorem DoesW.callPc {L : List HProp} {f : FuncId} {xs : List Operand} {ts : Array TypeId} {vs : List Value} {v : Value} {X Y : HProp} [ho : Own P f] (hx : opnds env xs = some vs)
    (hc : ∀ w G, holds w (X :: G) → Ct P f vs.toArray w fun e w' => e = .returned v ∧ holds w' (Y :: G)) :
    DoesW P n env F [X] L (.call { callee := .value (.func f), args := xs.toArray, argTypes := ts }) (fun u => u = v) (fun _ => Y) := ⟨fun a w F' ty pos aft g d hf hw => by
  have hr : (execOp a.eval ⟨d, .call { callee := .value (.func f), args := xs.toArray, argTypes := ts }, ty, pos, aft, g⟩).run P w = .ok (.enter f vs.toArray) w := by
    simp [execOp, resolve, Act.eval, Deferred.ofValue, invoke, hf.evals hx, Result.andThen]
    exact ho.run _ _
  rw [hr]
  exact (hc w (L ++ (F ++ F')) (by simpa using hw)).out.mono fun e w' ⟨he, hh⟩ => ⟨v, he, rfl, hh⟩⟩
theorem DoesW.storeWhole {L : List HProp} {t T : TypeId} {x y : Operand} {b size : Nat} {c : Array Value} {vs : Array Value} (hx : opnd env x = some (.pointer (some ⟨b, 0, none⟩))) (hy : opnd env y = some (.agg vs)) [ht : AggT P t size] (hs : Nat.beq vs.size size = true) (h1 : vs.toList.all (·.oneCell') = true) (ho : Nat.beq c.size size = true) :
    DoesW P n env F [blk b (.cells c T (0, 0))] L (.store t x y) (fun _ => True) (fun _ => blk b (.cells vs T (0, 0))) := ⟨fun a w F' ty pos aft g d hf hw => by
  obtain ⟨i, ds, g1, g2, g3, g4⟩ := ht.ok
  have hs : vs.size = size := Nat.eq_of_beq_eq_true hs
  have ho : c.size = size := Nat.eq_of_beq_eq_true ho
  obtain ⟨w', hr, hh⟩ := run_storeVar_sl (P := P) (t := t) (val := .agg vs) (off := 0) (by simp [g1, g2, hs, Value.cells]) (by have h1' := List.all_eq_true.1 h1; simpa [Value.cells] using h1') (show holds w (blk b (.cells c T (0, 0)) :: (L ++ (F ++ F'))) from by simpa using hw) (by simp [Value.cells, hs, ho])
  have e : (c.toList.take 0 ++ (Value.agg vs).cells.toList ++ c.toList.drop (0 + (Value.agg vs).cells.size)).toArray = vs := by
    simp only [Value.cells]
    rw [List.take_zero, List.nil_append, List.drop_eq_nil_of_le (by rw [Array.length_toList]; omega), List.append_nil, Array.toArray_toList]
  rw [e] at hh
  simp [execOp, hf.eval hx, hf.eval hy, Instr.storeAt, Instr.sureAddr, hr, Result.andThen, looseUpon]
  exact hh⟩
theorem DoesW.callEx {T L : List HProp} {f : FuncId} {xs : List Operand} {ts : Array TypeId} {vs : List Value} (R : Value → Prop) (pc : Value → HProp) [ho : Own P f] (hx : opnds env xs = some vs)
    (hc : ∀ w G, holds w (T ++ G) → Ct P f vs.toArray w fun e w' => ∃ u, e = .returned u ∧ R u ∧ holds w' (pc u :: G)) :
    DoesW P n env F T L (.call { callee := .value (.func f), args := xs.toArray, argTypes := ts }) R pc := ⟨fun a w F' ty pos aft g d hf hw => by
  have hr : (execOp a.eval ⟨d, .call { callee := .value (.func f), args := xs.toArray, argTypes := ts }, ty, pos, aft, g⟩).run P w = .ok (.enter f vs.toArray) w := by
    simp [execOp, resolve, Act.eval, Deferred.ofValue, invoke, hf.evals hx, Result.andThen]
    exact ho.run _ _
  rw [hr]
  exact (hc w (L ++ (F ++ F')) hw).out.mono fun e w' ⟨u, he, hR, hh⟩ => ⟨u, he, hR, hh⟩⟩
theorem DoesW.storeTake {T' L : List HProp} (pc : HProp) {t T : TypeId} {x y : Operand} {b size : Nat} {c : Array Value} {vs : Array Value} (hx : opnd env x = some (.pointer (some ⟨b, 0, none⟩))) (hy : opnd env y = some (.agg vs)) [ht : AggT P t size] (hs : Nat.beq vs.size size = true) (h1 : vs.toList.all (·.oneCell') = true) (ho : Nat.beq c.size size = true)
    (hp : ∀ w G, holds w (blk b (.cells vs T (0, 0)) :: (T' ++ G)) → holds w (pc :: G)) :
    DoesW P n env F (blk b (.cells c T (0, 0)) :: T') L (.store t x y) (fun _ => True) (fun _ => pc) := ⟨fun a w F' ty pos aft g d hf hw => by
  have h2 := (DoesW.storeWhole (P := P) (n := n) (env := env) (F := F) (L := T' ++ L) (t := t) (T := T) (c := c) (vs := vs) hx hy hs h1 ho).out a w F' ty pos aft g d hf (by simpa using hw)
  revert h2
  generalize (execOp a.eval ⟨d, .store t x y, ty, pos, aft, g⟩).run P w = r
  intro h2
  cases r with
  | halt x w1 => exact h2
  | ok x w1 =>
    cases x with
    | value u => exact ⟨trivial, hp _ _ (by simpa using h2.2)⟩
    | skip => exact ⟨trivial, hp _ _ (by simpa using h2.2)⟩
    | enter f args => exact h2.mono fun e w2 ⟨u, he, h3⟩ => ⟨u, he, trivial, hp _ _ (by simpa using h3.2)⟩
    | _ => exact h2⟩
end
section
variable {P : Program} {n : Nat} {env : Env} {F F0 : List HProp}
/-- A call that makes a piece and keeps another. -/
theorem DoesW.callP {f : FuncId} {xs : List Operand} {ts : Array TypeId} {vs : List Value} {piece : Value → HProp} (X : HProp) [hX : Has F X F0] [ho : Own P f] (hx : opnds env xs = some vs) (hP : ∀ u w G, holds w (piece u :: G) → isUndef u = false)
    (hc : ∀ w G, holds w (X :: (F0 ++ G)) → Ct P f vs.toArray w fun e w' => ∃ u, e = .returned u ∧ holds w' (piece u :: X :: (F0 ++ G))) :
    DoesW P n env F [] [] (.call { callee := .value (.func f), args := xs.toArray, argTypes := ts }) NU piece := ⟨fun a w F' ty pos aft g d hf hw => by
  have hr : (execOp a.eval ⟨d, .call { callee := .value (.func f), args := xs.toArray, argTypes := ts }, ty, pos, aft, g⟩).run P w = .ok (.enter f vs.toArray) w := by
    simp [execOp, resolve, Act.eval, Deferred.ofValue, invoke, hf.evals hx, Result.andThen]
    exact ho.run _ _
  rw [hr]
  have hp : (F ++ F').Perm (X :: (F0 ++ F')) := hX.perm.append_right F'
  refine (hc w F' ((show holds w (F ++ F') by simpa using hw).perm hp)).out.mono fun e w' ⟨u, he, hh⟩ => ⟨u, he, hP _ _ _ hh, ?_⟩
  have h2 := hh.perm (hp.symm.cons (piece u))
  simpa using h2⟩
/-- A call whose value has a form, that makes a piece and keeps another. -/
theorem DoesW.ofEx {α : Type} {f : FuncId} {xs : List Operand} {ts : Array TypeId} {vs : List Value} {piece : Value → HProp} (X : HProp) (v : α → Value) [hX : Has F X F0] [ho : Own P f] (hx : opnds env xs = some vs)
    (hc : ∀ w G, holds w (X :: (F0 ++ G)) → Ct P f vs.toArray w fun e w' => ∃ x, e = .returned (v x) ∧ holds w' (piece (v x) :: X :: (F0 ++ G))) :
    DoesW P n env F [] [] (.call { callee := .value (.func f), args := xs.toArray, argTypes := ts }) (fun u => ∃ x, u = v x) piece := ⟨fun a w F' ty pos aft g d hf hw => by
  have hr : (execOp a.eval ⟨d, .call { callee := .value (.func f), args := xs.toArray, argTypes := ts }, ty, pos, aft, g⟩).run P w = .ok (.enter f vs.toArray) w := by
    simp [execOp, resolve, Act.eval, Deferred.ofValue, invoke, hf.evals hx, Result.andThen]
    exact ho.run _ _
  rw [hr]
  have hp : (F ++ F').Perm (X :: (F0 ++ F')) := hX.perm.append_right F'
  refine (hc w F' ((show holds w (F ++ F') by simpa using hw).perm hp)).out.mono fun e w' ⟨x, he, hh⟩ => ⟨v x, he, ⟨x, rfl⟩, ?_⟩
  have h2 := hh.perm (hp.symm.cons (piece (v x)))
  simpa using h2⟩
/-- A call of one value that keeps a piece. -/
theorem DoesW.callKX {f : FuncId} {xs : List Operand} {ts : Array TypeId} {vs : List Value} {v : Value} (X : HProp) [hX : Has F X F0] [ho : Own P f] (hx : opnds env xs = some vs)
    (hc : ∀ w G, holds w (X :: (F0 ++ G)) → Ct P f vs.toArray w fun e w' => e = .returned v ∧ holds w' (X :: (F0 ++ G))) :
    DoesW P n env F [] [] (.call { callee := .value (.func f), args := xs.toArray, argTypes := ts }) (fun u => u = v) (fun _ _ => True) :=
  DoesW.callK (L := []) hx fun w F' hw => by
    have hp : (F ++ F').Perm (X :: (F0 ++ F')) := hX.perm.append_right F'
    exact (hc w F' ((show holds w (F ++ F') from hw).perm hp)).mono fun e w' ⟨he, hh⟩ => ⟨he, hh.perm hp.symm⟩
end
section
variable {P : Program} {n k d : Nat} {env : Env} {F F0 : List HProp} {ops : Array Oper} {rest : List Oper} {ty : TypeId} {pos : String} {aft : Array Edge} {Z : Act → Prop}
/-- A call in a drawn region that keeps a piece. -/
theorem GD.callX {f : FuncId} {xs : List Operand} {ts : Array TypeId} {vs : List Value} {v : Value} (X : HProp) [hX : Has F X F0] [ho : Own P f] (hx : opnds env xs = some vs) (hd : Nat.blt d n = true)
    (hc : ∀ w G, holds w (X :: (F0 ++ G)) → Ct P f vs.toArray w fun e w' => e = .returned v ∧ holds w' (X :: (F0 ++ G))) (h : GD P n ops F Z (k + 1) rest ((d, v) :: env)) :
    GD P n ops F Z k (⟨some d, .call { callee := .value (.func f), args := xs.toArray, argTypes := ts }, ty, pos, aft, none⟩ :: rest) env :=
  GD.call hx hd (fun w F' hw => by
    have hp : (F ++ F').Perm (X :: (F0 ++ F')) := hX.perm.append_right F'
    exact (hc w F' (hw.perm hp)).mono fun e w' ⟨he, hh⟩ => ⟨he, hh.perm hp.symm⟩) h
end
instance (priority := 400) SeesBlk.appendLg {F F2 : List HProp} {b : Nat} {c : Array Value} [h : SeesBlk F b c] : SeesBlk (F ++ F2) b c := ⟨fun w hw => h.at_ w (by obtain ⟨f, hf, hs⟩ := hw; obtain ⟨f1, f2, h1, h2, j⟩ := (sep_append F F2 f).1 hs; exact ⟨f, hf, sep_sub F f1 f j h1⟩)⟩
instance (priority := 300) SeesBlk.appendRg {F F2 : List HProp} {b : Nat} {c : Array Value} [h : SeesBlk F2 b c] : SeesBlk (F ++ F2) b c := ⟨fun w hw => h.at_ w (by obtain ⟨f, hf, hs⟩ := hw; obtain ⟨f1, f2, h1, h2, j⟩ := (sep_append F F2 f).1 hs; exact ⟨f, hf, sep_sub F2 f2 f j.symm h2⟩)⟩
theorem owns_def {α : Type} {T : TypeId} {enc : α → List Value} {m : Nat} {u : Value} {l : List α} {w : World} {G : List HProp} (h : holds w (owns T enc m u l :: G)) : isUndef u = false := owns_form h
section
variable {P : Program} {n : Nat} {env : Env} {F : List HProp}
theorem Runs.neqIF {xT yT : TypeId} {x y : Operand} {i j : Int} {kk : IntKind} (h : i = j) (hx : opnd env x = some (.int kk i)) (hy : opnd env y = some (.int kk j)) : Runs P n env F (.binOp .neq xT x y yT) (.bool false) := by
  have := Runs.neq (P := P) (n := n) (F := F) (xT := xT) (yT := yT) hx hy
  subst h
  rwa [decide_eq_false (by simp)] at this
/-- All of an array that lies in a block. -/
theorem Runs.sliceAll {t e : TypeId} {x : Operand} {b o m : Nat} [ht : ArrT P t m e 1] (hx : opnd env x = some (.pointer (some ⟨b, o, none⟩))) (hm : Nat.blt 0 m = true) : Runs P n env F (.slice t x none none none) (.slice (some ⟨b, o, none⟩) m m) := .mk fun ac w ty pos aft g d hf hw => by
  obtain ⟨ie, g1, g2, g3⟩ := ht.ok
  have hm : m ≠ 0 := by have : 0 < m := by simpa [Nat.blt_eq] using hm
                        omega
  have hs : (Instr.sliceBounds false m m none none none).run P w = .ok (0, m, m) w := by simp [Instr.sliceBounds, Instr.sliceBound, asIntOf, Result.andThen]
  simp [execOp, hf.eval hx, Instr.sliceAt, Instr.sureAddr, run_underlying g1, sizeOf, typeInfo, g2, g3, hs, Result.andThen, hm, Addr.add]
end
/-- .. reads as a row. -/
theorem Reads.arr {F : List HProp} {b o : Nat} {c : Array Value} {l : List Int} [hb : SeesBlk F b c] (hc : (c.toList.drop o).take l.length = l.flatMap encI1) : Reads F (.slice (some ⟨b, o, none⟩) l.length l.length) encI1 1 l := ⟨fun w hw => by
  obtain ⟨T, fz, hbw⟩ := hb.at_ w hw
  have hfl : (l.flatMap encI1).length = l.length * 1 := Enc.flat_len l
  refine ⟨hfl, _, l.length, rfl, Nat.le_refl _, .inr ⟨b, o, rfl, fun i hi => ?_⟩⟩
  rw [cell_of_row w b (o + i) c T fz hbw, ← hc, List.getElem?_take, if_pos (by omega), List.getElem?_drop, Array.getElem?_toList]⟩
end Go.Proofs.YtipkgamiejenaaaGreat
