import Derived.Test.YtfiggkbclldccaaMg7
import Derived.Test.YtfiggkbclldccaaMg5
import Derived.Test.YtfiggkbclldccaaGoMem
import Derived.Scope
/- An order in which all may end, over members that may be. -/
namespace Go.Proofs.Ytfiggkbclldccaa
open Go Go.RowKit Go.MapKept
set_option linter.unusedVariables false
set_option linter.unusedSimpArgs false
set_option maxRecDepth 100000
set_option maxHeartbeats 4000000

structure MbM where
  id : Int
  acc : AccM
deriving DecidableEq
@[reducible] def encMb (m : MbM) : List Value := [.int .i64 m.id, .int .i64 m.acc.claim, .int .i64 m.acc.held, .int .i64 m.acc.credits]
instance : Enc encMb 4 := ⟨fun _ => rfl, fun _ => by simp [encMb, Value.oneCell'], by omega⟩
@[reducible] def encB1 (b : Bool) : List Value := [.bool b]
instance : Enc encB1 1 := ⟨fun _ => rfl, fun _ => by simp [encB1, Value.oneCell'], by omega⟩

namespace Ord
def pz (free : Int) (x : Bool × MbM) : Bool := !x.1 && decide (Acc.need x.2.acc ≤ free)
def nx (done : List Bool) (free : Int) (ms : List MbM) : Int := idxOf (pz free) (done.zip ms)
def takL : Nat → List Bool → Int → List MbM → List (Int × Int)
  | 0, _, _, _ => []
  | f + 1, done, free, ms => if nx done free ms < 0 then [] else
    (nx done free ms, free + (ms[(nx done free ms).toNat]?.map (·.acc.held)).getD 0) :: takL f (done.set (nx done free ms).toNat true) (free + (ms[(nx done free ms).toNat]?.map (·.acc.held)).getD 0) ms
theorem nx_at {done : List Bool} {free : Int} {ms : List MbM} (hd : done.length = ms.length) {i : Nat} (hi : i < ms.length) (h1 : (!(done[i]'(by omega))) = true) (h2 : Acc.need (ms[i]).acc ≤ free) (hlo : ∀ (j : Nat) (h : j < (done.zip ms).length), j < i → pz free (done.zip ms)[j] = false) : nx done free ms = i :=
  (idxOf_is _ _).eq (.inr ⟨i, by rw [List.length_zip, hd, Nat.min_self]; exact hi, rfl, by rw [List.getElem_zip]; simp only [pz, h1, Bool.true_and, decide_eq_true_eq]; exact h2, hlo⟩)
theorem nx_none {done : List Bool} {free : Int} {ms : List MbM} (h : ∀ (j : Nat) (h : j < (done.zip ms).length), pz free (done.zip ms)[j] = false) : nx done free ms = -1 :=
  (idxOf_is _ _).eq (.inl ⟨rfl, fun x hx => by obtain ⟨j, hj, rfl⟩ := List.getElem_of_mem hx; exact h j hj⟩)
theorem nx_yes {done : List Bool} {free : Int} {ms : List MbM} (hd : done.length = ms.length) (h : ¬ nx done free ms < 0) : ∃ (i : Nat) (hi : i < ms.length), nx done free ms = i ∧ done[i]'(by omega) = false ∧ Acc.need (ms[i]).acc ≤ free := by
  rcases idxOf_is (pz free) (done.zip ms) with ⟨h1, _⟩ | ⟨i, hi, h1, h2, _⟩
  · exact absurd (show nx done free ms < 0 by unfold nx; omega) h
  · rw [List.length_zip, hd, Nat.min_self] at hi
    rw [List.getElem_zip] at h2
    simp only [pz, Bool.and_eq_true, Bool.not_eq_true', decide_eq_true_eq] at h2
    exact ⟨i, hi, h1, h2.1, h2.2⟩
structure Inv (ms : List MbM) (L : List (Int × Int)) (k : Nat) (done : List Bool) (free : Int) : Prop where
  len : done.length = ms.length
  cnt : done.count false + k ≤ ms.length
  lo : 0 ≤ free
  hi : free ≤ 1048576 * (k + 1)
  kl : k ≤ L.length
  rest : L.drop k = takL (ms.length - k) done free ms
theorem takL_stop {f : Nat} {done : List Bool} {free : Int} {ms : List MbM} (h : nx done free ms < 0) : takL f done free ms = [] := by
  cases f with
  | zero => rfl
  | succ f => unfold takL; rw [if_pos h]
def safe (ms : List MbM) (free : Int) : Bool := decide ((takL ms.length (List.replicate ms.length false) free ms).length = ms.length)
theorem takL_len (ms : List MbM) : ∀ (f : Nat) (done : List Bool) (free : Int), (takL f done free ms).length ≤ f
  | 0, _, _ => Nat.le_refl _
  | f + 1, done, free => by
    unfold takL
    split
    · simp
    · have := takL_len ms f (done.set (nx done free ms).toNat true) (free + (ms[(nx done free ms).toNat]?.map (·.acc.held)).getD 0)
      rw [List.length_cons]; omega
theorem Inv.start (ms : List MbM) (free : Int) (h0 : 0 ≤ free) (h1 : free ≤ 1048576) : Inv ms (takL ms.length (List.replicate ms.length false) free ms) 0 (List.replicate ms.length false) free :=
  ⟨by simp, by simp, h0, by omega, by omega, by simp⟩
theorem Inv.stop {ms : List MbM} {L : List (Int × Int)} {k : Nat} {done : List Bool} {free : Int} (h : Inv ms L k done free) (hs : nx done free ms < 0) : k = L.length := by
  have h1 := h.rest
  rw [takL_stop hs] at h1
  have h2 := List.drop_eq_nil_iff.1 h1
  have := h.kl
  omega
theorem count_set {done : List Bool} {i : Nat} (hi : i < done.length) (h : done[i] = false) : (done.set i true).count false + 1 = done.count false := by
  induction done generalizing i with
  | nil => simp at hi
  | cons b l ih =>
    cases i with
    | zero =>
      simp only [List.getElem_cons_zero] at h
      subst h
      simp
    | succ i =>
      simp only [List.getElem_cons_succ] at h
      have := ih (by simpa using hi) h
      rw [List.set_cons_succ, List.count_cons, List.count_cons]
      omega
theorem Inv.step {ms : List MbM} (hr : ∀ m ∈ ms, Acc.Right m.acc) {L : List (Int × Int)} {k : Nat} {done : List Bool} {free : Int} (h : Inv ms L k done free) (hs : ¬ nx done free ms < 0) :
    ∃ (i : Nat) (hi : i < ms.length), nx done free ms = i ∧ k < ms.length ∧ 0 ≤ (ms[i]).acc.held ∧ (ms[i]).acc.held ≤ 1048576 ∧ L[k]? = some ((i : Int), free + (ms[i]).acc.held) ∧ Inv ms L (k + 1) (done.set i true) (free + (ms[i]).acc.held) := by
  obtain ⟨i, hi, h1, h2, h3⟩ := nx_yes h.len hs
  have hR := hr _ (List.getElem_mem hi)
  obtain ⟨r1, r2, r3, r4, r5⟩ := hR
  have hc := count_set (by rw [h.len]; exact hi) h2
  have hcnt := h.cnt
  have hk : k < ms.length := by omega
  obtain ⟨f, hf⟩ : ∃ f, ms.length - k = f + 1 := ⟨ms.length - k - 1, by omega⟩
  have hrest := h.rest
  rw [hf] at hrest
  unfold takL at hrest
  rw [if_neg hs, h1] at hrest
  simp only [Int.toNat_natCast, List.getElem?_eq_getElem hi, Option.map_some, Option.getD_some] at hrest
  have hL : L[k]? = some ((i : Int), free + (ms[i]).acc.held) := by
    have := congrArg (·[0]?) hrest
    simp only [List.getElem?_drop, Nat.add_zero, List.getElem?_cons_zero] at this
    exact this
  have hkl : k < L.length := (List.getElem?_eq_some_iff.1 hL).1
  refine ⟨i, hi, h1, hk, r3, by omega, hL, ⟨by rw [List.length_set, h.len], by omega, by have := h.lo; omega, by have := h.hi; push_cast; omega, hkl, ?_⟩⟩
  have h4 : ms.length - (k + 1) = f := by omega
  rw [h4, ← List.drop_drop, hrest, List.drop_succ_cons, List.drop_zero]
end Ord

theorem order_may1 (m : MbM) (hb : Acc.Bd m.acc) (w : World) (F : List HProp) (hw : holds w F) :
    Ct Try.prog 149 #[.agg (encMb m).toArray] w fun e w' => e = .returned (.bool (!decide (Acc.Right m.acc))) ∧ holds w' F := by
  refine Ct.go (args := [.agg (encMb m).toArray]) Try.func149 rfl rfl rfl hw ?_
  repeat' (first | first | (apply GL.isAny; first | refine GL.runA rfl ?_ | (apply GL.isStore; first | refine GL.storeBlk rfl rfl rfl rfl rfl ?_ | refine GL.storeWhole rfl rfl rfl rfl rfl ?_ | refine GL.storeBlkA rfl rfl rfl rfl rfl ?_) | refine GL.guardY rfl rfl ?_ | refine GL.guardN rfl rfl rfl ?_ | refine GL.guardU rfl rfl rfl ?_ | (apply GL.isBox; first | refine GL.boxA rfl rfl (fun _ => ?_) | refine GL.box1 rfl rfl rfl (fun _ => ?_) | refine GL.box rfl rfl (fun _ => ?_)) | (apply GL.isBuildS; first | refine GL.buildSlice1A rfl rfl rfl rfl rfl (fun _ => ?_) | refine GL.buildSlice1 rfl rfl rfl rfl rfl (fun _ => ?_)) | (apply GL.isCall; refine GL.append1 _ rfl rfl rfl rfl (by rfl) (by omega) (by omega) rfl (fun _ => ?_)) | (apply GL.isAlloc; refine GL.alloc rfl (fun _ => ?_))) | apply GL.nil | first | apply G.seq | apply G.region | apply G.block | apply G.skip | apply G.exit | apply G.ret | (apply G.isCond; first | refine G.condT rfl ?_ | refine G.condF rfl ?_) | refine G.draw (by kernel_rfl) (by kernel_rfl) ?_ | (apply GE.isAny; first | apply GE.again | apply GE.thenG | apply GE.blockN | apply GE.blockE | apply GE.thenE | apply GE.thenR | apply GE.blockR | refine GE.blockO rfl ?_ | apply GE.only) | (apply GD.isAny; first | refine GD.runA rfl ?_ | refine GD.guardY rfl rfl ?_ | refine GD.guardN rfl rfl rfl ?_ | refine GD.guardU rfl rfl rfl ?_) | apply GD.nilE | apply GD.nilL | (apply GT.isAny; refine GT.runA rfl rfl ?_) | ((first | (apply GL.isAny; refine GL.guard rfl rfl (fun hc => ?_) (fun hc => ?_)) | (apply G.isCond; refine G.cond rfl (fun hc => ?_) (fun hc => ?_)) | (apply GD.isAny; refine GD.guard rfl rfl (fun hc => ?_) (fun hc => ?_))) <;> ((try simp only [decide_eq_true_eq, decide_eq_false_iff_not, Bool.not_true, Bool.not_false, ne_eq, Classical.not_not, Int.not_lt, Int.not_le] at hc); (try (exfalso; first | omega | exact hc trivial | exact hc rfl)))) | ((apply GL.isCall; refine GL.call1 rfl rfl (fun w h => account_Right m.acc hb w _ h) ?_)))
  refine GE.resOne rfl (by (repeat (first | apply Res.nil | (apply Res.tmp; rfl) | (refine Res.cellA rfl rfl rfl ?_) | (refine Res.cell1 rfl rfl ?_)))) (fun w h => ?_)
  exact ⟨rfl, h.sub⟩
theorem order_has (v : Value) (ms : List MbM) (hr : ∀ m ∈ ms, Acc.Right m.acc) (hn : ms.length ≤ 1048576) (w : World) (F : List HProp) [Reads F v encMb 4 ms] (hw : holds w F) :
    Ct Try.prog 107 #[v, .func (.func 149) #[] #[]] w fun e w' => e = .returned (.bool false) ∧ holds w' F := by
  have hany : ms.any (fun m => !decide (Acc.Right m.acc)) = false := by
    rw [List.any_eq_false]
    intro m hm
    simp [hr m hm]
  have h := ctContainsFunc107 (enc := encMb) v ms (fun m => !decide (Acc.Right m.acc)) 149 [] [] (by omega) w F (fun m hm w h => order_may1 m (.of (hr m hm)) w _ h) hw
  rw [hany] at h
  exact h
theorem order_mayY (free : Int) (h0 : 0 ≤ free) (h1 : free ≤ 1048576) (v : Value) (ms : List MbM) (hr : ∀ m ∈ ms, Acc.Right m.acc) (hn : ms.length ≤ 1048576) (w : World) (F : List HProp) [Reads F v encMb 4 ms] (hw : holds w F) :
    Ct Try.prog 141 #[.int .i64 free, v] w fun e w' => e = .returned (.bool true) ∧ holds w' F := by
  refine Ct.go (args := [.int .i64 free, v]) Try.func141 rfl rfl rfl hw ?_
  repeat' (first | first | (apply GL.isAny; first | refine GL.runA rfl ?_ | (apply GL.isStore; first | refine GL.storeBlk rfl rfl rfl rfl rfl ?_ | refine GL.storeWhole rfl rfl rfl rfl rfl ?_ | refine GL.storeBlkA rfl rfl rfl rfl rfl ?_) | refine GL.guardY rfl rfl ?_ | refine GL.guardN rfl rfl rfl ?_ | refine GL.guardU rfl rfl rfl ?_ | (apply GL.isBox; first | refine GL.boxA rfl rfl (fun _ => ?_) | refine GL.box1 rfl rfl rfl (fun _ => ?_) | refine GL.box rfl rfl (fun _ => ?_)) | (apply GL.isBuildS; first | refine GL.buildSlice1A rfl rfl rfl rfl rfl (fun _ => ?_) | refine GL.buildSlice1 rfl rfl rfl rfl rfl (fun _ => ?_)) | (apply GL.isCall; refine GL.append1 _ rfl rfl rfl rfl (by rfl) (by omega) (by omega) rfl (fun _ => ?_)) | (apply GL.isAlloc; refine GL.alloc rfl (fun _ => ?_))) | apply GL.nil | first | apply G.seq | apply G.region | apply G.block | apply G.skip | apply G.exit | apply G.ret | (apply G.isCond; first | refine G.condT rfl ?_ | refine G.condF rfl ?_) | refine G.draw (by kernel_rfl) (by kernel_rfl) ?_ | (apply GE.isAny; first | apply GE.again | apply GE.thenG | apply GE.blockN | apply GE.blockE | apply GE.thenE | apply GE.thenR | apply GE.blockR | refine GE.blockO rfl ?_ | apply GE.only) | (apply GD.isAny; first | refine GD.runA rfl ?_ | refine GD.guardY rfl rfl ?_ | refine GD.guardN rfl rfl rfl ?_ | refine GD.guardU rfl rfl rfl ?_) | apply GD.nilE | apply GD.nilL | (apply GT.isAny; refine GT.runA rfl rfl ?_) | ((first | (apply GL.isAny; refine GL.guard rfl rfl (fun hc => ?_) (fun hc => ?_)) | (apply G.isCond; refine G.cond rfl (fun hc => ?_) (fun hc => ?_)) | (apply GD.isAny; refine GD.guard rfl rfl (fun hc => ?_) (fun hc => ?_))) <;> ((try simp only [decide_eq_true_eq, decide_eq_false_iff_not, Bool.not_true, Bool.not_false, ne_eq, Classical.not_not, Int.not_lt, Int.not_le] at hc); (try (exfalso; first | omega | exact hc trivial | exact hc rfl)))) | (first | (apply GL.isCall; refine GL.call1 rfl rfl (fun w h => order_has v ms hr hn w _ h) ?_) | (apply GD.isAny; refine GD.call rfl rfl (fun w F' h => order_has v ms hr hn w _ h) ?_)))
  refine GE.resOne rfl (by (repeat (first | apply Res.nil | (apply Res.tmp; rfl) | (refine Res.cellA rfl rfl rfl ?_) | (refine Res.cell1 rfl rfl ?_)))) (fun w h => ?_)
  exact ⟨rfl, h.sub⟩
theorem order_next (bl bd bf : Nat) (v dv : Value) (ms : List MbM) (hr : ∀ m ∈ ms, Acc.Right m.acc) (done : List Bool) (hd : done.length = ms.length) (free : Int) (hn : ms.length ≤ 1048576) (w : World) (F : List HProp) [Reads F v encMb 4 ms] [Reads F dv encB1 1 done] [SeesBlk F bl #[v]] [SeesBlk F bd #[dv]] [SeesBlk F bf #[.int .i64 free]] (hw : holds w F) :
    Ct Try.prog 151 #[.pointer (some ⟨bl, 0, none⟩), .pointer (some ⟨bd, 0, none⟩), .pointer (some ⟨bf, 0, none⟩)] w fun e w' => e = .returned (.int .i64 (Ord.nx done free ms)) ∧ holds w' F := by
  refine Ct.go (args := [.pointer (some ⟨bl, 0, none⟩), .pointer (some ⟨bd, 0, none⟩), .pointer (some ⟨bf, 0, none⟩)]) Try.func151 rfl rfl rfl hw ?_
  repeat' (first | (apply GL.isAny; first | refine GL.runA rfl ?_ | (apply GL.isStore; first | refine GL.storeBlk rfl rfl rfl rfl rfl ?_ | refine GL.storeWhole rfl rfl rfl rfl rfl ?_ | refine GL.storeBlkA rfl rfl rfl rfl rfl ?_) | refine GL.guardY rfl rfl ?_ | refine GL.guardN rfl rfl rfl ?_ | refine GL.guardU rfl rfl rfl ?_ | (apply GL.isBox; first | refine GL.boxA rfl rfl (fun _ => ?_) | refine GL.box1 rfl rfl rfl (fun _ => ?_) | refine GL.box rfl rfl (fun _ => ?_)) | (apply GL.isBuildS; first | refine GL.buildSlice1A rfl rfl rfl rfl rfl (fun _ => ?_) | refine GL.buildSlice1 rfl rfl rfl rfl rfl (fun _ => ?_)) | (apply GL.isCall; refine GL.append1 _ rfl rfl rfl rfl (by rfl) (by omega) (by omega) rfl (fun _ => ?_)) | (apply GL.isAlloc; refine GL.alloc rfl (fun _ => ?_))) | apply GL.nil | first | apply G.seq | apply G.region | apply G.block | apply G.skip | apply G.exit | apply G.ret | (apply G.isCond; first | refine G.condT rfl ?_ | refine G.condF rfl ?_) | refine G.draw (by kernel_rfl) (by kernel_rfl) ?_ | (apply GE.isAny; first | apply GE.again | apply GE.thenG | apply GE.blockN | apply GE.blockE | apply GE.thenE | apply GE.thenR | apply GE.blockR | refine GE.blockO rfl ?_ | apply GE.only) | (apply GD.isAny; first | refine GD.runA rfl ?_ | refine GD.guardY rfl rfl ?_ | refine GD.guardN rfl rfl rfl ?_ | refine GD.guardU rfl rfl rfl ?_) | apply GD.nilE | apply GD.nilL | (apply GT.isAny; refine GT.runA rfl rfl ?_) | ((first | (apply GL.isAny; refine GL.guard rfl rfl (fun hc => ?_) (fun hc => ?_)) | (apply G.isCond; refine G.cond rfl (fun hc => ?_) (fun hc => ?_)) | (apply GD.isAny; refine GD.guard rfl rfl (fun hc => ?_) (fun hc => ?_))) <;> ((try simp only [decide_eq_true_eq, decide_eq_false_iff_not, Bool.not_true, Bool.not_false, ne_eq, Classical.not_not, Int.not_lt, Int.not_le] at hc); (try (exfalso; first | omega | exact hc trivial | exact hc rfl)))))
  refine G.loop (α := Nat) (fun i => [(0, .pointer (some ⟨bl, 0, none⟩)), (1, .pointer (some ⟨bd, 0, none⟩)), (2, .pointer (some ⟨bf, 0, none⟩)), (6, v), (7, .int .i64 ms.length), (8, .int .i64 i)]) (fun i => F) (fun i => i ≤ ms.length ∧ ∀ (j : Nat) (h : j < (done.zip ms).length), j < i → Ord.pz free (done.zip ms)[j] = false) (fun i => ms.length - i) 0 ⟨by omega, fun j h h0 => absurd h0 (Nat.not_lt_zero j)⟩ ⟨rfl, rfl, rfl, rfl, rfl, rfl, trivial⟩ (fun w h => h) ?_
  rintro i ⟨hi, hlo⟩
  have hlen : (done.zip ms).length = ms.length := by rw [List.length_zip, hd, Nat.min_self]
  repeat' (first | first | (apply GL.isAny; first | refine GL.runA rfl ?_ | (apply GL.isStore; first | refine GL.storeBlk rfl rfl rfl rfl rfl ?_ | refine GL.storeWhole rfl rfl rfl rfl rfl ?_ | refine GL.storeBlkA rfl rfl rfl rfl rfl ?_) | refine GL.guardY rfl rfl ?_ | refine GL.guardN rfl rfl rfl ?_ | refine GL.guardU rfl rfl rfl ?_ | (apply GL.isBox; first | refine GL.boxA rfl rfl (fun _ => ?_) | refine GL.box1 rfl rfl rfl (fun _ => ?_) | refine GL.box rfl rfl (fun _ => ?_)) | (apply GL.isBuildS; first | refine GL.buildSlice1A rfl rfl rfl rfl rfl (fun _ => ?_) | refine GL.buildSlice1 rfl rfl rfl rfl rfl (fun _ => ?_)) | (apply GL.isCall; refine GL.append1 _ rfl rfl rfl rfl (by rfl) (by omega) (by omega) rfl (fun _ => ?_)) | (apply GL.isAlloc; refine GL.alloc rfl (fun _ => ?_))) | apply GL.nil | first | apply G.seq | apply G.region | apply G.block | apply G.skip | apply G.exit | apply G.ret | (apply G.isCond; first | refine G.condT rfl ?_ | refine G.condF rfl ?_) | refine G.draw (by kernel_rfl) (by kernel_rfl) ?_ | (apply GE.isAny; first | apply GE.again | apply GE.thenG | apply GE.blockN | apply GE.blockE | apply GE.thenE | apply GE.thenR | apply GE.blockR | refine GE.blockO rfl ?_ | apply GE.only) | (apply GD.isAny; first | refine GD.runA rfl ?_ | refine GD.guardY rfl rfl ?_ | refine GD.guardN rfl rfl rfl ?_ | refine GD.guardU rfl rfl rfl ?_) | apply GD.nilE | apply GD.nilL | (apply GT.isAny; refine GT.runA rfl rfl ?_) | ((first | (apply GL.isAny; refine GL.guard rfl rfl (fun hc => ?_) (fun hc => ?_)) | (apply G.isCond; refine G.cond rfl (fun hc => ?_) (fun hc => ?_)) | (apply GD.isAny; refine GD.guard rfl rfl (fun hc => ?_) (fun hc => ?_))) <;> ((try simp only [decide_eq_true_eq, decide_eq_false_iff_not, Bool.not_true, Bool.not_false, ne_eq, Classical.not_not, Int.not_lt, Int.not_le] at hc); (try (exfalso; first | omega | exact hc trivial | exact hc rfl)))) | ((apply GD.isAny; refine GD.call (vs := [.agg (encAcc (ms[i]'(by omega)).acc).toArray]) rfl rfl (fun w F' h => account_Need (ms[i]'(by omega)).acc (.of (hr _ (List.getElem_mem _))) w _ h) ?_)))
  · refine GE.resOne rfl (by (repeat (first | apply Res.nil | (apply Res.tmp; rfl) | (refine Res.cellA rfl rfl rfl ?_) | (refine Res.cell1 rfl rfl ?_)))) (fun w h => ?_)
    rw [Ord.nx_at hd (by omega) (by assumption) (by assumption) hlo]
    exact ⟨rfl, h.sub⟩
  · rename_i hc1 hc2 hc3 _ _
    refine GE.round (i + 1) ⟨by omega, fun j hj hj2 => ?_⟩ ⟨rfl, rfl, rfl, rfl, rfl, rfl, trivial⟩ (fun w h => h.sub) (by omega)
    by_cases he : j = i
    · subst he; rw [List.getElem_zip]; simp only [Ord.pz, Bool.and_eq_false_iff, decide_eq_false_iff_not]; right; omega
    · exact hlo j hj (by omega)
  · rename_i hcd
    refine GE.round (i + 1) ⟨by omega, fun j hj hj2 => ?_⟩ ⟨rfl, rfl, rfl, rfl, rfl, rfl, trivial⟩ (fun w h => h.sub) (by omega)
    by_cases he : j = i
    · subst he; rw [List.getElem_zip]; simp only [Ord.pz, Bool.and_eq_false_iff]; left; exact hc
    · exact hlo j hj (by omega)
  · refine GE.resOne rfl (by (repeat (first | apply Res.nil | (apply Res.tmp; rfl) | (refine Res.cellA rfl rfl rfl ?_) | (refine Res.cell1 rfl rfl ?_)))) (fun w h => ?_)
    rw [Ord.nx_none fun j hj => hlo j hj (by omega)]
    exact ⟨rfl, h.sub⟩
theorem order_taken1 (bl bf : Nat) (v : Value) (ms : List MbM) (hr : ∀ m ∈ ms, Acc.Right m.acc) (free : Int) (h0 : 0 ≤ free) (h1 : free ≤ 1048576) (hn : ms.length ≤ 1048576) (F : List HProp) [Reads F v encMb 4 ms] [SeesBlk F bl #[v]] :
    Seq Try.prog 150 #[.pointer (some ⟨bl, 0, none⟩), .pointer (some ⟨bf, 0, none⟩)] (fun x : Int × Int => [.int .i64 x.1, .int .i64 x.2]) (Ord.takL ms.length (List.replicate ms.length false) free ms) (fun _ _ => []) (blk bf (.cells #[.int .i64 free] 3 (0, 0)) :: F) F := by
  refine ⟨fun l J w hY hw => ?_⟩
  have hgo : Ct Try.prog 150 [.func (.yield l) #[] #[], .pointer (some ⟨bl, 0, none⟩), .pointer (some ⟨bf, 0, none⟩)].toArray w fun e w' => ∃ v, e = .returned v ∧ ∃ y k, (y = true → k = (Ord.takL ms.length (List.replicate ms.length false) free ms).length) ∧ (y = false → 0 < k ∧ k ≤ (Ord.takL ms.length (List.replicate ms.length false) free ms).length) ∧ holds w' (J y k :: F) := by
    refine Ct.go (args := [.func (.yield l) #[] #[], .pointer (some ⟨bl, 0, none⟩), .pointer (some ⟨bf, 0, none⟩)]) (F := J true 0 :: blk bf (.cells #[.int .i64 free] 3 (0, 0)) :: F) Try.func150 rfl rfl rfl hw ?_
    repeat' (first | first | (apply GL.isAny; first | refine GL.runA rfl ?_ | (apply GL.isStore; first | refine GL.storeBlk rfl rfl rfl rfl rfl ?_ | refine GL.storeWhole rfl rfl rfl rfl rfl ?_ | refine GL.storeBlkA rfl rfl rfl rfl rfl ?_) | refine GL.guardY rfl rfl ?_ | refine GL.guardN rfl rfl rfl ?_ | refine GL.guardU rfl rfl rfl ?_ | (apply GL.isBox; first | refine GL.boxA rfl rfl (fun _ => ?_) | refine GL.box1 rfl rfl rfl (fun _ => ?_) | refine GL.box rfl rfl (fun _ => ?_)) | (apply GL.isBuildS; first | refine GL.buildSlice1A rfl rfl rfl rfl rfl (fun _ => ?_) | refine GL.buildSlice1 rfl rfl rfl rfl rfl (fun _ => ?_)) | (apply GL.isCall; refine GL.append1 _ rfl rfl rfl rfl (by rfl) (by omega) (by omega) rfl (fun _ => ?_)) | (apply GL.isAlloc; refine GL.alloc rfl (fun _ => ?_))) | apply GL.nil | first | apply G.seq | apply G.region | apply G.block | apply G.skip | apply G.exit | apply G.ret | (apply G.isCond; first | refine G.condT rfl ?_ | refine G.condF rfl ?_) | refine G.draw (by kernel_rfl) (by kernel_rfl) ?_ | (apply GE.isAny; first | apply GE.again | apply GE.thenG | apply GE.blockN | apply GE.blockE | apply GE.thenE | apply GE.thenR | apply GE.blockR | refine GE.blockO rfl ?_ | apply GE.only) | (apply GD.isAny; first | refine GD.runA rfl ?_ | refine GD.guardY rfl rfl ?_ | refine GD.guardN rfl rfl rfl ?_ | refine GD.guardU rfl rfl rfl ?_) | apply GD.nilE | apply GD.nilL | (apply GT.isAny; refine GT.runA rfl rfl ?_) | ((first | (apply GL.isAny; refine GL.guard rfl rfl (fun hc => ?_) (fun hc => ?_)) | (apply G.isCond; refine G.cond rfl (fun hc => ?_) (fun hc => ?_)) | (apply GD.isAny; refine GD.guard rfl rfl (fun hc => ?_) (fun hc => ?_))) <;> ((try simp only [decide_eq_true_eq, decide_eq_false_iff_not, Bool.not_true, Bool.not_false, ne_eq, Classical.not_not, Int.not_lt, Int.not_le] at hc); (try (exfalso; first | omega | exact hc trivial | exact hc rfl)))) | (first | (apply GL.isAny; refine GL.makeSl encB1 false ms.length ms.length rfl rfl rfl rfl rfl (by omega) (by omega) (by unfold maxLen; omega) rfl (fun _ => ?_)) | (apply GL.isCall; refine GL.callV1 (first := []) rfl rfl rfl (fun w h => order_next _ _ _ v _ ms hr (List.replicate ms.length false) (by simp) free hn w _ h) ?_)))
    rename_i g bd
    refine G.loop (α := Nat × List Bool × Int) (fun x => [(0, .func (.yield l) #[] #[]), (1, .pointer (some ⟨bl, 0, none⟩)), (2, .pointer (some ⟨bf, 0, none⟩)), (4, .pointer (some ⟨bd, 0, none⟩)), (5, .func (.func 151) #[] #[.pointer (some ⟨bl, 0, none⟩), .pointer (some ⟨bd, 0, none⟩), .pointer (some ⟨bf, 0, none⟩)]), (6, .int .i64 (Ord.nx x.2.1 x.2.2 ms))]) (fun x => J true x.1 :: blk bd (.cells #[.slice (some ⟨g, 0, none⟩) ms.length ms.length] 187 (0, 0)) :: owns 4 encB1 1 (.slice (some ⟨g, 0, none⟩) ms.length ms.length) x.2.1 :: blk bf (.cells #[.int .i64 x.2.2] 3 (0, 0)) :: F) (fun x => Ord.Inv ms (Ord.takL ms.length (List.replicate ms.length false) free ms) x.1 x.2.1 x.2.2) (fun x => ms.length - x.1) (0, List.replicate ms.length false, free) (.start ms free h0 h1) ⟨rfl, rfl, rfl, rfl, rfl, rfl, trivial⟩ (fun w h => holds.sub (show holds w (blk bd (.cells #[.slice (some ⟨g, 0, none⟩) ms.length ms.length] 187 (0, 0)) :: owns 4 encB1 1 (.slice (some ⟨g, 0, none⟩) ms.length ms.length) (List.replicate ms.length false) :: J true 0 :: blk bf (.cells #[.int .i64 free] 3 (0, 0)) :: F) from h)) ?_
    rintro ⟨k, done, fr⟩ hinv
    dsimp only at hinv ⊢
    generalize hL : Ord.takL ms.length (List.replicate ms.length false) free ms = L at hinv hY ⊢
    by_cases hs : Ord.nx done fr ms < 0
    · have hkL := hinv.stop hs
      repeat' (first | (apply GL.isAny; first | refine GL.runA rfl ?_ | (apply GL.isStore; first | refine GL.storeBlk rfl rfl rfl rfl rfl ?_ | refine GL.storeWhole rfl rfl rfl rfl rfl ?_ | refine GL.storeBlkA rfl rfl rfl rfl rfl ?_) | refine GL.guardY rfl rfl ?_ | refine GL.guardN rfl rfl rfl ?_ | refine GL.guardU rfl rfl rfl ?_ | (apply GL.isBox; first | refine GL.boxA rfl rfl (fun _ => ?_) | refine GL.box1 rfl rfl rfl (fun _ => ?_) | refine GL.box rfl rfl (fun _ => ?_)) | (apply GL.isBuildS; first | refine GL.buildSlice1A rfl rfl rfl rfl rfl (fun _ => ?_) | refine GL.buildSlice1 rfl rfl rfl rfl rfl (fun _ => ?_)) | (apply GL.isCall; refine GL.append1 _ rfl rfl rfl rfl (by rfl) (by omega) (by omega) rfl (fun _ => ?_)) | (apply GL.isAlloc; refine GL.alloc rfl (fun _ => ?_))) | apply GL.nil | first | apply G.seq | apply G.region | apply G.block | apply G.skip | apply G.exit | apply G.ret | (apply G.isCond; first | refine G.condT rfl ?_ | refine G.condF rfl ?_) | refine G.draw (by kernel_rfl) (by kernel_rfl) ?_ | (apply GE.isAny; first | apply GE.again | apply GE.thenG | apply GE.blockN | apply GE.blockE | apply GE.thenE | apply GE.thenR | apply GE.blockR | refine GE.blockO rfl ?_ | apply GE.only) | (apply GD.isAny; first | refine GD.runA rfl ?_ | refine GD.guardY rfl rfl ?_ | refine GD.guardN rfl rfl rfl ?_ | refine GD.guardU rfl rfl rfl ?_) | apply GD.nilE | apply GD.nilL | (apply GT.isAny; refine GT.runA rfl rfl ?_) | ((first | (apply GL.isAny; refine GL.guard rfl rfl (fun hc => ?_) (fun hc => ?_)) | (apply G.isCond; refine G.cond rfl (fun hc => ?_) (fun hc => ?_)) | (apply GD.isAny; refine GD.guard rfl rfl (fun hc => ?_) (fun hc => ?_))) <;> ((try simp only [decide_eq_true_eq, decide_eq_false_iff_not, Bool.not_true, Bool.not_false, ne_eq, Classical.not_not, Int.not_lt, Int.not_le] at hc); (try (exfalso; first | omega | exact hc trivial | exact hc rfl)))))
      refine GE.end0 rfl (fun w h => ⟨_, rfl, true, k, fun _ => hkL, (fun h => by cases h), h.sub⟩)
    · obtain ⟨i, hi, hnx, hk, hl0, hl1, hLk, hinv2⟩ := hinv.step hr hs
      rw [hnx]
      have hdl := hinv.len
      have hf0 := hinv.lo
      have hf1 := hinv.hi
      have hdl2 := hinv2.len
      repeat' (first | (first | (refine G.isRegion 6 ?_; refine G.drawTail 8 (by kernel_rfl) (by simp only [List.take_succ_cons, List.take_zero]; rfl) (by simp only [List.drop_succ_cons, List.drop_zero]; rfl) (by kernel_rfl) ?_) | (refine G.isRegion 7 ?_; apply G.regionI)) | first | (apply GL.isAny; first | refine GL.runA rfl ?_ | (apply GL.isStore; first | refine GL.storeBlk rfl rfl rfl rfl rfl ?_ | refine GL.storeWhole rfl rfl rfl rfl rfl ?_ | refine GL.storeBlkA rfl rfl rfl rfl rfl ?_) | refine GL.guardY rfl rfl ?_ | refine GL.guardN rfl rfl rfl ?_ | refine GL.guardU rfl rfl rfl ?_ | (apply GL.isBox; first | refine GL.boxA rfl rfl (fun _ => ?_) | refine GL.box1 rfl rfl rfl (fun _ => ?_) | refine GL.box rfl rfl (fun _ => ?_)) | (apply GL.isBuildS; first | refine GL.buildSlice1A rfl rfl rfl rfl rfl (fun _ => ?_) | refine GL.buildSlice1 rfl rfl rfl rfl rfl (fun _ => ?_)) | (apply GL.isCall; refine GL.append1 _ rfl rfl rfl rfl (by rfl) (by omega) (by omega) rfl (fun _ => ?_)) | (apply GL.isAlloc; refine GL.alloc rfl (fun _ => ?_))) | apply GL.nil | first | apply G.seq | apply G.region | apply G.block | apply G.skip | apply G.exit | apply G.ret | (apply G.isCond; first | refine G.condT rfl ?_ | refine G.condF rfl ?_) | refine G.draw (by kernel_rfl) (by kernel_rfl) ?_ | (apply GE.isAny; first | apply GE.again | apply GE.thenG | apply GE.blockN | apply GE.blockE | apply GE.thenE | apply GE.thenR | apply GE.blockR | refine GE.blockO rfl ?_ | apply GE.only) | (apply GD.isAny; first | refine GD.runA rfl ?_ | refine GD.guardY rfl rfl ?_ | refine GD.guardN rfl rfl rfl ?_ | refine GD.guardU rfl rfl rfl ?_) | apply GD.nilE | apply GD.nilL | (apply GT.isAny; refine GT.runA rfl rfl ?_) | ((first | (apply GL.isAny; refine GL.guard rfl rfl (fun hc => ?_) (fun hc => ?_)) | (apply G.isCond; refine G.cond rfl (fun hc => ?_) (fun hc => ?_)) | (apply GD.isAny; refine GD.guard rfl rfl (fun hc => ?_) (fun hc => ?_))) <;> ((try simp only [decide_eq_true_eq, decide_eq_false_iff_not, Bool.not_true, Bool.not_false, ne_eq, Classical.not_not, Int.not_lt, Int.not_le] at hc); (try (exfalso; first | omega | exact hc trivial | exact hc rfl)))))
      · refine GL.setElem true rfl rfl (by kernel_rfl) (by omega) rfl ?_
        repeat' (first | (first | (refine G.isRegion 6 ?_; refine G.drawTail 8 (by kernel_rfl) (by simp only [List.take_succ_cons, List.take_zero]; rfl) (by simp only [List.drop_succ_cons, List.drop_zero]; rfl) (by kernel_rfl) ?_) | (refine G.isRegion 7 ?_; apply G.regionI) | first | (apply GL.isAny; refine GL.run (by apply Runs.isLoad; exact Runs.loadRow2 rfl (by first | omega | decide) rfl) rfl ?_) | (apply GD.isAny; refine GD.run (by apply Runs.isLoad; exact Runs.loadRow2 rfl (by first | omega | decide) rfl) rfl ?_)) | first | (apply GL.isAny; first | refine GL.runA rfl ?_ | (apply GL.isStore; first | refine GL.storeBlk rfl rfl rfl rfl rfl ?_ | refine GL.storeWhole rfl rfl rfl rfl rfl ?_ | refine GL.storeBlkA rfl rfl rfl rfl rfl ?_) | refine GL.guardY rfl rfl ?_ | refine GL.guardN rfl rfl rfl ?_ | refine GL.guardU rfl rfl rfl ?_ | (apply GL.isBox; first | refine GL.boxA rfl rfl (fun _ => ?_) | refine GL.box1 rfl rfl rfl (fun _ => ?_) | refine GL.box rfl rfl (fun _ => ?_)) | (apply GL.isBuildS; first | refine GL.buildSlice1A rfl rfl rfl rfl rfl (fun _ => ?_) | refine GL.buildSlice1 rfl rfl rfl rfl rfl (fun _ => ?_)) | (apply GL.isCall; refine GL.append1 _ rfl rfl rfl rfl (by rfl) (by omega) (by omega) rfl (fun _ => ?_)) | (apply GL.isAlloc; refine GL.alloc rfl (fun _ => ?_))) | apply GL.nil | first | apply G.seq | apply G.region | apply G.block | apply G.skip | apply G.exit | apply G.ret | (apply G.isCond; first | refine G.condT rfl ?_ | refine G.condF rfl ?_) | refine G.draw (by kernel_rfl) (by kernel_rfl) ?_ | (apply GE.isAny; first | apply GE.again | apply GE.thenG | apply GE.blockN | apply GE.blockE | apply GE.thenE | apply GE.thenR | apply GE.blockR | refine GE.blockO rfl ?_ | apply GE.only) | (apply GD.isAny; first | refine GD.runA rfl ?_ | refine GD.guardY rfl rfl ?_ | refine GD.guardN rfl rfl rfl ?_ | refine GD.guardU rfl rfl rfl ?_) | apply GD.nilE | apply GD.nilL | (apply GT.isAny; refine GT.runA rfl rfl ?_) | ((first | (apply GL.isAny; refine GL.guard rfl rfl (fun hc => ?_) (fun hc => ?_)) | (apply G.isCond; refine G.cond rfl (fun hc => ?_) (fun hc => ?_)) | (apply GD.isAny; refine GD.guard rfl rfl (fun hc => ?_) (fun hc => ?_))) <;> ((try simp only [decide_eq_true_eq, decide_eq_false_iff_not, Bool.not_true, Bool.not_false, ne_eq, Classical.not_not, Int.not_lt, Int.not_le] at hc); (try (exfalso; first | omega | exact hc trivial | exact hc rfl)))))
        refine GLI.imp (F' := J true k :: owns 4 encB1 1 (.slice (some ⟨g, 0, none⟩) ms.length ms.length) (done.set i true) :: blk bd (.cells #[(.slice (some ⟨g, 0, none⟩) ms.length ms.length)] 187 (0, 0)) :: blk bf (.cells #[.int .i64 (fr + (ms[i]).acc.held)] 3 (0, 0)) :: F) ?_ (fun w h => holds.sub (show holds w (blk bf (.cells #[.int .i64 (fr + (ms[i]).acc.held)] 3 (0, 0)) :: owns 4 encB1 1 (.slice (some ⟨g, 0, none⟩) ms.length ms.length) (done.set i true) :: J true k :: blk bd (.cells #[(.slice (some ⟨g, 0, none⟩) ms.length ms.length)] 187 (0, 0)) :: F) from h))
        repeat' (first | apply GE.iq | ((apply GL.isAny; first | refine GL.runA rfl ?_ | (apply GL.isStore; first | refine GL.storeBlk rfl rfl rfl rfl rfl ?_ | refine GL.storeWhole rfl rfl rfl rfl rfl ?_ | refine GL.storeBlkA rfl rfl rfl rfl rfl ?_) | refine GL.guardY rfl rfl ?_ | refine GL.guardN rfl rfl rfl ?_ | refine GL.guardU rfl rfl rfl ?_ | (apply GL.isBox; first | refine GL.boxA rfl rfl (fun _ => ?_) | refine GL.box1 rfl rfl rfl (fun _ => ?_) | refine GL.box rfl rfl (fun _ => ?_)) | (apply GL.isBuildS; first | refine GL.buildSlice1A rfl rfl rfl rfl rfl (fun _ => ?_) | refine GL.buildSlice1 rfl rfl rfl rfl rfl (fun _ => ?_)) | (apply GL.isCall; refine GL.append1 _ rfl rfl rfl rfl (by rfl) (by omega) (by omega) rfl (fun _ => ?_)) | (apply GL.isAlloc; refine GL.alloc rfl (fun _ => ?_)))) | (apply GL.isAny; refine GL.guard rfl rfl (fun hc => ?_) (fun hc => ?_) <;> ((try simp only [decide_eq_true_eq, decide_eq_false_iff_not, Bool.not_true, Bool.not_false, ne_eq, Classical.not_not, Int.not_lt, Int.not_le] at hc); (try (exfalso; first | omega | exact hc trivial | exact hc rfl)))) | apply GL.nil | (refine GLI.yield (vs := [.int .i64 i, .int .i64 (fr + (ms[i]).acc.held)]) (v := fun y : Bool => .bool y) (F' := fun y : Bool => J y (k + 1) :: owns 4 encB1 1 (.slice (some ⟨g, 0, none⟩) ms.length ms.length) (done.set i true) :: blk bd (.cells #[(.slice (some ⟨g, 0, none⟩) ms.length ms.length)] 187 (0, 0)) :: blk bf (.cells #[.int .i64 (fr + (ms[i]).acc.held)] 3 (0, 0)) :: F) rfl rfl rfl (fun w h => hY k (i, fr + (ms[i]).acc.held) (owns 4 encB1 1 (.slice (some ⟨g, 0, none⟩) ms.length ms.length) (done.set i true) :: blk bd (.cells #[(.slice (some ⟨g, 0, none⟩) ms.length ms.length)] 187 (0, 0)) :: blk bf (.cells #[.int .i64 (fr + (ms[i]).acc.held)] 3 (0, 0)) :: F) w hLk h) (fun y => ?_)) | ((refine GLI.op (by first | exact .wide | exact .round _) (by intro c hc; cases hc) ?_)) | (apply GLI.nil; apply GEI.of))
        repeat' (first | (apply GL.isAny; first | refine GL.runA rfl ?_ | (apply GL.isStore; first | refine GL.storeBlk rfl rfl rfl rfl rfl ?_ | refine GL.storeWhole rfl rfl rfl rfl rfl ?_ | refine GL.storeBlkA rfl rfl rfl rfl rfl ?_) | refine GL.guardY rfl rfl ?_ | refine GL.guardN rfl rfl rfl ?_ | refine GL.guardU rfl rfl rfl ?_ | (apply GL.isBox; first | refine GL.boxA rfl rfl (fun _ => ?_) | refine GL.box1 rfl rfl rfl (fun _ => ?_) | refine GL.box rfl rfl (fun _ => ?_)) | (apply GL.isBuildS; first | refine GL.buildSlice1A rfl rfl rfl rfl rfl (fun _ => ?_) | refine GL.buildSlice1 rfl rfl rfl rfl rfl (fun _ => ?_)) | (apply GL.isCall; refine GL.append1 _ rfl rfl rfl rfl (by rfl) (by omega) (by omega) rfl (fun _ => ?_)) | (apply GL.isAlloc; refine GL.alloc rfl (fun _ => ?_))) | apply GL.nil | first | apply G.seq | apply G.region | apply G.block | apply G.skip | apply G.exit | apply G.ret | (apply G.isCond; first | refine G.condT rfl ?_ | refine G.condF rfl ?_) | refine G.draw (by kernel_rfl) (by kernel_rfl) ?_ | (apply GE.isAny; first | apply GE.again | apply GE.thenG | apply GE.blockN | apply GE.blockE | apply GE.thenE | apply GE.thenR | apply GE.blockR | refine GE.blockO rfl ?_ | apply GE.only) | (apply GD.isAny; first | refine GD.runA rfl ?_ | refine GD.guardY rfl rfl ?_ | refine GD.guardN rfl rfl rfl ?_ | refine GD.guardU rfl rfl rfl ?_) | apply GD.nilE | apply GD.nilL | (apply GT.isAny; refine GT.runA rfl rfl ?_) | ((first | (apply GL.isAny; refine GL.guard rfl rfl (fun hc => ?_) (fun hc => ?_)) | (apply G.isCond; refine G.cond rfl (fun hc => ?_) (fun hc => ?_)) | (apply GD.isAny; refine GD.guard rfl rfl (fun hc => ?_) (fun hc => ?_))) <;> ((try simp only [decide_eq_true_eq, decide_eq_false_iff_not, Bool.not_true, Bool.not_false, ne_eq, Classical.not_not, Int.not_lt, Int.not_le] at hc); (try (exfalso; first | omega | exact hc trivial | exact hc rfl)))))
        · refine GE.ret0 rfl (fun w h => ?_)
          cases y with
          | true => cases hc
          | false => exact ⟨_, rfl, false, k + 1, (fun h => by cases h), fun _ => ⟨by omega, hinv2.kl⟩, h.sub⟩
        · have C := order_next bl bd bf v (.slice (some ⟨g, 0, none⟩) ms.length ms.length) ms hr (done.set i true) hdl2 (fr + (ms[i]).acc.held) hn
          refine GL.callV1 (first := []) (captured := [.pointer (some ⟨bl, 0, none⟩), .pointer (some ⟨bd, 0, none⟩), .pointer (some ⟨bf, 0, none⟩)]) (vs := []) rfl rfl rfl (fun w h => C w _ h) ?_
          repeat' (first | (apply GL.isAny; first | refine GL.runA rfl ?_ | (apply GL.isStore; first | refine GL.storeBlk rfl rfl rfl rfl rfl ?_ | refine GL.storeWhole rfl rfl rfl rfl rfl ?_ | refine GL.storeBlkA rfl rfl rfl rfl rfl ?_) | refine GL.guardY rfl rfl ?_ | refine GL.guardN rfl rfl rfl ?_ | refine GL.guardU rfl rfl rfl ?_ | (apply GL.isBox; first | refine GL.boxA rfl rfl (fun _ => ?_) | refine GL.box1 rfl rfl rfl (fun _ => ?_) | refine GL.box rfl rfl (fun _ => ?_)) | (apply GL.isBuildS; first | refine GL.buildSlice1A rfl rfl rfl rfl rfl (fun _ => ?_) | refine GL.buildSlice1 rfl rfl rfl rfl rfl (fun _ => ?_)) | (apply GL.isCall; refine GL.append1 _ rfl rfl rfl rfl (by rfl) (by omega) (by omega) rfl (fun _ => ?_)) | (apply GL.isAlloc; refine GL.alloc rfl (fun _ => ?_))) | apply GL.nil | first | apply G.seq | apply G.region | apply G.block | apply G.skip | apply G.exit | apply G.ret | (apply G.isCond; first | refine G.condT rfl ?_ | refine G.condF rfl ?_) | refine G.draw (by kernel_rfl) (by kernel_rfl) ?_ | (apply GE.isAny; first | apply GE.again | apply GE.thenG | apply GE.blockN | apply GE.blockE | apply GE.thenE | apply GE.thenR | apply GE.blockR | refine GE.blockO rfl ?_ | apply GE.only) | (apply GD.isAny; first | refine GD.runA rfl ?_ | refine GD.guardY rfl rfl ?_ | refine GD.guardN rfl rfl rfl ?_ | refine GD.guardU rfl rfl rfl ?_) | apply GD.nilE | apply GD.nilL | (apply GT.isAny; refine GT.runA rfl rfl ?_) | ((first | (apply GL.isAny; refine GL.guard rfl rfl (fun hc => ?_) (fun hc => ?_)) | (apply G.isCond; refine G.cond rfl (fun hc => ?_) (fun hc => ?_)) | (apply GD.isAny; refine GD.guard rfl rfl (fun hc => ?_) (fun hc => ?_))) <;> ((try simp only [decide_eq_true_eq, decide_eq_false_iff_not, Bool.not_true, Bool.not_false, ne_eq, Classical.not_not, Int.not_lt, Int.not_le] at hc); (try (exfalso; first | omega | exact hc trivial | exact hc rfl)))))
          cases y with
          | false => cases hc
          | true => refine GE.round (k + 1, done.set i true, fr + (ms[i]).acc.held) hinv2 ⟨rfl, rfl, rfl, rfl, rfl, rfl, trivial⟩ (fun w h => h.sub) (by dsimp only; omega)
  simpa using hgo
theorem order_taken (v : Value) (ms : List MbM) (free : Int) (w : World) (F : List HProp) [hrd : Reads F v encMb 4 ms] (hw : holds w F) :
    Ct Try.prog 142 #[.int .i64 free, v] w fun e w' => ∃ b : Nat × Nat, e = .returned (.func (.func 150) #[] #[.pointer (some ⟨b.1, 0, none⟩), .pointer (some ⟨b.2, 0, none⟩)]) ∧ holds w' (blk b.1 (.cells #[v] 26 (0, 0)) :: blk b.2 (.cells #[.int .i64 free] 3 (0, 0)) :: F) := by
  obtain ⟨a, cap, rfl, _⟩ := (hrd.at_ w hw).form
  refine Ct.go (args := [.int .i64 free, .slice a ms.length cap]) Try.func142 rfl rfl rfl hw ?_
  repeat' (first | (apply GL.isAny; first | refine GL.runA rfl ?_ | (apply GL.isStore; first | refine GL.storeBlk rfl rfl rfl rfl rfl ?_ | refine GL.storeWhole rfl rfl rfl rfl rfl ?_ | refine GL.storeBlkA rfl rfl rfl rfl rfl ?_) | refine GL.guardY rfl rfl ?_ | refine GL.guardN rfl rfl rfl ?_ | refine GL.guardU rfl rfl rfl ?_ | (apply GL.isBox; first | refine GL.boxA rfl rfl (fun _ => ?_) | refine GL.box1 rfl rfl rfl (fun _ => ?_) | refine GL.box rfl rfl (fun _ => ?_)) | (apply GL.isBuildS; first | refine GL.buildSlice1A rfl rfl rfl rfl rfl (fun _ => ?_) | refine GL.buildSlice1 rfl rfl rfl rfl rfl (fun _ => ?_)) | (apply GL.isCall; refine GL.append1 _ rfl rfl rfl rfl (by rfl) (by omega) (by omega) rfl (fun _ => ?_)) | (apply GL.isAlloc; refine GL.alloc rfl (fun _ => ?_))) | apply GL.nil | first | apply G.seq | apply G.region | apply G.block | apply G.skip | apply G.exit | apply G.ret | (apply G.isCond; first | refine G.condT rfl ?_ | refine G.condF rfl ?_) | refine G.draw (by kernel_rfl) (by kernel_rfl) ?_ | (apply GE.isAny; first | apply GE.again | apply GE.thenG | apply GE.blockN | apply GE.blockE | apply GE.thenE | apply GE.thenR | apply GE.blockR | refine GE.blockO rfl ?_ | apply GE.only) | (apply GD.isAny; first | refine GD.runA rfl ?_ | refine GD.guardY rfl rfl ?_ | refine GD.guardN rfl rfl rfl ?_ | refine GD.guardU rfl rfl rfl ?_) | apply GD.nilE | apply GD.nilL | (apply GT.isAny; refine GT.runA rfl rfl ?_) | ((first | (apply GL.isAny; refine GL.guard rfl rfl (fun hc => ?_) (fun hc => ?_)) | (apply G.isCond; refine G.cond rfl (fun hc => ?_) (fun hc => ?_)) | (apply GD.isAny; refine GD.guard rfl rfl (fun hc => ?_) (fun hc => ?_))) <;> ((try simp only [decide_eq_true_eq, decide_eq_false_iff_not, Bool.not_true, Bool.not_false, ne_eq, Classical.not_not, Int.not_lt, Int.not_le] at hc); (try (exfalso; first | omega | exact hc trivial | exact hc rfl)))))
  rename_i bf bl
  refine GE.resOne rfl (by (repeat (first | apply Res.nil | (apply Res.tmp; rfl) | (refine Res.cellA rfl rfl rfl ?_) | (refine Res.cell1 rfl rfl ?_)))) (fun w h => ?_)
  exact ⟨(bl, bf), rfl, h⟩
def outI (bo : Nat) (l : List Int) : HProp := fun f => ∃ sv : Value, sep [blk bo (.cells #[sv] 25 (0, 0)), owns 3 encI1 1 sv l] f
theorem outI.mk {bo : Nat} {sv : Value} {l : List Int} {F : List HProp} {w : World} (h : holds w (blk bo (.cells #[sv] 25 (0, 0)) :: owns 3 encI1 1 sv l :: F)) : holds w (outI bo l :: F) :=
  holds.mono (A := sep [blk bo (.cells #[sv] 25 (0, 0)), owns 3 encI1 1 sv l]) (holds_sep.2 h) fun f hf => ⟨sv, hf⟩
theorem outI.opens {bo : Nat} {l : List Int} {F : List HProp} {w : World} (h : holds w (outI bo l :: F)) : ∃ sv, holds w (blk bo (.cells #[sv] 25 (0, 0)) :: owns 3 encI1 1 sv l :: F) := by
  obtain ⟨sv, h⟩ := h.open_ex
  exact ⟨sv, holds_sep.1 h⟩
theorem order_Order (v : Value) (ms : List MbM) (hr : ∀ m ∈ ms, Acc.Right m.acc) (free : Int) (h0 : 0 ≤ free) (h1 : free ≤ 1048576) (hn : ms.length ≤ 1048576) (w : World) (F : List HProp) [Reads F v encMb 4 ms] (hw : holds w F) :
    Ct Try.prog 129 #[.int .i64 free, v] w fun e w' => ∃ r : Value, e = .returned (.tuple #[r, .bool (decide ((Ord.takL ms.length (List.replicate ms.length false) free ms).length = ms.length))]) ∧ holds w' F := by
  refine Ct.goM (args := [.int .i64 free, v]) Try.func129 rfl rfl rfl hw ?_
  repeat' (first | first | (apply GL.isAny; first | refine GL.runA rfl ?_ | (apply GL.isStore; first | refine GL.storeBlk rfl rfl rfl rfl rfl ?_ | refine GL.storeWhole rfl rfl rfl rfl rfl ?_ | refine GL.storeBlkA rfl rfl rfl rfl rfl ?_) | refine GL.guardY rfl rfl ?_ | refine GL.guardN rfl rfl rfl ?_ | refine GL.guardU rfl rfl rfl ?_ | (apply GL.isBox; first | refine GL.boxA rfl rfl (fun _ => ?_) | refine GL.box1 rfl rfl rfl (fun _ => ?_) | refine GL.box rfl rfl (fun _ => ?_)) | (apply GL.isBuildS; first | refine GL.buildSlice1A rfl rfl rfl rfl rfl (fun _ => ?_) | refine GL.buildSlice1 rfl rfl rfl rfl rfl (fun _ => ?_)) | (apply GL.isCall; refine GL.append1 _ rfl rfl rfl rfl (by rfl) (by omega) (by omega) rfl (fun _ => ?_)) | (apply GL.isAlloc; refine GL.alloc rfl (fun _ => ?_))) | apply GL.nil | first | apply G.seq | apply G.region | apply G.block | apply G.skip | apply G.exit | apply G.ret | (apply G.isCond; first | refine G.condT rfl ?_ | refine G.condF rfl ?_) | refine G.draw (by kernel_rfl) (by kernel_rfl) ?_ | (apply GE.isAny; first | apply GE.again | apply GE.thenG | apply GE.blockN | apply GE.blockE | apply GE.thenE | apply GE.thenR | apply GE.blockR | refine GE.blockO rfl ?_ | apply GE.only) | (apply GD.isAny; first | refine GD.runA rfl ?_ | refine GD.guardY rfl rfl ?_ | refine GD.guardN rfl rfl rfl ?_ | refine GD.guardU rfl rfl rfl ?_) | apply GD.nilE | apply GD.nilL | (apply GT.isAny; refine GT.runA rfl rfl ?_) | ((first | (apply GL.isAny; refine GL.guard rfl rfl (fun hc => ?_) (fun hc => ?_)) | (apply G.isCond; refine G.cond rfl (fun hc => ?_) (fun hc => ?_)) | (apply GD.isAny; refine GD.guard rfl rfl (fun hc => ?_) (fun hc => ?_))) <;> ((try simp only [decide_eq_true_eq, decide_eq_false_iff_not, Bool.not_true, Bool.not_false, ne_eq, Classical.not_not, Int.not_lt, Int.not_le] at hc); (try (exfalso; first | omega | exact hc trivial | exact hc rfl)))) | (first | (apply GL.isCall; refine GL.call1 rfl rfl (fun w h => order_mayY free h0 h1 v ms hr hn w _ h) ?_) | (apply GL.isAny; refine GL.makeSl encI1 0 0 ms.length rfl rfl rfl rfl rfl (by omega) (by omega) (by unfold maxLen; omega) rfl (fun _ => ?_)) | (apply GL.isCall; refine GL.call rfl rfl (fun w h => order_taken v ms free w _ h) (fun x => ?_))))
  rename_i g bo
  obtain ⟨bl, bf⟩ := x
  dsimp only
  obtain ⟨L, hL⟩ : ∃ L, L = Ord.takL ms.length (List.replicate ms.length false) free ms := ⟨_, rfl⟩
  have hLn : L.length ≤ ms.length := by rw [hL]; exact Ord.takL_len _ _ _ _
  have T := order_taken1 bl bf v ms hr free h0 h1 hn (blk bl (.cells #[v] 26 (0, 0)) :: F)
  rw [← hL] at T ⊢
  refine G.rangeFunc (F := blk bf (.cells #[.int .i64 free] 3 (0, 0)) :: blk bl (.cells #[v] 26 (0, 0)) :: F) .ret (fun y k => [match y with | true => outI bo ((L.take k).map (·.1)) | false => fun _ => False]) ?_ rfl (fun args w => Own.run args w) T (fun x => rfl) rfl (fun l k x Q A hx h => ?_) (fun w h => ?_) (fun l k x A hx => ?_) (fun D => ?_) (fun D k hk hk2 => ?_)
  rotate_left
  · repeat' (first | apply GE.iq | ((apply GL.isAny; first | refine GL.runA rfl ?_ | (apply GL.isStore; first | refine GL.storeBlk rfl rfl rfl rfl rfl ?_ | refine GL.storeWhole rfl rfl rfl rfl rfl ?_ | refine GL.storeBlkA rfl rfl rfl rfl rfl ?_) | refine GL.guardY rfl rfl ?_ | refine GL.guardN rfl rfl rfl ?_ | refine GL.guardU rfl rfl rfl ?_ | (apply GL.isBox; first | refine GL.boxA rfl rfl (fun _ => ?_) | refine GL.box1 rfl rfl rfl (fun _ => ?_) | refine GL.box rfl rfl (fun _ => ?_)) | (apply GL.isBuildS; first | refine GL.buildSlice1A rfl rfl rfl rfl rfl (fun _ => ?_) | refine GL.buildSlice1 rfl rfl rfl rfl rfl (fun _ => ?_)) | (apply GL.isCall; refine GL.append1 _ rfl rfl rfl rfl (by rfl) (by omega) (by omega) rfl (fun _ => ?_)) | (apply GL.isAlloc; refine GL.alloc rfl (fun _ => ?_)))) | (apply GL.isAny; refine GL.guard rfl rfl (fun hc => ?_) (fun hc => ?_) <;> ((try simp only [decide_eq_true_eq, decide_eq_false_iff_not, Bool.not_true, Bool.not_false, ne_eq, Classical.not_not, Int.not_lt, Int.not_le] at hc); (try (exfalso; first | omega | exact hc trivial | exact hc rfl)))) | apply GL.nil | ((refine GLI.op (by first | exact .wide | exact .round _) (by intro c hc; cases hc) ?_)) | apply GLI.nil | (first | apply GI.seq | apply GI.region | apply GI.block | apply GI.skip | apply GI.exit | apply GI.ret | (refine GI.cond rfl (fun hc => ?_) (fun hc => ?_) <;> ((try (exfalso; cases hc; done)); ((try simp only [decide_eq_true_eq, decide_eq_false_iff_not, Bool.not_true, Bool.not_false, ne_eq, Classical.not_not, Int.not_lt, Int.not_le] at hc); (try (exfalso; first | omega | exact hc trivial | exact hc rfl)))))) | (first | apply GEI.thenG | apply GEI.thenW | apply GEI.blockN | apply GEI.blockE | apply GEI.thenE | apply GEI.thenR | apply GEI.blockR))
    exact h
  · have h1 : holds w (blk bo (.cells #[.slice (some ⟨g, 0, none⟩) 0 ms.length] 25 (0, 0)) :: owns 3 encI1 1 (.slice (some ⟨g, 0, none⟩) 0 ms.length) [] :: blk bf (.cells #[.int .i64 free] 3 (0, 0)) :: blk bl (.cells #[v] 26 (0, 0)) :: F) := holds.sub (show holds w (blk bl (.cells #[v] 26 (0, 0)) :: blk bf (.cells #[.int .i64 free] 3 (0, 0)) :: blk bo (.cells #[.slice (some ⟨g, 0, none⟩) 0 ms.length] 25 (0, 0)) :: owns 3 encI1 1 (.slice (some ⟨g, 0, none⟩) 0 ms.length) [] :: F) from h)
    exact outI.mk h1
  · have hkl : k < L.length := (List.getElem?_eq_some_iff.1 hx).1
    have hxs : ((L.take k).map (·.1)).length = k := by rw [List.length_map, List.length_take]; omega
    have hnext : (L.take (k + 1)).map (·.1) = (L.take k).map (·.1) ++ [x.1] := by rw [List.take_add_one, hx]; simp
    refine GI.case (F' := fun sv => blk bo (.cells #[sv] 25 (0, 0)) :: owns 3 encI1 1 sv ((L.take k).map (·.1)) :: A) (fun sv => ?_) (fun w h => outI.opens h)
    generalize (L.take k).map (·.1) = xs at hxs hnext ⊢
    repeat' (first | apply GE.iq | ((apply GL.isAny; first | refine GL.runA rfl ?_ | (apply GL.isStore; first | refine GL.storeBlk rfl rfl rfl rfl rfl ?_ | refine GL.storeWhole rfl rfl rfl rfl rfl ?_ | refine GL.storeBlkA rfl rfl rfl rfl rfl ?_) | refine GL.guardY rfl rfl ?_ | refine GL.guardN rfl rfl rfl ?_ | refine GL.guardU rfl rfl rfl ?_ | (apply GL.isBox; first | refine GL.boxA rfl rfl (fun _ => ?_) | refine GL.box1 rfl rfl rfl (fun _ => ?_) | refine GL.box rfl rfl (fun _ => ?_)) | (apply GL.isBuildS; first | refine GL.buildSlice1A rfl rfl rfl rfl rfl (fun _ => ?_) | refine GL.buildSlice1 rfl rfl rfl rfl rfl (fun _ => ?_)) | (apply GL.isCall; refine GL.append1 _ rfl rfl rfl rfl (by rfl) (by omega) (by omega) rfl (fun _ => ?_)) | (apply GL.isAlloc; refine GL.alloc rfl (fun _ => ?_)))) | (apply GL.isAny; refine GL.guard rfl rfl (fun hc => ?_) (fun hc => ?_) <;> ((try simp only [decide_eq_true_eq, decide_eq_false_iff_not, Bool.not_true, Bool.not_false, ne_eq, Classical.not_not, Int.not_lt, Int.not_le] at hc); (try (exfalso; first | omega | exact hc trivial | exact hc rfl)))) | apply GL.nil | ((apply GL.isAny; apply GL.isStore; refine GL.storeOwn rfl rfl rfl ?_)) | ((refine GLI.op (by first | exact .wide | exact .round _) (by intro c hc; cases hc) ?_)) | apply GLI.nil | (first | apply GI.seq | apply GI.region | apply GI.block | apply GI.skip | apply GI.exit | apply GI.ret | (refine GI.cond rfl (fun hc => ?_) (fun hc => ?_) <;> ((try (exfalso; cases hc; done)); ((try simp only [decide_eq_true_eq, decide_eq_false_iff_not, Bool.not_true, Bool.not_false, ne_eq, Classical.not_not, Int.not_lt, Int.not_le] at hc); (try (exfalso; first | omega | exact hc trivial | exact hc rfl)))))) | (first | apply GEI.thenG | apply GEI.thenW | apply GEI.blockN | apply GEI.blockE | apply GEI.thenE | apply GEI.thenR | apply GEI.blockR))
    rename_i b1 v1
    refine GEI.roundN fun w h => ?_
    show holds w (outI bo ((L.take (k + 1)).map (·.1)) :: A)
    rw [hnext]
    exact outI.mk (sv := v1) (holds.sub (show holds w (blk bo (.cells #[v1] 25 (0, 0)) :: owns 3 encI1 1 v1 (xs ++ [x.1]) :: blk b1 (.cells #[.int .i64 x.1] 3 (0, 0)) :: A) from h))
  · refine GEI.case (F' := fun sv => blk bo (.cells #[sv] 25 (0, 0)) :: owns 3 encI1 1 sv ((L.take L.length).map (·.1)) :: blk bl (.cells #[v] 26 (0, 0)) :: (F ++ [blk D (.deferred (some []))])) (fun sv => ?_) (fun w h => outI.opens h)
    have hxs : ((L.take L.length).map (·.1)).length = L.length := by simp
    generalize (L.take L.length).map (·.1) = xs at hxs ⊢
    repeat' (first | apply GE.iq | ((apply GL.isAny; first | refine GL.runA rfl ?_ | (apply GL.isStore; first | refine GL.storeBlk rfl rfl rfl rfl rfl ?_ | refine GL.storeWhole rfl rfl rfl rfl rfl ?_ | refine GL.storeBlkA rfl rfl rfl rfl rfl ?_) | refine GL.guardY rfl rfl ?_ | refine GL.guardN rfl rfl rfl ?_ | refine GL.guardU rfl rfl rfl ?_ | (apply GL.isBox; first | refine GL.boxA rfl rfl (fun _ => ?_) | refine GL.box1 rfl rfl rfl (fun _ => ?_) | refine GL.box rfl rfl (fun _ => ?_)) | (apply GL.isBuildS; first | refine GL.buildSlice1A rfl rfl rfl rfl rfl (fun _ => ?_) | refine GL.buildSlice1 rfl rfl rfl rfl rfl (fun _ => ?_)) | (apply GL.isCall; refine GL.append1 _ rfl rfl rfl rfl (by rfl) (by omega) (by omega) rfl (fun _ => ?_)) | (apply GL.isAlloc; refine GL.alloc rfl (fun _ => ?_)))) | (apply GL.isAny; refine GL.guard rfl rfl (fun hc => ?_) (fun hc => ?_) <;> ((try simp only [decide_eq_true_eq, decide_eq_false_iff_not, Bool.not_true, Bool.not_false, ne_eq, Classical.not_not, Int.not_lt, Int.not_le] at hc); (try (exfalso; first | omega | exact hc trivial | exact hc rfl)))) | apply GL.nil | ((refine GLI.op (by first | exact .wide | exact .round _) (by intro c hc; cases hc) ?_)) | apply GLI.nil | (first | apply GI.seq | apply GI.region | apply GI.block | apply GI.skip | apply GI.exit | apply GI.ret | (refine GI.cond rfl (fun hc => ?_) (fun hc => ?_) <;> ((try (exfalso; cases hc; done)); ((try simp only [decide_eq_true_eq, decide_eq_false_iff_not, Bool.not_true, Bool.not_false, ne_eq, Classical.not_not, Int.not_lt, Int.not_le] at hc); (try (exfalso; first | omega | exact hc trivial | exact hc rfl)))))) | (first | apply GEI.thenG | apply GEI.thenW | apply GEI.blockN | apply GEI.blockE | apply GEI.thenE | apply GEI.thenR | apply GEI.blockR))
    · refine GEI.resM (F1 := F) (.inl rfl) rfl (fun w h => (h.tail.tail.tail).perm (List.perm_append_singleton _ _)) (by (repeat (first | apply Res.nil | (apply Res.tmp; rfl) | (refine Res.cellA rfl rfl rfl ?_) | (refine Res.cell1 rfl rfl ?_)))) (fun w h => ⟨.slice none 0 0, ?_, h⟩)
      rw [decide_eq_false (by omega)]; rfl
    · refine GEI.resM (F1 := F) (.inl rfl) rfl (fun w h => (h.tail.tail.tail).perm (List.perm_append_singleton _ _)) (by (repeat (first | apply Res.nil | (apply Res.tmp; rfl) | (refine Res.cellA rfl rfl rfl ?_) | (refine Res.cell1 rfl rfl ?_)))) (fun w h => ⟨sv, ?_, h⟩)
      rw [decide_eq_true (by omega)]; rfl
  · exact GI.absurd fun w h => holds.no h
theorem order_Safe (v : Value) (ms : List MbM) (hr : ∀ m ∈ ms, Acc.Right m.acc) (free : Int) (h0 : 0 ≤ free) (h1 : free ≤ 1048576) (hn : ms.length ≤ 1048576) (w : World) (F : List HProp) [Reads F v encMb 4 ms] (hw : holds w F) :
    Ct Try.prog 110 #[.int .i64 free, v] w fun e w' => e = .returned (.bool (decide ((Ord.takL ms.length (List.replicate ms.length false) free ms).length = ms.length))) ∧ holds w' F := by
  refine Ct.go (args := [.int .i64 free, v]) Try.func110 rfl rfl rfl hw ?_
  repeat' (first | first | (apply GL.isAny; first | refine GL.runA rfl ?_ | (apply GL.isStore; first | refine GL.storeBlk rfl rfl rfl rfl rfl ?_ | refine GL.storeWhole rfl rfl rfl rfl rfl ?_ | refine GL.storeBlkA rfl rfl rfl rfl rfl ?_) | refine GL.guardY rfl rfl ?_ | refine GL.guardN rfl rfl rfl ?_ | refine GL.guardU rfl rfl rfl ?_ | (apply GL.isBox; first | refine GL.boxA rfl rfl (fun _ => ?_) | refine GL.box1 rfl rfl rfl (fun _ => ?_) | refine GL.box rfl rfl (fun _ => ?_)) | (apply GL.isBuildS; first | refine GL.buildSlice1A rfl rfl rfl rfl rfl (fun _ => ?_) | refine GL.buildSlice1 rfl rfl rfl rfl rfl (fun _ => ?_)) | (apply GL.isCall; refine GL.append1 _ rfl rfl rfl rfl (by rfl) (by omega) (by omega) rfl (fun _ => ?_)) | (apply GL.isAlloc; refine GL.alloc rfl (fun _ => ?_))) | apply GL.nil | first | apply G.seq | apply G.region | apply G.block | apply G.skip | apply G.exit | apply G.ret | (apply G.isCond; first | refine G.condT rfl ?_ | refine G.condF rfl ?_) | refine G.draw (by kernel_rfl) (by kernel_rfl) ?_ | (apply GE.isAny; first | apply GE.again | apply GE.thenG | apply GE.blockN | apply GE.blockE | apply GE.thenE | apply GE.thenR | apply GE.blockR | refine GE.blockO rfl ?_ | apply GE.only) | (apply GD.isAny; first | refine GD.runA rfl ?_ | refine GD.guardY rfl rfl ?_ | refine GD.guardN rfl rfl rfl ?_ | refine GD.guardU rfl rfl rfl ?_) | apply GD.nilE | apply GD.nilL | (apply GT.isAny; refine GT.runA rfl rfl ?_) | ((first | (apply GL.isAny; refine GL.guard rfl rfl (fun hc => ?_) (fun hc => ?_)) | (apply G.isCond; refine G.cond rfl (fun hc => ?_) (fun hc => ?_)) | (apply GD.isAny; refine GD.guard rfl rfl (fun hc => ?_) (fun hc => ?_))) <;> ((try simp only [decide_eq_true_eq, decide_eq_false_iff_not, Bool.not_true, Bool.not_false, ne_eq, Classical.not_not, Int.not_lt, Int.not_le] at hc); (try (exfalso; first | omega | exact hc trivial | exact hc rfl)))) | ((apply GL.isCall; refine GL.call rfl rfl (fun w h => order_Order v ms hr free h0 h1 hn w _ h) (fun x => ?_))))
  refine GE.resOne rfl (by (repeat (first | apply Res.nil | (apply Res.tmp; rfl) | (refine Res.cellA rfl rfl rfl ?_) | (refine Res.cell1 rfl rfl ?_)))) (fun w h => ?_)
  exact ⟨rfl, h.sub⟩
end Go.Proofs.Ytfiggkbclldccaa

/- How a ticket lies in cells. -/
namespace Go.Proofs.Ytfiggkbclldccaa
open Go Go.RowKit Go.MapKept
set_option linter.unusedSimpArgs false
@[reducible] def encTk (t : TickM) : List Value := [.int .i64 t.id, .int .i64 t.client, .int .i64 t.count, .int .i64 t.state, .int .i64 t.passed]
instance : Enc encTk 5 := ⟨fun _ => rfl, fun _ => by simp [encTk, Value.oneCell'], by omega⟩
end Go.Proofs.Ytfiggkbclldccaa

/- How a laid piece lies in cells. -/
namespace Go.Proofs.Ytfiggkbclldccaa
open Go Go.RowKit Go.MapKept
set_option linter.unusedSimpArgs false
structure LaidM where
  chunk : Int
  gen : Int
  region : Int
  pos : Int
  len : Int
deriving DecidableEq
def encLaid (l : LaidM) : List Value := [.int .i64 l.chunk, .int .i64 l.gen, .int .i64 l.region, .int .i64 l.pos, .int .i64 l.len]
instance {l : LaidM} : IntsL (encLaid l) [l.chunk, l.gen, l.region, l.pos, l.len] := ⟨rfl⟩
instance : Enc encLaid 5 := ⟨fun _ => rfl, fun _ => by simp [encLaid, Value.oneCell'], by omega⟩
end Go.Proofs.Ytfiggkbclldccaa

/- Where paths meet again: what is behind is walked once. -/
namespace Go.Proofs.Ytfiggkbclldccaa
open Go Go.RowKit Go.MapKept
set_option linter.unusedVariables false
section
variable {P : Program} {n : Nat} {Q Q' : Exit → Act → World → Prop} {env : Env} {F : List HProp}
theorem G.scope {c : Code} (h : G P n c (Exit.noGoto Q) env F) : G P n (.scope c) Q env F := .mk fun a w hf hw => wp_scope_straight (h a w hf hw)
theorem G.label {l : Nat} (h : GE n .normal Q env F) : G P n (.label l) Q env F := .mk fun a w hf hw => wp_label (h a w hf hw)
theorem GE.nogN (h : GE n .normal Q env F) : GE n .normal (Exit.noGoto Q) env F := .mk fun a w hf hw => h a w hf hw
theorem GE.nogE {id : Nat} (h : GE n (.exit id) Q env F) : GE n (.exit id) (Exit.noGoto Q) env F := .mk fun a w hf hw => h a w hf hw
theorem GE.nogR (h : GE n .ret Q env F) : GE n .ret (Exit.noGoto Q) env F := .mk fun a w hf hw => h a w hf hw
end
end Go.Proofs.Ytfiggkbclldccaa
