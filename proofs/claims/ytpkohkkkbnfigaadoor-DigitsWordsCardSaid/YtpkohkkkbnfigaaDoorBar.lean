/- A region that draws its order, cut where all that follows waits: the operations ahead of it by one walk, then one behind the other, then the others by one walk. What one call changes, the others see changed. -/
import Derived.Test.YtpkohkkkbnfigaaDoorLoose
namespace Go.Proofs.YtpkohkkkbnfigaaDoor
open Go Go.RowKit
set_option linter.unusedVariables false

def listTo : Nat → Nat → Array Bool → Array Bool
  | 0, _, l => l
  | f + 1, k, l => listTo f (k + 1) (l.setIfInBounds k true)
def listPre (m : Nat) (pre : List Nat) : Array Bool := pre.foldl (fun l p => l.setIfInBounds p true) (Array.replicate m false)

/-- Whatever stands behind n waits for one that stands there too and has not come up. -/
def gateB (md : Region.Mode) (ops : Array Oper) (n : Nat) (l0 : Array Bool) : Bool :=
  (List.range ops.size).all fun t => decide (t ≤ n) || l0.getD t true || (List.range t).any fun j => decide (n ≤ j) && !l0.getD j true && Region.waitsFor md ops t j
def closedB (md : Region.Mode) (ops : Array Oper) (l0 : Array Bool) : Bool :=
  (List.range ops.size).all fun j => !l0.getD j false || match ops[j]? with
    | some oj => oj.after.all fun e => !Region.binds md e || l0.getD e.on false
    | none => true
def lexG (md : Region.Mode) (ops : Array Oper) : Nat → Nat → Array Bool → Bool
  | 0, n, l => (Region.ready md ops l).all fun j => decide (n ≤ j)
  | f + 1, k, l => (Region.ready md ops l).contains k && Region.free md ops l k && lexG md ops f (k + 1) (l.setIfInBounds k true)
def headB (md : Region.Mode) (ops : Array Oper) (n : Nat) (l0 : Array Bool) : Bool :=
  Region.noSelect ops && decide (n < ops.size) && (l0.size == ops.size) && (l0.getD n true == false) && Region.sinkB md ops n && gateB md ops n l0 && closedB md ops l0 && lexG md ops n 0 l0

section
variable {Pr : Program} {ops : Array Oper} {S : Nat → Option LSpec} {B : List HProp} {md : Region.Mode}

structure GateInv (md : Region.Mode) (ops : Array Oper) (n : Nat) (l0 listed : Array Bool) : Prop where
  size : listed.size = ops.size
  closed : ∀ j oj, ops[j]? = some oj → listed.getD j false = true → ∀ e ∈ oj.after, Region.binds md e = true → listed.getD e.on false = true
  tail : ∀ t, n ≤ t → listed.getD t true = l0.getD t true

theorem GateInv.set {n i : Nat} {l0 listed : Array Bool} (inv : GateInv md ops n l0 listed) (hi : i ∈ Region.ready md ops listed) (hin : i < n) : GateInv md ops n l0 (listed.setIfInBounds i true) := by
  obtain ⟨_, oi, hoi, hall⟩ := mem_ready.1 hi
  refine ⟨by simp [inv.size], fun j oj hj hl e he hb => ?_, fun t ht => by rw [getD_set_ne true (by omega)]; exact inv.tail t ht⟩
  by_cases hij : i = j
  · subst hij
    have : oj = oi := Option.some.inj (hj.symm.trans hoi)
    subst this
    exact getD_set_true (hall e he hb)
  · rw [getD_set_ne false hij] at hl
    exact getD_set_true (inv.closed j oj hj hl e he hb)

theorem gate_waits {n : Nat} {l0 listed : Array Bool} (hs : Region.sinkB md ops n = true) (hg : gateB md ops n l0 = true) (hn : n < ops.size) (h0 : l0.getD n true = false) (inv : GateInv md ops n l0 listed) :
    ∀ (d i : Nat), n - i = d → i < n → listed.getD i true = false → ∀ t, n ≤ t → t ∉ Region.ready md ops listed := by
  intro d
  induction d using Nat.strongRecOn with
  | _ d ih =>
    intro i hd hi hun t ht hr
    obtain ⟨hut, ot, hot, hall⟩ := mem_ready.1 hr
    have htlt : t < ops.size := (Array.getElem?_eq_some_iff.1 hot).1
    by_cases htn : t = n
    · subst htn
      have h1 := List.all_eq_true.1 hs i (List.mem_range.2 hi)
      obtain ⟨j, hj, hj2⟩ := List.any_eq_true.1 h1
      simp only [Bool.and_eq_true, decide_eq_true_eq] at hj2
      obtain ⟨oj, hoj, e, he, hb, hon⟩ := Region.waitsFor_spec hj2.2
      have hjle : j ≤ t := by have := List.mem_range.1 hj; omega
      by_cases hjt : j = t
      · subst hjt
        have : oj = ot := Option.some.inj (hoj.symm.trans hot)
        subst this
        have h2 := hall e he hb
        rw [hon, getD_both hun] at h2
        cases h2
      · cases hl : listed.getD j false with
        | true =>
          have h2 := inv.closed j oj hoj hl e he hb
          rw [hon, getD_both hun] at h2
          cases h2
        | false =>
          have hjs : j < listed.size := by rw [inv.size]; omega
          exact ih (t - j) (by omega) j rfl (by omega) (getD_in hjs hl) t (Nat.le_refl _) hr
    · have h1 := List.all_eq_true.1 hg t (List.mem_range.2 htlt)
      simp only [Bool.or_eq_true, decide_eq_true_eq] at h1
      rcases h1 with (h1 | h1) | h1
      · omega
      · rw [← inv.tail t ht, hut] at h1; cases h1
      · obtain ⟨j, hj, h2⟩ := List.any_eq_true.1 h1
        simp only [Bool.and_eq_true, decide_eq_true_eq, Bool.not_eq_true'] at h2
        obtain ⟨⟨h3, h4⟩, h5⟩ := h2
        obtain ⟨o', ho', e, he, hb, hon⟩ := Region.waitsFor_spec h5
        have : o' = ot := Option.some.inj (ho'.symm.trans hot)
        subst this
        have h6 := hall e he hb
        rw [hon, getD_both (by rw [inv.tail j h3]; exact h4)] at h6
        cases h6

/-- **An operation that may come up now may be taken first.** -/
theorem wpHeadG_first (hB : looseB ops md = true) {n i : Nat} {L : Array Bool → Act → Prop} {oi : Oper} {R : Value → Prop} (hi : ops[i]? = some oi) (hsel : ∀ (j : Nat) (o : Oper) cs b, ops[j]? = some o → o.op ≠ .select cs b)
    {I : Array Bool → Prop} (hset : ∀ (listed : Array Bool) (j : Nat), I listed → j ∈ Region.ready md ops listed → j < n → I (listed.setIfInBounds j true)) (htw : ∀ listed, I listed → ∀ i, i < n → listed.getD i true = false → ∀ t, n ≤ t → t ∉ Region.ready md ops listed) (hin : i < n) (hdone : ∀ listed a, L listed a → ∀ j ∈ Region.ready md ops listed, n ≤ j) :
    ∀ (fuel : Nat) (listed : Array Bool) (a : Act), I listed →
      (∀ j oj, ops[j]? = some oj → j ≠ i → listed.getD j true = false → (∀ e ∈ oj.after, Region.binds md e = true → e.on ≠ i) → oi.apart ops oj = true) →
      i ∈ Region.ready md ops listed → LYields Pr ops S B i oi a R →
      (∀ v, R v → wpHeadL Pr ops S B md n L fuel (listed.setIfInBounds i true) (a.put oi.dst v)) → wpHeadL Pr ops S B md n L (fuel + 1) listed a := by
  intro fuel
  induction fuel with
  | zero =>
    intro listed a inv _ hr hy H hsat
    obtain ⟨w, hw⟩ := hsat
    obtain ⟨Y, hn, hp⟩ := known_split hB hi hr a hw
    obtain ⟨v, w', hv, hh⟩ := hy.some_ hn
    obtain ⟨Z, hZ⟩ := hp v
    have H1 := H v hv ⟨w', hh.perm_drop hZ⟩
    have hun := (mem_ready.1 hr).1
    refine ⟨fun h => (by rw [h] at hr; cases hr), fun j hj => ?_⟩
    have hjn : j < n := by
      rcases Nat.lt_or_ge j n with h | h
      · exact h
      · exact absurd hj (htw _ inv i hin hun j h)
    refine ⟨hjn, ?_⟩
    by_cases hji : j = i
    · subst hji
      unfold lOp
      simp only [hi]
      exact ⟨R, hy, H⟩
    · have := hdone _ _ H1 j (ready_mono hj hji)
      omega
  | succ fuel ih =>
    intro listed a inv hfree hr hy H hsat
    obtain ⟨w, hw⟩ := hsat
    obtain ⟨Y, hn, hp⟩ := known_split hB hi hr a hw
    obtain ⟨v, w', hv, hh⟩ := hy.some_ hn
    obtain ⟨Z, hZ⟩ := hp v
    have H1 := H v hv ⟨w', hh.perm_drop hZ⟩
    have hun := (mem_ready.1 hr).1
    refine ⟨fun h => (by rw [h] at hr; cases hr), fun j hj => ?_⟩
    have hjn : j < n := by
      rcases Nat.lt_or_ge j n with h | h
      · exact h
      · exact absurd hj (htw _ inv i hin hun j h)
    refine ⟨hjn, ?_⟩
    by_cases hji : j = i
    · subst hji
      unfold lOp
      simp only [hi]
      exact ⟨R, hy, H⟩
    · obtain ⟨hjun, oj, hoj, hall⟩ := mem_ready.1 hj
      have hnot : ∀ e ∈ oj.after, Region.binds md e = true → e.on ≠ i := fun e he hb heq => by
        have h1 := hall e he hb
        have h0 := (mem_ready.1 hr).1
        rw [heq] at h1
        rcases Nat.lt_or_ge i listed.size with h' | h'
        · simp [h'] at h0 h1; rw [h0] at h1; cases h1
        · simp [Array.getElem?_eq_none h'] at h1
      obtain ⟨a1, a2, a3⟩ := Oper.apart_spec (hfree j oj hoj hji hjun hnot)
      have h2 := (H1.2 j (ready_mono hj hji)).2
      unfold lOp at h2 ⊢
      simp only [hoj] at h2 ⊢
      obtain ⟨Rj, hyj, _⟩ := h2
      rw [LYields.put (fun cs b => hsel j oj cs b hoj) a1] at hyj
      refine ⟨Rj, hyj, fun u hu => ?_⟩
      have hfree' : ∀ k ok, ops[k]? = some ok → k ≠ i → (listed.setIfInBounds j true).getD k true = false →
          (∀ e ∈ ok.after, Region.binds md e = true → e.on ≠ i) → oi.apart ops ok = true := fun k ok hk hki hun hno => by
        refine hfree k ok hk hki ?_ hno
        by_cases hjk : j = k
        · subst hjk; exact hjun
        · rw [getD_set_ne true hjk] at hun; exact hun
      have hiun : (listed.setIfInBounds j true).getD i true = false := by rw [getD_set_ne true hji]; exact (mem_ready.1 hr).1
      refine ih (listed.setIfInBounds j true) (a.put oj.dst u) (hset _ _ inv hj hjn) hfree' (ready_mono hr (Ne.symm hji)) ((LYields.put (fun cs b => hsel i oi cs b hi) a3 R).2 hy) fun v' hv' => ?_
      have hcomm : (a.put oj.dst u).put oi.dst v' = (a.put oi.dst v').put oj.dst u := (Act.put_comm a v' u a2).symm
      have hset : (listed.setIfInBounds j true).setIfInBounds i true = (listed.setIfInBounds i true).setIfInBounds j true := (Array.setIfInBounds_comm _ _ (Ne.symm hji)).symm
      rw [hcomm, hset]
      have hjun' : (listed.setIfInBounds i true).getD j true = false := by rw [getD_set_ne true (Ne.symm hji)]; exact hjun
      have hgo : Sat (known ops S ((listed.setIfInBounds i true).setIfInBounds j true) ((a.put oi.dst v').put oj.dst u) ++ B) → wpHeadL Pr ops S B md n L fuel ((listed.setIfInBounds i true).setIfInBounds j true) ((a.put oi.dst v').put oj.dst u) := fun hs => by
        obtain ⟨Y2, hY2⟩ := known_mono (S := S) hB hoj hjun' (a.put oi.dst v') u
        have hs1 : Sat (known ops S (listed.setIfInBounds i true) (a.put oi.dst v') ++ B) := hs.sub (Y := Y2) (by
          refine (hY2.append_right B).trans ?_
          rw [List.append_assoc, List.append_assoc]
          exact List.perm_append_comm.append_left _)
        have h3 := ((H v' hv' hs1).2 j (ready_mono hj hji)).2
        unfold lOp at h3
        simp only [hoj] at h3
        obtain ⟨Rj', hyj', hk⟩ := h3
        rw [LYields.put (fun cs b => hsel j oj cs b hoj) a1] at hyj'
        have := LYields.inj hyj hyj'
        subst this
        exact hk u hu
      cases fuel with
      | zero => exact fun hs => hgo hs hs
      | succ fuel => exact fun hs => hgo hs hs

theorem wpHeadG_lex (hB : looseB ops md = true) {n : Nat} {l0 : Array Bool} {Lq : Act → Prop} (hsel : Region.noSelect ops = true) (hs : Region.sinkB md ops n = true) (hg : gateB md ops n l0 = true) (hn : n < ops.size) (h0n : l0.getD n true = false) :
    ∀ (l : List Oper) (k : Nat) (listed : Array Bool) (a : Act), (∀ j, j < l.length → l[j]? = ops[k + j]?) → k + l.length = n → GateInv md ops n l0 listed →
    lexG md ops l.length k listed = true → wpLoose Pr ops S B Lq k l a →
    wpHeadL Pr ops S B md n (fun listed' a' => ((Region.ready md ops listed').all (fun j => decide (n ≤ j)) = true ∧ listed' = listTo l.length k listed) ∧ Lq a') l.length listed a
  | [], k, listed, a, _, hk, _, hL, h => fun _ => by
    have : k = n := by simpa using hk
    subst this
    exact ⟨⟨by simpa [lexG] using hL, rfl⟩, h⟩
  | o :: l, k, listed, a, hl, hk, inv, hL, h => by
    have h0 : ops[k]? = some o := by simpa using (hl 0 (by simp)).symm
    simp only [List.length_cons, lexG, Bool.and_eq_true] at hL
    obtain ⟨⟨hr, hf⟩, hL'⟩ := hL
    have hkn : k < n := by simp only [List.length_cons] at hk; omega
    have hr' : k ∈ Region.ready md ops listed := by simpa using hr
    have hrec := fun a' (h' : wpLoose Pr ops S B Lq (k + 1) l a') => wpHeadG_lex hB hsel hs hg hn h0n l (k + 1) (listed.setIfInBounds k true) a' (fun j hj => by have := hl (j + 1) (by simp; omega); simpa [Nat.add_assoc, Nat.add_comm 1 j] using this) (by simp only [List.length_cons] at hk; omega) (inv.set hr' hkn) hL' h'
    obtain ⟨R, hy, hR⟩ := loose_yields h
    exact wpHeadG_first hB h0 (Region.noSelect_spec hsel) (I := GateInv md ops n l0) (fun _ _ inv hj hjn => inv.set hj hjn) (fun _ inv i hi hu t ht => gate_waits hs hg hn h0n inv _ i rfl hi hu t ht) hkn
      (fun listed' a' hL j hj => by have := List.all_eq_true.1 hL.1.1 j hj; simpa using this) l.length listed a inv (Region.free_spec h0 hf) hr' hy fun v hv => hrec _ (hR v hv)

theorem known_nil {listed : Array Bool} {a : Act} (h : ∀ i, listed.getD i false = true → S i = none) : known ops S listed a = [] := by
  unfold known
  refine List.flatMap_eq_nil_iff.2 fun i _ => ?_
  by_cases hi : listed.getD i false = true
  · rw [if_pos hi]
    unfold pieceAt lpieces
    rw [h i hi]
    cases (ops[i]?).bind (·.dst) <;> rfl
  · rw [if_neg hi]

/-- The head: what stands ahead of n, by one walk. -/
theorem wpAny_head {Q : Exit → Act → World → Prop} {a : Act} {w : World} {l : List Oper} (n g : Nat) (l0 : Array Bool) (S : Nat → Option LSpec) (B : List HProp) (hB : (headB .any l.toArray n l0 && looseB l.toArray .any) = true)
    (hS : ∀ i, l0.getD i false = true → S i = none) (hC : holds w B)
    (h : wpLoose Pr l.toArray S B (fun a' => ∀ w', holds w' B → wpAny Pr .any l.toArray Q g (listTo n 0 l0) a' w') 0 (l.take n) a) : wpAny Pr .any l.toArray Q (n + g) l0 a w := by
  simp only [headB, Bool.and_eq_true, decide_eq_true_eq, beq_iff_eq] at hB
  obtain ⟨⟨⟨⟨⟨⟨⟨⟨hsel, hn⟩, hsz⟩, h0n⟩, hs⟩, hg⟩, hcl⟩, hlex⟩, hB⟩ := hB
  have htl : (l.take n).length = n := by have : n < l.length := by simpa using hn
                                         simp; omega
  have inv0 : GateInv .any l.toArray n l0 l0 := ⟨hsz, fun j oj hj hl e he hb => by
    have h1 := List.all_eq_true.1 hcl j (List.mem_range.2 (Array.getElem?_eq_some_iff.1 hj).1)
    rw [hl, hj] at h1
    simp only [Bool.not_true, Bool.false_or] at h1
    have h2 := Array.all_eq_true_iff_forall_mem.1 h1 e he
    simpa [hb] using h2, fun t _ => rfl⟩
  have H := wpHeadG_lex (S := S) (B := B) (md := .any) hB hsel hs hg hn h0n (l.take n) 0 l0 a (fun j hj => by
    have hj' : j < n := by rw [htl] at hj; exact hj
    simp [hj']) (by simpa using htl) inv0 (by rw [htl]; exact hlex) h
  have := wpAny_of_headL (Q' := Q) hB (g := g) (fun listed' a' w' hw' hL => by rw [hL.1.2, htl]; exact hL.2 w' hw') _ _ _ _ (by rw [known_nil hS]; exact hC) H
  rw [htl] at this
  exact this

/-- One that alone may come up. -/
theorem wpAny_one {g : Nat} {Q : Exit → Act → World → Prop} {a : Act} {w : World} {f : Nat} {listed : Array Bool} (i : Nat) {o : Oper} (hr : Region.ready md ops listed = [i]) (ho : ops[i]? = some o) (hw : Region.wanted o (yielded ops a.tmps) = true)
    (hg : g = f + 1) (h : o.wp Pr a w (wpAny Pr md ops Q f (listed.setIfInBounds i true)) Q) : wpAny Pr md ops Q g listed a w := by
  subst hg
  refine ⟨fun h0 => (by rw [hr] at h0; cases h0), fun j hj => ?_⟩
  rw [hr] at hj
  have : j = i := by simpa using hj
  subst this
  unfold wpOp
  simp only [ho, hw, if_true]
  exact .inl h

theorem listPre_one {m p i : Nat} (h : (listPre m [p]).getD i false = true) : i = p := by
  unfold listPre at h
  simp only [List.foldl_cons, List.foldl_nil] at h
  by_cases hip : p = i
  · exact hip.symm
  · rw [getD_set_ne false hip, getD_replicate_false] at h
    cases h
/-- A region's head, one operation that waits for nothing being taken ahead of all. -/
theorem wp_region_cut {id : Nat} {Q : Exit → Act → World → Prop} {a : Act} {w : World} {l : List Oper} (n p g : Nat) {op : Oper} {v : Value} (S : Nat → Option LSpec) (B : List HProp) (hm : Pr.follows .mixedOrders = true) (hp : l.toArray[p]? = some op)
    (hB : ((headB .any l.toArray n (listPre l.toArray.size [p]) && looseB l.toArray .any) && (Region.free .any l.toArray (Array.replicate l.toArray.size false) p && (Region.ready .any l.toArray (Array.replicate l.toArray.size false)).contains p && decide (l.toArray.size = n + g + 1))) = true)
    (hQ : ∀ c a w, Q (.panic c) (a.put op.dst v) w → Q (.panic c) a w) (hw : Region.wanted op (yielded l.toArray a.tmps) = true) (hy : ∀ w, (execOp a.eval op).run Pr w = .ok (.value v) w) (hS : S p = none) (hC : holds w B)
    (h : wpLoose Pr l.toArray S B (fun a' => ∀ w', holds w' B → wpAny Pr .any l.toArray Q g (listTo n 0 (listPre l.toArray.size [p])) a' w') 0 (l.take n) (a.put op.dst v)) : (Code.region id l.toArray true).wp Pr Q a w := by
  simp only [Bool.and_eq_true, decide_eq_true_eq] at hB
  obtain ⟨⟨hB1, hB2⟩, ⟨hf, hr⟩, hsz⟩ := hB
  have hsel : Region.noSelect l.toArray = true := by simp only [headB, Bool.and_eq_true] at hB1; exact hB1.1.1.1.1.1.1.1
  refine wp_region_any hm ?_
  have hC' : holds { w with drawn := w.drawn + 1 } B := hC.drew
  have H := wpAny_head (Q := Q) n g (listPre l.toArray.size [p]) S B (by rw [hB1, hB2]; rfl) (fun i hi => by rw [listPre_one hi]; exact hS) hC' h
  have H2 := wpAny_take (fuel := n + g) hp hsel hf hr hQ (Or.inl ⟨hw, hy⟩) (show wpAny Pr .any l.toArray Q (n + g) ((Array.replicate l.toArray.size false).setIfInBounds p true) _ _ from H)
  rw [← hsz] at H2
  exact H2
/-- The rest, by one walk. -/
theorem wpAny_rest {Q : Exit → Act → World → Prop} {a : Act} {w : World} {l : List Oper} (k g : Nat) (listed : Array Bool) (S : Nat → Option LSpec) (B : List HProp) (hB : (Region.noSelect l.toArray && Region.lexFrom .any l.toArray g k listed && looseB l.toArray .any && decide (k + g = l.length)) = true)
    (hS : ∀ i, listed.getD i false = true → S i = none) (hC : holds w B)
    (h : wpLoose Pr l.toArray S B (fun a' => ∀ w', holds w' B → Q .normal a' w') k (l.drop k) a) : wpAny Pr .any l.toArray Q g listed a w := by
  simp only [Bool.and_eq_true, decide_eq_true_eq] at hB
  obtain ⟨⟨⟨hsel, hlex⟩, hB⟩, hkg⟩ := hB
  have hdl : (l.drop k).length = g := by simp; omega
  have H := wpAnyL_lex (Pr := Pr) (S := S) (B := B) (md := .any) hB hsel (l.drop k) k listed a (fun j => by simp [List.getElem?_drop]) (by rw [hdl]; exact hlex) h
  rw [hdl] at H
  exact wpAny_of_loose (S := S) (B := B) hB (fun _ w' hw' h => h w' hw') _ _ _ _ (by rw [known_nil hS]; exact hC) H
end
end Go.Proofs.YtpkohkkkbnfigaaDoor
