/- A region that draws its order, whose operations may take pieces of memory away and make others: each piece has at most one operation that makes it and one that takes it; one walk in the order of the text serves every order. -/
import Derived.Test.YtpkohkkkbnfigaaDoorMore
namespace Go.Proofs.YtpkohkkkbnfigaaDoor
open Go Go.RowKit
set_option linter.unusedVariables false

/-- A piece of memory that is there for a part of the region: from its maker on (none: from the start) to its taker (none: to the end); what it is hangs on some slots. -/
structure Tok where
  prod : Option Nat
  cons : Option Nat
  temps : List Tmp
  P : List Value → HProp

/-- What an operation does: which values it yields (none: one value, nothing done), which pieces it takes, sees and makes (by their numbers). -/
structure TSpec where
  R : Option (Value → Prop)
  takes : List Nat
  sees : List Nat
  gives : List Nat

def slotOf (a : Act) (t : Tmp) : Value := (a.tmps[t]?).getD undef
def isUndef : Value → Bool
  | .tuple t => t.size == 0
  | _ => false

section
variable (ops : Array Oper) (toks : List Tok)

def skipped (a : Act) (τ : Tok) : Bool :=
  match τ.prod with
  | none => false
  | some p => match (ops[p]?).bind (·.dst) with
    | none => false
    | some d => τ.temps.contains d && isUndef (slotOf a d)
def tokAt (a : Act) (τ : Tok) : List HProp := if skipped ops a τ then [] else [τ.P (τ.temps.map (slotOf a))]
def tokNo (i : Nat) : Tok := toks.getD i ⟨none, none, [], fun _ _ => True⟩
def toksAt (a : Act) (is : List Nat) : List HProp := is.flatMap fun i => tokAt ops a (tokNo toks i)
def live (listed : Array Bool) (τ : Tok) : Bool :=
  (match τ.prod with | none => true | some p => listed.getD p false) && (match τ.cons with | none => true | some c => !listed.getD c true)
def av (listed : Array Bool) (a : Act) : List HProp := toksAt ops toks a ((List.range toks.length).filter fun i => live listed (tokNo toks i))
end

section
variable (Pr : Program) (ops : Array Oper) (toks : List Tok) (S : Nat → TSpec) (B : List HProp)

def tpre (k : Nat) (a : Act) : List HProp := toksAt ops toks a (S k).takes ++ (toksAt ops toks a (S k).sees ++ B)
def tpost (k : Nat) (o : Oper) (a : Act) (u : Value) : List HProp := toksAt ops toks (a.put o.dst u) (S k).gives ++ (toksAt ops toks a (S k).sees ++ B)

def TokOp (k : Nat) (o : Oper) (a : Act) (K : Act → Prop) : Prop :=
  match (S k).R with
  | none => ∀ w F, holds w (tpre ops toks S B k a ++ F) → exactUpon w (fun v => K (a.put o.dst v)) ((execOp a.eval o).run Pr w)
  | some R => (∀ w F, holds w (tpre ops toks S B k a ++ F) → looseUpon Pr (fun u w' => R u ∧ holds w' (tpost ops toks S B k o a u ++ F)) ((execOp a.eval o).run Pr w)) ∧ ∀ u, R u → K (a.put o.dst u)

def wpTok (Q : Act → Prop) : Nat → List Oper → Act → Prop
  | _, [], a => Q a
  | k, o :: rest, a => if Region.wanted o (yielded ops a.tmps) then TokOp Pr ops toks S B k o a (wpTok Q (k + 1) rest) else wpTok Q (k + 1) rest (a.put o.dst undef)

/-- What may be yielded: the set. -/
def TY (k : Nat) (o : Oper) (a : Act) (R : Value → Prop) : Prop :=
  if Region.wanted o (yielded ops a.tmps) then
    match (S k).R with
    | none => (∀ w F, holds w (tpre ops toks S B k a ++ F) → exactUpon w (fun _ => True) ((execOp a.eval o).run Pr w)) ∧ R = fun u => ∃ w F, holds w (tpre ops toks S B k a ++ F) ∧ exactUpon w (fun v => v = u) ((execOp a.eval o).run Pr w)
    | some R' => (∀ w F, holds w (tpre ops toks S B k a ++ F) → looseUpon Pr (fun u w' => R' u ∧ holds w' (tpost ops toks S B k o a u ++ F)) ((execOp a.eval o).run Pr w)) ∧ R = R'
  else R = fun u => u = undef

/-- The walk over the operations that are left. -/
def Rem (Q : Act → Prop) : List Nat → Act → Prop
  | [], a => Q a
  | k :: L, a => ∃ o, ops[k]? = some o ∧ ∃ R, TY Pr ops toks S B k o a R ∧ ∀ u, R u → Rem Q L (a.put o.dst u)

/-! ### What is asked of the region and the pieces -/
def dstIn (τ : Tok) (m : Nat) : Bool := match (ops[m]?).bind (·.dst) with | none => false | some d => τ.temps.contains d
def tokB (md : Region.Mode) : Bool :=
  Region.noSelect ops &&
  -- the text's order is one that may be, and what does not wait is apart
  ((List.range ops.size).all fun j => match ops[j]? with
    | none => true
    | some oj => (oj.after.all fun e => !Region.binds md e || decide (e.on < j)) && (List.range j).all fun i => Region.waitsFor md ops j i || match ops[i]? with | none => true | some oi => oi.apart ops oj) &&
  -- the pieces
  ((List.range toks.length).all fun i => let τ := tokNo toks i
    ((List.range ops.size).all fun m => !dstIn ops τ m || match τ.prod with | none => false | some p => m == p || Region.waitsFor md ops p m) &&
    (match τ.prod with | none => true | some p => decide (p < ops.size) && (S p).gives.contains i) && (match τ.cons with | none => true | some c => decide (c < ops.size) && (S c).takes.contains i) &&
    (match τ.prod, τ.cons with | some p, some c => Region.waitsFor md ops c p | _, _ => true)) &&
  -- the operations
  ((List.range ops.size).all fun k => let s := S k
    (s.takes.all fun i => decide (i < toks.length) && (tokNo toks i).cons == some k && (match (tokNo toks i).prod with | none => true | some p => Region.waitsFor md ops k p)) &&
    (s.gives.all fun i => decide (i < toks.length) && (tokNo toks i).prod == some k) &&
    (s.sees.all fun i => decide (i < toks.length) && (tokNo toks i).cons != some k && (match (tokNo toks i).prod with | none => true | some p => Region.waitsFor md ops k p) && (match (tokNo toks i).cons with | none => true | some c => Region.waitsFor md ops c k)) &&
    ((s.takes ++ s.sees ++ s.gives).all fun i => (List.range ops.size).all fun m => !dstIn ops (tokNo toks i) m || m == k || Region.waitsFor md ops k m) &&
    decide (s.takes.Nodup) && decide (s.gives.Nodup) && decide (s.sees.Nodup) &&
    (match s.R with | none => s.takes.isEmpty && s.gives.isEmpty | some _ => true) &&
    (match ops[k]? with | none => true | some o => o.guard.isNone || (s.takes.isEmpty && s.gives.all fun i => match o.dst with | none => false | some d => (tokNo toks i).temps.contains d)))
end

structure TokOk (md : Region.Mode) (ops : Array Oper) (toks : List Tok) (S : Nat → TSpec) : Prop where
  sel : Region.noSelect ops = true
  deps : ∀ (j : Nat) oj, ops[j]? = some oj → ∀ e ∈ oj.after, Region.binds md e = true → e.on < j
  apart : ∀ (i j : Nat) oi oj, i < j → ops[i]? = some oi → ops[j]? = some oj → Region.waitsFor md ops j i = true ∨ oi.apart ops oj = true
  temps : ∀ i, i < toks.length → ∀ m, dstIn ops (tokNo toks i) m = true → ∃ p, (tokNo toks i).prod = some p ∧ (m = p ∨ Region.waitsFor md ops p m = true)
  prod : ∀ i, i < toks.length → ∀ p, (tokNo toks i).prod = some p → p < ops.size ∧ i ∈ (S p).gives
  cons : ∀ i, i < toks.length → ∀ c, (tokNo toks i).cons = some c → c < ops.size ∧ i ∈ (S c).takes
  both : ∀ i, i < toks.length → ∀ p c, (tokNo toks i).prod = some p → (tokNo toks i).cons = some c → Region.waitsFor md ops c p = true
  takes : ∀ k, k < ops.size → ∀ i ∈ (S k).takes, i < toks.length ∧ (tokNo toks i).cons = some k ∧ ∀ p, (tokNo toks i).prod = some p → Region.waitsFor md ops k p = true
  gives : ∀ k, k < ops.size → ∀ i ∈ (S k).gives, i < toks.length ∧ (tokNo toks i).prod = some k
  sees : ∀ k, k < ops.size → ∀ i ∈ (S k).sees, i < toks.length ∧ (tokNo toks i).cons ≠ some k ∧ (∀ p, (tokNo toks i).prod = some p → Region.waitsFor md ops k p = true) ∧ (∀ c, (tokNo toks i).cons = some c → Region.waitsFor md ops c k = true)
  own : ∀ k, k < ops.size → ∀ i, (i ∈ (S k).takes ∨ i ∈ (S k).sees ∨ i ∈ (S k).gives) → ∀ m, dstIn ops (tokNo toks i) m = true → m = k ∨ Region.waitsFor md ops k m = true
  nod : ∀ k, k < ops.size → (S k).takes.Nodup ∧ (S k).gives.Nodup ∧ (S k).sees.Nodup
  none_ : ∀ k, k < ops.size → (S k).R = none → (S k).takes = [] ∧ (S k).gives = []
  guard : ∀ (k : Nat) o, ops[k]? = some o → o.guard ≠ none → (S k).takes = [] ∧ ∀ i ∈ (S k).gives, ∃ d, o.dst = some d ∧ d ∈ (tokNo toks i).temps

theorem dstIn_lt {ops : Array Oper} {τ : Tok} {m : Nat} (h : dstIn ops τ m = true) : m < ops.size := by
  unfold dstIn at h
  cases hm : ops[m]? with
  | none => rw [hm] at h; simp at h
  | some o => exact (Array.getElem?_eq_some_iff.1 hm).1

theorem TokOk.of {md : Region.Mode} {ops : Array Oper} {toks : List Tok} {S : Nat → TSpec} (h : tokB ops toks S md = true) : TokOk md ops toks S := by
  unfold tokB at h
  simp only [Bool.and_eq_true] at h
  obtain ⟨⟨⟨h1, h2⟩, h3⟩, h4⟩ := h
  rw [List.all_eq_true] at h2 h3 h4
  have g2 : ∀ (j : Nat) oj, ops[j]? = some oj → (oj.after.all fun e => !Region.binds md e || decide (e.on < j)) = true ∧ ((List.range j).all fun i => Region.waitsFor md ops j i || match ops[i]? with | none => true | some oi => oi.apart ops oj) = true := fun j oj hj => by
    have := h2 j (List.mem_range.2 (Array.getElem?_eq_some_iff.1 hj).1)
    rw [hj] at this
    simpa only [Bool.and_eq_true] using this
  have g3 := fun i (hi : i < toks.length) => h3 i (List.mem_range.2 hi)
  have g4 := fun k (hk : k < ops.size) => h4 k (List.mem_range.2 hk)
  simp only [Bool.and_eq_true] at g3 g4
  refine ⟨h1, fun j oj hj e he hb => ?_, fun i j oi oj hij hi hj => ?_, fun i hi m hm => ?_, fun i hi p hp => ?_, fun i hi c hc => ?_, fun i hi p c hp hc => ?_, fun k hk i hik => ?_, fun k hk i hik => ?_, fun k hk i hik => ?_, fun k hk i hik m hm => ?_, fun k hk => ?_, fun k hk hR => ?_, fun k o hk hg => ?_⟩
  · have := Array.all_eq_true_iff_forall_mem.1 (g2 j oj hj).1 e he
    simpa [hb] using this
  · have := List.all_eq_true.1 (g2 j oj hj).2 i (List.mem_range.2 hij)
    rw [hi] at this
    simpa only [Bool.or_eq_true] using this
  · have := List.all_eq_true.1 (g3 i hi).1.1.1 m (List.mem_range.2 (dstIn_lt hm))
    rw [hm] at this
    simp only [Bool.not_true, Bool.false_or] at this
    cases hp : (tokNo toks i).prod with
    | none => rw [hp] at this; cases this
    | some p =>
      rw [hp] at this
      simp only [Bool.or_eq_true, beq_iff_eq] at this
      exact ⟨p, rfl, this⟩
  · have := (g3 i hi).1.1.2
    rw [hp] at this
    simpa using this
  · have := (g3 i hi).1.2
    rw [hc] at this
    simpa using this
  · have := (g3 i hi).2
    rw [hp, hc] at this
    exact this
  · have := List.all_eq_true.1 (g4 k hk).1.1.1.1.1.1.1.1 i hik
    simp only [Bool.and_eq_true, decide_eq_true_eq, beq_iff_eq] at this
    refine ⟨this.1.1, this.1.2, fun p hp => ?_⟩
    have h5 := this.2
    rw [hp] at h5
    exact h5
  · have := List.all_eq_true.1 (g4 k hk).1.1.1.1.1.1.1.2 i hik
    simpa only [Bool.and_eq_true, decide_eq_true_eq, beq_iff_eq] using this
  · have := List.all_eq_true.1 (g4 k hk).1.1.1.1.1.1.2 i hik
    simp only [Bool.and_eq_true, decide_eq_true_eq, bne_iff_ne, ne_eq] at this
    refine ⟨this.1.1.1, this.1.1.2, fun p hp => ?_, fun c hc => ?_⟩
    · have h5 := this.1.2
      rw [hp] at h5
      exact h5
    · have h5 := this.2
      rw [hc] at h5
      exact h5
  · have := List.all_eq_true.1 (g4 k hk).1.1.1.1.1.2 i (by simp only [List.mem_append]; rcases hik with h | h | h <;> simp [h])
    have := List.all_eq_true.1 this m (List.mem_range.2 (dstIn_lt hm))
    rw [hm] at this
    simpa using this
  · have a1 := (g4 k hk).1.1.1.1.2
    have a2 := (g4 k hk).1.1.1.2
    have a3 := (g4 k hk).1.1.2
    exact ⟨of_decide_eq_true a1, of_decide_eq_true a2, of_decide_eq_true a3⟩
  · have := (g4 k hk).1.2
    rw [hR] at this
    simpa using this
  · have := (g4 k (Array.getElem?_eq_some_iff.1 hk).1).2
    rw [hk] at this
    dsimp only at this
    cases hgu : o.guard with
    | none => exact absurd hgu hg
    | some g =>
      rw [hgu] at this
      simp only [Option.isNone_some, Bool.false_or, Bool.and_eq_true, List.isEmpty_iff] at this
      refine ⟨this.1, fun i hi => ?_⟩
      have h5 := List.all_eq_true.1 this.2 i hi
      cases hd : o.dst with
      | none => rw [hd] at h5; cases h5
      | some d => rw [hd] at h5; exact ⟨d, rfl, by simpa using h5⟩

section
variable {Pr : Program} {ops : Array Oper} {toks : List Tok} {S : Nat → TSpec} {B : List HProp} {md : Region.Mode}

def Closed (md : Region.Mode) (ops : Array Oper) (listed : Array Bool) : Prop :=
  listed.size = ops.size ∧ ∀ (j : Nat) oj, ops[j]? = some oj → listed.getD j false = true → ∀ e ∈ oj.after, Region.binds md e = true → listed.getD e.on false = true
theorem Closed.set {listed : Array Bool} {i : Nat} (h : Closed md ops listed) (hi : i ∈ Region.ready md ops listed) : Closed md ops (listed.setIfInBounds i true) := by
  obtain ⟨_, oi, hoi, hall⟩ := mem_ready.1 hi
  refine ⟨by simp [h.1], fun j oj hj hl e he hb => ?_⟩
  by_cases hij : i = j
  · subst hij
    have : oj = oi := Option.some.inj (hj.symm.trans hoi)
    subst this
    exact getD_set_true (hall e he hb)
  · rw [getD_set_ne false hij] at hl
    exact getD_set_true (h.2 j oj hj hl e he hb)
theorem Closed.waits {listed : Array Bool} (h : Closed md ops listed) {c k : Nat} (hc : listed.getD c false = true) (hw : Region.waitsFor md ops c k = true) : listed.getD k false = true := by
  obtain ⟨oc, hoc, e, he, hb, hon⟩ := Region.waitsFor_spec hw
  rw [← hon]
  exact h.2 c oc hoc hc e he hb
theorem ready_waits {listed : Array Bool} {k p : Nat} (hr : k ∈ Region.ready md ops listed) (hw : Region.waitsFor md ops k p = true) : listed.getD p false = true := by
  obtain ⟨_, o, ho, hall⟩ := mem_ready.1 hr
  obtain ⟨oc, hoc, e, he, hb, hon⟩ := Region.waitsFor_spec hw
  rw [ho] at hoc; cases hoc
  rw [← hon]
  exact hall e he hb
theorem Closed.tf {listed : Array Bool} (h : Closed md ops listed) {c : Nat} (hc : c < ops.size) : listed.getD c true = listed.getD c false := by
  have : c < listed.size := by rw [h.1]; exact hc
  simp [this]

theorem slots_put {a : Act} {dst : Option Tmp} {u : Value} {ts : List Tmp} (h : ∀ d, dst = some d → d ∉ ts) : ts.map (slotOf (a.put dst u)) = ts.map (slotOf a) := by
  refine List.map_congr_left fun t ht => ?_
  unfold slotOf
  cases dst with
  | none => rfl
  | some d =>
    have hne : d ≠ t := fun e => h d rfl (e ▸ ht)
    simp [Act.put, Array.getElem?_setIfInBounds_ne hne]
theorem tokAt_put {a : Act} {dst : Option Tmp} {u : Value} {τ : Tok} (h : ∀ d, dst = some d → d ∉ τ.temps) : tokAt ops (a.put dst u) τ = tokAt ops a τ := by
  unfold tokAt
  rw [slots_put h]
  have : skipped ops (a.put dst u) τ = skipped ops a τ := by
    unfold skipped
    cases τ.prod with
    | none => rfl
    | some p =>
      cases hd : (ops[p]?).bind (·.dst) with
      | none => simp only [hd]
      | some d =>
        simp only [hd]
        by_cases hc : τ.temps.contains d = true
        · rw [hc]
          simp only [Bool.true_and]
          have := slots_put (a := a) (dst := dst) (u := u) (ts := [d]) (fun e he hm => h e he (by
            rw [List.mem_singleton] at hm
            subst hm
            simpa using hc))
          simp only [List.map_cons, List.map_nil, List.cons.injEq, and_true] at this
          rw [this]
        · rw [Bool.not_eq_true] at hc
          rw [hc]
          rfl
  rw [this]
theorem toksAt_put {a : Act} {dst : Option Tmp} {u : Value} {is : List Nat} (h : ∀ d, dst = some d → ∀ i ∈ is, d ∉ (tokNo toks i).temps) : toksAt ops toks (a.put dst u) is = toksAt ops toks a is := by
  unfold toksAt
  exact flatMap_congr' fun i hi => tokAt_put fun d hd => h d hd i hi
theorem not_temps {j : Nat} {oj : Oper} {τ : Tok} (hj : ops[j]? = some oj) (h : dstIn ops τ j = false) : ∀ d, oj.dst = some d → d ∉ τ.temps := fun d hd hm => by
  unfold dstIn at h
  rw [hj] at h
  simp only [Option.bind_some, hd] at h
  have : τ.temps.contains d = true := by simpa using hm
  rw [this] at h
  cases h

theorem nodup_filter' {p : Nat → Bool} {l : List Nat} (h : l.Nodup) : (l.filter p).Nodup := h.sublist List.filter_sublist

theorem live_ix {listed : Array Bool} {i : Nat} : i ∈ (List.range toks.length).filter (fun i => live listed (tokNo toks i)) ↔ i < toks.length ∧ (∀ p, (tokNo toks i).prod = some p → listed.getD p false = true) ∧ (∀ c, (tokNo toks i).cons = some c → listed.getD c true = false) := by
  rw [List.mem_filter, List.mem_range]
  unfold live
  cases (tokNo toks i).prod <;> cases (tokNo toks i).cons <;> simp

/-- What is there: what the operation takes, what it sees, and the rest; and what is there behind it. -/
theorem av_split (ok : TokOk md ops toks S) {listed : Array Bool} (hcl : Closed md ops listed) {k : Nat} {o : Oper} (hk : ops[k]? = some o) (hr : k ∈ Region.ready md ops listed) (a : Act) :
    ∃ Y, (av ops toks listed a ++ B).Perm (tpre ops toks S B k a ++ Y) ∧ ∀ u, (tpost ops toks S B k o a u ++ Y).Perm (av ops toks (listed.setIfInBounds k true) (a.put o.dst u) ++ B) := by
  have hks : k < ops.size := (Array.getElem?_eq_some_iff.1 hk).1
  have hkl : k < listed.size := by rw [hcl.1]; exact hks
  have hun : listed.getD k false = false := by rw [← hcl.tf hks]; exact (mem_ready.1 hr).1
  have unl : ∀ c, Region.waitsFor md ops c k = true → listed.getD c true = false := fun c hw => by
    have hc : c < ops.size := by obtain ⟨oc, hoc, _⟩ := Region.waitsFor_spec hw; exact (Array.getElem?_eq_some_iff.1 hoc).1
    rw [hcl.tf hc]
    cases hl : listed.getD c false with
    | false => rfl
    | true => have := hcl.waits hl hw; rw [hun] at this; cases this
  have wlt : ∀ c p, Region.waitsFor md ops c p = true → p < c := fun c p hw => by
    obtain ⟨oc, hoc, e, he, hb, hon⟩ := Region.waitsFor_spec hw
    rw [← hon]; exact ok.deps c oc hoc e he hb
  obtain ⟨n1, n2, n3⟩ := ok.nod k hks
  let I := (List.range toks.length).filter fun i => live listed (tokNo toks i)
  let J := (List.range toks.length).filter fun i => live (listed.setIfInBounds k true) (tokNo toks i)
  let Y := I.filter fun i => !(S k).takes.contains i && !(S k).sees.contains i
  have hI : I.Nodup := nodup_filter' List.nodup_range
  have hJ : J.Nodup := nodup_filter' List.nodup_range
  have mI : ∀ i, i ∈ I ↔ _ := fun i => live_ix (listed := listed)
  have mJ : ∀ i, i ∈ J ↔ _ := fun i => live_ix (listed := listed.setIfInBounds k true)
  have mY : ∀ i, i ∈ Y ↔ i ∈ I ∧ i ∉ (S k).takes ∧ i ∉ (S k).sees := fun i => by simp [Y]
  have tI : ∀ i ∈ (S k).takes, i ∈ I := fun i hi => by
    obtain ⟨h1, h2, h3⟩ := ok.takes k hks i hi
    refine (mI i).2 ⟨h1, fun p hp => ready_waits hr (h3 p hp), fun c hc => ?_⟩
    rw [h2] at hc; cases hc
    exact (mem_ready.1 hr).1
  have sI : ∀ i ∈ (S k).sees, i ∈ I := fun i hi => by
    obtain ⟨h1, h2, h3, h4⟩ := ok.sees k hks i hi
    exact (mI i).2 ⟨h1, fun p hp => ready_waits hr (h3 p hp), fun c hc => unl c (h4 c hc)⟩
  have p1 : I.Perm ((S k).takes ++ ((S k).sees ++ Y)) := by
    refine (List.perm_ext_iff_of_nodup hI ?_).2 fun i => ?_
    · rw [List.nodup_append, List.nodup_append]
      refine ⟨n1, ⟨n3, nodup_filter' hI, fun x hx y hy e => ?_⟩, fun x hx y hy e => ?_⟩
      · subst e; exact ((mY x).1 hy).2.2 hx
      · subst e
        rcases List.mem_append.1 hy with h | h
        · exact (ok.sees k hks x h).2.1 (ok.takes k hks x hx).2.1
        · exact ((mY x).1 h).2.1 hx
    · rw [List.mem_append, List.mem_append]
      constructor
      · intro hi
        by_cases h1 : i ∈ (S k).takes
        · exact .inl h1
        · by_cases h2 : i ∈ (S k).sees
          · exact .inr (.inl h2)
          · exact .inr (.inr ((mY i).2 ⟨hi, h1, h2⟩))
      · rintro (h | h | h)
        · exact tI i h
        · exact sI i h
        · exact ((mY i).1 h).1
  have p2 : J.Perm ((S k).gives ++ ((S k).sees ++ Y)) := by
    refine (List.perm_ext_iff_of_nodup hJ ?_).2 fun i => ?_
    · rw [List.nodup_append, List.nodup_append]
      refine ⟨n2, ⟨n3, nodup_filter' hI, fun x hx y hy e => ?_⟩, fun x hx y hy e => ?_⟩
      · subst e; exact ((mY x).1 hy).2.2 hx
      · subst e
        have hx' : x ∈ I := by
          rcases List.mem_append.1 hy with h | h
          · exact sI x h
          · exact ((mY x).1 h).1
        have := ((mI x).1 hx').2.1 k (ok.gives k hks x hx).2
        rw [hun] at this; cases this
    · rw [mJ i, List.mem_append, List.mem_append]
      constructor
      · rintro ⟨h1, h2, h3⟩
        by_cases hp : (tokNo toks i).prod = some k
        · exact .inl (ok.prod i h1 k hp).2
        · have hi : i ∈ I := (mI i).2 ⟨h1, fun p hp' => by
            have h5 := h2 p hp'
            have hne : k ≠ p := fun e => hp (by rw [e]; exact hp')
            rw [getD_set_ne false hne] at h5
            exact h5, fun c hc => by
            have := h3 c hc
            by_cases hck : k = c
            · subst hck; simp [hkl] at this
            · rwa [getD_set_ne true hck] at this⟩
          have hnt : i ∉ (S k).takes := fun ht => by
            have h4 := h3 k (ok.takes k hks i ht).2.1
            simp [hkl] at h4
          by_cases h2 : i ∈ (S k).sees
          · exact .inr (.inl h2)
          · exact .inr (.inr ((mY i).2 ⟨hi, hnt, h2⟩))
      · have old : i ∈ I → i ∉ (S k).takes → i < toks.length ∧ (∀ p, (tokNo toks i).prod = some p → (listed.setIfInBounds k true).getD p false = true) ∧ (∀ c, (tokNo toks i).cons = some c → (listed.setIfInBounds k true).getD c true = false) := fun hi hnt => by
          obtain ⟨h1, h2, h3⟩ := (mI i).1 hi
          refine ⟨h1, fun p hp => getD_set_true (h2 p hp), fun c hc => ?_⟩
          have hck : k ≠ c := fun e => hnt (by subst e; exact (ok.cons i h1 k hc).2)
          rw [getD_set_ne true hck]
          exact h3 c hc
        rintro (h | h | h)
        · obtain ⟨h1, h2⟩ := ok.gives k hks i h
          refine ⟨h1, fun p hp => ?_, fun c hc => ?_⟩
          · rw [h2] at hp; cases hp
            simp [hkl]
          · have hw := ok.both i h1 k c h2 hc
            have := wlt c k hw
            rw [getD_set_ne true (by omega)]
            exact unl c hw
        · exact old (sI i h) fun ht => (ok.sees k hks i h).2.1 (ok.takes k hks i ht).2.1
        · exact old ((mY i).1 h).1 ((mY i).1 h).2.1
  refine ⟨toksAt ops toks a Y, ?_, fun u => ?_⟩
  · have q : (av ops toks listed a).Perm (toksAt ops toks a (S k).takes ++ (toksAt ops toks a (S k).sees ++ toksAt ops toks a Y)) := by
      have := p1.flatMap_right fun i => tokAt ops a (tokNo toks i)
      rw [List.flatMap_append, List.flatMap_append] at this
      exact this
    unfold tpre
    refine (q.append_right B).trans ?_
    simp only [List.append_assoc]
    refine List.Perm.append_left _ (List.Perm.append_left _ ?_)
    exact List.perm_append_comm
  · have hstay : ∀ i ∈ (S k).sees ++ Y, ∀ d, o.dst = some d → d ∉ (tokNo toks i).temps := fun i hi => by
      have hi' : i ∈ I := by
        rcases List.mem_append.1 hi with h | h
        · exact sI i h
        · exact ((mY i).1 h).1
      refine not_temps hk ?_
      cases hd : dstIn ops (tokNo toks i) k with
      | false => rfl
      | true =>
        obtain ⟨h1, h2, _⟩ := (mI i).1 hi'
        obtain ⟨p, hp, hkp⟩ := ok.temps i h1 k hd
        have hpl := h2 p hp
        rcases hkp with e | hw
        · subst e; rw [hun] at hpl; cases hpl
        · have := hcl.waits hpl hw; rw [hun] at this; cases this
    have e1 := toksAt_put (ops := ops) (toks := toks) (a := a) (dst := o.dst) (u := u) (is := (S k).sees ++ Y) fun d hd i hi => hstay i hi d hd
    have q : (av ops toks (listed.setIfInBounds k true) (a.put o.dst u)).Perm (toksAt ops toks (a.put o.dst u) (S k).gives ++ (toksAt ops toks a (S k).sees ++ toksAt ops toks a Y)) := by
      have := p2.flatMap_right fun i => tokAt ops (a.put o.dst u) (tokNo toks i)
      rw [List.flatMap_append] at this
      have h2 : ((S k).sees ++ Y).flatMap (fun i => tokAt ops (a.put o.dst u) (tokNo toks i)) = toksAt ops toks a (S k).sees ++ toksAt ops toks a Y := by
        have h3 : toksAt ops toks a ((S k).sees ++ Y) = toksAt ops toks a (S k).sees ++ toksAt ops toks a Y := by simp only [toksAt, List.flatMap_append]
        rw [← h3, ← e1]
        rfl
      rw [h2] at this
      exact this
    unfold tpost
    refine List.Perm.trans ?_ (q.append_right B).symm
    simp only [List.append_assoc]
    refine List.Perm.append_left _ (List.Perm.append_left _ ?_)
    exact List.perm_append_comm

theorem tpre_put (ok : TokOk md ops toks S) {k j : Nat} {oj : Oper} (hk : k < ops.size) (hj : ops[j]? = some oj) (hjk : j ≠ k) (hw : Region.waitsFor md ops k j = false) (a : Act) (v : Value) : tpre ops toks S B k (a.put oj.dst v) = tpre ops toks S B k a := by
  have h : ∀ i, (i ∈ (S k).takes ∨ i ∈ (S k).sees ∨ i ∈ (S k).gives) → ∀ d, oj.dst = some d → d ∉ (tokNo toks i).temps := fun i hi => not_temps hj (by
    cases hd : dstIn ops (tokNo toks i) j with
    | false => rfl
    | true =>
      rcases ok.own k hk i hi j hd with e | e
      · exact absurd e hjk
      · rw [hw] at e; cases e)
  unfold tpre
  rw [toksAt_put fun d hd i hi => h i (.inl hi) d hd, toksAt_put fun d hd i hi => h i (.inr (.inl hi)) d hd]
theorem tpost_put (ok : TokOk md ops toks S) {k j : Nat} {o oj : Oper} (hk : k < ops.size) (hj : ops[j]? = some oj) (hjk : j ≠ k) (hw : Region.waitsFor md ops k j = false) (hne : ∀ d, oj.dst = some d → o.dst ≠ some d) (a : Act) (v u : Value) : tpost ops toks S B k o (a.put oj.dst v) u = tpost ops toks S B k o a u := by
  have h : ∀ i, (i ∈ (S k).takes ∨ i ∈ (S k).sees ∨ i ∈ (S k).gives) → ∀ d, oj.dst = some d → d ∉ (tokNo toks i).temps := fun i hi => not_temps hj (by
    cases hd : dstIn ops (tokNo toks i) j with
    | false => rfl
    | true =>
      rcases ok.own k hk i hi j hd with e | e
      · exact absurd e hjk
      · rw [hw] at e; cases e)
  unfold tpost
  rw [Act.put_comm a v u hne, toksAt_put fun d hd i hi => h i (.inr (.inr hi)) d hd, toksAt_put fun d hd i hi => h i (.inr (.inl hi)) d hd]

theorem TY.put (ok : TokOk md ops toks S) {k j : Nat} {o oj : Oper} (hk : ops[k]? = some o) (hj : ops[j]? = some oj) (hjk : j ≠ k) (hw : Region.waitsFor md ops k j = false) (hap : oj.apart ops o = true) (a : Act) (v : Value) (R : Value → Prop) :
    TY Pr ops toks S B k o (a.put oj.dst v) R ↔ TY Pr ops toks S B k o a R := by
  obtain ⟨a1, a2, a3⟩ := Oper.apart_spec hap
  have hks := (Array.getElem?_eq_some_iff.1 hk).1
  unfold TY
  rw [wanted_put o a oj.dst v a1, execOp_put o (fun cs b => Region.noSelect_spec ok.sel k o cs b hk) a oj.dst v a1, tpre_put ok hks hj hjk hw]
  have : (fun (w : World) (F : List HProp) => looseUpon Pr (fun u w' => True)) = (fun w F => looseUpon Pr (fun u w' => True)) := rfl
  simp only [tpost_put ok hks hj hjk hw a2]
theorem TY.inj {k : Nat} {o : Oper} {a : Act} {R R' : Value → Prop} (h : TY Pr ops toks S B k o a R) (h' : TY Pr ops toks S B k o a R') : R = R' := by
  unfold TY at h h'
  split at h
  · rename_i hw
    simp only [hw, if_true] at h'
    cases hS : (S k).R with
    | none => rw [hS] at h h'; rw [h.2, h'.2]
    | some s => rw [hS] at h h'; rw [h.2, h'.2]
  · rename_i hw
    simp only [hw] at h'
    rw [h, h']

/-- What is there behind an operation that is not wanted. -/
theorem skip_post (ok : TokOk md ops toks S) {k : Nat} {o : Oper} (hk : ops[k]? = some o) (a : Act) (hw : ¬ Region.wanted o (yielded ops a.tmps) = true) : tpost ops toks S B k o a undef = tpre ops toks S B k a := by
  have hg : o.guard ≠ none := fun e => hw (by unfold Region.wanted; rw [e])
  obtain ⟨h1, h2⟩ := ok.guard k o hk hg
  have hks := (Array.getElem?_eq_some_iff.1 hk).1
  unfold tpost tpre
  rw [h1]
  have : toksAt ops toks (a.put o.dst undef) (S k).gives = [] := by
    unfold toksAt
    refine List.flatMap_eq_nil_iff.2 fun i hi => ?_
    obtain ⟨d, hd, ht⟩ := h2 i hi
    obtain ⟨_, hp⟩ := ok.gives k hks i hi
    unfold tokAt skipped
    rw [hp]
    simp only [hk, Option.bind_some, hd]
    have hs : slotOf (a.put (some d) undef) d = undef := by
      unfold slotOf Act.put
      rcases Nat.lt_or_ge d a.tmps.size with h | h
      · simp [h]
      · simp [h]
    have hc : (tokNo toks i).temps.contains d = true := by simpa using ht
    rw [hs, hc]
    rfl
  rw [this]
  rfl

theorem TY.run (ok : TokOk md ops toks S) {Q' : Exit → Act → World → Prop} {i : Nat} {o : Oper} {a : Act} {R : Value → Prop} {w : World} {Y : List HProp} (hi : ops[i]? = some o) (h : TY Pr ops toks S B i o a R)
    (hw : holds w (tpre ops toks S B i a ++ Y)) {K' : Act → World → Prop} (hk : ∀ u w', R u → holds w' (tpost ops toks S B i o a u ++ Y) → K' (a.put o.dst u) w') : wpOp Pr ops Q' i K' a w := by
  unfold TY at h
  unfold wpOp
  simp only [hi]
  have his := (Array.getElem?_eq_some_iff.1 hi).1
  split at h
  · rename_i hwt
    simp only [hwt, if_true]
    refine .inl ?_
    unfold Oper.wp
    cases hS : (S i).R with
    | none =>
      rw [hS] at h
      obtain ⟨h1, rfl⟩ := h
      have h2 := exactUpon_mono (k' := fun v => ∃ w F, holds w (tpre ops toks S B i a ++ F) ∧ exactUpon w (fun u => u = v) ((execOp a.eval o).run Pr w)) (h1 w Y hw) (fun v hv _ => ⟨w, Y, hw, hv⟩)
      obtain ⟨e1, e2⟩ := ok.none_ i his hS
      have hl : ∀ v, tpost ops toks S B i o a v = tpre ops toks S B i a := fun v => by unfold tpost tpre; rw [e1, e2]; rfl
      generalize hr : (execOp a.eval o).run Pr w = r at h2
      cases r with
      | ok n w' =>
        cases n <;> first
          | exact (h2 : False).elim
          | (obtain ⟨e, h3⟩ := (h2 : _ ∧ _); subst e; exact hk _ _ h3 (by rw [hl]; exact hw))
      | halt x w' => exact (h2 : False).elim
    | some s =>
      rw [hS] at h
      obtain ⟨h1, rfl⟩ := h
      have h2 := h1 w Y hw
      generalize (execOp a.eval o).run Pr w = r at *
      cases r with
      | ok n w' =>
        cases n <;> simp only [looseUpon] at h2 <;> simp only [Oper.upon]
        · exact hk _ _ h2.1 h2.2
        · exact hk _ _ h2.1 h2.2
        · exact h2.mono fun e w'' ⟨u, he, hu, hh⟩ => by subst he; exact hk _ _ hu hh
      | halt x w' => simp only [looseUpon] at h2
  · rename_i hwt
    simp only [hwt]
    subst h
    exact hk _ _ rfl (by rw [skip_post ok hi a hwt]; exact hw)
theorem TY.some_ (ok : TokOk md ops toks S) {i : Nat} {o : Oper} {a : Act} {R : Value → Prop} {w : World} {Y : List HProp} (hi : ops[i]? = some o) (h : TY Pr ops toks S B i o a R) (hw : holds w (tpre ops toks S B i a ++ Y)) :
    ∃ u w', R u ∧ holds w' (tpost ops toks S B i o a u ++ Y) := by
  unfold TY at h
  have his := (Array.getElem?_eq_some_iff.1 hi).1
  split at h
  · cases hS : (S i).R with
    | none =>
      rw [hS] at h
      obtain ⟨h1, rfl⟩ := h
      have h2 := exactUpon_mono (k' := fun v => exactUpon w (fun u => u = v) ((execOp a.eval o).run Pr w)) (h1 w Y hw) (fun v hv _ => hv)
      obtain ⟨e1, e2⟩ := ok.none_ i his hS
      have hl : ∀ v, tpost ops toks S B i o a v = tpre ops toks S B i a := fun v => by unfold tpost tpre; rw [e1, e2]; rfl
      generalize hr : (execOp a.eval o).run Pr w = r at h2
      cases r with
      | ok n w' =>
        cases n <;> first
          | exact (h2 : False).elim
          | (obtain ⟨e, h3⟩ := (h2 : _ ∧ _); exact ⟨_, w, ⟨w, Y, hw, by rw [hr]; exact h3⟩, by rw [hl]; exact hw⟩)
      | halt x w' => exact (h2 : False).elim
    | some s =>
      rw [hS] at h
      obtain ⟨h1, rfl⟩ := h
      have h2 := h1 w Y hw
      generalize (execOp a.eval o).run Pr w = r at *
      cases r with
      | ok n w' =>
        cases n <;> simp only [looseUpon] at h2
        · exact ⟨_, _, h2.1, h2.2⟩
        · exact ⟨_, _, h2.1, h2.2⟩
        · obtain ⟨e, w'', fr, ⟨u, _, hu, hh⟩, _⟩ := h2 []
          exact ⟨u, w'', hu, hh⟩
      | halt x w' => simp only [looseUpon] at h2
  · rename_i hwt
    subst h
    exact ⟨undef, w, rfl, by rw [skip_post ok hi a hwt]; exact hw⟩

/-- The list of what is left. -/
structure Left (ops : Array Oper) (listed : Array Bool) (L : List Nat) : Prop where
  mem : ∀ i, i ∈ L ↔ i < ops.size ∧ listed.getD i true = false
  sorted : L.Pairwise (· < ·)

theorem Left.ready_head (ok : TokOk md ops toks S) {listed : Array Bool} (hcl : Closed md ops listed) {k : Nat} {L : List Nat} (h : Left ops listed (k :: L)) : k ∈ Region.ready md ops listed := by
  obtain ⟨h1, h2⟩ := (h.mem k).1 List.mem_cons_self
  refine mem_ready.2 ⟨h2, _, Array.getElem?_eq_getElem h1, fun e he hb => ?_⟩
  have hlt := ok.deps k _ (Array.getElem?_eq_getElem h1) e he hb
  have hes : e.on < ops.size := by omega
  rw [← hcl.tf hes]
  cases hl : listed.getD e.on true with
  | true => rfl
  | false =>
    have hm := (h.mem e.on).2 ⟨hes, hl⟩
    rcases List.mem_cons.1 hm with e1 | hm
    · omega
    · have := (List.pairwise_cons.1 h.sorted).1 _ hm
      omega
theorem Left.erase {listed : Array Bool} (hsz : listed.size = ops.size) {A C : List Nat} {j : Nat} (h : Left ops listed (A ++ j :: C)) : Left ops (listed.setIfInBounds j true) (A ++ C) := by
  have hs := h.sorted
  rw [List.pairwise_append, List.pairwise_cons] at hs
  obtain ⟨s1, ⟨s2, s3⟩, s4⟩ := hs
  refine ⟨fun i => ?_, ?_⟩
  · have hm := h.mem i
    rw [List.mem_append, List.mem_cons] at hm
    rw [List.mem_append]
    have hj := ((h.mem j).1 (by simp)).1
    by_cases hij : j = i
    · subst hij
      constructor
      · rintro (h5 | h5)
        · have := s4 j h5 j List.mem_cons_self; omega
        · have := s2 j h5; omega
      · rintro ⟨_, h5⟩
        have : j < listed.size := by omega
        simp [this] at h5
    · rw [getD_set_ne true hij, ← hm]
      constructor
      · rintro (h5 | h5)
        · exact .inl h5
        · exact .inr (.inr h5)
      · rintro (h5 | h5 | h5)
        · exact .inl h5
        · exact absurd h5.symm hij
        · exact .inr h5
  · rw [List.pairwise_append]
    exact ⟨s1, s3, fun a ha b hb => s4 a ha b (List.mem_cons_of_mem _ hb)⟩

theorem waits_not {listed : Array Bool} {j k : Nat} (hcl : Closed md ops listed) (hr : j ∈ Region.ready md ops listed) (hk : listed.getD k true = false) : Region.waitsFor md ops j k = false := by
  cases hw : Region.waitsFor md ops j k with
  | false => rfl
  | true => have := ready_waits hr hw; rw [getD_both hk] at this; cases this

/-- The operation j, wherever it stands in what is left, as long as all ahead of it may stand behind it: what it yields. -/
theorem Rem.find (ok : TokOk md ops toks S) {Q : Act → Prop} {j : Nat} {oj : Oper} (hj : ops[j]? = some oj) {C : List Nat} : ∀ (A : List Nat) (listed : Array Bool) (a : Act) (w : World), Closed md ops listed → Left ops listed (A ++ j :: C) → j ∈ Region.ready md ops listed →
    holds w (av ops toks listed a ++ B) → Rem Pr ops toks S B Q (A ++ j :: C) a → ∃ R, TY Pr ops toks S B j oj a R
  | [], _, _, _, _, _, _, _, h => by
    obtain ⟨o, ho, R, hR, _⟩ := h
    rw [hj] at ho; cases ho
    exact ⟨R, hR⟩
  | k :: A, listed, a, w, hcl, hL, hr, hw, h => by
    obtain ⟨o, ho, R, hR, hrest⟩ := h
    have hkr := Left.ready_head ok hcl hL
    have hkj : k ≠ j := fun e => by
      subst e
      have := (List.pairwise_cons.1 hL.sorted).1 k (by simp)
      omega
    have hklt : k < j := (List.pairwise_cons.1 hL.sorted).1 j (by simp)
    obtain ⟨Y, p1, p2⟩ := av_split (B := B) ok hcl ho hkr a
    obtain ⟨u, w', hu, hh⟩ := hR.some_ ok ho (hw.perm p1)
    have := Rem.find ok hj A (listed.setIfInBounds k true) (a.put o.dst u) w' (hcl.set hkr) (Left.erase (A := []) hcl.1 hL) (ready_mono hr (Ne.symm hkj)) (hh.perm (p2 u)) (hrest u hu)
    obtain ⟨Rj, hRj⟩ := this
    have hnw := waits_not hcl hr (mem_ready.1 hkr).1
    have hap : o.apart ops oj = true := (ok.apart k j o oj hklt ho hj).resolve_left (by rw [hnw]; simp)
    exact ⟨Rj, (TY.put ok hj ho hkj hnw hap a u Rj).1 hRj⟩

/-- .. and what is left without it. -/
theorem Rem.remove (ok : TokOk md ops toks S) {Q : Act → Prop} {j : Nat} {oj : Oper} (hj : ops[j]? = some oj) {R : Value → Prop} {u : Value} (hu : R u) {C : List Nat} : ∀ (A : List Nat) (a : Act), (∀ k ∈ A, k < j ∧ Region.waitsFor md ops j k = false) →
    TY Pr ops toks S B j oj a R → Rem Pr ops toks S B Q (A ++ j :: C) a → Rem Pr ops toks S B Q (A ++ C) (a.put oj.dst u)
  | [], a, _, hR, h => by
    obtain ⟨o, ho, R', hR', hrest⟩ := h
    rw [hj] at ho; cases ho
    have := hR.inj hR'
    subst this
    exact hrest u hu
  | k :: A, a, hA, hR, h => by
    obtain ⟨o, ho, Rk, hRk, hrest⟩ := h
    obtain ⟨hklt, hnw⟩ := hA k List.mem_cons_self
    have hap : o.apart ops oj = true := (ok.apart k j o oj hklt ho hj).resolve_left (by rw [hnw]; simp)
    have hkj : k ≠ j := by omega
    -- k doesn't wait for j
    have hnw2 : Region.waitsFor md ops k j = false := by
      cases hw : Region.waitsFor md ops k j with
      | false => rfl
      | true =>
        obtain ⟨oc, hoc, e, he, hb, hon⟩ := Region.waitsFor_spec hw
        have := ok.deps k oc hoc e he hb
        omega
    obtain ⟨a1, a2, a3⟩ := Oper.apart_spec hap
    have hap2 : oj.apart ops o = true := by
      unfold Oper.apart
      rw [Bool.and_eq_true]
      constructor
      · cases hd : oj.dst with
        | none => rfl
        | some d =>
          have h1 := a3 d hd
          have h2 : o.dst ≠ some d := fun e => a2 d e hd
          simp only [Bool.and_eq_true, Bool.not_eq_true', bne_iff_ne, ne_eq]
          exact ⟨by simpa using h1, h2⟩
      · cases hd : o.dst with
        | none => rfl
        | some d => simpa using a1 d hd
    refine ⟨o, ho, Rk, (TY.put ok ho hj (Ne.symm hkj) hnw2 hap2 a u Rk).2 hRk, fun v hv => ?_⟩
    have := Rem.remove ok hj hu A (a.put o.dst v) (fun k' hk' => hA k' (List.mem_cons_of_mem _ hk')) ((TY.put ok hj ho hkj hnw hap a v R).2 hR) (hrest v hv)
    rw [Act.put_comm a u v (fun d hd e => a2 d e hd)]
    exact this

theorem wpAny_of_rem (ok : TokOk md ops toks S) {Q : Act → Prop} {Q' : Exit → Act → World → Prop} (hQ : ∀ listed a w, (∀ i, i < ops.size → listed.getD i false = true) → holds w (av ops toks listed a ++ B) → Q a → Q' .normal a w) :
    ∀ (n : Nat) (L : List Nat) (listed : Array Bool) (a : Act) (w : World), L.length = n → Closed md ops listed → Left ops listed L → holds w (av ops toks listed a ++ B) → Rem Pr ops toks S B Q L a → wpAny Pr md ops Q' n listed a w
  | 0, L, listed, a, w, hn, hcl, hL, hw, h => by
    obtain rfl : L = [] := List.eq_nil_of_length_eq_zero hn
    have hall : ∀ i, i < ops.size → listed.getD i false = true := fun i hi => by
      rw [← hcl.tf hi]
      cases hl : listed.getD i true with
      | true => rfl
      | false => exact absurd ((hL.mem i).2 ⟨hi, hl⟩) (by simp)
    refine ⟨List.eq_nil_iff_forall_not_mem.2 fun j hj => ?_, hQ _ _ _ hall hw h⟩
    obtain ⟨h1, o, ho, _⟩ := mem_ready.1 hj
    exact absurd ((hL.mem j).2 ⟨(Array.getElem?_eq_some_iff.1 ho).1, h1⟩) (by simp)
  | n + 1, L, listed, a, w, hn, hcl, hL, hw, h => by
    obtain ⟨k, L', rfl⟩ : ∃ k L', L = k :: L' := by cases L with | nil => simp at hn | cons k L' => exact ⟨k, L', rfl⟩
    refine ⟨fun h0 => ?_, fun j hjr => ?_⟩
    · have := Left.ready_head ok hcl hL
      rw [h0] at this; cases this
    · obtain ⟨hju, oj, hj, _⟩ := mem_ready.1 hjr
      have hjm := (hL.mem j).2 ⟨(Array.getElem?_eq_some_iff.1 hj).1, hju⟩
      obtain ⟨A, C, hAC⟩ := List.append_of_mem hjm
      rw [hAC] at hL h hn
      have hs := hL.sorted
      rw [List.pairwise_append] at hs
      obtain ⟨R, hR⟩ := Rem.find ok hj A listed a w hcl hL hjr hw h
      obtain ⟨Y, p1, p2⟩ := av_split (B := B) ok hcl hj hjr a
      refine hR.run ok hj (hw.perm p1) fun u w' hu hh => ?_
      refine wpAny_of_rem ok hQ n (A ++ C) _ _ _ (by simp at hn ⊢; omega) (hcl.set hjr) (Left.erase hcl.1 hL) (hh.perm (p2 u)) ?_
      refine Rem.remove ok hj hu A a (fun k' hk' => ⟨hs.2.2 k' hk' j List.mem_cons_self, ?_⟩) hR h
      exact waits_not hcl hjr ((hL.mem k').1 (List.mem_append_left _ hk')).2

theorem rem_of_tok {Q : Act → Prop} : ∀ (l : List Oper) (k : Nat) (a : Act), (∀ j : Nat, l[j]? = ops[k + j]?) → wpTok Pr ops toks S B Q k l a → Rem Pr ops toks S B Q (List.range' k l.length) a
  | [], _, _, _, h => h
  | o :: l, k, a, hl, h => by
    have h0 : ops[k]? = some o := by simpa using (hl 0).symm
    rw [List.length_cons, List.range'_succ]
    refine ⟨o, h0, ?_⟩
    have hrec := fun a' => rem_of_tok (Q := Q) l (k + 1) a' (fun j => by have := hl (j + 1); simpa [Nat.add_assoc, Nat.add_comm 1 j] using this)
    unfold wpTok at h
    unfold TY
    split at h
    · rename_i hw
      simp only [hw, if_true]
      unfold TokOp at h
      cases hS : (S k).R with
      | none => rw [hS] at h; exact ⟨_, ⟨fun w F hh => exactUpon_mono (h w F hh) fun _ _ _ => trivial, rfl⟩, fun u ⟨w, F, hh, hu⟩ => hrec _ (exactUpon_at (h w F hh) hu)⟩
      | some s => rw [hS] at h; exact ⟨_, ⟨h.1, rfl⟩, fun u hu => hrec _ (h.2 u hu)⟩
    · rename_i hw
      simp only [hw]
      exact ⟨_, rfl, fun u hu => by subst hu; exact hrec _ h⟩

/-- **One walk of the order of the text serves every order.** start, last: the pieces (by their numbers) that are there at the start, and at the end. -/
theorem wp_region_tok {id : Nat} {Q : Exit → Act → World → Prop} {a : Act} {w : World} {l : List Oper} (toks : List Tok) (S : Nat → TSpec) (B : List HProp) (start last : List Nat) (hm : Pr.follows .mixedOrders = true)
    (hB : (tokB l.toArray toks S .any && (((List.range toks.length).filter (fun i => (tokNo toks i).prod.isNone) == start) && ((List.range toks.length).filter (fun i => (tokNo toks i).cons.isNone) == last))) = true)
    (hC : holds w (toksAt l.toArray toks a start ++ B)) (h : wpTok Pr l.toArray toks S B (fun a' => ∀ w', holds w' (toksAt l.toArray toks a' last ++ B) → Q .normal a' w') 0 l a) : (Code.region id l.toArray true).wp Pr Q a w := by
  rw [Bool.and_eq_true, Bool.and_eq_true ((List.range toks.length).filter _ == _)] at hB
  obtain ⟨h1, h2, h3⟩ := hB
  have ok := TokOk.of h1
  rw [beq_iff_eq] at h2 h3
  refine wp_region_any hm ?_
  have hC' : holds { w with drawn := w.drawn + 1 } (toksAt l.toArray toks a start ++ B) := hC.drew
  have hav : ∀ (listed : Array Bool), (∀ i, i < l.toArray.size → listed.getD i false = false) → listed.size = l.toArray.size → av l.toArray toks listed a = toksAt l.toArray toks a start := fun listed hf hsz => by
    unfold av
    rw [← h2]
    congr 1
    refine List.filter_congr fun i hi => ?_
    have hi' := List.mem_range.1 hi
    unfold live
    cases hp : (tokNo toks i).prod with
    | some p =>
      have := hf p (ok.prod i hi' p hp).1
      simp [this]
    | none =>
      cases hc : (tokNo toks i).cons with
      | none => simp
      | some c =>
        have hcs := (ok.cons i hi' c hc).1
        have := hf c hcs
        have hcs' : c < listed.size := by omega
        simp [hcs'] at this ⊢
        exact this
  have hlast : ∀ (listed : Array Bool) a, (∀ i, i < l.toArray.size → listed.getD i false = true) → av l.toArray toks listed a = toksAt l.toArray toks a last := fun listed a hf => by
    unfold av
    rw [← h3]
    congr 1
    refine List.filter_congr fun i hi => ?_
    have hi' := List.mem_range.1 hi
    unfold live
    cases hc : (tokNo toks i).cons with
    | some c =>
      have := hf c (ok.cons i hi' c hc).1
      have h5 : listed.getD c true = true := by
        rcases Nat.lt_or_ge c listed.size with h' | h'
        · simp [h'] at this ⊢; exact this
        · simp [h']
      dsimp only
      rw [h5]
      simp
    | none =>
      cases hp : (tokNo toks i).prod with
      | none => simp
      | some p => dsimp only; rw [hf p (ok.prod i hi' p hp).1]; simp
  have R0 := rem_of_tok (Pr := Pr) (ops := l.toArray) (toks := toks) (S := S) (B := B) l 0 a (by simp) h
  have := wpAny_of_rem (Pr := Pr) (Q' := Q) ok (Q := fun a' => ∀ w', holds w' (toksAt l.toArray toks a' last ++ B) → Q .normal a' w') (fun listed a w hf hw hq => hq w (by rw [← hlast listed a hf]; exact hw)) l.length _ (Array.replicate l.toArray.size false) a { w with drawn := w.drawn + 1 } (by simp) ⟨by simp, fun j oj _ hl => (by rw [getD_replicate_false] at hl; cases hl)⟩
    ⟨fun i => by
      rw [List.mem_range'_1]
      constructor
      · rintro ⟨_, h5⟩
        have : i < l.toArray.size := by simpa using h5
        exact ⟨this, getD_in (by simpa using this) (getD_replicate_false _ _)⟩
      · rintro ⟨h5, _⟩
        exact ⟨Nat.zero_le _, by simpa using h5⟩, List.pairwise_lt_range'⟩ (by rw [hav _ (fun i _ => getD_replicate_false _ _) (by simp)]; exact hC') R0
  simpa using this

/-! ### One operation at a time -/
/-- One that yields one value in every world that has the base. -/
theorem tok_exact {Q : Act → Prop} {k : Nat} {o : Oper} {rest : List Oper} {a : Act} (hS : (S k).R = none)
    (h : ∀ K : Act → Prop, (∀ a, wpTok Pr ops toks S B Q (k + 1) rest a → K a) → if Region.wanted o (yielded ops a.tmps) then ∀ w, holds w B → exactUpon w (fun v => K (a.put o.dst v)) ((execOp a.eval o).run Pr w) else K (a.put o.dst undef)) :
    wpTok Pr ops toks S B Q k (o :: rest) a := by
  unfold wpTok TokOp
  rw [hS]
  have h1 := h _ (fun _ h => h)
  split at h1
  · rename_i hw
    rw [if_pos hw]
    refine fun w F hh => h1 w ?_
    unfold tpre at hh
    rw [← List.append_assoc, List.append_assoc] at hh
    exact (holds_drop hh).perm_drop (.refl _)
  · rename_i hw
    rw [if_neg hw]
    exact h1
/-- .. one that reads the pieces that it sees. -/
theorem tok_sees {Q : Act → Prop} {k : Nat} {o : Oper} {rest : List Oper} {a : Act} (L : List HProp) (hL : toksAt ops toks a (S k).sees = L) (hT : (S k).takes = []) (hS : (S k).R = none) (hw : Region.wanted o (yielded ops a.tmps) = true)
    (h : ∀ K : Act → Prop, (∀ a, wpTok Pr ops toks S B Q (k + 1) rest a → K a) → ∀ w, holds w (L ++ B) → exactUpon w (fun v => K (a.put o.dst v)) ((execOp a.eval o).run Pr w)) :
    wpTok Pr ops toks S B Q k (o :: rest) a := by
  unfold wpTok TokOp
  rw [hS, hw]
  refine fun w F hh => h _ (fun _ h => h) w ?_
  unfold tpre at hh
  rw [hT, hL] at hh
  exact (show holds w ((L ++ B) ++ F) from by simpa [toksAt] using hh).perm_drop (.refl _)
/-- .. one that is not wanted. -/
theorem tok_skip {Q : Act → Prop} {k : Nat} {o : Oper} {rest : List Oper} {a : Act} (hw : Region.wanted o (yielded ops a.tmps) = false) (h : wpTok Pr ops toks S B Q (k + 1) rest (a.put o.dst undef)) :
    wpTok Pr ops toks S B Q k (o :: rest) a := by
  unfold wpTok
  rw [hw]
  exact h
/-- .. one that takes the pieces T, sees the pieces L and makes the pieces N. -/
theorem tok_op {Q : Act → Prop} {k : Nat} {o : Oper} {rest : List Oper} {a : Act} {R : Value → Prop} (T L : List HProp) (N : Value → List HProp) (hT : toksAt ops toks a (S k).takes = T) (hL : toksAt ops toks a (S k).sees = L) (hS : (S k).R = some R) (hw : Region.wanted o (yielded ops a.tmps) = true)
    (hN : ∀ u, R u → toksAt ops toks (a.put o.dst u) (S k).gives = N u)
    (h1 : ∀ w F, holds w (T ++ (L ++ (B ++ F))) → looseUpon Pr (fun u w' => R u ∧ holds w' (N u ++ (L ++ (B ++ F)))) ((execOp a.eval o).run Pr w))
    (h2 : ∀ u, R u → wpTok Pr ops toks S B Q (k + 1) rest (a.put o.dst u)) :
    wpTok Pr ops toks S B Q k (o :: rest) a := by
  unfold wpTok TokOp
  rw [hS, hw]
  refine ⟨fun w F hh => ?_, h2⟩
  unfold tpre at hh
  rw [hT, hL] at hh
  have h4 := h1 w F (by simpa using hh)
  generalize (execOp a.eval o).run Pr w = r at h4 ⊢
  have key : ∀ u w', R u ∧ holds w' (N u ++ (L ++ (B ++ F))) → R u ∧ holds w' (tpost ops toks S B k o a u ++ F) := fun u w' ⟨hu, h5⟩ => by
    refine ⟨hu, ?_⟩
    unfold tpost
    rw [hN u hu, hL]
    simpa using h5
  cases r with
  | ok n w' =>
    cases n <;> simp only [looseUpon] at h4 ⊢
    · exact key _ _ h4
    · exact key _ _ h4
    · exact h4.mono fun e w'' ⟨u, he, hu⟩ => ⟨u, he, key _ _ hu⟩
  | halt x w' => simp only [looseUpon] at h4
theorem tok_nil {Q : Act → Prop} {k : Nat} {a : Act} (h : Q a) : wpTok Pr ops toks S B Q k [] a := h
end
end Go.Proofs.YtpkohkkkbnfigaaDoor
