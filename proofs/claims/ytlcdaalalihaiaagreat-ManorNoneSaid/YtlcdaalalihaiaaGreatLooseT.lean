import Derived.Test.YtlcdaalalihaiaaGreatSepD
import Derived.Deep.Quiet
import Derived.StillTail
/- A region that draws its order, whose operations keep the pieces of memory that they are given and whose calls may make new memory: one walk in the order of the text serves every order. A region that draws its order, cut where all that follows waits: the operations ahead of it by one walk, then one behind the other, then the others by one walk. What one call changes, the others see changed. A region that draws its order: an operation that only moves a value may be taken to stand ahead of another one that need not wait for it; then the head by one walk, the tail as it stands, whatever pieces the head has made. A region that draws its order, whose operations may take pieces of memory away and make others: each piece has at most one operation that makes it and one that takes it; one walk in the order of the text serves every order. -/
section
namespace Go.Proofs.YtlcdaalalihaiaaGreat
open Go Go.RowKit

/-- What an operation that makes memory yields: which values, and with each value, which new pieces. -/
structure LSpec where
  R : Value → Prop
  N : Value → List HProp

def lpieces (S : Nat → Option LSpec) (i : Nat) (u : Value) : List HProp :=
  match S i with
  | none => []
  | some s => match u with
    | .tuple t => if t.size = 0 then [] else s.N u
    | _ => s.N u

theorem lpieces_undef (S : Nat → Option LSpec) (i : Nat) : lpieces S i undef = [] := by
  unfold lpieces undef
  split <;> simp

section
variable (Pr : Program) (ops : Array Oper) (S : Nat → Option LSpec) (B : List HProp)

def pieceAt (a : Act) (i : Nat) : List HProp :=
  match (ops[i]?).bind (·.dst) with
  | none => []
  | some d => lpieces S i ((a.tmps[d]?).getD undef)

def sees (o : Oper) (i : Nat) : Bool :=
  match (ops[i]?).bind (·.dst) with
  | none => false
  | some d => (o.looksAt ops).contains d

/-- The pieces of those earlier operations whose values this one looks at. -/
def needs (k : Nat) (o : Oper) (a : Act) : List HProp :=
  (List.range k).flatMap fun i => if sees ops o i then pieceAt ops S a i else []

/-- The pieces of all that has come up. -/
def known (listed : Array Bool) (a : Act) : List HProp :=
  (List.range ops.size).flatMap fun i => if listed.getD i false then pieceAt ops S a i else []

def exactUpon (w : World) (k : Value → Prop) : Result Next → Prop
  | .ok (.value u) w' => w' = w ∧ k u
  | .ok .skip w' => w' = w ∧ k undef
  | _ => False

theorem exactUpon_mono {w : World} {k k' : Value → Prop} {r : Result Next} (h : exactUpon w k r) (hk : ∀ v, exactUpon w (fun u => u = v) r → k v → k' v) : exactUpon w k' r := by
  cases r with
  | ok n w' => cases n <;> simp only [exactUpon] at h hk ⊢ <;> first | exact ⟨h.1, hk _ ⟨h.1, rfl⟩ h.2⟩ | exact h
  | halt x w' => exact h
theorem exactUpon_at {w : World} {k : Value → Prop} {v : Value} {r : Result Next} (h : exactUpon w k r) (hv : exactUpon w (fun u => u = v) r) : k v := by
  cases r with
  | ok n w' => cases n <;> simp only [exactUpon] at h hv <;> first | exact hv.2 ▸ h.2 | exact h.elim
  | halt x w' => exact h.elim

def looseUpon (C : Value → World → Prop) : Result Next → Prop
  | .ok (.value u) w' => C u w'
  | .ok .skip w' => C undef w'
  | .ok (.enter f args) w' => Calls Pr f args w' fun e w'' => ∃ u, e = .returned u ∧ C u w''
  | _ => False

def LooseOp (k : Nat) (o : Oper) (a : Act) (K : Act → Prop) : Prop :=
  match S k with
  | none => ∀ w F, holds w (needs ops S k o a ++ (B ++ F)) → exactUpon w (fun v => K (a.put o.dst v)) ((execOp a.eval o).run Pr w)
  | some s => (∀ w F, holds w (needs ops S k o a ++ (B ++ F)) → looseUpon Pr (fun u w' => s.R u ∧ holds w' (lpieces S k u ++ (needs ops S k o a ++ (B ++ F)))) ((execOp a.eval o).run Pr w)) ∧
      ∀ u, s.R u → K (a.put o.dst u)

def wpLoose (Q : Act → Prop) : Nat → List Oper → Act → Prop
  | _, [], a => Q a
  | k, o :: rest, a => if Region.wanted o (yielded ops a.tmps) then LooseOp Pr ops S B k o a (wpLoose Q (k + 1) rest) else wpLoose Q (k + 1) rest (a.put o.dst undef)

/-- What may be yielded: the set. -/
def LYields (k : Nat) (o : Oper) (a : Act) (R : Value → Prop) : Prop :=
  if Region.wanted o (yielded ops a.tmps) then
    match S k with
    | none => (∀ w F, holds w (needs ops S k o a ++ (B ++ F)) → exactUpon w (fun _ => True) ((execOp a.eval o).run Pr w)) ∧ R = fun u => ∃ w F, holds w (needs ops S k o a ++ (B ++ F)) ∧ exactUpon w (fun v => v = u) ((execOp a.eval o).run Pr w)
    | some s => (∀ w F, holds w (needs ops S k o a ++ (B ++ F)) → looseUpon Pr (fun u w' => s.R u ∧ holds w' (lpieces S k u ++ (needs ops S k o a ++ (B ++ F)))) ((execOp a.eval o).run Pr w)) ∧ R = s.R
  else R = fun u => u = undef

def lOp (i : Nat) (K : Act → Prop) (a : Act) : Prop :=
  match ops[i]? with
  | none => K a
  | some o => ∃ R, LYields Pr ops S B i o a R ∧ ∀ u, R u → K (a.put o.dst u)

def Sat (l : List HProp) : Prop := ∃ w, holds w l

def wpAnyL (md : Region.Mode) (Q : Act → Prop) : Nat → Array Bool → Act → Prop
  | 0, listed, a => Sat (known ops S listed a ++ B) → Region.ready md ops listed = [] ∧ Q a
  | fuel + 1, listed, a => Sat (known ops S listed a ++ B) →
    (Region.ready md ops listed = [] → Q a) ∧
    ∀ i ∈ Region.ready md ops listed, lOp Pr ops S B i (wpAnyL md Q fuel (listed.setIfInBounds i true)) a

/-- Beyond what 'lexB' asks: what is looked at is waited for, and no two operations have one place. -/
def looseB (md : Region.Mode) : Bool :=
  (List.range ops.size).all fun j => match ops[j]? with
    | none => true
    | some oj => (List.range ops.size).all fun i => (i == j) || match ops[i]? with
      | none => true
      | some oi => (match oi.dst with
        | none => true
        | some d => oj.dst != some d && (!(decide (i < j) && (oj.looksAt ops).contains d) || oj.after.any (fun e => Region.binds md e && e.on == i)))
end

section
variable {Pr : Program} {ops : Array Oper} {S : Nat → Option LSpec} {B : List HProp} {md : Region.Mode}

theorem looseB_dst (h : looseB ops md = true) {i j : Nat} {oi oj : Oper} (hi : ops[i]? = some oi) (hj : ops[j]? = some oj) (hne : i ≠ j) (d : Tmp) (hd : oi.dst = some d) : oj.dst ≠ some d := by
  simp only [looseB, List.all_eq_true, List.mem_range] at h
  have h1 := h j (Array.getElem?_eq_some_iff.1 hj).1
  simp only [hj, List.all_eq_true, List.mem_range] at h1
  have h2 := h1 i (Array.getElem?_eq_some_iff.1 hi).1
  simp only [hi, hd, Bool.or_eq_true, beq_iff_eq, hne, false_or, Bool.and_eq_true, bne_iff_ne] at h2
  exact h2.1

theorem looseB_waits (h : looseB ops md = true) {i j : Nat} {oj : Oper} (hj : ops[j]? = some oj) (hlt : i < j) (hs : sees ops oj i = true) :
    ∃ e ∈ oj.after, Region.binds md e = true ∧ e.on = i := by
  unfold sees at hs
  cases hi : ops[i]? with
  | none => simp [hi] at hs
  | some oi =>
    cases hd : oi.dst with
    | none => simp [hi, hd] at hs
    | some d =>
      simp only [hi, Option.bind_some, hd] at hs
      simp only [looseB, List.all_eq_true, List.mem_range] at h
      have h1 := h j (Array.getElem?_eq_some_iff.1 hj).1
      simp only [hj, List.all_eq_true, List.mem_range] at h1
      have h2 := h1 i (Array.getElem?_eq_some_iff.1 hi).1
      have hne : i ≠ j := by omega
      simp only [hi, hd, Bool.or_eq_true, beq_iff_eq, hne, false_or, Bool.and_eq_true, bne_iff_ne, hlt, decide_true, hs, Bool.and_true, Bool.not_true, Bool.false_eq_true] at h2
      obtain ⟨_, h3⟩ := h2
      rw [Array.any_eq_true] at h3
      obtain ⟨x, hx, h4⟩ := h3
      exact ⟨oj.after[x], Array.getElem_mem hx, by simpa using h4⟩

theorem flatMap_congr' {α β : Type} {f g : α → List β} {l : List α} (h : ∀ i ∈ l, f i = g i) : l.flatMap f = l.flatMap g := by
  induction l with
  | nil => rfl
  | cons x l ih => simp only [List.flatMap_cons]; rw [h x List.mem_cons_self, ih fun i hi => h i (List.mem_cons_of_mem _ hi)]

theorem flatMap_sub {α β : Type} (f g : α → List β) : ∀ l : List α, (∀ i ∈ l, f i = [] ∨ f i = g i) → ∃ Y, (l.flatMap g).Perm (l.flatMap f ++ Y)
  | [], _ => ⟨[], by simp⟩
  | x :: l, h => by
    obtain ⟨Y, hY⟩ := flatMap_sub f g l fun i hi => h i (List.mem_cons_of_mem _ hi)
    rcases h x List.mem_cons_self with e | e
    · refine ⟨g x ++ Y, ?_⟩
      simp only [List.flatMap_cons, e, List.nil_append]
      refine (hY.append_left _).trans ?_
      rw [← List.append_assoc, ← List.append_assoc]
      exact List.perm_append_comm.append_right _
    · refine ⟨Y, ?_⟩
      simp only [List.flatMap_cons, e, List.append_assoc]
      exact hY.append_left _

theorem flatMap_sub_le {α : Type} (f g : Nat → List α) (k n : Nat) (hkn : k ≤ n) (h : ∀ i, i < k → f i = [] ∨ f i = g i) : ∃ Y, ((List.range n).flatMap g).Perm ((List.range k).flatMap f ++ Y) := by
  obtain ⟨Y, hY⟩ := flatMap_sub (fun i => if i < k then f i else []) g (List.range n) (fun i _ => by by_cases hi : i < k <;> simp [hi]; exact h i hi)
  refine ⟨Y, hY.trans ?_⟩
  have : (List.range n).flatMap (fun i => if i < k then f i else []) = (List.range k).flatMap f := by
    obtain ⟨m, rfl⟩ := Nat.exists_eq_add_of_le hkn
    rw [List.range_add, List.flatMap_append]
    have h1 : (List.range k).flatMap (fun i => if i < k then f i else []) = (List.range k).flatMap f := by
      refine flatMap_congr' fun i hi => ?_
      simp [List.mem_range.1 hi]
    rw [h1]
    simp [List.flatMap_map]
    intro x _ hx; omega
  rw [this]

/-- What an operation that is ready needs is there. -/
theorem needs_known (hB : looseB ops md = true) {listed : Array Bool} {j : Nat} {oj : Oper} (hj : ops[j]? = some oj) (hr : j ∈ Region.ready md ops listed) (a : Act) :
    ∃ Y, (known ops S listed a).Perm (needs ops S j oj a ++ Y) := by
  refine flatMap_sub_le _ _ j ops.size (Nat.le_of_lt (Array.getElem?_eq_some_iff.1 hj).1) fun i hi => ?_
  by_cases hs : sees ops oj i = true
  · obtain ⟨e, he, hb, hon⟩ := looseB_waits hB hj hi hs
    obtain ⟨_, o', ho', hall⟩ := mem_ready.1 hr
    rw [hj] at ho'; cases ho'
    have := hall e he hb
    rw [hon] at this
    simp [hs, this]
  · simp [hs]

theorem pieceAt_put_ne (hB : looseB ops md = true) {i j : Nat} {oj : Oper} (hj : ops[j]? = some oj) (hne : i ≠ j) (a : Act) (u : Value) : pieceAt ops S (a.put oj.dst u) i = pieceAt ops S a i := by
  unfold pieceAt
  cases hi : ops[i]? with
  | none => simp
  | some oi =>
    cases hd : oi.dst with
    | none => simp [hd]
    | some d =>
      simp only [Option.bind_some, hd]
      have h1 := looseB_dst hB hi hj hne d hd
      cases hdj : oj.dst with
      | none => rfl
      | some e =>
        have hne' : e ≠ d := fun he => h1 (by rw [hdj, he])
        simp [Act.put, Array.getElem?_setIfInBounds_ne hne']

theorem pieceAt_put_self {j : Nat} {oj : Oper} (hj : ops[j]? = some oj) (a : Act) (u : Value) : pieceAt ops S (a.put oj.dst u) j = [] ∨ pieceAt ops S (a.put oj.dst u) j = lpieces S j u := by
  unfold pieceAt
  simp only [hj, Option.bind_some]
  cases hdj : oj.dst with
  | none => exact .inl rfl
  | some d =>
    simp only [Act.put]
    rcases Nat.lt_or_ge d a.tmps.size with h | h
    · right; simp [h]
    · left; simp [h, lpieces_undef]

/-- What is known once one more has come up. -/
theorem known_put (hB : looseB ops md = true) {listed : Array Bool} {j : Nat} {oj : Oper} (hj : ops[j]? = some oj) (hun : listed.getD j true = false) (a : Act) (u : Value) :
    ∃ Y, (lpieces S j u ++ known ops S listed a).Perm (known ops S (listed.setIfInBounds j true) (a.put oj.dst u) ++ Y) := by
  have hlt := (Array.getElem?_eq_some_iff.1 hj).1
  have hl : j < listed.size := by
    rcases Nat.lt_or_ge j listed.size with h | h
    · exact h
    · simp [Array.getElem?_eq_none h] at hun
  have hlj : listed.getD j false = false := by
    have : listed[j]? = some listed[j] := Array.getElem?_eq_getElem hl
    simp [hl] at hun ⊢; exact hun
  have key : ∀ i, (if (listed.setIfInBounds j true).getD i false then pieceAt ops S (a.put oj.dst u) i else []) = if i = j then pieceAt ops S (a.put oj.dst u) j else (if listed.getD i false then pieceAt ops S a i else []) := fun i => by
    by_cases hij : i = j
    · subst hij; simp [hl]
    · rw [getD_set_ne false (Ne.symm hij), if_neg hij, pieceAt_put_ne hB hj hij]
  unfold known
  simp only [key]
  obtain ⟨m, hm⟩ := Nat.exists_eq_add_of_lt hlt
  have hsplit : List.range ops.size = List.range j ++ j :: (List.range m).map (fun i => j + 1 + i) := by
    rw [hm, show j + m + 1 = j + (1 + m) by omega, List.range_add, List.range_add]; simp [List.range_succ, Nat.add_assoc]
  rw [hsplit]
  simp only [List.flatMap_append, List.flatMap_cons, if_true, hlj, Bool.false_eq_true, if_false, List.nil_append]
  have h1 : (List.range j).flatMap (fun i => if i = j then pieceAt ops S (a.put oj.dst u) j else (if listed.getD i false then pieceAt ops S a i else [])) = (List.range j).flatMap (fun i => if listed.getD i false then pieceAt ops S a i else []) :=
    flatMap_congr' fun i hi => by rw [if_neg (Nat.ne_of_lt (List.mem_range.1 hi))]
  have h2 : ((List.range m).map (fun i => j + 1 + i)).flatMap (fun i => if i = j then pieceAt ops S (a.put oj.dst u) j else (if listed.getD i false then pieceAt ops S a i else [])) = ((List.range m).map (fun i => j + 1 + i)).flatMap (fun i => if listed.getD i false then pieceAt ops S a i else []) :=
    flatMap_congr' fun i hi => by
      obtain ⟨x, _, rfl⟩ := List.mem_map.1 hi
      rw [if_neg (by omega)]
  rw [h1, h2]
  generalize (List.range j).flatMap _ = X1
  generalize ((List.range m).map (fun i => j + 1 + i)).flatMap _ = X2
  rcases pieceAt_put_self (S := S) hj a u with e | e <;> rw [e]
  · exact ⟨lpieces S j u, by simp only [List.nil_append]; exact List.perm_append_comm⟩
  · refine ⟨[], ?_⟩
    rw [List.append_nil, ← List.append_assoc, ← List.append_assoc]
    exact List.perm_append_comm.append_right _

theorem Sat.sub {l m Y : List HProp} (h : Sat l) (p : l.Perm (m ++ Y)) : Sat m := by
  obtain ⟨w, hw⟩ := h
  refine ⟨w, ?_⟩
  have h1 := hw.perm (p.trans List.perm_append_comm)
  clear hw p
  induction Y with
  | nil => simpa using h1
  | cons A Y ih => exact ih h1.tail

theorem needs_put {k : Nat} {o : Oper} {a : Act} {dst : Option Tmp} {v : Value} (h : ∀ d, dst = some d → d ∉ o.looksAt ops) : needs ops S k o (a.put dst v) = needs ops S k o a := by
  unfold needs
  refine flatMap_congr' fun i _ => ?_
  by_cases hs : sees ops o i = true
  · simp only [hs, if_true]
    unfold sees at hs
    unfold pieceAt
    cases hb : (ops[i]?).bind (·.dst) with
    | none => rfl
    | some d =>
      rw [hb] at hs
      simp only at hs ⊢
      cases dst with
      | none => rfl
      | some e =>
        have hne : e ≠ d := fun he => h e rfl (by subst he; simpa using hs)
        simp [Act.put, Array.getElem?_setIfInBounds_ne hne]
  · simp [hs]

theorem LYields.put {j : Nat} {oj : Oper} {a : Act} {dst : Option Tmp} {v : Value} (hs : ∀ cs b, oj.op ≠ .select cs b) (h : ∀ d, dst = some d → d ∉ oj.looksAt ops) (R : Value → Prop) :
    LYields Pr ops S B j oj (a.put dst v) R ↔ LYields Pr ops S B j oj a R := by
  unfold LYields
  rw [wanted_put oj a dst v h, needs_put h, execOp_put oj hs a dst v h]

theorem LYields.inj {j : Nat} {oj : Oper} {a : Act} {R R' : Value → Prop} (h : LYields Pr ops S B j oj a R) (h' : LYields Pr ops S B j oj a R') : R = R' := by
  unfold LYields at h h'
  split at h
  · rename_i hw
    simp only [hw, if_true] at h'
    cases hS : S j with
    | none =>
      rw [hS] at h h'
      rw [h.2, h'.2]
    | some s =>
      rw [hS] at h h'
      rw [h.2, h'.2]
  · rename_i hw
    simp only [hw] at h'
    rw [h, h']

/-- One operation that comes up: some value of the set, and its pieces. -/
theorem LYields.run {Q' : Exit → Act → World → Prop} {i : Nat} {o : Oper} {a : Act} {R : Value → Prop} {w : World} {Y : List HProp} (hi : ops[i]? = some o) (h : LYields Pr ops S B i o a R)
    (hw : holds w (needs ops S i o a ++ (B ++ Y))) {K' : Act → World → Prop} (hk : ∀ u w', R u → holds w' (lpieces S i u ++ (needs ops S i o a ++ (B ++ Y))) → K' (a.put o.dst u) w') : wpOp Pr ops Q' i K' a w := by
  unfold LYields at h
  unfold wpOp
  simp only [hi]
  split at h
  · rename_i hwt
    simp only [hwt, if_true]
    refine .inl ?_
    unfold Oper.wp
    cases hS : S i with
    | none =>
      rw [hS] at h
      obtain ⟨h1, rfl⟩ := h
      have h2 := exactUpon_mono (k' := fun v => ∃ w F, holds w (needs ops S i o a ++ (B ++ F)) ∧ exactUpon w (fun u => u = v) ((execOp a.eval o).run Pr w)) (h1 w Y hw) (fun v hv _ => ⟨w, Y, hw, hv⟩)
      have hl : ∀ v, lpieces S i v = [] := fun v => by simp [lpieces, hS]
      generalize hr : (execOp a.eval o).run Pr w = r at h2
      cases r with
      | ok n w' =>
        cases n <;> first
          | exact (h2 : False).elim
          | (obtain ⟨e, h3⟩ := (h2 : _ ∧ _); subst e; exact hk _ _ h3 (by rw [hl]; exact hw))
      | halt x w' => exact (h2 : False).elim
    | some s =>
      rw [hS] at h
      obtain ⟨h1, rfl⟩ := h
      have h2 := h1 w Y hw
      generalize (execOp a.eval o).run Pr w = r at *
      cases r with
      | ok n w' =>
        cases n <;> simp only [looseUpon] at h2 <;> simp only [Oper.upon]
        · exact hk _ _ h2.1 h2.2
        · exact hk _ _ h2.1 h2.2
        · exact h2.mono fun e w'' ⟨u, he, hu, hh⟩ => by subst he; exact hk _ _ hu hh
      | halt x w' => simp only [looseUpon] at h2
  · rename_i hwt
    simp only [hwt]
    subst h
    exact hk _ _ rfl (by rw [lpieces_undef]; exact hw)

theorem holds_drop {w : World} {l m : List HProp} (h : holds w (l ++ m)) : holds w m := by
  induction l with
  | nil => exact h
  | cons A l ih => exact ih h.tail

/-- Of the first n pieces those that 'is' names, in that order; the others are let go. -/
theorem holds.sel {w : World} {l : List HProp} (h : holds w l) (n : Nat) (is : List Nat) (hp : (is ++ (List.range n).filter (fun i => !is.contains i)).Perm (List.range n) := by decide) (hn : n ≤ l.length := by simp) :
    holds w (is.map (fun i => l.getD i (fun _ => True)) ++ l.drop n) := by
  have p1 := (hp.map (fun i => l.getD i (fun _ => True))).append_right (l.drop n)
  rw [perm_range l n hn, List.map_append, List.append_assoc] at p1
  have h2 := h.perm p1.symm
  generalize is.map _ = A at h2 ⊢
  generalize ((List.range n).filter _).map _ = C at h2
  have p2 : (A ++ (C ++ l.drop n)).Perm (C ++ (A ++ l.drop n)) := by
    rw [← List.append_assoc, ← List.append_assoc]
    exact List.perm_append_comm.append_right _
  exact holds_drop (h2.perm p2)

/-- The pieces that are there, as those that operation i needs, the base, and the rest. -/
theorem known_split (hB : looseB ops md = true) {listed : Array Bool} {i : Nat} {o : Oper} (hi : ops[i]? = some o) (hr : i ∈ Region.ready md ops listed) (a : Act) {w : World} (h : holds w (known ops S listed a ++ B)) :
    ∃ Y, holds w (needs ops S i o a ++ (B ++ Y)) ∧ (∀ u, ∃ Z, (lpieces S i u ++ (needs ops S i o a ++ (B ++ Y))).Perm (known ops S (listed.setIfInBounds i true) (a.put o.dst u) ++ B ++ Z)) := by
  obtain ⟨Y, hY⟩ := needs_known (S := S) hB hi hr a
  have p : (known ops S listed a ++ B).Perm (needs ops S i o a ++ (B ++ Y)) := by
    refine (hY.append_right B).trans ?_
    rw [List.append_assoc]
    exact List.perm_append_comm.append_left _
  refine ⟨Y, h.perm p, fun u => ?_⟩
  obtain ⟨Z, hZ⟩ := known_put (S := S) hB hi (mem_ready.1 hr).1 a u
  refine ⟨Z, (p.symm.append_left _).trans ?_⟩
  rw [← List.append_assoc]
  refine (hZ.append_right B).trans ?_
  rw [List.append_assoc, List.append_assoc]
  exact List.perm_append_comm.append_left _

theorem holds.perm_drop {w : World} {l m Z : List HProp} (h : holds w l) (p : l.Perm (m ++ Z)) : holds w m :=
  holds_drop (h.perm (p.trans List.perm_append_comm))

/-- It is a wpAny, from every world that has the pieces. -/
theorem wpAny_of_loose (hB : looseB ops md = true) {Q : Act → Prop} {Q' : Exit → Act → World → Prop} (hQ : ∀ a w, holds w B → Q a → Q' .normal a w) : ∀ (fuel : Nat) (listed : Array Bool) (a : Act) (w : World),
    holds w (known ops S listed a ++ B) → wpAnyL Pr ops S B md Q fuel listed a → wpAny Pr md ops Q' fuel listed a w
  | 0, _, _, _, hw, h => ⟨(h ⟨_, hw⟩).1, hQ _ _ (holds_drop hw) (h ⟨_, hw⟩).2⟩
  | fuel + 1, listed, a, w, hw, h => by
    obtain ⟨h1, h2⟩ := h ⟨_, hw⟩
    refine ⟨fun h0 => hQ _ _ (holds_drop hw) (h1 h0), fun i hi => ?_⟩
    obtain ⟨_, o, ho, _⟩ := mem_ready.1 hi
    have h3 := h2 i hi
    unfold lOp at h3
    simp only [ho] at h3
    obtain ⟨R, hy, hR⟩ := h3
    obtain ⟨Y, hn, hp⟩ := known_split hB ho hi a hw
    refine hy.run ho hn fun u w' hu hh => ?_
    obtain ⟨Z, hZ⟩ := hp u
    exact wpAny_of_loose hB hQ fuel _ _ w' (hh.perm_drop hZ) (hR u hu)

theorem LYields.some_ {i : Nat} {o : Oper} {a : Act} {R : Value → Prop} {w : World} {Y : List HProp} (h : LYields Pr ops S B i o a R) (hw : holds w (needs ops S i o a ++ (B ++ Y))) :
    ∃ u w', R u ∧ holds w' (lpieces S i u ++ (needs ops S i o a ++ (B ++ Y))) := by
  unfold LYields at h
  split at h
  · cases hS : S i with
    | none =>
      rw [hS] at h
      obtain ⟨h1, rfl⟩ := h
      have h2 := exactUpon_mono (k' := fun v => exactUpon w (fun u => u = v) ((execOp a.eval o).run Pr w)) (h1 w Y hw) (fun v hv _ => hv)
      generalize hr : (execOp a.eval o).run Pr w = r at h2
      cases r with
      | ok n w' =>
        cases n <;> first
          | exact (h2 : False).elim
          | (obtain ⟨e, h3⟩ := (h2 : _ ∧ _); exact ⟨_, w, ⟨w, Y, hw, by rw [hr]; exact h3⟩, by simp only [lpieces, hS]; exact hw⟩)
      | halt x w' => exact (h2 : False).elim
    | some s =>
      rw [hS] at h
      obtain ⟨h1, rfl⟩ := h
      have h2 := h1 w Y hw
      generalize (execOp a.eval o).run Pr w = r at *
      cases r with
      | ok n w' =>
        cases n <;> simp only [looseUpon] at h2
        · exact ⟨_, _, h2.1, h2.2⟩
        · exact ⟨_, _, h2.1, h2.2⟩
        · obtain ⟨e, w'', fr, ⟨u, _, hu, hh⟩, _⟩ := h2 []
          exact ⟨u, w'', hu, hh⟩
      | halt x w' => simp only [looseUpon] at h2
  · subst h
    exact ⟨undef, w, rfl, by rw [lpieces_undef]; exact hw⟩

theorem known_mono (hB : looseB ops md = true) {listed : Array Bool} {j : Nat} {oj : Oper} (hj : ops[j]? = some oj) (hun : listed.getD j true = false) (a : Act) (u : Value) :
    ∃ Y, (known ops S (listed.setIfInBounds j true) (a.put oj.dst u)).Perm (known ops S listed a ++ Y) := by
  have hl : j < listed.size := by
    rcases Nat.lt_or_ge j listed.size with h | h
    · exact h
    · simp [Array.getElem?_eq_none h] at hun
  refine flatMap_sub _ _ _ fun i _ => ?_
  by_cases hij : i = j
  · subst hij
    left
    simp [hl] at hun ⊢
    simp [hun]
  · right
    rw [getD_set_ne false (Ne.symm hij), pieceAt_put_ne hB hj hij]

/-- **An operation that may come up now may be taken first.** -/
theorem wpAnyL_first (hB : looseB ops md = true) {Q : Act → Prop} {i : Nat} {oi : Oper} {R : Value → Prop} (hi : ops[i]? = some oi) (hsel : ∀ (j : Nat) (o : Oper) cs b, ops[j]? = some o → o.op ≠ .select cs b) :
    ∀ (fuel : Nat) (listed : Array Bool) (a : Act),
      (∀ j oj, ops[j]? = some oj → j ≠ i → listed.getD j true = false → (∀ e ∈ oj.after, Region.binds md e = true → e.on ≠ i) → oi.apart ops oj = true) →
      i ∈ Region.ready md ops listed → LYields Pr ops S B i oi a R →
      (∀ v, R v → wpAnyL Pr ops S B md Q fuel (listed.setIfInBounds i true) (a.put oi.dst v)) → wpAnyL Pr ops S B md Q (fuel + 1) listed a := by
  intro fuel
  induction fuel with
  | zero =>
    intro listed a _ hr hy H hsat
    obtain ⟨w, hw⟩ := hsat
    obtain ⟨Y, hn, hp⟩ := known_split hB hi hr a hw
    obtain ⟨v, w', hv, hh⟩ := hy.some_ hn
    obtain ⟨Z, hZ⟩ := hp v
    have H1 := H v hv ⟨w', hh.perm_drop hZ⟩
    refine ⟨fun h => (by rw [h] at hr; cases hr), fun j hj => ?_⟩
    by_cases hji : j = i
    · subst hji
      unfold lOp
      simp only [hi]
      exact ⟨R, hy, H⟩
    · have := ready_mono hj hji
      rw [H1.1] at this
      cases this
  | succ fuel ih =>
    intro listed a hfree hr hy H hsat
    obtain ⟨w, hw⟩ := hsat
    obtain ⟨Y, hn, hp⟩ := known_split hB hi hr a hw
    obtain ⟨v, w', hv, hh⟩ := hy.some_ hn
    obtain ⟨Z, hZ⟩ := hp v
    have H1 := H v hv ⟨w', hh.perm_drop hZ⟩
    refine ⟨fun h => (by rw [h] at hr; cases hr), fun j hj => ?_⟩
    by_cases hji : j = i
    · subst hji
      unfold lOp
      simp only [hi]
      exact ⟨R, hy, H⟩
    · obtain ⟨hjun, oj, hoj, hall⟩ := mem_ready.1 hj
      have hnot : ∀ e ∈ oj.after, Region.binds md e = true → e.on ≠ i := fun e he hb heq => by
        have h1 := hall e he hb
        have h0 := (mem_ready.1 hr).1
        rw [heq] at h1
        rcases Nat.lt_or_ge i listed.size with h' | h'
        · simp [h'] at h0 h1; rw [h0] at h1; cases h1
        · simp [Array.getElem?_eq_none h'] at h1
      obtain ⟨a1, a2, a3⟩ := Oper.apart_spec (hfree j oj hoj hji hjun hnot)
      have h2 := H1.2 j (ready_mono hj hji)
      unfold lOp at h2 ⊢
      simp only [hoj] at h2 ⊢
      obtain ⟨Rj, hyj, _⟩ := h2
      rw [LYields.put (fun cs b => hsel j oj cs b hoj) a1] at hyj
      refine ⟨Rj, hyj, fun u hu => ?_⟩
      have hfree' : ∀ k ok, ops[k]? = some ok → k ≠ i → (listed.setIfInBounds j true).getD k true = false →
          (∀ e ∈ ok.after, Region.binds md e = true → e.on ≠ i) → oi.apart ops ok = true := fun k ok hk hki hun hno => by
        refine hfree k ok hk hki ?_ hno
        by_cases hjk : j = k
        · subst hjk; exact hjun
        · rw [getD_set_ne true hjk] at hun; exact hun
      have hiun : (listed.setIfInBounds j true).getD i true = false := by rw [getD_set_ne true hji]; exact (mem_ready.1 hr).1
      refine ih (listed.setIfInBounds j true) (a.put oj.dst u) hfree' (ready_mono hr (Ne.symm hji)) ((LYields.put (fun cs b => hsel i oi cs b hi) a3 R).2 hy) fun v' hv' => ?_
      have hcomm : (a.put oj.dst u).put oi.dst v' = (a.put oi.dst v').put oj.dst u := (Act.put_comm a v' u a2).symm
      have hset : (listed.setIfInBounds j true).setIfInBounds i true = (listed.setIfInBounds i true).setIfInBounds j true := (Array.setIfInBounds_comm _ _ (Ne.symm hji)).symm
      rw [hcomm, hset]
      have hjun' : (listed.setIfInBounds i true).getD j true = false := by rw [getD_set_ne true (Ne.symm hji)]; exact hjun
      have hgo : Sat (known ops S ((listed.setIfInBounds i true).setIfInBounds j true) ((a.put oi.dst v').put oj.dst u) ++ B) → wpAnyL Pr ops S B md Q fuel ((listed.setIfInBounds i true).setIfInBounds j true) ((a.put oi.dst v').put oj.dst u) := fun hs => by
        obtain ⟨Y2, hY2⟩ := known_mono (S := S) hB hoj hjun' (a.put oi.dst v') u
        have hs1 : Sat (known ops S (listed.setIfInBounds i true) (a.put oi.dst v') ++ B) := hs.sub (Y := Y2) (by
          refine (hY2.append_right B).trans ?_
          rw [List.append_assoc, List.append_assoc]
          exact List.perm_append_comm.append_left _)
        have h3 := (H v' hv' hs1).2 j (ready_mono hj hji)
        unfold lOp at h3
        simp only [hoj] at h3
        obtain ⟨Rj', hyj', hk⟩ := h3
        rw [LYields.put (fun cs b => hsel j oj cs b hoj) a1] at hyj'
        have := LYields.inj hyj hyj'
        subst this
        exact hk u hu
      cases fuel with
      | zero => exact fun hs => hgo hs hs
      | succ fuel => exact fun hs => hgo hs hs

theorem loose_yields {Q : Act → Prop} {k : Nat} {o : Oper} {l : List Oper} {a : Act} (h : wpLoose Pr ops S B Q k (o :: l) a) : ∃ R, LYields Pr ops S B k o a R ∧ ∀ u, R u → wpLoose Pr ops S B Q (k + 1) l (a.put o.dst u) := by
  unfold wpLoose at h
  unfold LYields
  split at h
  · rename_i hw
    simp only [hw, if_true]
    unfold LooseOp at h
    cases hS : S k with
    | none => rw [hS] at h; exact ⟨_, ⟨fun w F hh => exactUpon_mono (h w F hh) fun _ _ _ => trivial, rfl⟩, fun u ⟨w, F, hh, hu⟩ => exactUpon_at (h w F hh) hu⟩
    | some s => rw [hS] at h; exact ⟨_, ⟨h.1, rfl⟩, h.2⟩
  · rename_i hw
    simp only [hw]
    exact ⟨_, rfl, fun u hu => by subst hu; exact h⟩

theorem wpAnyL_lex (hB : looseB ops md = true) {Q : Act → Prop} (hs : Region.noSelect ops = true) : ∀ (l : List Oper) (k : Nat) (listed : Array Bool) (a : Act), (∀ j, l[j]? = ops[k + j]?) →
    Region.lexFrom md ops l.length k listed = true → wpLoose Pr ops S B Q k l a → wpAnyL Pr ops S B md Q l.length listed a
  | [], _, _, _, _, hL, h => fun _ => ⟨by simpa [Region.lexFrom] using hL, h⟩
  | o :: l, k, listed, a, hl, hL, h => by
    have h0 : ops[k]? = some o := by simpa using (hl 0).symm
    simp only [List.length_cons, Region.lexFrom, Bool.and_eq_true] at hL
    obtain ⟨⟨hr, hf⟩, hL'⟩ := hL
    have hrec := fun a' (h' : wpLoose Pr ops S B Q (k + 1) l a') => wpAnyL_lex hB hs l (k + 1) (listed.setIfInBounds k true) a' (fun j => by have := hl (j + 1); simpa [Nat.add_assoc, Nat.add_comm 1 j] using this) hL' h'
    have hst := loose_yields h
    obtain ⟨R, hy, hR⟩ := hst
    exact wpAnyL_first hB h0 (Region.noSelect_spec hs) l.length listed a (Region.free_spec h0 hf) (by simpa using hr) hy fun v hv => hrec _ (hR v hv)

theorem known_none (ops : Array Oper) (n : Nat) (a : Act) : known ops S (Array.replicate n false) a = [] := by
  unfold known
  refine List.flatMap_eq_nil_iff.2 fun i _ => ?_
  by_cases hi : i < n <;> simp [hi]

/-- **ONE WALK OF THE ORDER OF THE TEXT SERVES EVERY ORDER.** -/
theorem wp_region_loose {id : Nat} {Q : Exit → Act → World → Prop} {a : Act} {w : World} {l : List Oper} (S : Nat → Option LSpec) (B : List HProp) (hm : Pr.follows .mixedOrders = true) (hB : (Region.lexB .any l.toArray && looseB l.toArray .any) = true)
    (hC : holds w B) (h : wpLoose Pr l.toArray S B (fun a' => ∀ w', holds w' B → Q .normal a' w') 0 l a) : (Code.region id l.toArray true).wp Pr Q a w := by
  simp only [Region.lexB, Bool.and_eq_true] at hB
  have hC' : holds { w with drawn := w.drawn + 1 } B := hC.drew
  refine wp_region_any hm (wpAny_of_loose (S := S) (B := B) hB.2 (Q := fun a' => ∀ w', holds w' B → Q .normal a' w') (fun _ w' hw' h => h w' hw') _ _ _ _ (by rw [known_none]; exact hC') ?_)
  have := wpAnyL_lex (Pr := Pr) (S := S) (B := B) (md := .any) hB.2 hB.1.1 l 0 (Array.replicate l.toArray.size false) a (by simp) (by simpa using hB.1.2) h
  simpa using this

/-- The head of a region whose last operations come up one behind the other. -/
def wpHeadL (Pr : Program) (ops : Array Oper) (S : Nat → Option LSpec) (B : List HProp) (md : Region.Mode) (n : Nat) (L : Array Bool → Act → Prop) : Nat → Array Bool → Act → Prop
  | 0, listed, a => Sat (known ops S listed a ++ B) → L listed a
  | f + 1, listed, a => Sat (known ops S listed a ++ B) →
    Region.ready md ops listed ≠ [] ∧ ∀ i ∈ Region.ready md ops listed, i < n ∧ lOp Pr ops S B i (wpHeadL Pr ops S B md n L f (listed.setIfInBounds i true)) a

theorem wpAny_of_headL (hB : looseB ops md = true) {n g : Nat} {L : Array Bool → Act → Prop} {Q' : Exit → Act → World → Prop} (hL : ∀ listed a w, holds w B → L listed a → wpAny Pr md ops Q' g listed a w) :
    ∀ (f : Nat) (listed : Array Bool) (a : Act) (w : World), holds w (known ops S listed a ++ B) → wpHeadL Pr ops S B md n L f listed a → wpAny Pr md ops Q' (f + g) listed a w
  | 0, listed, a, w, hw, h => by rw [Nat.zero_add]; exact hL _ _ _ (holds_drop hw) (h ⟨_, hw⟩)
  | f + 1, listed, a, w, hw, h => by
    rw [show f + 1 + g = (f + g) + 1 by omega]
    obtain ⟨h1, h2⟩ := h ⟨_, hw⟩
    refine ⟨fun h0 => absurd h0 h1, fun i hi => ?_⟩
    obtain ⟨_, o, ho, _⟩ := mem_ready.1 hi
    have h3 := (h2 i hi).2
    unfold lOp at h3
    simp only [ho] at h3
    obtain ⟨R, hy, hR⟩ := h3
    obtain ⟨Y, hn, hp⟩ := known_split hB ho hi a hw
    refine hy.run ho hn fun u w' hu hh => ?_
    obtain ⟨Z, hZ⟩ := hp u
    exact wpAny_of_headL hB hL f _ _ w' (hh.perm_drop hZ) (hR u hu)

/-- **An operation that may come up now may be taken first.** -/
theorem wpHeadL_first (hB : looseB ops md = true) {n i : Nat} {L : Array Bool → Act → Prop} {oi : Oper} {R : Value → Prop} (hi : ops[i]? = some oi) (hsel : ∀ (j : Nat) (o : Oper) cs b, ops[j]? = some o → o.op ≠ .select cs b)
    (hs : Region.sinkB md ops n = true) (hc : Region.chainB md ops n = true) (hn' : n < ops.size) (hin : i < n) (hdone : ∀ listed a, L listed a → ∀ j ∈ Region.ready md ops listed, n ≤ j) :
    ∀ (fuel : Nat) (listed : Array Bool) (a : Act), HeadInv md ops n listed →
      (∀ j oj, ops[j]? = some oj → j ≠ i → listed.getD j true = false → (∀ e ∈ oj.after, Region.binds md e = true → e.on ≠ i) → oi.apart ops oj = true) →
      i ∈ Region.ready md ops listed → LYields Pr ops S B i oi a R →
      (∀ v, R v → wpHeadL Pr ops S B md n L fuel (listed.setIfInBounds i true) (a.put oi.dst v)) → wpHeadL Pr ops S B md n L (fuel + 1) listed a := by
  intro fuel
  induction fuel with
  | zero =>
    intro listed a inv _ hr hy H hsat
    obtain ⟨w, hw⟩ := hsat
    obtain ⟨Y, hn, hp⟩ := known_split hB hi hr a hw
    obtain ⟨v, w', hv, hh⟩ := hy.some_ hn
    obtain ⟨Z, hZ⟩ := hp v
    have H1 := H v hv ⟨w', hh.perm_drop hZ⟩
    have hun := (mem_ready.1 hr).1
    refine ⟨fun h => (by rw [h] at hr; cases hr), fun j hj => ?_⟩
    have hjn : j < n := by
      rcases Nat.lt_or_ge j n with h | h
      · exact h
      · exact absurd hj (tail_waits hs hc hn' inv _ i rfl hin hun j h)
    refine ⟨hjn, ?_⟩
    by_cases hji : j = i
    · subst hji
      unfold lOp
      simp only [hi]
      exact ⟨R, hy, H⟩
    · have := hdone _ _ H1 j (ready_mono hj hji)
      omega
  | succ fuel ih =>
    intro listed a inv hfree hr hy H hsat
    obtain ⟨w, hw⟩ := hsat
    obtain ⟨Y, hn, hp⟩ := known_split hB hi hr a hw
    obtain ⟨v, w', hv, hh⟩ := hy.some_ hn
    obtain ⟨Z, hZ⟩ := hp v
    have H1 := H v hv ⟨w', hh.perm_drop hZ⟩
    have hun := (mem_ready.1 hr).1
    refine ⟨fun h => (by rw [h] at hr; cases hr), fun j hj => ?_⟩
    have hjn : j < n := by
      rcases Nat.lt_or_ge j n with h | h
      · exact h
      · exact absurd hj (tail_waits hs hc hn' inv _ i rfl hin hun j h)
    refine ⟨hjn, ?_⟩
    by_cases hji : j = i
    · subst hji
      unfold lOp
      simp only [hi]
      exact ⟨R, hy, H⟩
    · obtain ⟨hjun, oj, hoj, hall⟩ := mem_ready.1 hj
      have hnot : ∀ e ∈ oj.after, Region.binds md e = true → e.on ≠ i := fun e he hb heq => by
        have h1 := hall e he hb
        have h0 := (mem_ready.1 hr).1
        rw [heq] at h1
        rcases Nat.lt_or_ge i listed.size with h' | h'
        · simp [h'] at h0 h1; rw [h0] at h1; cases h1
        · simp [Array.getElem?_eq_none h'] at h1
      obtain ⟨a1, a2, a3⟩ := Oper.apart_spec (hfree j oj hoj hji hjun hnot)
      have h2 := (H1.2 j (ready_mono hj hji)).2
      unfold lOp at h2 ⊢
      simp only [hoj] at h2 ⊢
      obtain ⟨Rj, hyj, _⟩ := h2
      rw [LYields.put (fun cs b => hsel j oj cs b hoj) a1] at hyj
      refine ⟨Rj, hyj, fun u hu => ?_⟩
      have hfree' : ∀ k ok, ops[k]? = some ok → k ≠ i → (listed.setIfInBounds j true).getD k true = false →
          (∀ e ∈ ok.after, Region.binds md e = true → e.on ≠ i) → oi.apart ops ok = true := fun k ok hk hki hun hno => by
        refine hfree k ok hk hki ?_ hno
        by_cases hjk : j = k
        · subst hjk; exact hjun
        · rw [getD_set_ne true hjk] at hun; exact hun
      have hiun : (listed.setIfInBounds j true).getD i true = false := by rw [getD_set_ne true hji]; exact (mem_ready.1 hr).1
      refine ih (listed.setIfInBounds j true) (a.put oj.dst u) (inv.set hj hjn) hfree' (ready_mono hr (Ne.symm hji)) ((LYields.put (fun cs b => hsel i oi cs b hi) a3 R).2 hy) fun v' hv' => ?_
      have hcomm : (a.put oj.dst u).put oi.dst v' = (a.put oi.dst v').put oj.dst u := (Act.put_comm a v' u a2).symm
      have hset : (listed.setIfInBounds j true).setIfInBounds i true = (listed.setIfInBounds i true).setIfInBounds j true := (Array.setIfInBounds_comm _ _ (Ne.symm hji)).symm
      rw [hcomm, hset]
      have hjun' : (listed.setIfInBounds i true).getD j true = false := by rw [getD_set_ne true (Ne.symm hji)]; exact hjun
      have hgo : Sat (known ops S ((listed.setIfInBounds i true).setIfInBounds j true) ((a.put oi.dst v').put oj.dst u) ++ B) → wpHeadL Pr ops S B md n L fuel ((listed.setIfInBounds i true).setIfInBounds j true) ((a.put oi.dst v').put oj.dst u) := fun hs => by
        obtain ⟨Y2, hY2⟩ := known_mono (S := S) hB hoj hjun' (a.put oi.dst v') u
        have hs1 : Sat (known ops S (listed.setIfInBounds i true) (a.put oi.dst v') ++ B) := hs.sub (Y := Y2) (by
          refine (hY2.append_right B).trans ?_
          rw [List.append_assoc, List.append_assoc]
          exact List.perm_append_comm.append_left _)
        have h3 := ((H v' hv' hs1).2 j (ready_mono hj hji)).2
        unfold lOp at h3
        simp only [hoj] at h3
        obtain ⟨Rj', hyj', hk⟩ := h3
        rw [LYields.put (fun cs b => hsel j oj cs b hoj) a1] at hyj'
        have := LYields.inj hyj hyj'
        subst this
        exact hk u hu
      cases fuel with
      | zero => exact fun hs => hgo hs hs
      | succ fuel => exact fun hs => hgo hs hs

theorem wpHeadL_lex (hB : looseB ops md = true) {n g : Nat} {Lq : Act → Prop} (hsel : Region.noSelect ops = true) (hs : Region.sinkB md ops n = true) (hc : Region.chainB md ops n = true) (hn : n < ops.size) :
    ∀ (l : List Oper) (k : Nat) (listed : Array Bool) (a : Act), (∀ j, j < l.length → l[j]? = ops[k + j]?) → k + l.length = n → HeadInv md ops n listed →
    Region.lexHead md ops g l.length k listed = true → wpLoose Pr ops S B Lq k l a →
    wpHeadL Pr ops S B md n (fun listed' a' => Region.seqB md ops g n listed' = true ∧ Lq a') l.length listed a
  | [], k, listed, a, _, hk, _, hL, h => fun _ => by
    have : k = n := by simpa using hk
    subst this
    exact ⟨by simpa [Region.lexHead] using hL, h⟩
  | o :: l, k, listed, a, hl, hk, inv, hL, h => by
    have h0 : ops[k]? = some o := by simpa using (hl 0 (by simp)).symm
    simp only [List.length_cons, Region.lexHead, Bool.and_eq_true] at hL
    obtain ⟨⟨hr, hf⟩, hL'⟩ := hL
    have hkn : k < n := by simp only [List.length_cons] at hk; omega
    have hr' : k ∈ Region.ready md ops listed := by simpa using hr
    have hrec := fun a' (h' : wpLoose Pr ops S B Lq (k + 1) l a') => wpHeadL_lex hB hsel hs hc hn l (k + 1) (listed.setIfInBounds k true) a' (fun j hj => by have := hl (j + 1) (by simp; omega); simpa [Nat.add_assoc, Nat.add_comm 1 j] using this) (by simp only [List.length_cons] at hk; omega) (inv.set hr' hkn) hL' h'
    obtain ⟨R, hy, hR⟩ := loose_yields h
    exact wpHeadL_first hB h0 (Region.noSelect_spec hsel) hs hc hn hkn (fun listed' a' hL => seqB_ready hL.1) l.length listed a inv (Region.free_spec h0 hf) hr' hy fun v hv => hrec _ (hR v hv)

/-- **The same, where the last operations come up one behind the other: those are walked as they stand.** -/
theorem wp_region_loose_tail {id : Nat} {Q : Exit → Act → World → Prop} {a : Act} {w : World} {l : List Oper} (n : Nat) (S : Nat → Option LSpec) (B : List HProp) (hm : Pr.follows .mixedOrders = true) (hB : (Region.lexTailB .any l.toArray n && looseB l.toArray .any) = true)
    (hC : holds w B) (h : wpLoose Pr l.toArray S B (fun a' => ∀ w', holds w' B → wpList Pr l.toArray Q (l.drop n) a' w') 0 (l.take n) a) : (Code.region id l.toArray true).wp Pr Q a w := by
  simp only [Region.lexTailB, Bool.and_eq_true, decide_eq_true_eq] at hB
  obtain ⟨⟨⟨⟨⟨hsel, hn⟩, hs⟩, hc⟩, hlex⟩, hB⟩ := hB
  have hC' : holds { w with drawn := w.drawn + 1 } B := hC.drew
  have htl : (l.take n).length = n := by have : n < l.length := by simpa using hn
                                         simp; omega
  have hdl : (l.drop n).length = l.toArray.size - n := by simp
  have inv0 : HeadInv .any l.toArray n (Array.replicate l.toArray.size false) :=
    ⟨by simp, fun j oj _ hl => (by rw [getD_replicate_false] at hl; cases hl), fun t _ ht => getD_in (by simpa using ht) (getD_replicate_false _ _)⟩
  have H := wpHeadL_lex (S := S) (B := B) (md := .any) (g := l.toArray.size - n) hB hsel hs hc hn (l.take n) 0 _ a (fun j hj => by
    have hj' : j < n := by rw [htl] at hj; exact hj
    simp [hj']) (by simpa using htl) inv0 (by rw [htl]; exact hlex) h
  refine wp_region_any hm ?_
  have := wpAny_of_headL (Q' := Q) hB (g := l.toArray.size - n) (fun listed a' w' hw' hL => by
    have := wpAny_of_seq (md := .any) (Q' := Q) (l.drop n) n listed a' w' (fun j => by simp [List.getElem?_drop]) (by rw [hdl]; exact hL.1) (hL.2 w' hw')
    rwa [hdl] at this) _ _ _ _ (by rw [known_none]; exact hC') H
  rw [htl, show n + (l.toArray.size - n) = l.toArray.size by omega] at this
  exact this

/-- The same walk behind a seal: what is not yet walked is not unfolded. -/
structure Sealed (p : Prop) : Prop where
  out : p
end
end Go.Proofs.YtlcdaalalihaiaaGreat
end
section
namespace Go.Proofs.YtlcdaalalihaiaaGreat
open Go Go.RowKit
set_option linter.unusedVariables false

def listTo : Nat → Nat → Array Bool → Array Bool
  | 0, _, l => l
  | f + 1, k, l => listTo f (k + 1) (l.setIfInBounds k true)
def listPre (m : Nat) (pre : List Nat) : Array Bool := pre.foldl (fun l p => l.setIfInBounds p true) (Array.replicate m false)

/-- Whatever stands behind n waits for one that stands there too and has not come up. -/
def gateB (md : Region.Mode) (ops : Array Oper) (n : Nat) (l0 : Array Bool) : Bool :=
  (List.range ops.size).all fun t => decide (t ≤ n) || l0.getD t true || (List.range t).any fun j => decide (n ≤ j) && !l0.getD j true && Region.waitsFor md ops t j
def closedB (md : Region.Mode) (ops : Array Oper) (l0 : Array Bool) : Bool :=
  (List.range ops.size).all fun j => !l0.getD j false || match ops[j]? with
    | some oj => oj.after.all fun e => !Region.binds md e || l0.getD e.on false
    | none => true
def lexG (md : Region.Mode) (ops : Array Oper) : Nat → Nat → Array Bool → Bool
  | 0, n, l => (Region.ready md ops l).all fun j => decide (n ≤ j)
  | f + 1, k, l => (Region.ready md ops l).contains k && Region.free md ops l k && lexG md ops f (k + 1) (l.setIfInBounds k true)
def headB (md : Region.Mode) (ops : Array Oper) (n : Nat) (l0 : Array Bool) : Bool :=
  Region.noSelect ops && decide (n < ops.size) && (l0.size == ops.size) && (l0.getD n true == false) && Region.sinkB md ops n && gateB md ops n l0 && closedB md ops l0 && lexG md ops n 0 l0

section
variable {Pr : Program} {ops : Array Oper} {S : Nat → Option LSpec} {B : List HProp} {md : Region.Mode}

structure GateInv (md : Region.Mode) (ops : Array Oper) (n : Nat) (l0 listed : Array Bool) : Prop where
  size : listed.size = ops.size
  closed : ∀ j oj, ops[j]? = some oj → listed.getD j false = true → ∀ e ∈ oj.after, Region.binds md e = true → listed.getD e.on false = true
  tail : ∀ t, n ≤ t → listed.getD t true = l0.getD t true

theorem GateInv.set {n i : Nat} {l0 listed : Array Bool} (inv : GateInv md ops n l0 listed) (hi : i ∈ Region.ready md ops listed) (hin : i < n) : GateInv md ops n l0 (listed.setIfInBounds i true) := by
  obtain ⟨_, oi, hoi, hall⟩ := mem_ready.1 hi
  refine ⟨by simp [inv.size], fun j oj hj hl e he hb => ?_, fun t ht => by rw [getD_set_ne true (by omega)]; exact inv.tail t ht⟩
  by_cases hij : i = j
  · subst hij
    have : oj = oi := Option.some.inj (hj.symm.trans hoi)
    subst this
    exact getD_set_true (hall e he hb)
  · rw [getD_set_ne false hij] at hl
    exact getD_set_true (inv.closed j oj hj hl e he hb)

end
end Go.Proofs.YtlcdaalalihaiaaGreat
end
section
namespace Go.Proofs.YtlcdaalalihaiaaGreat
open Go Go.RowKit
set_option linter.unusedVariables false

def pureOp (o : Oper) : Bool := match o.op with | .move _ | .assign _ | .extract .. => true | _ => false
/-! ### Operations that are the same but for what they wait for -/
def bare (o : Oper) : Oper := { o with after := #[] }
def Alike (ops ops' : Array Oper) : Prop := ∀ j : Nat, (ops[j]?).map bare = (ops'[j]?).map bare
theorem Alike.dst {ops ops' : Array Oper} (h : Alike ops ops') (j : Nat) : (ops[j]?).bind (·.dst) = (ops'[j]?).bind (·.dst) := by
  have := congrArg (fun x => x.bind (·.dst)) (h j)
  simp only [Option.bind_map] at this
  exact this
theorem bare_exec (o : Oper) (ρ : Operand → Value) : execOp ρ (bare o) = execOp ρ o := rfl
theorem bare_eq {o o' : Oper} (h : bare o = bare o') : o.dst = o'.dst ∧ o.guard = o'.guard ∧ o.op = o'.op ∧ ∀ ρ, execOp ρ o = execOp ρ o' := by
  have h' := h
  unfold bare at h'
  injection h' with h1 h2 h3 h4 h5 h6
  refine ⟨h1, h6, h2, fun ρ => ?_⟩
  rw [← bare_exec, h, bare_exec]
theorem Alike.yielded {ops ops' : Array Oper} (h : Alike ops ops') (tmps : Array Value) : yielded ops tmps = yielded ops' tmps := by
  funext j
  unfold Go.yielded
  rw [h.dst j]
theorem Alike.wanted {o o' : Oper} (h : bare o = bare o') (f : Nat → Option Bool) : Region.wanted o f = Region.wanted o' f := by
  unfold Region.wanted
  rw [(bare_eq h).2.1]
theorem Alike.wp {P : Program} {o o' : Oper} (h : bare o = bare o') (a : Act) (w : World) (K : Act → World → Prop) (Q : Exit → Act → World → Prop) : o.wp P a w K Q = o'.wp P a w K Q := by
  unfold Oper.wp
  rw [(bare_eq h).2.2.2]
  unfold Oper.upon
  rw [(bare_eq h).1]
theorem Alike.asks {P : Program} {o o' : Oper} (h : bare o = bare o') (a : Act) (w : World) : o.asks P a w = o'.asks P a w := by
  unfold Oper.asks
  rw [(bare_eq h).2.2.2]
theorem Alike.get {ops ops' : Array Oper} (h : Alike ops ops') {j : Nat} {o : Oper} (hj : ops[j]? = some o) : ∃ o', ops'[j]? = some o' ∧ bare o = bare o' := by
  have := h j
  rw [hj] at this
  cases ho : ops'[j]? with
  | none => rw [ho] at this; cases this
  | some o' => rw [ho] at this; exact ⟨o', rfl, Option.some.inj this⟩
theorem Alike.symm {ops ops' : Array Oper} (h : Alike ops ops') : Alike ops' ops := fun j => (h j).symm
theorem Alike.trans {ops ops' ops'' : Array Oper} (h : Alike ops ops') (h' : Alike ops' ops'') : Alike ops ops'' := fun j => (h j).trans (h' j)
theorem Alike.wpOp {P : Program} {ops ops' : Array Oper} (h : Alike ops ops') {Q : Exit → Act → World → Prop} {i : Nat} {K : Act → World → Prop} {a : Act} {w : World} (hw : wpOp P ops Q i K a w) : wpOp P ops' Q i K a w := by
  unfold Go.wpOp at *
  cases hi : ops[i]? with
  | none =>
    have : ops'[i]? = none := by
      have := h i
      rw [hi] at this
      cases ho : ops'[i]? with
      | none => rfl
      | some o => rw [ho] at this; cases this
    rw [hi] at hw
    rw [this]
    exact hw
  | some o =>
    obtain ⟨o', ho', hb⟩ := h.get hi
    rw [hi] at hw
    rw [ho']
    dsimp only at hw ⊢
    rw [← Alike.wanted hb, ← h.yielded, ← Alike.wp hb, ← Alike.asks hb, ← (bare_eq hb).1]
    exact hw
theorem Alike.looksAt {ops ops' : Array Oper} (h : Alike ops ops') {o o' : Oper} (hb : bare o = bare o') : o.looksAt ops = o'.looksAt ops' := by
  unfold Oper.looksAt
  rw [(bare_eq hb).2.2.1, (bare_eq hb).2.1]
  split
  · rw [h.dst]
  · rfl
theorem Alike.needs {ops ops' : Array Oper} (h : Alike ops ops') (S : Nat → Option LSpec) {k : Nat} {o o' : Oper} (hb : bare o = bare o') (a : Act) : needs ops S k o a = needs ops' S k o' a := by
  unfold Go.Proofs.YtlcdaalalihaiaaGreat.needs
  congr 1
  funext i
  unfold sees pieceAt
  rw [h.dst i, h.looksAt hb]
def Alike2 : List Oper → List Oper → Prop
  | [], [] => True
  | o :: l, o' :: l' => bare o = bare o' ∧ Alike2 l l'
  | _, _ => False
theorem Alike.list {P : Program} {ops ops' : Array Oper} (h : Alike ops ops') {Q : Exit → Act → World → Prop} : ∀ (l l' : List Oper) (a : Act) (w : World), Alike2 l l' → wpList P ops Q l a w → wpList P ops' Q l' a w
  | [], [], a, w, _, hw => hw
  | o :: l, o' :: l', a, w, ⟨hb, hl⟩, hw => by
    unfold wpList at hw ⊢
    rw [← Alike.wanted hb, ← h.yielded]
    have ih := fun a w => Alike.list h (P := P) (Q := Q) l l' a w hl
    split
    · rename_i hwa
      rw [if_pos hwa] at hw
      rw [← Alike.wp hb, ← Alike.asks hb]
      exact hw.imp (Oper.wp_mono ih) id
    · rename_i hwa
      rw [if_neg hwa] at hw
      rw [← (bare_eq hb).1]
      exact ih _ _ hw
  | [], _ :: _, _, _, h, _ => h.elim
  | _ :: _, [], _, _, h, _ => h.elim

/-! ### One wait more -/
def addEdge (t z : Nat) (ops : Array Oper) : Array Oper := ops.modify t fun o => { o with after := o.after.push ⟨z, .data⟩ }
def freeR (md : Region.Mode) (ops : Array Oper) (z : Nat) : Bool :=
  match ops[z]? with
  | none => false
  | some oz => (List.range ops.size).all fun j => j == z || oz.after.any (fun e => Region.binds md e && e.on == j) || match ops[j]? with
    | some oj => oj.after.any (fun e => Region.binds md e && e.on == z) || oz.apart ops oj
    | none => true
def moreB (md : Region.Mode) (ops : Array Oper) (t z : Nat) : Bool :=
  Region.noSelect ops && (t != z) && Region.binds md ⟨z, .data⟩ && match ops[z]?, ops[t]? with
  | some oz, some ot => pureOp oz && (oz.after.all fun e => !Region.binds md e || ot.after.any fun e' => Region.binds md e' && e'.on == e.on) && freeR md ops z
  | _, _ => false
section
variable {P : Program} {ops : Array Oper} {Q : Exit → Act → World → Prop} {md : Region.Mode}
def moreOps : List (Nat × Nat) → Array Oper → Array Oper
  | [], ops => ops
  | e :: ex, ops => moreOps ex (addEdge e.1 e.2 ops)
def moresB (md : Region.Mode) : List (Nat × Nat) → Array Oper → Bool
  | [], _ => true
  | e :: ex, ops => moreB md ops e.1 e.2 && moresB md ex (addEdge e.1 e.2 ops)
theorem Alike2.of : ∀ (l l' : List Oper), (∀ j : Nat, (l[j]?).map bare = (l'[j]?).map bare) → Alike2 l l'
  | [], [], _ => trivial
  | o :: l, o' :: l', h => ⟨by simpa using h 0, Alike2.of l l' fun j => by simpa using h (j + 1)⟩
  | [], o' :: l', h => by have := h 0; simp at this
  | o :: l, [], h => by have := h 0; simp at this
theorem Alike2.take {l l' : List Oper} (h : ∀ j : Nat, (l[j]?).map bare = (l'[j]?).map bare) (n : Nat) : Alike2 (l.take n) (l'.take n) := Alike2.of _ _ fun j => by
  rw [List.getElem?_take, List.getElem?_take]
  split
  · exact h j
  · rfl
theorem Alike2.drop {l l' : List Oper} (h : ∀ j : Nat, (l[j]?).map bare = (l'[j]?).map bare) (n : Nat) : Alike2 (l.drop n) (l'.drop n) := Alike2.of _ _ fun j => by
  rw [List.getElem?_drop, List.getElem?_drop]
  exact h _
theorem Alike.piece {ops ops' : Array Oper} (h : Alike ops ops') (S : Nat → Option LSpec) (a : Act) (k : Nat) : pieceAt ops S a k = pieceAt ops' S a k := by
  unfold pieceAt
  rw [h.dst k]

def onlyN (Q : Exit → Act → World → Prop) : Exit → Act → World → Prop
  | .normal, a, w => Q .normal a w
  | _, _, _ => False
end
end Go.Proofs.YtlcdaalalihaiaaGreat
end
section
namespace Go.Proofs.YtlcdaalalihaiaaGreat
open Go Go.RowKit
set_option linter.unusedVariables false

/-- A piece of memory that is there for a part of the region: from its maker on (none: from the start) to its taker (none: to the end); what it is hangs on some slots. -/
structure Tok where
  prod : Option Nat
  cons : Option Nat
  temps : List Tmp
  P : List Value → HProp

/-- What an operation does: which values it yields (none: one value, nothing done), which pieces it takes, sees and makes (by their numbers). -/
structure TSpec where
  R : Option (Value → Prop)
  takes : List Nat
  sees : List Nat
  gives : List Nat

def slotOf (a : Act) (t : Tmp) : Value := (a.tmps[t]?).getD undef
def isUndef : Value → Bool
  | .tuple t => t.size == 0
  | _ => false

section
variable (ops : Array Oper) (toks : List Tok)

def skipped (a : Act) (τ : Tok) : Bool :=
  match τ.prod with
  | none => false
  | some p => match (ops[p]?).bind (·.dst) with
    | none => false
    | some d => τ.temps.contains d && isUndef (slotOf a d)
def tokAt (a : Act) (τ : Tok) : List HProp := if skipped ops a τ then [] else [τ.P (τ.temps.map (slotOf a))]
def tokNo (i : Nat) : Tok := toks.getD i ⟨none, none, [], fun _ _ => True⟩
def toksAt (a : Act) (is : List Nat) : List HProp := is.flatMap fun i => tokAt ops a (tokNo toks i)
def live (listed : Array Bool) (τ : Tok) : Bool :=
  (match τ.prod with | none => true | some p => listed.getD p false) && (match τ.cons with | none => true | some c => !listed.getD c true)
def av (listed : Array Bool) (a : Act) : List HProp := toksAt ops toks a ((List.range toks.length).filter fun i => live listed (tokNo toks i))
end

section
variable (Pr : Program) (ops : Array Oper) (toks : List Tok) (S : Nat → TSpec) (B : List HProp)

def tpre (k : Nat) (a : Act) : List HProp := toksAt ops toks a (S k).takes ++ (toksAt ops toks a (S k).sees ++ B)
def tpost (k : Nat) (o : Oper) (a : Act) (u : Value) : List HProp := toksAt ops toks (a.put o.dst u) (S k).gives ++ (toksAt ops toks a (S k).sees ++ B)

def TokOp (k : Nat) (o : Oper) (a : Act) (K : Act → Prop) : Prop :=
  match (S k).R with
  | none => ∀ w F, holds w (tpre ops toks S B k a ++ F) → exactUpon w (fun v => K (a.put o.dst v)) ((execOp a.eval o).run Pr w)
  | some R => (∀ w F, holds w (tpre ops toks S B k a ++ F) → looseUpon Pr (fun u w' => R u ∧ holds w' (tpost ops toks S B k o a u ++ F)) ((execOp a.eval o).run Pr w)) ∧ ∀ u, R u → K (a.put o.dst u)

def wpTok (Q : Act → Prop) : Nat → List Oper → Act → Prop
  | _, [], a => Q a
  | k, o :: rest, a => if Region.wanted o (yielded ops a.tmps) then TokOp Pr ops toks S B k o a (wpTok Q (k + 1) rest) else wpTok Q (k + 1) rest (a.put o.dst undef)

/-- What may be yielded: the set. -/
def TY (k : Nat) (o : Oper) (a : Act) (R : Value → Prop) : Prop :=
  if Region.wanted o (yielded ops a.tmps) then
    match (S k).R with
    | none => (∀ w F, holds w (tpre ops toks S B k a ++ F) → exactUpon w (fun _ => True) ((execOp a.eval o).run Pr w)) ∧ R = fun u => ∃ w F, holds w (tpre ops toks S B k a ++ F) ∧ exactUpon w (fun v => v = u) ((execOp a.eval o).run Pr w)
    | some R' => (∀ w F, holds w (tpre ops toks S B k a ++ F) → looseUpon Pr (fun u w' => R' u ∧ holds w' (tpost ops toks S B k o a u ++ F)) ((execOp a.eval o).run Pr w)) ∧ R = R'
  else R = fun u => u = undef

/-- The walk over the operations that are left. -/
def Rem (Q : Act → Prop) : List Nat → Act → Prop
  | [], a => Q a
  | k :: L, a => ∃ o, ops[k]? = some o ∧ ∃ R, TY Pr ops toks S B k o a R ∧ ∀ u, R u → Rem Q L (a.put o.dst u)

/-! ### What is asked of the region and the pieces -/
def dstIn (τ : Tok) (m : Nat) : Bool := match (ops[m]?).bind (·.dst) with | none => false | some d => τ.temps.contains d
def tokB (md : Region.Mode) : Bool :=
  Region.noSelect ops &&
  -- the text's order is one that may be, and what does not wait is apart
  ((List.range ops.size).all fun j => match ops[j]? with
    | none => true
    | some oj => (oj.after.all fun e => !Region.binds md e || decide (e.on < j)) && (List.range j).all fun i => Region.waitsFor md ops j i || match ops[i]? with | none => true | some oi => oi.apart ops oj) &&
  -- the pieces
  ((List.range toks.length).all fun i => let τ := tokNo toks i
    ((List.range ops.size).all fun m => !dstIn ops τ m || match τ.prod with | none => false | some p => m == p || Region.waitsFor md ops p m) &&
    (match τ.prod with | none => true | some p => decide (p < ops.size) && (S p).gives.contains i) && (match τ.cons with | none => true | some c => decide (c < ops.size) && (S c).takes.contains i) &&
    (match τ.prod, τ.cons with | some p, some c => Region.waitsFor md ops c p | _, _ => true)) &&
  -- the operations
  ((List.range ops.size).all fun k => let s := S k
    (s.takes.all fun i => decide (i < toks.length) && (tokNo toks i).cons == some k && (match (tokNo toks i).prod with | none => true | some p => Region.waitsFor md ops k p)) &&
    (s.gives.all fun i => decide (i < toks.length) && (tokNo toks i).prod == some k) &&
    (s.sees.all fun i => decide (i < toks.length) && (tokNo toks i).cons != some k && (match (tokNo toks i).prod with | none => true | some p => Region.waitsFor md ops k p) && (match (tokNo toks i).cons with | none => true | some c => Region.waitsFor md ops c k)) &&
    ((s.takes ++ s.sees ++ s.gives).all fun i => (List.range ops.size).all fun m => !dstIn ops (tokNo toks i) m || m == k || Region.waitsFor md ops k m) &&
    decide (s.takes.Nodup) && decide (s.gives.Nodup) && decide (s.sees.Nodup) &&
    (match s.R with | none => s.takes.isEmpty && s.gives.isEmpty | some _ => true) &&
    (match ops[k]? with | none => true | some o => o.guard.isNone || (s.takes.isEmpty && s.gives.all fun i => match o.dst with | none => false | some d => (tokNo toks i).temps.contains d)))
end

structure TokOk (md : Region.Mode) (ops : Array Oper) (toks : List Tok) (S : Nat → TSpec) : Prop where
  sel : Region.noSelect ops = true
  deps : ∀ (j : Nat) oj, ops[j]? = some oj → ∀ e ∈ oj.after, Region.binds md e = true → e.on < j
  apart : ∀ (i j : Nat) oi oj, i < j → ops[i]? = some oi → ops[j]? = some oj → Region.waitsFor md ops j i = true ∨ oi.apart ops oj = true
  temps : ∀ i, i < toks.length → ∀ m, dstIn ops (tokNo toks i) m = true → ∃ p, (tokNo toks i).prod = some p ∧ (m = p ∨ Region.waitsFor md ops p m = true)
  prod : ∀ i, i < toks.length → ∀ p, (tokNo toks i).prod = some p → p < ops.size ∧ i ∈ (S p).gives
  cons : ∀ i, i < toks.length → ∀ c, (tokNo toks i).cons = some c → c < ops.size ∧ i ∈ (S c).takes
  both : ∀ i, i < toks.length → ∀ p c, (tokNo toks i).prod = some p → (tokNo toks i).cons = some c → Region.waitsFor md ops c p = true
  takes : ∀ k, k < ops.size → ∀ i ∈ (S k).takes, i < toks.length ∧ (tokNo toks i).cons = some k ∧ ∀ p, (tokNo toks i).prod = some p → Region.waitsFor md ops k p = true
  gives : ∀ k, k < ops.size → ∀ i ∈ (S k).gives, i < toks.length ∧ (tokNo toks i).prod = some k
  sees : ∀ k, k < ops.size → ∀ i ∈ (S k).sees, i < toks.length ∧ (tokNo toks i).cons ≠ some k ∧ (∀ p, (tokNo toks i).prod = some p → Region.waitsFor md ops k p = true) ∧ (∀ c, (tokNo toks i).cons = some c → Region.waitsFor md ops c k = true)
  own : ∀ k, k < ops.size → ∀ i, (i ∈ (S k).takes ∨ i ∈ (S k).sees ∨ i ∈ (S k).gives) → ∀ m, dstIn ops (tokNo toks i) m = true → m = k ∨ Region.waitsFor md ops k m = true
  nod : ∀ k, k < ops.size → (S k).takes.Nodup ∧ (S k).gives.Nodup ∧ (S k).sees.Nodup
  none_ : ∀ k, k < ops.size → (S k).R = none → (S k).takes = [] ∧ (S k).gives = []
  guard : ∀ (k : Nat) o, ops[k]? = some o → o.guard ≠ none → (S k).takes = [] ∧ ∀ i ∈ (S k).gives, ∃ d, o.dst = some d ∧ d ∈ (tokNo toks i).temps

theorem dstIn_lt {ops : Array Oper} {τ : Tok} {m : Nat} (h : dstIn ops τ m = true) : m < ops.size := by
  unfold dstIn at h
  cases hm : ops[m]? with
  | none => rw [hm] at h; simp at h
  | some o => exact (Array.getElem?_eq_some_iff.1 hm).1

theorem TokOk.of {md : Region.Mode} {ops : Array Oper} {toks : List Tok} {S : Nat → TSpec} (h : tokB ops toks S md = true) : TokOk md ops toks S := by
  unfold tokB at h
  simp only [Bool.and_eq_true] at h
  obtain ⟨⟨⟨h1, h2⟩, h3⟩, h4⟩ := h
  rw [List.all_eq_true] at h2 h3 h4
  have g2 : ∀ (j : Nat) oj, ops[j]? = some oj → (oj.after.all fun e => !Region.binds md e || decide (e.on < j)) = true ∧ ((List.range j).all fun i => Region.waitsFor md ops j i || match ops[i]? with | none => true | some oi => oi.apart ops oj) = true := fun j oj hj => by
    have := h2 j (List.mem_range.2 (Array.getElem?_eq_some_iff.1 hj).1)
    rw [hj] at this
    simpa only [Bool.and_eq_true] using this
  have g3 := fun i (hi : i < toks.length) => h3 i (List.mem_range.2 hi)
  have g4 := fun k (hk : k < ops.size) => h4 k (List.mem_range.2 hk)
  simp only [Bool.and_eq_true] at g3 g4
  refine ⟨h1, fun j oj hj e he hb => ?_, fun i j oi oj hij hi hj => ?_, fun i hi m hm => ?_, fun i hi p hp => ?_, fun i hi c hc => ?_, fun i hi p c hp hc => ?_, fun k hk i hik => ?_, fun k hk i hik => ?_, fun k hk i hik => ?_, fun k hk i hik m hm => ?_, fun k hk => ?_, fun k hk hR => ?_, fun k o hk hg => ?_⟩
  · have := Array.all_eq_true_iff_forall_mem.1 (g2 j oj hj).1 e he
    simpa [hb] using this
  · have := List.all_eq_true.1 (g2 j oj hj).2 i (List.mem_range.2 hij)
    rw [hi] at this
    simpa only [Bool.or_eq_true] using this
  · have := List.all_eq_true.1 (g3 i hi).1.1.1 m (List.mem_range.2 (dstIn_lt hm))
    rw [hm] at this
    simp only [Bool.not_true, Bool.false_or] at this
    cases hp : (tokNo toks i).prod with
    | none => rw [hp] at this; cases this
    | some p =>
      rw [hp] at this
      simp only [Bool.or_eq_true, beq_iff_eq] at this
      exact ⟨p, rfl, this⟩
  · have := (g3 i hi).1.1.2
    rw [hp] at this
    simpa using this
  · have := (g3 i hi).1.2
    rw [hc] at this
    simpa using this
  · have := (g3 i hi).2
    rw [hp, hc] at this
    exact this
  · have := List.all_eq_true.1 (g4 k hk).1.1.1.1.1.1.1.1 i hik
    simp only [Bool.and_eq_true, decide_eq_true_eq, beq_iff_eq] at this
    refine ⟨this.1.1, this.1.2, fun p hp => ?_⟩
    have h5 := this.2
    rw [hp] at h5
    exact h5
  · have := List.all_eq_true.1 (g4 k hk).1.1.1.1.1.1.1.2 i hik
    simpa only [Bool.and_eq_true, decide_eq_true_eq, beq_iff_eq] using this
  · have := List.all_eq_true.1 (g4 k hk).1.1.1.1.1.1.2 i hik
    simp only [Bool.and_eq_true, decide_eq_true_eq, bne_iff_ne, ne_eq] at this
    refine ⟨this.1.1.1, this.1.1.2, fun p hp => ?_, fun c hc => ?_⟩
    · have h5 := this.1.2
      rw [hp] at h5
      exact h5
    · have h5 := this.2
      rw [hc] at h5
      exact h5
  · have := List.all_eq_true.1 (g4 k hk).1.1.1.1.1.2 i (by simp only [List.mem_append]; rcases hik with h | h | h <;> simp [h])
    have := List.all_eq_true.1 this m (List.mem_range.2 (dstIn_lt hm))
    rw [hm] at this
    simpa using this
  · have a1 := (g4 k hk).1.1.1.1.2
    have a2 := (g4 k hk).1.1.1.2
    have a3 := (g4 k hk).1.1.2
    exact ⟨of_decide_eq_true a1, of_decide_eq_true a2, of_decide_eq_true a3⟩
  · have := (g4 k hk).1.2
    rw [hR] at this
    simpa using this
  · have := (g4 k (Array.getElem?_eq_some_iff.1 hk).1).2
    rw [hk] at this
    dsimp only at this
    cases hgu : o.guard with
    | none => exact absurd hgu hg
    | some g =>
      rw [hgu] at this
      simp only [Option.isNone_some, Bool.false_or, Bool.and_eq_true, List.isEmpty_iff] at this
      refine ⟨this.1, fun i hi => ?_⟩
      have h5 := List.all_eq_true.1 this.2 i hi
      cases hd : o.dst with
      | none => rw [hd] at h5; cases h5
      | some d => rw [hd] at h5; exact ⟨d, rfl, by simpa using h5⟩

section
variable {Pr : Program} {ops : Array Oper} {toks : List Tok} {S : Nat → TSpec} {B : List HProp} {md : Region.Mode}

def Closed (md : Region.Mode) (ops : Array Oper) (listed : Array Bool) : Prop :=
  listed.size = ops.size ∧ ∀ (j : Nat) oj, ops[j]? = some oj → listed.getD j false = true → ∀ e ∈ oj.after, Region.binds md e = true → listed.getD e.on false = true
theorem Closed.set {listed : Array Bool} {i : Nat} (h : Closed md ops listed) (hi : i ∈ Region.ready md ops listed) : Closed md ops (listed.setIfInBounds i true) := by
  obtain ⟨_, oi, hoi, hall⟩ := mem_ready.1 hi
  refine ⟨by simp [h.1], fun j oj hj hl e he hb => ?_⟩
  by_cases hij : i = j
  · subst hij
    have : oj = oi := Option.some.inj (hj.symm.trans hoi)
    subst this
    exact getD_set_true (hall e he hb)
  · rw [getD_set_ne false hij] at hl
    exact getD_set_true (h.2 j oj hj hl e he hb)
theorem Closed.waits {listed : Array Bool} (h : Closed md ops listed) {c k : Nat} (hc : listed.getD c false = true) (hw : Region.waitsFor md ops c k = true) : listed.getD k false = true := by
  obtain ⟨oc, hoc, e, he, hb, hon⟩ := Region.waitsFor_spec hw
  rw [← hon]
  exact h.2 c oc hoc hc e he hb
theorem ready_waits {listed : Array Bool} {k p : Nat} (hr : k ∈ Region.ready md ops listed) (hw : Region.waitsFor md ops k p = true) : listed.getD p false = true := by
  obtain ⟨_, o, ho, hall⟩ := mem_ready.1 hr
  obtain ⟨oc, hoc, e, he, hb, hon⟩ := Region.waitsFor_spec hw
  rw [ho] at hoc; cases hoc
  rw [← hon]
  exact hall e he hb
theorem Closed.tf {listed : Array Bool} (h : Closed md ops listed) {c : Nat} (hc : c < ops.size) : listed.getD c true = listed.getD c false := by
  have : c < listed.size := by rw [h.1]; exact hc
  simp [this]

theorem slots_put {a : Act} {dst : Option Tmp} {u : Value} {ts : List Tmp} (h : ∀ d, dst = some d → d ∉ ts) : ts.map (slotOf (a.put dst u)) = ts.map (slotOf a) := by
  refine List.map_congr_left fun t ht => ?_
  unfold slotOf
  cases dst with
  | none => rfl
  | some d =>
    have hne : d ≠ t := fun e => h d rfl (e ▸ ht)
    simp [Act.put, Array.getElem?_setIfInBounds_ne hne]
theorem tokAt_put {a : Act} {dst : Option Tmp} {u : Value} {τ : Tok} (h : ∀ d, dst = some d → d ∉ τ.temps) : tokAt ops (a.put dst u) τ = tokAt ops a τ := by
  unfold tokAt
  rw [slots_put h]
  have : skipped ops (a.put dst u) τ = skipped ops a τ := by
    unfold skipped
    cases τ.prod with
    | none => rfl
    | some p =>
      cases hd : (ops[p]?).bind (·.dst) with
      | none => simp only [hd]
      | some d =>
        simp only [hd]
        by_cases hc : τ.temps.contains d = true
        · rw [hc]
          simp only [Bool.true_and]
          have := slots_put (a := a) (dst := dst) (u := u) (ts := [d]) (fun e he hm => h e he (by
            rw [List.mem_singleton] at hm
            subst hm
            simpa using hc))
          simp only [List.map_cons, List.map_nil, List.cons.injEq, and_true] at this
          rw [this]
        · rw [Bool.not_eq_true] at hc
          rw [hc]
          rfl
  rw [this]
theorem toksAt_put {a : Act} {dst : Option Tmp} {u : Value} {is : List Nat} (h : ∀ d, dst = some d → ∀ i ∈ is, d ∉ (tokNo toks i).temps) : toksAt ops toks (a.put dst u) is = toksAt ops toks a is := by
  unfold toksAt
  exact flatMap_congr' fun i hi => tokAt_put fun d hd => h d hd i hi
theorem not_temps {j : Nat} {oj : Oper} {τ : Tok} (hj : ops[j]? = some oj) (h : dstIn ops τ j = false) : ∀ d, oj.dst = some d → d ∉ τ.temps := fun d hd hm => by
  unfold dstIn at h
  rw [hj] at h
  simp only [Option.bind_some, hd] at h
  have : τ.temps.contains d = true := by simpa using hm
  rw [this] at h
  cases h

theorem nodup_filter' {p : Nat → Bool} {l : List Nat} (h : l.Nodup) : (l.filter p).Nodup := h.sublist List.filter_sublist

theorem live_ix {listed : Array Bool} {i : Nat} : i ∈ (List.range toks.length).filter (fun i => live listed (tokNo toks i)) ↔ i < toks.length ∧ (∀ p, (tokNo toks i).prod = some p → listed.getD p false = true) ∧ (∀ c, (tokNo toks i).cons = some c → listed.getD c true = false) := by
  rw [List.mem_filter, List.mem_range]
  unfold live
  cases (tokNo toks i).prod <;> cases (tokNo toks i).cons <;> simp

/-- What is there: what the operation takes, what it sees, and the rest; and what is there behind it. -/
theorem av_split (ok : TokOk md ops toks S) {listed : Array Bool} (hcl : Closed md ops listed) {k : Nat} {o : Oper} (hk : ops[k]? = some o) (hr : k ∈ Region.ready md ops listed) (a : Act) :
    ∃ Y, (av ops toks listed a ++ B).Perm (tpre ops toks S B k a ++ Y) ∧ ∀ u, (tpost ops toks S B k o a u ++ Y).Perm (av ops toks (listed.setIfInBounds k true) (a.put o.dst u) ++ B) := by
  have hks : k < ops.size := (Array.getElem?_eq_some_iff.1 hk).1
  have hkl : k < listed.size := by rw [hcl.1]; exact hks
  have hun : listed.getD k false = false := by rw [← hcl.tf hks]; exact (mem_ready.1 hr).1
  have unl : ∀ c, Region.waitsFor md ops c k = true → listed.getD c true = false := fun c hw => by
    have hc : c < ops.size := by obtain ⟨oc, hoc, _⟩ := Region.waitsFor_spec hw; exact (Array.getElem?_eq_some_iff.1 hoc).1
    rw [hcl.tf hc]
    cases hl : listed.getD c false with
    | false => rfl
    | true => have := hcl.waits hl hw; rw [hun] at this; cases this
  have wlt : ∀ c p, Region.waitsFor md ops c p = true → p < c := fun c p hw => by
    obtain ⟨oc, hoc, e, he, hb, hon⟩ := Region.waitsFor_spec hw
    rw [← hon]; exact ok.deps c oc hoc e he hb
  obtain ⟨n1, n2, n3⟩ := ok.nod k hks
  let I := (List.range toks.length).filter fun i => live listed (tokNo toks i)
  let J := (List.range toks.length).filter fun i => live (listed.setIfInBounds k true) (tokNo toks i)
  let Y := I.filter fun i => !(S k).takes.contains i && !(S k).sees.contains i
  have hI : I.Nodup := nodup_filter' List.nodup_range
  have hJ : J.Nodup := nodup_filter' List.nodup_range
  have mI : ∀ i, i ∈ I ↔ _ := fun i => live_ix (listed := listed)
  have mJ : ∀ i, i ∈ J ↔ _ := fun i => live_ix (listed := listed.setIfInBounds k true)
  have mY : ∀ i, i ∈ Y ↔ i ∈ I ∧ i ∉ (S k).takes ∧ i ∉ (S k).sees := fun i => by simp [Y]
  have tI : ∀ i ∈ (S k).takes, i ∈ I := fun i hi => by
    obtain ⟨h1, h2, h3⟩ := ok.takes k hks i hi
    refine (mI i).2 ⟨h1, fun p hp => ready_waits hr (h3 p hp), fun c hc => ?_⟩
    rw [h2] at hc; cases hc
    exact (mem_ready.1 hr).1
  have sI : ∀ i ∈ (S k).sees, i ∈ I := fun i hi => by
    obtain ⟨h1, h2, h3, h4⟩ := ok.sees k hks i hi
    exact (mI i).2 ⟨h1, fun p hp => ready_waits hr (h3 p hp), fun c hc => unl c (h4 c hc)⟩
  have p1 : I.Perm ((S k).takes ++ ((S k).sees ++ Y)) := by
    refine (List.perm_ext_iff_of_nodup hI ?_).2 fun i => ?_
    · rw [List.nodup_append, List.nodup_append]
      refine ⟨n1, ⟨n3, nodup_filter' hI, fun x hx y hy e => ?_⟩, fun x hx y hy e => ?_⟩
      · subst e; exact ((mY x).1 hy).2.2 hx
      · subst e
        rcases List.mem_append.1 hy with h | h
        · exact (ok.sees k hks x h).2.1 (ok.takes k hks x hx).2.1
        · exact ((mY x).1 h).2.1 hx
    · rw [List.mem_append, List.mem_append]
      constructor
      · intro hi
        by_cases h1 : i ∈ (S k).takes
        · exact .inl h1
        · by_cases h2 : i ∈ (S k).sees
          · exact .inr (.inl h2)
          · exact .inr (.inr ((mY i).2 ⟨hi, h1, h2⟩))
      · rintro (h | h | h)
        · exact tI i h
        · exact sI i h
        · exact ((mY i).1 h).1
  have p2 : J.Perm ((S k).gives ++ ((S k).sees ++ Y)) := by
    refine (List.perm_ext_iff_of_nodup hJ ?_).2 fun i => ?_
    · rw [List.nodup_append, List.nodup_append]
      refine ⟨n2, ⟨n3, nodup_filter' hI, fun x hx y hy e => ?_⟩, fun x hx y hy e => ?_⟩
      · subst e; exact ((mY x).1 hy).2.2 hx
      · subst e
        have hx' : x ∈ I := by
          rcases List.mem_append.1 hy with h | h
          · exact sI x h
          · exact ((mY x).1 h).1
        have := ((mI x).1 hx').2.1 k (ok.gives k hks x hx).2
        rw [hun] at this; cases this
    · rw [mJ i, List.mem_append, List.mem_append]
      constructor
      · rintro ⟨h1, h2, h3⟩
        by_cases hp : (tokNo toks i).prod = some k
        · exact .inl (ok.prod i h1 k hp).2
        · have hi : i ∈ I := (mI i).2 ⟨h1, fun p hp' => by
            have h5 := h2 p hp'
            have hne : k ≠ p := fun e => hp (by rw [e]; exact hp')
            rw [getD_set_ne false hne] at h5
            exact h5, fun c hc => by
            have := h3 c hc
            by_cases hck : k = c
            · subst hck; simp [hkl] at this
            · rwa [getD_set_ne true hck] at this⟩
          have hnt : i ∉ (S k).takes := fun ht => by
            have h4 := h3 k (ok.takes k hks i ht).2.1
            simp [hkl] at h4
          by_cases h2 : i ∈ (S k).sees
          · exact .inr (.inl h2)
          · exact .inr (.inr ((mY i).2 ⟨hi, hnt, h2⟩))
      · have old : i ∈ I → i ∉ (S k).takes → i < toks.length ∧ (∀ p, (tokNo toks i).prod = some p → (listed.setIfInBounds k true).getD p false = true) ∧ (∀ c, (tokNo toks i).cons = some c → (listed.setIfInBounds k true).getD c true = false) := fun hi hnt => by
          obtain ⟨h1, h2, h3⟩ := (mI i).1 hi
          refine ⟨h1, fun p hp => getD_set_true (h2 p hp), fun c hc => ?_⟩
          have hck : k ≠ c := fun e => hnt (by subst e; exact (ok.cons i h1 k hc).2)
          rw [getD_set_ne true hck]
          exact h3 c hc
        rintro (h | h | h)
        · obtain ⟨h1, h2⟩ := ok.gives k hks i h
          refine ⟨h1, fun p hp => ?_, fun c hc => ?_⟩
          · rw [h2] at hp; cases hp
            simp [hkl]
          · have hw := ok.both i h1 k c h2 hc
            have := wlt c k hw
            rw [getD_set_ne true (by omega)]
            exact unl c hw
        · exact old (sI i h) fun ht => (ok.sees k hks i h).2.1 (ok.takes k hks i ht).2.1
        · exact old ((mY i).1 h).1 ((mY i).1 h).2.1
  refine ⟨toksAt ops toks a Y, ?_, fun u => ?_⟩
  · have q : (av ops toks listed a).Perm (toksAt ops toks a (S k).takes ++ (toksAt ops toks a (S k).sees ++ toksAt ops toks a Y)) := by
      have := p1.flatMap_right fun i => tokAt ops a (tokNo toks i)
      rw [List.flatMap_append, List.flatMap_append] at this
      exact this
    unfold tpre
    refine (q.append_right B).trans ?_
    simp only [List.append_assoc]
    refine List.Perm.append_left _ (List.Perm.append_left _ ?_)
    exact List.perm_append_comm
  · have hstay : ∀ i ∈ (S k).sees ++ Y, ∀ d, o.dst = some d → d ∉ (tokNo toks i).temps := fun i hi => by
      have hi' : i ∈ I := by
        rcases List.mem_append.1 hi with h | h
        · exact sI i h
        · exact ((mY i).1 h).1
      refine not_temps hk ?_
      cases hd : dstIn ops (tokNo toks i) k with
      | false => rfl
      | true =>
        obtain ⟨h1, h2, _⟩ := (mI i).1 hi'
        obtain ⟨p, hp, hkp⟩ := ok.temps i h1 k hd
        have hpl := h2 p hp
        rcases hkp with e | hw
        · subst e; rw [hun] at hpl; cases hpl
        · have := hcl.waits hpl hw; rw [hun] at this; cases this
    have e1 := toksAt_put (ops := ops) (toks := toks) (a := a) (dst := o.dst) (u := u) (is := (S k).sees ++ Y) fun d hd i hi => hstay i hi d hd
    have q : (av ops toks (listed.setIfInBounds k true) (a.put o.dst u)).Perm (toksAt ops toks (a.put o.dst u) (S k).gives ++ (toksAt ops toks a (S k).sees ++ toksAt ops toks a Y)) := by
      have := p2.flatMap_right fun i => tokAt ops (a.put o.dst u) (tokNo toks i)
      rw [List.flatMap_append] at this
      have h2 : ((S k).sees ++ Y).flatMap (fun i => tokAt ops (a.put o.dst u) (tokNo toks i)) = toksAt ops toks a (S k).sees ++ toksAt ops toks a Y := by
        have h3 : toksAt ops toks a ((S k).sees ++ Y) = toksAt ops toks a (S k).sees ++ toksAt ops toks a Y := by simp only [toksAt, List.flatMap_append]
        rw [← h3, ← e1]
        rfl
      rw [h2] at this
      exact this
    unfold tpost
    refine List.Perm.trans ?_ (q.append_right B).symm
    simp only [List.append_assoc]
    refine List.Perm.append_left _ (List.Perm.append_left _ ?_)
    exact List.perm_append_comm

theorem tpre_put (ok : TokOk md ops toks S) {k j : Nat} {oj : Oper} (hk : k < ops.size) (hj : ops[j]? = some oj) (hjk : j ≠ k) (hw : Region.waitsFor md ops k j = false) (a : Act) (v : Value) : tpre ops toks S B k (a.put oj.dst v) = tpre ops toks S B k a := by
  have h : ∀ i, (i ∈ (S k).takes ∨ i ∈ (S k).sees ∨ i ∈ (S k).gives) → ∀ d, oj.dst = some d → d ∉ (tokNo toks i).temps := fun i hi => not_temps hj (by
    cases hd : dstIn ops (tokNo toks i) j with
    | false => rfl
    | true =>
      rcases ok.own k hk i hi j hd with e | e
      · exact absurd e hjk
      · rw [hw] at e; cases e)
  unfold tpre
  rw [toksAt_put fun d hd i hi => h i (.inl hi) d hd, toksAt_put fun d hd i hi => h i (.inr (.inl hi)) d hd]
theorem tpost_put (ok : TokOk md ops toks S) {k j : Nat} {o oj : Oper} (hk : k < ops.size) (hj : ops[j]? = some oj) (hjk : j ≠ k) (hw : Region.waitsFor md ops k j = false) (hne : ∀ d, oj.dst = some d → o.dst ≠ some d) (a : Act) (v u : Value) : tpost ops toks S B k o (a.put oj.dst v) u = tpost ops toks S B k o a u := by
  have h : ∀ i, (i ∈ (S k).takes ∨ i ∈ (S k).sees ∨ i ∈ (S k).gives) → ∀ d, oj.dst = some d → d ∉ (tokNo toks i).temps := fun i hi => not_temps hj (by
    cases hd : dstIn ops (tokNo toks i) j with
    | false => rfl
    | true =>
      rcases ok.own k hk i hi j hd with e | e
      · exact absurd e hjk
      · rw [hw] at e; cases e)
  unfold tpost
  rw [Act.put_comm a v u hne, toksAt_put fun d hd i hi => h i (.inr (.inr hi)) d hd, toksAt_put fun d hd i hi => h i (.inr (.inl hi)) d hd]

theorem TY.put (ok : TokOk md ops toks S) {k j : Nat} {o oj : Oper} (hk : ops[k]? = some o) (hj : ops[j]? = some oj) (hjk : j ≠ k) (hw : Region.waitsFor md ops k j = false) (hap : oj.apart ops o = true) (a : Act) (v : Value) (R : Value → Prop) :
    TY Pr ops toks S B k o (a.put oj.dst v) R ↔ TY Pr ops toks S B k o a R := by
  obtain ⟨a1, a2, a3⟩ := Oper.apart_spec hap
  have hks := (Array.getElem?_eq_some_iff.1 hk).1
  unfold TY
  rw [wanted_put o a oj.dst v a1, execOp_put o (fun cs b => Region.noSelect_spec ok.sel k o cs b hk) a oj.dst v a1, tpre_put ok hks hj hjk hw]
  have : (fun (w : World) (F : List HProp) => looseUpon Pr (fun u w' => True)) = (fun w F => looseUpon Pr (fun u w' => True)) := rfl
  simp only [tpost_put ok hks hj hjk hw a2]
theorem TY.inj {k : Nat} {o : Oper} {a : Act} {R R' : Value → Prop} (h : TY Pr ops toks S B k o a R) (h' : TY Pr ops toks S B k o a R') : R = R' := by
  unfold TY at h h'
  split at h
  · rename_i hw
    simp only [hw, if_true] at h'
    cases hS : (S k).R with
    | none => rw [hS] at h h'; rw [h.2, h'.2]
    | some s => rw [hS] at h h'; rw [h.2, h'.2]
  · rename_i hw
    simp only [hw] at h'
    rw [h, h']

/-- What is there behind an operation that is not wanted. -/
theorem skip_post (ok : TokOk md ops toks S) {k : Nat} {o : Oper} (hk : ops[k]? = some o) (a : Act) (hw : ¬ Region.wanted o (yielded ops a.tmps) = true) : tpost ops toks S B k o a undef = tpre ops toks S B k a := by
  have hg : o.guard ≠ none := fun e => hw (by unfold Region.wanted; rw [e])
  obtain ⟨h1, h2⟩ := ok.guard k o hk hg
  have hks := (Array.getElem?_eq_some_iff.1 hk).1
  unfold tpost tpre
  rw [h1]
  have : toksAt ops toks (a.put o.dst undef) (S k).gives = [] := by
    unfold toksAt
    refine List.flatMap_eq_nil_iff.2 fun i hi => ?_
    obtain ⟨d, hd, ht⟩ := h2 i hi
    obtain ⟨_, hp⟩ := ok.gives k hks i hi
    unfold tokAt skipped
    rw [hp]
    simp only [hk, Option.bind_some, hd]
    have hs : slotOf (a.put (some d) undef) d = undef := by
      unfold slotOf Act.put
      rcases Nat.lt_or_ge d a.tmps.size with h | h
      · simp [h]
      · simp [h]
    have hc : (tokNo toks i).temps.contains d = true := by simpa using ht
    rw [hs, hc]
    rfl
  rw [this]
  rfl

theorem TY.run (ok : TokOk md ops toks S) {Q' : Exit → Act → World → Prop} {i : Nat} {o : Oper} {a : Act} {R : Value → Prop} {w : World} {Y : List HProp} (hi : ops[i]? = some o) (h : TY Pr ops toks S B i o a R)
    (hw : holds w (tpre ops toks S B i a ++ Y)) {K' : Act → World → Prop} (hk : ∀ u w', R u → holds w' (tpost ops toks S B i o a u ++ Y) → K' (a.put o.dst u) w') : wpOp Pr ops Q' i K' a w := by
  unfold TY at h
  unfold wpOp
  simp only [hi]
  have his := (Array.getElem?_eq_some_iff.1 hi).1
  split at h
  · rename_i hwt
    simp only [hwt, if_true]
    refine .inl ?_
    unfold Oper.wp
    cases hS : (S i).R with
    | none =>
      rw [hS] at h
      obtain ⟨h1, rfl⟩ := h
      have h2 := exactUpon_mono (k' := fun v => ∃ w F, holds w (tpre ops toks S B i a ++ F) ∧ exactUpon w (fun u => u = v) ((execOp a.eval o).run Pr w)) (h1 w Y hw) (fun v hv _ => ⟨w, Y, hw, hv⟩)
      obtain ⟨e1, e2⟩ := ok.none_ i his hS
      have hl : ∀ v, tpost ops toks S B i o a v = tpre ops toks S B i a := fun v => by unfold tpost tpre; rw [e1, e2]; rfl
      generalize hr : (execOp a.eval o).run Pr w = r at h2
      cases r with
      | ok n w' =>
        cases n <;> first
          | exact (h2 : False).elim
          | (obtain ⟨e, h3⟩ := (h2 : _ ∧ _); subst e; exact hk _ _ h3 (by rw [hl]; exact hw))
      | halt x w' => exact (h2 : False).elim
    | some s =>
      rw [hS] at h
      obtain ⟨h1, rfl⟩ := h
      have h2 := h1 w Y hw
      generalize (execOp a.eval o).run Pr w = r at *
      cases r with
      | ok n w' =>
        cases n <;> simp only [looseUpon] at h2 <;> simp only [Oper.upon]
        · exact hk _ _ h2.1 h2.2
        · exact hk _ _ h2.1 h2.2
        · exact h2.mono fun e w'' ⟨u, he, hu, hh⟩ => by subst he; exact hk _ _ hu hh
      | halt x w' => simp only [looseUpon] at h2
  · rename_i hwt
    simp only [hwt]
    subst h
    exact hk _ _ rfl (by rw [skip_post ok hi a hwt]; exact hw)
theorem TY.some_ (ok : TokOk md ops toks S) {i : Nat} {o : Oper} {a : Act} {R : Value → Prop} {w : World} {Y : List HProp} (hi : ops[i]? = some o) (h : TY Pr ops toks S B i o a R) (hw : holds w (tpre ops toks S B i a ++ Y)) :
    ∃ u w', R u ∧ holds w' (tpost ops toks S B i o a u ++ Y) := by
  unfold TY at h
  have his := (Array.getElem?_eq_some_iff.1 hi).1
  split at h
  · cases hS : (S i).R with
    | none =>
      rw [hS] at h
      obtain ⟨h1, rfl⟩ := h
      have h2 := exactUpon_mono (k' := fun v => exactUpon w (fun u => u = v) ((execOp a.eval o).run Pr w)) (h1 w Y hw) (fun v hv _ => hv)
      obtain ⟨e1, e2⟩ := ok.none_ i his hS
      have hl : ∀ v, tpost ops toks S B i o a v = tpre ops toks S B i a := fun v => by unfold tpost tpre; rw [e1, e2]; rfl
      generalize hr : (execOp a.eval o).run Pr w = r at h2
      cases r with
      | ok n w' =>
        cases n <;> first
          | exact (h2 : False).elim
          | (obtain ⟨e, h3⟩ := (h2 : _ ∧ _); exact ⟨_, w, ⟨w, Y, hw, by rw [hr]; exact h3⟩, by rw [hl]; exact hw⟩)
      | halt x w' => exact (h2 : False).elim
    | some s =>
      rw [hS] at h
      obtain ⟨h1, rfl⟩ := h
      have h2 := h1 w Y hw
      generalize (execOp a.eval o).run Pr w = r at *
      cases r with
      | ok n w' =>
        cases n <;> simp only [looseUpon] at h2
        · exact ⟨_, _, h2.1, h2.2⟩
        · exact ⟨_, _, h2.1, h2.2⟩
        · obtain ⟨e, w'', fr, ⟨u, _, hu, hh⟩, _⟩ := h2 []
          exact ⟨u, w'', hu, hh⟩
      | halt x w' => simp only [looseUpon] at h2
  · rename_i hwt
    subst h
    exact ⟨undef, w, rfl, by rw [skip_post ok hi a hwt]; exact hw⟩

/-- The list of what is left. -/
structure Left (ops : Array Oper) (listed : Array Bool) (L : List Nat) : Prop where
  mem : ∀ i, i ∈ L ↔ i < ops.size ∧ listed.getD i true = false
  sorted : L.Pairwise (· < ·)

theorem Left.ready_head (ok : TokOk md ops toks S) {listed : Array Bool} (hcl : Closed md ops listed) {k : Nat} {L : List Nat} (h : Left ops listed (k :: L)) : k ∈ Region.ready md ops listed := by
  obtain ⟨h1, h2⟩ := (h.mem k).1 List.mem_cons_self
  refine mem_ready.2 ⟨h2, _, Array.getElem?_eq_getElem h1, fun e he hb => ?_⟩
  have hlt := ok.deps k _ (Array.getElem?_eq_getElem h1) e he hb
  have hes : e.on < ops.size := by omega
  rw [← hcl.tf hes]
  cases hl : listed.getD e.on true with
  | true => rfl
  | false =>
    have hm := (h.mem e.on).2 ⟨hes, hl⟩
    rcases List.mem_cons.1 hm with e1 | hm
    · omega
    · have := (List.pairwise_cons.1 h.sorted).1 _ hm
      omega
theorem Left.erase {listed : Array Bool} (hsz : listed.size = ops.size) {A C : List Nat} {j : Nat} (h : Left ops listed (A ++ j :: C)) : Left ops (listed.setIfInBounds j true) (A ++ C) := by
  have hs := h.sorted
  rw [List.pairwise_append, List.pairwise_cons] at hs
  obtain ⟨s1, ⟨s2, s3⟩, s4⟩ := hs
  refine ⟨fun i => ?_, ?_⟩
  · have hm := h.mem i
    rw [List.mem_append, List.mem_cons] at hm
    rw [List.mem_append]
    have hj := ((h.mem j).1 (by simp)).1
    by_cases hij : j = i
    · subst hij
      constructor
      · rintro (h5 | h5)
        · have := s4 j h5 j List.mem_cons_self; omega
        · have := s2 j h5; omega
      · rintro ⟨_, h5⟩
        have : j < listed.size := by omega
        simp [this] at h5
    · rw [getD_set_ne true hij, ← hm]
      constructor
      · rintro (h5 | h5)
        · exact .inl h5
        · exact .inr (.inr h5)
      · rintro (h5 | h5 | h5)
        · exact .inl h5
        · exact absurd h5.symm hij
        · exact .inr h5
  · rw [List.pairwise_append]
    exact ⟨s1, s3, fun a ha b hb => s4 a ha b (List.mem_cons_of_mem _ hb)⟩

theorem waits_not {listed : Array Bool} {j k : Nat} (hcl : Closed md ops listed) (hr : j ∈ Region.ready md ops listed) (hk : listed.getD k true = false) : Region.waitsFor md ops j k = false := by
  cases hw : Region.waitsFor md ops j k with
  | false => rfl
  | true => have := ready_waits hr hw; rw [getD_both hk] at this; cases this

/-- The operation j, wherever it stands in what is left, as long as all ahead of it may stand behind it: what it yields. -/
theorem Rem.find (ok : TokOk md ops toks S) {Q : Act → Prop} {j : Nat} {oj : Oper} (hj : ops[j]? = some oj) {C : List Nat} : ∀ (A : List Nat) (listed : Array Bool) (a : Act) (w : World), Closed md ops listed → Left ops listed (A ++ j :: C) → j ∈ Region.ready md ops listed →
    holds w (av ops toks listed a ++ B) → Rem Pr ops toks S B Q (A ++ j :: C) a → ∃ R, TY Pr ops toks S B j oj a R
  | [], _, _, _, _, _, _, _, h => by
    obtain ⟨o, ho, R, hR, _⟩ := h
    rw [hj] at ho; cases ho
    exact ⟨R, hR⟩
  | k :: A, listed, a, w, hcl, hL, hr, hw, h => by
    obtain ⟨o, ho, R, hR, hrest⟩ := h
    have hkr := Left.ready_head ok hcl hL
    have hkj : k ≠ j := fun e => by
      subst e
      have := (List.pairwise_cons.1 hL.sorted).1 k (by simp)
      omega
    have hklt : k < j := (List.pairwise_cons.1 hL.sorted).1 j (by simp)
    obtain ⟨Y, p1, p2⟩ := av_split (B := B) ok hcl ho hkr a
    obtain ⟨u, w', hu, hh⟩ := hR.some_ ok ho (hw.perm p1)
    have := Rem.find ok hj A (listed.setIfInBounds k true) (a.put o.dst u) w' (hcl.set hkr) (Left.erase (A := []) hcl.1 hL) (ready_mono hr (Ne.symm hkj)) (hh.perm (p2 u)) (hrest u hu)
    obtain ⟨Rj, hRj⟩ := this
    have hnw := waits_not hcl hr (mem_ready.1 hkr).1
    have hap : o.apart ops oj = true := (ok.apart k j o oj hklt ho hj).resolve_left (by rw [hnw]; simp)
    exact ⟨Rj, (TY.put ok hj ho hkj hnw hap a u Rj).1 hRj⟩

/-- .. and what is left without it. -/
theorem Rem.remove (ok : TokOk md ops toks S) {Q : Act → Prop} {j : Nat} {oj : Oper} (hj : ops[j]? = some oj) {R : Value → Prop} {u : Value} (hu : R u) {C : List Nat} : ∀ (A : List Nat) (a : Act), (∀ k ∈ A, k < j ∧ Region.waitsFor md ops j k = false) →
    TY Pr ops toks S B j oj a R → Rem Pr ops toks S B Q (A ++ j :: C) a → Rem Pr ops toks S B Q (A ++ C) (a.put oj.dst u)
  | [], a, _, hR, h => by
    obtain ⟨o, ho, R', hR', hrest⟩ := h
    rw [hj] at ho; cases ho
    have := hR.inj hR'
    subst this
    exact hrest u hu
  | k :: A, a, hA, hR, h => by
    obtain ⟨o, ho, Rk, hRk, hrest⟩ := h
    obtain ⟨hklt, hnw⟩ := hA k List.mem_cons_self
    have hap : o.apart ops oj = true := (ok.apart k j o oj hklt ho hj).resolve_left (by rw [hnw]; simp)
    have hkj : k ≠ j := by omega
    -- k doesn't wait for j
    have hnw2 : Region.waitsFor md ops k j = false := by
      cases hw : Region.waitsFor md ops k j with
      | false => rfl
      | true =>
        obtain ⟨oc, hoc, e, he, hb, hon⟩ := Region.waitsFor_spec hw
        have := ok.deps k oc hoc e he hb
        omega
    obtain ⟨a1, a2, a3⟩ := Oper.apart_spec hap
    have hap2 : oj.apart ops o = true := by
      unfold Oper.apart
      rw [Bool.and_eq_true]
      constructor
      · cases hd : oj.dst with
        | none => rfl
        | some d =>
          have h1 := a3 d hd
          have h2 : o.dst ≠ some d := fun e => a2 d e hd
          simp only [Bool.and_eq_true, Bool.not_eq_true', bne_iff_ne, ne_eq]
          exact ⟨by simpa using h1, h2⟩
      · cases hd : o.dst with
        | none => rfl
        | some d => simpa using a1 d hd
    refine ⟨o, ho, Rk, (TY.put ok ho hj (Ne.symm hkj) hnw2 hap2 a u Rk).2 hRk, fun v hv => ?_⟩
    have := Rem.remove ok hj hu A (a.put o.dst v) (fun k' hk' => hA k' (List.mem_cons_of_mem _ hk')) ((TY.put ok hj ho hkj hnw hap a v R).2 hR) (hrest v hv)
    rw [Act.put_comm a u v (fun d hd e => a2 d e hd)]
    exact this

theorem wpAny_of_rem (ok : TokOk md ops toks S) {Q : Act → Prop} {Q' : Exit → Act → World → Prop} (hQ : ∀ listed a w, (∀ i, i < ops.size → listed.getD i false = true) → holds w (av ops toks listed a ++ B) → Q a → Q' .normal a w) :
    ∀ (n : Nat) (L : List Nat) (listed : Array Bool) (a : Act) (w : World), L.length = n → Closed md ops listed → Left ops listed L → holds w (av ops toks listed a ++ B) → Rem Pr ops toks S B Q L a → wpAny Pr md ops Q' n listed a w
  | 0, L, listed, a, w, hn, hcl, hL, hw, h => by
    obtain rfl : L = [] := List.eq_nil_of_length_eq_zero hn
    have hall : ∀ i, i < ops.size → listed.getD i false = true := fun i hi => by
      rw [← hcl.tf hi]
      cases hl : listed.getD i true with
      | true => rfl
      | false => exact absurd ((hL.mem i).2 ⟨hi, hl⟩) (by simp)
    refine ⟨List.eq_nil_iff_forall_not_mem.2 fun j hj => ?_, hQ _ _ _ hall hw h⟩
    obtain ⟨h1, o, ho, _⟩ := mem_ready.1 hj
    exact absurd ((hL.mem j).2 ⟨(Array.getElem?_eq_some_iff.1 ho).1, h1⟩) (by simp)
  | n + 1, L, listed, a, w, hn, hcl, hL, hw, h => by
    obtain ⟨k, L', rfl⟩ : ∃ k L', L = k :: L' := by cases L with | nil => simp at hn | cons k L' => exact ⟨k, L', rfl⟩
    refine ⟨fun h0 => ?_, fun j hjr => ?_⟩
    · have := Left.ready_head ok hcl hL
      rw [h0] at this; cases this
    · obtain ⟨hju, oj, hj, _⟩ := mem_ready.1 hjr
      have hjm := (hL.mem j).2 ⟨(Array.getElem?_eq_some_iff.1 hj).1, hju⟩
      obtain ⟨A, C, hAC⟩ := List.append_of_mem hjm
      rw [hAC] at hL h hn
      have hs := hL.sorted
      rw [List.pairwise_append] at hs
      obtain ⟨R, hR⟩ := Rem.find ok hj A listed a w hcl hL hjr hw h
      obtain ⟨Y, p1, p2⟩ := av_split (B := B) ok hcl hj hjr a
      refine hR.run ok hj (hw.perm p1) fun u w' hu hh => ?_
      refine wpAny_of_rem ok hQ n (A ++ C) _ _ _ (by simp at hn ⊢; omega) (hcl.set hjr) (Left.erase hcl.1 hL) (hh.perm (p2 u)) ?_
      refine Rem.remove ok hj hu A a (fun k' hk' => ⟨hs.2.2 k' hk' j List.mem_cons_self, ?_⟩) hR h
      exact waits_not hcl hjr ((hL.mem k').1 (List.mem_append_left _ hk')).2

theorem rem_of_tok {Q : Act → Prop} : ∀ (l : List Oper) (k : Nat) (a : Act), (∀ j : Nat, l[j]? = ops[k + j]?) → wpTok Pr ops toks S B Q k l a → Rem Pr ops toks S B Q (List.range' k l.length) a
  | [], _, _, _, h => h
  | o :: l, k, a, hl, h => by
    have h0 : ops[k]? = some o := by simpa using (hl 0).symm
    rw [List.length_cons, List.range'_succ]
    refine ⟨o, h0, ?_⟩
    have hrec := fun a' => rem_of_tok (Q := Q) l (k + 1) a' (fun j => by have := hl (j + 1); simpa [Nat.add_assoc, Nat.add_comm 1 j] using this)
    unfold wpTok at h
    unfold TY
    split at h
    · rename_i hw
      simp only [hw, if_true]
      unfold TokOp at h
      cases hS : (S k).R with
      | none => rw [hS] at h; exact ⟨_, ⟨fun w F hh => exactUpon_mono (h w F hh) fun _ _ _ => trivial, rfl⟩, fun u ⟨w, F, hh, hu⟩ => hrec _ (exactUpon_at (h w F hh) hu)⟩
      | some s => rw [hS] at h; exact ⟨_, ⟨h.1, rfl⟩, fun u hu => hrec _ (h.2 u hu)⟩
    · rename_i hw
      simp only [hw]
      exact ⟨_, rfl, fun u hu => by subst hu; exact hrec _ h⟩

/-- **One walk of the order of the text serves every order.** start, last: the pieces (by their numbers) that are there at the start, and at the end. -/
theorem wp_region_tok {id : Nat} {Q : Exit → Act → World → Prop} {a : Act} {w : World} {l : List Oper} (toks : List Tok) (S : Nat → TSpec) (B : List HProp) (start last : List Nat) (hm : Pr.follows .mixedOrders = true)
    (hB : (tokB l.toArray toks S .any && (((List.range toks.length).filter (fun i => (tokNo toks i).prod.isNone) == start) && ((List.range toks.length).filter (fun i => (tokNo toks i).cons.isNone) == last))) = true)
    (hC : holds w (toksAt l.toArray toks a start ++ B)) (h : wpTok Pr l.toArray toks S B (fun a' => ∀ w', holds w' (toksAt l.toArray toks a' last ++ B) → Q .normal a' w') 0 l a) : (Code.region id l.toArray true).wp Pr Q a w := by
  rw [Bool.and_eq_true, Bool.and_eq_true ((List.range toks.length).filter _ == _)] at hB
  obtain ⟨h1, h2, h3⟩ := hB
  have ok := TokOk.of h1
  rw [beq_iff_eq] at h2 h3
  refine wp_region_any hm ?_
  have hC' : holds { w with drawn := w.drawn + 1 } (toksAt l.toArray toks a start ++ B) := hC.drew
  have hav : ∀ (listed : Array Bool), (∀ i, i < l.toArray.size → listed.getD i false = false) → listed.size = l.toArray.size → av l.toArray toks listed a = toksAt l.toArray toks a start := fun listed hf hsz => by
    unfold av
    rw [← h2]
    congr 1
    refine List.filter_congr fun i hi => ?_
    have hi' := List.mem_range.1 hi
    unfold live
    cases hp : (tokNo toks i).prod with
    | some p =>
      have := hf p (ok.prod i hi' p hp).1
      simp [this]
    | none =>
      cases hc : (tokNo toks i).cons with
      | none => simp
      | some c =>
        have hcs := (ok.cons i hi' c hc).1
        have := hf c hcs
        have hcs' : c < listed.size := by omega
        simp [hcs'] at this ⊢
        exact this
  have hlast : ∀ (listed : Array Bool) a, (∀ i, i < l.toArray.size → listed.getD i false = true) → av l.toArray toks listed a = toksAt l.toArray toks a last := fun listed a hf => by
    unfold av
    rw [← h3]
    congr 1
    refine List.filter_congr fun i hi => ?_
    have hi' := List.mem_range.1 hi
    unfold live
    cases hc : (tokNo toks i).cons with
    | some c =>
      have := hf c (ok.cons i hi' c hc).1
      have h5 : listed.getD c true = true := by
        rcases Nat.lt_or_ge c listed.size with h' | h'
        · simp [h'] at this ⊢; exact this
        · simp [h']
      dsimp only
      rw [h5]
      simp
    | none =>
      cases hp : (tokNo toks i).prod with
      | none => simp
      | some p => dsimp only; rw [hf p (ok.prod i hi' p hp).1]; simp
  have R0 := rem_of_tok (Pr := Pr) (ops := l.toArray) (toks := toks) (S := S) (B := B) l 0 a (by simp) h
  have := wpAny_of_rem (Pr := Pr) (Q' := Q) ok (Q := fun a' => ∀ w', holds w' (toksAt l.toArray toks a' last ++ B) → Q .normal a' w') (fun listed a w hf hw hq => hq w (by rw [← hlast listed a hf]; exact hw)) l.length _ (Array.replicate l.toArray.size false) a { w with drawn := w.drawn + 1 } (by simp) ⟨by simp, fun j oj _ hl => (by rw [getD_replicate_false] at hl; cases hl)⟩
    ⟨fun i => by
      rw [List.mem_range'_1]
      constructor
      · rintro ⟨_, h5⟩
        have : i < l.toArray.size := by simpa using h5
        exact ⟨this, getD_in (by simpa using this) (getD_replicate_false _ _)⟩
      · rintro ⟨h5, _⟩
        exact ⟨Nat.zero_le _, by simpa using h5⟩, List.pairwise_lt_range'⟩ (by rw [hav _ (fun i _ => getD_replicate_false _ _) (by simp)]; exact hC') R0
  simpa using this

/-! ### One operation at a time -/
/-- One that yields one value in every world that has the base. -/
theorem tok_exact {Q : Act → Prop} {k : Nat} {o : Oper} {rest : List Oper} {a : Act} (hS : (S k).R = none)
    (h : ∀ K : Act → Prop, (∀ a, wpTok Pr ops toks S B Q (k + 1) rest a → K a) → if Region.wanted o (yielded ops a.tmps) then ∀ w, holds w B → exactUpon w (fun v => K (a.put o.dst v)) ((execOp a.eval o).run Pr w) else K (a.put o.dst undef)) :
    wpTok Pr ops toks S B Q k (o :: rest) a := by
  unfold wpTok TokOp
  rw [hS]
  have h1 := h _ (fun _ h => h)
  split at h1
  · rename_i hw
    rw [if_pos hw]
    refine fun w F hh => h1 w ?_
    unfold tpre at hh
    rw [← List.append_assoc, List.append_assoc] at hh
    exact (holds_drop hh).perm_drop (.refl _)
  · rename_i hw
    rw [if_neg hw]
    exact h1
/-- .. one that takes the pieces T, sees the pieces L and makes the pieces N. -/
theorem tok_op {Q : Act → Prop} {k : Nat} {o : Oper} {rest : List Oper} {a : Act} {R : Value → Prop} (T L : List HProp) (N : Value → List HProp) (hT : toksAt ops toks a (S k).takes = T) (hL : toksAt ops toks a (S k).sees = L) (hS : (S k).R = some R) (hw : Region.wanted o (yielded ops a.tmps) = true)
    (hN : ∀ u, R u → toksAt ops toks (a.put o.dst u) (S k).gives = N u)
    (h1 : ∀ w F, holds w (T ++ (L ++ (B ++ F))) → looseUpon Pr (fun u w' => R u ∧ holds w' (N u ++ (L ++ (B ++ F)))) ((execOp a.eval o).run Pr w))
    (h2 : ∀ u, R u → wpTok Pr ops toks S B Q (k + 1) rest (a.put o.dst u)) :
    wpTok Pr ops toks S B Q k (o :: rest) a := by
  unfold wpTok TokOp
  rw [hS, hw]
  refine ⟨fun w F hh => ?_, h2⟩
  unfold tpre at hh
  rw [hT, hL] at hh
  have h4 := h1 w F (by simpa using hh)
  generalize (execOp a.eval o).run Pr w = r at h4 ⊢
  have key : ∀ u w', R u ∧ holds w' (N u ++ (L ++ (B ++ F))) → R u ∧ holds w' (tpost ops toks S B k o a u ++ F) := fun u w' ⟨hu, h5⟩ => by
    refine ⟨hu, ?_⟩
    unfold tpost
    rw [hN u hu, hL]
    simpa using h5
  cases r with
  | ok n w' =>
    cases n <;> simp only [looseUpon] at h4 ⊢
    · exact key _ _ h4
    · exact key _ _ h4
    · exact h4.mono fun e w'' ⟨u, he, hu⟩ => ⟨u, he, key _ _ hu⟩
  | halt x w' => simp only [looseUpon] at h4
theorem tok_nil {Q : Act → Prop} {k : Nat} {a : Act} (h : Q a) : wpTok Pr ops toks S B Q k [] a := h
end
end Go.Proofs.YtlcdaalalihaiaaGreat
end
