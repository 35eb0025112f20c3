/- A region that draws its order, whose operations keep the pieces of memory that they are given and whose calls may make new memory: one walk in the order of the text serves every order. -/
import Derived.Test.YtpkohkkkbnfigaaDoorSep
import Derived.Deep.Quiet
import Derived.StillTail
namespace Go.Proofs.YtpkohkkkbnfigaaDoor
open Go Go.RowKit

/-- What an operation that makes memory yields: which values, and with each value, which new pieces. -/
structure LSpec where
  R : Value → Prop
  N : Value → List HProp

def lpieces (S : Nat → Option LSpec) (i : Nat) (u : Value) : List HProp :=
  match S i with
  | none => []
  | some s => match u with
    | .tuple t => if t.size = 0 then [] else s.N u
    | _ => s.N u

theorem lpieces_undef (S : Nat → Option LSpec) (i : Nat) : lpieces S i undef = [] := by
  unfold lpieces undef
  split <;> simp

section
variable (Pr : Program) (ops : Array Oper) (S : Nat → Option LSpec) (B : List HProp)

def pieceAt (a : Act) (i : Nat) : List HProp :=
  match (ops[i]?).bind (·.dst) with
  | none => []
  | some d => lpieces S i ((a.tmps[d]?).getD undef)

def sees (o : Oper) (i : Nat) : Bool :=
  match (ops[i]?).bind (·.dst) with
  | none => false
  | some d => (o.looksAt ops).contains d

/-- The pieces of those earlier operations whose values this one looks at. -/
def needs (k : Nat) (o : Oper) (a : Act) : List HProp :=
  (List.range k).flatMap fun i => if sees ops o i then pieceAt ops S a i else []

/-- The pieces of all that has come up. -/
def known (listed : Array Bool) (a : Act) : List HProp :=
  (List.range ops.size).flatMap fun i => if listed.getD i false then pieceAt ops S a i else []

def exactUpon (w : World) (k : Value → Prop) : Result Next → Prop
  | .ok (.value u) w' => w' = w ∧ k u
  | .ok .skip w' => w' = w ∧ k undef
  | _ => False

theorem exactUpon_mono {w : World} {k k' : Value → Prop} {r : Result Next} (h : exactUpon w k r) (hk : ∀ v, exactUpon w (fun u => u = v) r → k v → k' v) : exactUpon w k' r := by
  cases r with
  | ok n w' => cases n <;> simp only [exactUpon] at h hk ⊢ <;> first | exact ⟨h.1, hk _ ⟨h.1, rfl⟩ h.2⟩ | exact h
  | halt x w' => exact h
theorem exactUpon_at {w : World} {k : Value → Prop} {v : Value} {r : Result Next} (h : exactUpon w k r) (hv : exactUpon w (fun u => u = v) r) : k v := by
  cases r with
  | ok n w' => cases n <;> simp only [exactUpon] at h hv <;> first | exact hv.2 ▸ h.2 | exact h.elim
  | halt x w' => exact h.elim

def looseUpon (C : Value → World → Prop) : Result Next → Prop
  | .ok (.value u) w' => C u w'
  | .ok .skip w' => C undef w'
  | .ok (.enter f args) w' => Calls Pr f args w' fun e w'' => ∃ u, e = .returned u ∧ C u w''
  | _ => False

def LooseOp (k : Nat) (o : Oper) (a : Act) (K : Act → Prop) : Prop :=
  match S k with
  | none => ∀ w F, holds w (needs ops S k o a ++ (B ++ F)) → exactUpon w (fun v => K (a.put o.dst v)) ((execOp a.eval o).run Pr w)
  | some s => (∀ w F, holds w (needs ops S k o a ++ (B ++ F)) → looseUpon Pr (fun u w' => s.R u ∧ holds w' (lpieces S k u ++ (needs ops S k o a ++ (B ++ F)))) ((execOp a.eval o).run Pr w)) ∧
      ∀ u, s.R u → K (a.put o.dst u)

def wpLoose (Q : Act → Prop) : Nat → List Oper → Act → Prop
  | _, [], a => Q a
  | k, o :: rest, a => if Region.wanted o (yielded ops a.tmps) then LooseOp Pr ops S B k o a (wpLoose Q (k + 1) rest) else wpLoose Q (k + 1) rest (a.put o.dst undef)

/-- What may be yielded: the set. -/
def LYields (k : Nat) (o : Oper) (a : Act) (R : Value → Prop) : Prop :=
  if Region.wanted o (yielded ops a.tmps) then
    match S k with
    | none => (∀ w F, holds w (needs ops S k o a ++ (B ++ F)) → exactUpon w (fun _ => True) ((execOp a.eval o).run Pr w)) ∧ R = fun u => ∃ w F, holds w (needs ops S k o a ++ (B ++ F)) ∧ exactUpon w (fun v => v = u) ((execOp a.eval o).run Pr w)
    | some s => (∀ w F, holds w (needs ops S k o a ++ (B ++ F)) → looseUpon Pr (fun u w' => s.R u ∧ holds w' (lpieces S k u ++ (needs ops S k o a ++ (B ++ F)))) ((execOp a.eval o).run Pr w)) ∧ R = s.R
  else R = fun u => u = undef

def lOp (i : Nat) (K : Act → Prop) (a : Act) : Prop :=
  match ops[i]? with
  | none => K a
  | some o => ∃ R, LYields Pr ops S B i o a R ∧ ∀ u, R u → K (a.put o.dst u)

def Sat (l : List HProp) : Prop := ∃ w, holds w l

def wpAnyL (md : Region.Mode) (Q : Act → Prop) : Nat → Array Bool → Act → Prop
  | 0, listed, a => Sat (known ops S listed a ++ B) → Region.ready md ops listed = [] ∧ Q a
  | fuel + 1, listed, a => Sat (known ops S listed a ++ B) →
    (Region.ready md ops listed = [] → Q a) ∧
    ∀ i ∈ Region.ready md ops listed, lOp Pr ops S B i (wpAnyL md Q fuel (listed.setIfInBounds i true)) a

/-- Beyond what 'lexB' asks: what is looked at is waited for, and no two operations have one place. -/
def looseB (md : Region.Mode) : Bool :=
  (List.range ops.size).all fun j => match ops[j]? with
    | none => true
    | some oj => (List.range ops.size).all fun i => (i == j) || match ops[i]? with
      | none => true
      | some oi => (match oi.dst with
        | none => true
        | some d => oj.dst != some d && (!(decide (i < j) && (oj.looksAt ops).contains d) || oj.after.any (fun e => Region.binds md e && e.on == i)))
end

section
variable {Pr : Program} {ops : Array Oper} {S : Nat → Option LSpec} {B : List HProp} {md : Region.Mode}

theorem looseB_dst (h : looseB ops md = true) {i j : Nat} {oi oj : Oper} (hi : ops[i]? = some oi) (hj : ops[j]? = some oj) (hne : i ≠ j) (d : Tmp) (hd : oi.dst = some d) : oj.dst ≠ some d := by
  simp only [looseB, List.all_eq_true, List.mem_range] at h
  have h1 := h j (Array.getElem?_eq_some_iff.1 hj).1
  simp only [hj, List.all_eq_true, List.mem_range] at h1
  have h2 := h1 i (Array.getElem?_eq_some_iff.1 hi).1
  simp only [hi, hd, Bool.or_eq_true, beq_iff_eq, hne, false_or, Bool.and_eq_true, bne_iff_ne] at h2
  exact h2.1

theorem looseB_waits (h : looseB ops md = true) {i j : Nat} {oj : Oper} (hj : ops[j]? = some oj) (hlt : i < j) (hs : sees ops oj i = true) :
    ∃ e ∈ oj.after, Region.binds md e = true ∧ e.on = i := by
  unfold sees at hs
  cases hi : ops[i]? with
  | none => simp [hi] at hs
  | some oi =>
    cases hd : oi.dst with
    | none => simp [hi, hd] at hs
    | some d =>
      simp only [hi, Option.bind_some, hd] at hs
      simp only [looseB, List.all_eq_true, List.mem_range] at h
      have h1 := h j (Array.getElem?_eq_some_iff.1 hj).1
      simp only [hj, List.all_eq_true, List.mem_range] at h1
      have h2 := h1 i (Array.getElem?_eq_some_iff.1 hi).1
      have hne : i ≠ j := by omega
      simp only [hi, hd, Bool.or_eq_true, beq_iff_eq, hne, false_or, Bool.and_eq_true, bne_iff_ne, hlt, decide_true, hs, Bool.and_true, Bool.not_true, Bool.false_eq_true] at h2
      obtain ⟨_, h3⟩ := h2
      rw [Array.any_eq_true] at h3
      obtain ⟨x, hx, h4⟩ := h3
      exact ⟨oj.after[x], Array.getElem_mem hx, by simpa using h4⟩

theorem flatMap_congr' {α β : Type} {f g : α → List β} {l : List α} (h : ∀ i ∈ l, f i = g i) : l.flatMap f = l.flatMap g := by
  induction l with
  | nil => rfl
  | cons x l ih => simp only [List.flatMap_cons]; rw [h x List.mem_cons_self, ih fun i hi => h i (List.mem_cons_of_mem _ hi)]

theorem flatMap_sub {α β : Type} (f g : α → List β) : ∀ l : List α, (∀ i ∈ l, f i = [] ∨ f i = g i) → ∃ Y, (l.flatMap g).Perm (l.flatMap f ++ Y)
  | [], _ => ⟨[], by simp⟩
  | x :: l, h => by
    obtain ⟨Y, hY⟩ := flatMap_sub f g l fun i hi => h i (List.mem_cons_of_mem _ hi)
    rcases h x List.mem_cons_self with e | e
    · refine ⟨g x ++ Y, ?_⟩
      simp only [List.flatMap_cons, e, List.nil_append]
      refine (hY.append_left _).trans ?_
      rw [← List.append_assoc, ← List.append_assoc]
      exact List.perm_append_comm.append_right _
    · refine ⟨Y, ?_⟩
      simp only [List.flatMap_cons, e, List.append_assoc]
      exact hY.append_left _

theorem flatMap_sub_le {α : Type} (f g : Nat → List α) (k n : Nat) (hkn : k ≤ n) (h : ∀ i, i < k → f i = [] ∨ f i = g i) : ∃ Y, ((List.range n).flatMap g).Perm ((List.range k).flatMap f ++ Y) := by
  obtain ⟨Y, hY⟩ := flatMap_sub (fun i => if i < k then f i else []) g (List.range n) (fun i _ => by by_cases hi : i < k <;> simp [hi]; exact h i hi)
  refine ⟨Y, hY.trans ?_⟩
  have : (List.range n).flatMap (fun i => if i < k then f i else []) = (List.range k).flatMap f := by
    obtain ⟨m, rfl⟩ := Nat.exists_eq_add_of_le hkn
    rw [List.range_add, List.flatMap_append]
    have h1 : (List.range k).flatMap (fun i => if i < k then f i else []) = (List.range k).flatMap f := by
      refine flatMap_congr' fun i hi => ?_
      simp [List.mem_range.1 hi]
    rw [h1]
    simp [List.flatMap_map]
    intro x _ hx; omega
  rw [this]

/-- What an operation that is ready needs is there. -/
theorem needs_known (hB : looseB ops md = true) {listed : Array Bool} {j : Nat} {oj : Oper} (hj : ops[j]? = some oj) (hr : j ∈ Region.ready md ops listed) (a : Act) :
    ∃ Y, (known ops S listed a).Perm (needs ops S j oj a ++ Y) := by
  refine flatMap_sub_le _ _ j ops.size (Nat.le_of_lt (Array.getElem?_eq_some_iff.1 hj).1) fun i hi => ?_
  by_cases hs : sees ops oj i = true
  · obtain ⟨e, he, hb, hon⟩ := looseB_waits hB hj hi hs
    obtain ⟨_, o', ho', hall⟩ := mem_ready.1 hr
    rw [hj] at ho'; cases ho'
    have := hall e he hb
    rw [hon] at this
    simp [hs, this]
  · simp [hs]

theorem pieceAt_put_ne (hB : looseB ops md = true) {i j : Nat} {oj : Oper} (hj : ops[j]? = some oj) (hne : i ≠ j) (a : Act) (u : Value) : pieceAt ops S (a.put oj.dst u) i = pieceAt ops S a i := by
  unfold pieceAt
  cases hi : ops[i]? with
  | none => simp
  | some oi =>
    cases hd : oi.dst with
    | none => simp [hd]
    | some d =>
      simp only [Option.bind_some, hd]
      have h1 := looseB_dst hB hi hj hne d hd
      cases hdj : oj.dst with
      | none => rfl
      | some e =>
        have hne' : e ≠ d := fun he => h1 (by rw [hdj, he])
        simp [Act.put, Array.getElem?_setIfInBounds_ne hne']

theorem pieceAt_put_self {j : Nat} {oj : Oper} (hj : ops[j]? = some oj) (a : Act) (u : Value) : pieceAt ops S (a.put oj.dst u) j = [] ∨ pieceAt ops S (a.put oj.dst u) j = lpieces S j u := by
  unfold pieceAt
  simp only [hj, Option.bind_some]
  cases hdj : oj.dst with
  | none => exact .inl rfl
  | some d =>
    simp only [Act.put]
    rcases Nat.lt_or_ge d a.tmps.size with h | h
    · right; simp [h]
    · left; simp [h, lpieces_undef]

/-- What is known once one more has come up. -/
theorem known_put (hB : looseB ops md = true) {listed : Array Bool} {j : Nat} {oj : Oper} (hj : ops[j]? = some oj) (hun : listed.getD j true = false) (a : Act) (u : Value) :
    ∃ Y, (lpieces S j u ++ known ops S listed a).Perm (known ops S (listed.setIfInBounds j true) (a.put oj.dst u) ++ Y) := by
  have hlt := (Array.getElem?_eq_some_iff.1 hj).1
  have hl : j < listed.size := by
    rcases Nat.lt_or_ge j listed.size with h | h
    · exact h
    · simp [Array.getElem?_eq_none h] at hun
  have hlj : listed.getD j false = false := by
    have : listed[j]? = some listed[j] := Array.getElem?_eq_getElem hl
    simp [hl] at hun ⊢; exact hun
  have key : ∀ i, (if (listed.setIfInBounds j true).getD i false then pieceAt ops S (a.put oj.dst u) i else []) = if i = j then pieceAt ops S (a.put oj.dst u) j else (if listed.getD i false then pieceAt ops S a i else []) := fun i => by
    by_cases hij : i = j
    · subst hij; simp [hl]
    · rw [getD_set_ne false (Ne.symm hij), if_neg hij, pieceAt_put_ne hB hj hij]
  unfold known
  simp only [key]
  obtain ⟨m, hm⟩ := Nat.exists_eq_add_of_lt hlt
  have hsplit : List.range ops.size = List.range j ++ j :: (List.range m).map (fun i => j + 1 + i) := by
    rw [hm, show j + m + 1 = j + (1 + m) by omega, List.range_add, List.range_add]; simp [List.range_succ, Nat.add_assoc]
  rw [hsplit]
  simp only [List.flatMap_append, List.flatMap_cons, if_true, hlj, Bool.false_eq_true, if_false, List.nil_append]
  have h1 : (List.range j).flatMap (fun i => if i = j then pieceAt ops S (a.put oj.dst u) j else (if listed.getD i false then pieceAt ops S a i else [])) = (List.range j).flatMap (fun i => if listed.getD i false then pieceAt ops S a i else []) :=
    flatMap_congr' fun i hi => by rw [if_neg (Nat.ne_of_lt (List.mem_range.1 hi))]
  have h2 : ((List.range m).map (fun i => j + 1 + i)).flatMap (fun i => if i = j then pieceAt ops S (a.put oj.dst u) j else (if listed.getD i false then pieceAt ops S a i else [])) = ((List.range m).map (fun i => j + 1 + i)).flatMap (fun i => if listed.getD i false then pieceAt ops S a i else []) :=
    flatMap_congr' fun i hi => by
      obtain ⟨x, _, rfl⟩ := List.mem_map.1 hi
      rw [if_neg (by omega)]
  rw [h1, h2]
  generalize (List.range j).flatMap _ = X1
  generalize ((List.range m).map (fun i => j + 1 + i)).flatMap _ = X2
  rcases pieceAt_put_self (S := S) hj a u with e | e <;> rw [e]
  · exact ⟨lpieces S j u, by simp only [List.nil_append]; exact List.perm_append_comm⟩
  · refine ⟨[], ?_⟩
    rw [List.append_nil, ← List.append_assoc, ← List.append_assoc]
    exact List.perm_append_comm.append_right _

theorem Sat.sub {l m Y : List HProp} (h : Sat l) (p : l.Perm (m ++ Y)) : Sat m := by
  obtain ⟨w, hw⟩ := h
  refine ⟨w, ?_⟩
  have h1 := hw.perm (p.trans List.perm_append_comm)
  clear hw p
  induction Y with
  | nil => simpa using h1
  | cons A Y ih => exact ih h1.tail

theorem needs_put {k : Nat} {o : Oper} {a : Act} {dst : Option Tmp} {v : Value} (h : ∀ d, dst = some d → d ∉ o.looksAt ops) : needs ops S k o (a.put dst v) = needs ops S k o a := by
  unfold needs
  refine flatMap_congr' fun i _ => ?_
  by_cases hs : sees ops o i = true
  · simp only [hs, if_true]
    unfold sees at hs
    unfold pieceAt
    cases hb : (ops[i]?).bind (·.dst) with
    | none => rfl
    | some d =>
      rw [hb] at hs
      simp only at hs ⊢
      cases dst with
      | none => rfl
      | some e =>
        have hne : e ≠ d := fun he => h e rfl (by subst he; simpa using hs)
        simp [Act.put, Array.getElem?_setIfInBounds_ne hne]
  · simp [hs]

theorem LYields.put {j : Nat} {oj : Oper} {a : Act} {dst : Option Tmp} {v : Value} (hs : ∀ cs b, oj.op ≠ .select cs b) (h : ∀ d, dst = some d → d ∉ oj.looksAt ops) (R : Value → Prop) :
    LYields Pr ops S B j oj (a.put dst v) R ↔ LYields Pr ops S B j oj a R := by
  unfold LYields
  rw [wanted_put oj a dst v h, needs_put h, execOp_put oj hs a dst v h]

theorem LYields.inj {j : Nat} {oj : Oper} {a : Act} {R R' : Value → Prop} (h : LYields Pr ops S B j oj a R) (h' : LYields Pr ops S B j oj a R') : R = R' := by
  unfold LYields at h h'
  split at h
  · rename_i hw
    simp only [hw, if_true] at h'
    cases hS : S j with
    | none =>
      rw [hS] at h h'
      rw [h.2, h'.2]
    | some s =>
      rw [hS] at h h'
      rw [h.2, h'.2]
  · rename_i hw
    simp only [hw] at h'
    rw [h, h']

/-- One operation that comes up: some value of the set, and its pieces. -/
theorem LYields.run {Q' : Exit → Act → World → Prop} {i : Nat} {o : Oper} {a : Act} {R : Value → Prop} {w : World} {Y : List HProp} (hi : ops[i]? = some o) (h : LYields Pr ops S B i o a R)
    (hw : holds w (needs ops S i o a ++ (B ++ Y))) {K' : Act → World → Prop} (hk : ∀ u w', R u → holds w' (lpieces S i u ++ (needs ops S i o a ++ (B ++ Y))) → K' (a.put o.dst u) w') : wpOp Pr ops Q' i K' a w := by
  unfold LYields at h
  unfold wpOp
  simp only [hi]
  split at h
  · rename_i hwt
    simp only [hwt, if_true]
    refine .inl ?_
    unfold Oper.wp
    cases hS : S i with
    | none =>
      rw [hS] at h
      obtain ⟨h1, rfl⟩ := h
      have h2 := exactUpon_mono (k' := fun v => ∃ w F, holds w (needs ops S i o a ++ (B ++ F)) ∧ exactUpon w (fun u => u = v) ((execOp a.eval o).run Pr w)) (h1 w Y hw) (fun v hv _ => ⟨w, Y, hw, hv⟩)
      have hl : ∀ v, lpieces S i v = [] := fun v => by simp [lpieces, hS]
      generalize hr : (execOp a.eval o).run Pr w = r at h2
      cases r with
      | ok n w' =>
        cases n <;> first
          | exact (h2 : False).elim
          | (obtain ⟨e, h3⟩ := (h2 : _ ∧ _); subst e; exact hk _ _ h3 (by rw [hl]; exact hw))
      | halt x w' => exact (h2 : False).elim
    | some s =>
      rw [hS] at h
      obtain ⟨h1, rfl⟩ := h
      have h2 := h1 w Y hw
      generalize (execOp a.eval o).run Pr w = r at *
      cases r with
      | ok n w' =>
        cases n <;> simp only [looseUpon] at h2 <;> simp only [Oper.upon]
        · exact hk _ _ h2.1 h2.2
        · exact hk _ _ h2.1 h2.2
        · exact h2.mono fun e w'' ⟨u, he, hu, hh⟩ => by subst he; exact hk _ _ hu hh
      | halt x w' => simp only [looseUpon] at h2
  · rename_i hwt
    simp only [hwt]
    subst h
    exact hk _ _ rfl (by rw [lpieces_undef]; exact hw)

theorem holds_drop {w : World} {l m : List HProp} (h : holds w (l ++ m)) : holds w m := by
  induction l with
  | nil => exact h
  | cons A l ih => exact ih h.tail

/-- Of the first n pieces those that 'is' names, in that order; the others are let go. -/
theorem holds.sel {w : World} {l : List HProp} (h : holds w l) (n : Nat) (is : List Nat) (hp : (is ++ (List.range n).filter (fun i => !is.contains i)).Perm (List.range n) := by decide) (hn : n ≤ l.length := by simp) :
    holds w (is.map (fun i => l.getD i (fun _ => True)) ++ l.drop n) := by
  have p1 := (hp.map (fun i => l.getD i (fun _ => True))).append_right (l.drop n)
  rw [perm_range l n hn, List.map_append, List.append_assoc] at p1
  have h2 := h.perm p1.symm
  generalize is.map _ = A at h2 ⊢
  generalize ((List.range n).filter _).map _ = C at h2
  have p2 : (A ++ (C ++ l.drop n)).Perm (C ++ (A ++ l.drop n)) := by
    rw [← List.append_assoc, ← List.append_assoc]
    exact List.perm_append_comm.append_right _
  exact holds_drop (h2.perm p2)

/-- The pieces that are there, as those that operation i needs, the base, and the rest. -/
theorem known_split (hB : looseB ops md = true) {listed : Array Bool} {i : Nat} {o : Oper} (hi : ops[i]? = some o) (hr : i ∈ Region.ready md ops listed) (a : Act) {w : World} (h : holds w (known ops S listed a ++ B)) :
    ∃ Y, holds w (needs ops S i o a ++ (B ++ Y)) ∧ (∀ u, ∃ Z, (lpieces S i u ++ (needs ops S i o a ++ (B ++ Y))).Perm (known ops S (listed.setIfInBounds i true) (a.put o.dst u) ++ B ++ Z)) := by
  obtain ⟨Y, hY⟩ := needs_known (S := S) hB hi hr a
  have p : (known ops S listed a ++ B).Perm (needs ops S i o a ++ (B ++ Y)) := by
    refine (hY.append_right B).trans ?_
    rw [List.append_assoc]
    exact List.perm_append_comm.append_left _
  refine ⟨Y, h.perm p, fun u => ?_⟩
  obtain ⟨Z, hZ⟩ := known_put (S := S) hB hi (mem_ready.1 hr).1 a u
  refine ⟨Z, (p.symm.append_left _).trans ?_⟩
  rw [← List.append_assoc]
  refine (hZ.append_right B).trans ?_
  rw [List.append_assoc, List.append_assoc]
  exact List.perm_append_comm.append_left _

theorem holds.perm_drop {w : World} {l m Z : List HProp} (h : holds w l) (p : l.Perm (m ++ Z)) : holds w m :=
  holds_drop (h.perm (p.trans List.perm_append_comm))

/-- It is a wpAny, from every world that has the pieces. -/
theorem wpAny_of_loose (hB : looseB ops md = true) {Q : Act → Prop} {Q' : Exit → Act → World → Prop} (hQ : ∀ a w, holds w B → Q a → Q' .normal a w) : ∀ (fuel : Nat) (listed : Array Bool) (a : Act) (w : World),
    holds w (known ops S listed a ++ B) → wpAnyL Pr ops S B md Q fuel listed a → wpAny Pr md ops Q' fuel listed a w
  | 0, _, _, _, hw, h => ⟨(h ⟨_, hw⟩).1, hQ _ _ (holds_drop hw) (h ⟨_, hw⟩).2⟩
  | fuel + 1, listed, a, w, hw, h => by
    obtain ⟨h1, h2⟩ := h ⟨_, hw⟩
    refine ⟨fun h0 => hQ _ _ (holds_drop hw) (h1 h0), fun i hi => ?_⟩
    obtain ⟨_, o, ho, _⟩ := mem_ready.1 hi
    have h3 := h2 i hi
    unfold lOp at h3
    simp only [ho] at h3
    obtain ⟨R, hy, hR⟩ := h3
    obtain ⟨Y, hn, hp⟩ := known_split hB ho hi a hw
    refine hy.run ho hn fun u w' hu hh => ?_
    obtain ⟨Z, hZ⟩ := hp u
    exact wpAny_of_loose hB hQ fuel _ _ w' (hh.perm_drop hZ) (hR u hu)

theorem LYields.some_ {i : Nat} {o : Oper} {a : Act} {R : Value → Prop} {w : World} {Y : List HProp} (h : LYields Pr ops S B i o a R) (hw : holds w (needs ops S i o a ++ (B ++ Y))) :
    ∃ u w', R u ∧ holds w' (lpieces S i u ++ (needs ops S i o a ++ (B ++ Y))) := by
  unfold LYields at h
  split at h
  · cases hS : S i with
    | none =>
      rw [hS] at h
      obtain ⟨h1, rfl⟩ := h
      have h2 := exactUpon_mono (k' := fun v => exactUpon w (fun u => u = v) ((execOp a.eval o).run Pr w)) (h1 w Y hw) (fun v hv _ => hv)
      generalize hr : (execOp a.eval o).run Pr w = r at h2
      cases r with
      | ok n w' =>
        cases n <;> first
          | exact (h2 : False).elim
          | (obtain ⟨e, h3⟩ := (h2 : _ ∧ _); exact ⟨_, w, ⟨w, Y, hw, by rw [hr]; exact h3⟩, by simp only [lpieces, hS]; exact hw⟩)
      | halt x w' => exact (h2 : False).elim
    | some s =>
      rw [hS] at h
      obtain ⟨h1, rfl⟩ := h
      have h2 := h1 w Y hw
      generalize (execOp a.eval o).run Pr w = r at *
      cases r with
      | ok n w' =>
        cases n <;> simp only [looseUpon] at h2
        · exact ⟨_, _, h2.1, h2.2⟩
        · exact ⟨_, _, h2.1, h2.2⟩
        · obtain ⟨e, w'', fr, ⟨u, _, hu, hh⟩, _⟩ := h2 []
          exact ⟨u, w'', hu, hh⟩
      | halt x w' => simp only [looseUpon] at h2
  · subst h
    exact ⟨undef, w, rfl, by rw [lpieces_undef]; exact hw⟩

theorem known_mono (hB : looseB ops md = true) {listed : Array Bool} {j : Nat} {oj : Oper} (hj : ops[j]? = some oj) (hun : listed.getD j true = false) (a : Act) (u : Value) :
    ∃ Y, (known ops S (listed.setIfInBounds j true) (a.put oj.dst u)).Perm (known ops S listed a ++ Y) := by
  have hl : j < listed.size := by
    rcases Nat.lt_or_ge j listed.size with h | h
    · exact h
    · simp [Array.getElem?_eq_none h] at hun
  refine flatMap_sub _ _ _ fun i _ => ?_
  by_cases hij : i = j
  · subst hij
    left
    simp [hl] at hun ⊢
    simp [hun]
  · right
    rw [getD_set_ne false (Ne.symm hij), pieceAt_put_ne hB hj hij]

/-- **An operation that may come up now may be taken first.** -/
theorem wpAnyL_first (hB : looseB ops md = true) {Q : Act → Prop} {i : Nat} {oi : Oper} {R : Value → Prop} (hi : ops[i]? = some oi) (hsel : ∀ (j : Nat) (o : Oper) cs b, ops[j]? = some o → o.op ≠ .select cs b) :
    ∀ (fuel : Nat) (listed : Array Bool) (a : Act),
      (∀ j oj, ops[j]? = some oj → j ≠ i → listed.getD j true = false → (∀ e ∈ oj.after, Region.binds md e = true → e.on ≠ i) → oi.apart ops oj = true) →
      i ∈ Region.ready md ops listed → LYields Pr ops S B i oi a R →
      (∀ v, R v → wpAnyL Pr ops S B md Q fuel (listed.setIfInBounds i true) (a.put oi.dst v)) → wpAnyL Pr ops S B md Q (fuel + 1) listed a := by
  intro fuel
  induction fuel with
  | zero =>
    intro listed a _ hr hy H hsat
    obtain ⟨w, hw⟩ := hsat
    obtain ⟨Y, hn, hp⟩ := known_split hB hi hr a hw
    obtain ⟨v, w', hv, hh⟩ := hy.some_ hn
    obtain ⟨Z, hZ⟩ := hp v
    have H1 := H v hv ⟨w', hh.perm_drop hZ⟩
    refine ⟨fun h => (by rw [h] at hr; cases hr), fun j hj => ?_⟩
    by_cases hji : j = i
    · subst hji
      unfold lOp
      simp only [hi]
      exact ⟨R, hy, H⟩
    · have := ready_mono hj hji
      rw [H1.1] at this
      cases this
  | succ fuel ih =>
    intro listed a hfree hr hy H hsat
    obtain ⟨w, hw⟩ := hsat
    obtain ⟨Y, hn, hp⟩ := known_split hB hi hr a hw
    obtain ⟨v, w', hv, hh⟩ := hy.some_ hn
    obtain ⟨Z, hZ⟩ := hp v
    have H1 := H v hv ⟨w', hh.perm_drop hZ⟩
    refine ⟨fun h => (by rw [h] at hr; cases hr), fun j hj => ?_⟩
    by_cases hji : j = i
    · subst hji
      unfold lOp
      simp only [hi]
      exact ⟨R, hy, H⟩
    · obtain ⟨hjun, oj, hoj, hall⟩ := mem_ready.1 hj
      have hnot : ∀ e ∈ oj.after, Region.binds md e = true → e.on ≠ i := fun e he hb heq => by
        have h1 := hall e he hb
        have h0 := (mem_ready.1 hr).1
        rw [heq] at h1
        rcases Nat.lt_or_ge i listed.size with h' | h'
        · simp [h'] at h0 h1; rw [h0] at h1; cases h1
        · simp [Array.getElem?_eq_none h'] at h1
      obtain ⟨a1, a2, a3⟩ := Oper.apart_spec (hfree j oj hoj hji hjun hnot)
      have h2 := H1.2 j (ready_mono hj hji)
      unfold lOp at h2 ⊢
      simp only [hoj] at h2 ⊢
      obtain ⟨Rj, hyj, _⟩ := h2
      rw [LYields.put (fun cs b => hsel j oj cs b hoj) a1] at hyj
      refine ⟨Rj, hyj, fun u hu => ?_⟩
      have hfree' : ∀ k ok, ops[k]? = some ok → k ≠ i → (listed.setIfInBounds j true).getD k true = false →
          (∀ e ∈ ok.after, Region.binds md e = true → e.on ≠ i) → oi.apart ops ok = true := fun k ok hk hki hun hno => by
        refine hfree k ok hk hki ?_ hno
        by_cases hjk : j = k
        · subst hjk; exact hjun
        · rw [getD_set_ne true hjk] at hun; exact hun
      have hiun : (listed.setIfInBounds j true).getD i true = false := by rw [getD_set_ne true hji]; exact (mem_ready.1 hr).1
      refine ih (listed.setIfInBounds j true) (a.put oj.dst u) hfree' (ready_mono hr (Ne.symm hji)) ((LYields.put (fun cs b => hsel i oi cs b hi) a3 R).2 hy) fun v' hv' => ?_
      have hcomm : (a.put oj.dst u).put oi.dst v' = (a.put oi.dst v').put oj.dst u := (Act.put_comm a v' u a2).symm
      have hset : (listed.setIfInBounds j true).setIfInBounds i true = (listed.setIfInBounds i true).setIfInBounds j true := (Array.setIfInBounds_comm _ _ (Ne.symm hji)).symm
      rw [hcomm, hset]
      have hjun' : (listed.setIfInBounds i true).getD j true = false := by rw [getD_set_ne true (Ne.symm hji)]; exact hjun
      have hgo : Sat (known ops S ((listed.setIfInBounds i true).setIfInBounds j true) ((a.put oi.dst v').put oj.dst u) ++ B) → wpAnyL Pr ops S B md Q fuel ((listed.setIfInBounds i true).setIfInBounds j true) ((a.put oi.dst v').put oj.dst u) := fun hs => by
        obtain ⟨Y2, hY2⟩ := known_mono (S := S) hB hoj hjun' (a.put oi.dst v') u
        have hs1 : Sat (known ops S (listed.setIfInBounds i true) (a.put oi.dst v') ++ B) := hs.sub (Y := Y2) (by
          refine (hY2.append_right B).trans ?_
          rw [List.append_assoc, List.append_assoc]
          exact List.perm_append_comm.append_left _)
        have h3 := (H v' hv' hs1).2 j (ready_mono hj hji)
        unfold lOp at h3
        simp only [hoj] at h3
        obtain ⟨Rj', hyj', hk⟩ := h3
        rw [LYields.put (fun cs b => hsel j oj cs b hoj) a1] at hyj'
        have := LYields.inj hyj hyj'
        subst this
        exact hk u hu
      cases fuel with
      | zero => exact fun hs => hgo hs hs
      | succ fuel => exact fun hs => hgo hs hs

theorem loose_yields {Q : Act → Prop} {k : Nat} {o : Oper} {l : List Oper} {a : Act} (h : wpLoose Pr ops S B Q k (o :: l) a) : ∃ R, LYields Pr ops S B k o a R ∧ ∀ u, R u → wpLoose Pr ops S B Q (k + 1) l (a.put o.dst u) := by
  unfold wpLoose at h
  unfold LYields
  split at h
  · rename_i hw
    simp only [hw, if_true]
    unfold LooseOp at h
    cases hS : S k with
    | none => rw [hS] at h; exact ⟨_, ⟨fun w F hh => exactUpon_mono (h w F hh) fun _ _ _ => trivial, rfl⟩, fun u ⟨w, F, hh, hu⟩ => exactUpon_at (h w F hh) hu⟩
    | some s => rw [hS] at h; exact ⟨_, ⟨h.1, rfl⟩, h.2⟩
  · rename_i hw
    simp only [hw]
    exact ⟨_, rfl, fun u hu => by subst hu; exact h⟩

theorem wpAnyL_lex (hB : looseB ops md = true) {Q : Act → Prop} (hs : Region.noSelect ops = true) : ∀ (l : List Oper) (k : Nat) (listed : Array Bool) (a : Act), (∀ j, l[j]? = ops[k + j]?) →
    Region.lexFrom md ops l.length k listed = true → wpLoose Pr ops S B Q k l a → wpAnyL Pr ops S B md Q l.length listed a
  | [], _, _, _, _, hL, h => fun _ => ⟨by simpa [Region.lexFrom] using hL, h⟩
  | o :: l, k, listed, a, hl, hL, h => by
    have h0 : ops[k]? = some o := by simpa using (hl 0).symm
    simp only [List.length_cons, Region.lexFrom, Bool.and_eq_true] at hL
    obtain ⟨⟨hr, hf⟩, hL'⟩ := hL
    have hrec := fun a' (h' : wpLoose Pr ops S B Q (k + 1) l a') => wpAnyL_lex hB hs l (k + 1) (listed.setIfInBounds k true) a' (fun j => by have := hl (j + 1); simpa [Nat.add_assoc, Nat.add_comm 1 j] using this) hL' h'
    have hst := loose_yields h
    obtain ⟨R, hy, hR⟩ := hst
    exact wpAnyL_first hB h0 (Region.noSelect_spec hs) l.length listed a (Region.free_spec h0 hf) (by simpa using hr) hy fun v hv => hrec _ (hR v hv)

theorem known_none (ops : Array Oper) (n : Nat) (a : Act) : known ops S (Array.replicate n false) a = [] := by
  unfold known
  refine List.flatMap_eq_nil_iff.2 fun i _ => ?_
  by_cases hi : i < n <;> simp [hi]

/-- **ONE WALK OF THE ORDER OF THE TEXT SERVES EVERY ORDER.** -/
theorem wp_region_loose {id : Nat} {Q : Exit → Act → World → Prop} {a : Act} {w : World} {l : List Oper} (S : Nat → Option LSpec) (B : List HProp) (hm : Pr.follows .mixedOrders = true) (hB : (Region.lexB .any l.toArray && looseB l.toArray .any) = true)
    (hC : holds w B) (h : wpLoose Pr l.toArray S B (fun a' => ∀ w', holds w' B → Q .normal a' w') 0 l a) : (Code.region id l.toArray true).wp Pr Q a w := by
  simp only [Region.lexB, Bool.and_eq_true] at hB
  have hC' : holds { w with drawn := w.drawn + 1 } B := hC.drew
  refine wp_region_any hm (wpAny_of_loose (S := S) (B := B) hB.2 (Q := fun a' => ∀ w', holds w' B → Q .normal a' w') (fun _ w' hw' h => h w' hw') _ _ _ _ (by rw [known_none]; exact hC') ?_)
  have := wpAnyL_lex (Pr := Pr) (S := S) (B := B) (md := .any) hB.2 hB.1.1 l 0 (Array.replicate l.toArray.size false) a (by simp) (by simpa using hB.1.2) h
  simpa using this

/-- The head of a region whose last operations come up one behind the other. -/
def wpHeadL (Pr : Program) (ops : Array Oper) (S : Nat → Option LSpec) (B : List HProp) (md : Region.Mode) (n : Nat) (L : Array Bool → Act → Prop) : Nat → Array Bool → Act → Prop
  | 0, listed, a => Sat (known ops S listed a ++ B) → L listed a
  | f + 1, listed, a => Sat (known ops S listed a ++ B) →
    Region.ready md ops listed ≠ [] ∧ ∀ i ∈ Region.ready md ops listed, i < n ∧ lOp Pr ops S B i (wpHeadL Pr ops S B md n L f (listed.setIfInBounds i true)) a

theorem wpAny_of_headL (hB : looseB ops md = true) {n g : Nat} {L : Array Bool → Act → Prop} {Q' : Exit → Act → World → Prop} (hL : ∀ listed a w, holds w B → L listed a → wpAny Pr md ops Q' g listed a w) :
    ∀ (f : Nat) (listed : Array Bool) (a : Act) (w : World), holds w (known ops S listed a ++ B) → wpHeadL Pr ops S B md n L f listed a → wpAny Pr md ops Q' (f + g) listed a w
  | 0, listed, a, w, hw, h => by rw [Nat.zero_add]; exact hL _ _ _ (holds_drop hw) (h ⟨_, hw⟩)
  | f + 1, listed, a, w, hw, h => by
    rw [show f + 1 + g = (f + g) + 1 by omega]
    obtain ⟨h1, h2⟩ := h ⟨_, hw⟩
    refine ⟨fun h0 => absurd h0 h1, fun i hi => ?_⟩
    obtain ⟨_, o, ho, _⟩ := mem_ready.1 hi
    have h3 := (h2 i hi).2
    unfold lOp at h3
    simp only [ho] at h3
    obtain ⟨R, hy, hR⟩ := h3
    obtain ⟨Y, hn, hp⟩ := known_split hB ho hi a hw
    refine hy.run ho hn fun u w' hu hh => ?_
    obtain ⟨Z, hZ⟩ := hp u
    exact wpAny_of_headL hB hL f _ _ w' (hh.perm_drop hZ) (hR u hu)

/-- **An operation that may come up now may be taken first.** -/
theorem wpHeadL_first (hB : looseB ops md = true) {n i : Nat} {L : Array Bool → Act → Prop} {oi : Oper} {R : Value → Prop} (hi : ops[i]? = some oi) (hsel : ∀ (j : Nat) (o : Oper) cs b, ops[j]? = some o → o.op ≠ .select cs b)
    (hs : Region.sinkB md ops n = true) (hc : Region.chainB md ops n = true) (hn' : n < ops.size) (hin : i < n) (hdone : ∀ listed a, L listed a → ∀ j ∈ Region.ready md ops listed, n ≤ j) :
    ∀ (fuel : Nat) (listed : Array Bool) (a : Act), HeadInv md ops n listed →
      (∀ j oj, ops[j]? = some oj → j ≠ i → listed.getD j true = false → (∀ e ∈ oj.after, Region.binds md e = true → e.on ≠ i) → oi.apart ops oj = true) →
      i ∈ Region.ready md ops listed → LYields Pr ops S B i oi a R →
      (∀ v, R v → wpHeadL Pr ops S B md n L fuel (listed.setIfInBounds i true) (a.put oi.dst v)) → wpHeadL Pr ops S B md n L (fuel + 1) listed a := by
  intro fuel
  induction fuel with
  | zero =>
    intro listed a inv _ hr hy H hsat
    obtain ⟨w, hw⟩ := hsat
    obtain ⟨Y, hn, hp⟩ := known_split hB hi hr a hw
    obtain ⟨v, w', hv, hh⟩ := hy.some_ hn
    obtain ⟨Z, hZ⟩ := hp v
    have H1 := H v hv ⟨w', hh.perm_drop hZ⟩
    have hun := (mem_ready.1 hr).1
    refine ⟨fun h => (by rw [h] at hr; cases hr), fun j hj => ?_⟩
    have hjn : j < n := by
      rcases Nat.lt_or_ge j n with h | h
      · exact h
      · exact absurd hj (tail_waits hs hc hn' inv _ i rfl hin hun j h)
    refine ⟨hjn, ?_⟩
    by_cases hji : j = i
    · subst hji
      unfold lOp
      simp only [hi]
      exact ⟨R, hy, H⟩
    · have := hdone _ _ H1 j (ready_mono hj hji)
      omega
  | succ fuel ih =>
    intro listed a inv hfree hr hy H hsat
    obtain ⟨w, hw⟩ := hsat
    obtain ⟨Y, hn, hp⟩ := known_split hB hi hr a hw
    obtain ⟨v, w', hv, hh⟩ := hy.some_ hn
    obtain ⟨Z, hZ⟩ := hp v
    have H1 := H v hv ⟨w', hh.perm_drop hZ⟩
    have hun := (mem_ready.1 hr).1
    refine ⟨fun h => (by rw [h] at hr; cases hr), fun j hj => ?_⟩
    have hjn : j < n := by
      rcases Nat.lt_or_ge j n with h | h
      · exact h
      · exact absurd hj (tail_waits hs hc hn' inv _ i rfl hin hun j h)
    refine ⟨hjn, ?_⟩
    by_cases hji : j = i
    · subst hji
      unfold lOp
      simp only [hi]
      exact ⟨R, hy, H⟩
    · obtain ⟨hjun, oj, hoj, hall⟩ := mem_ready.1 hj
      have hnot : ∀ e ∈ oj.after, Region.binds md e = true → e.on ≠ i := fun e he hb heq => by
        have h1 := hall e he hb
        have h0 := (mem_ready.1 hr).1
        rw [heq] at h1
        rcases Nat.lt_or_ge i listed.size with h' | h'
        · simp [h'] at h0 h1; rw [h0] at h1; cases h1
        · simp [Array.getElem?_eq_none h'] at h1
      obtain ⟨a1, a2, a3⟩ := Oper.apart_spec (hfree j oj hoj hji hjun hnot)
      have h2 := (H1.2 j (ready_mono hj hji)).2
      unfold lOp at h2 ⊢
      simp only [hoj] at h2 ⊢
      obtain ⟨Rj, hyj, _⟩ := h2
      rw [LYields.put (fun cs b => hsel j oj cs b hoj) a1] at hyj
      refine ⟨Rj, hyj, fun u hu => ?_⟩
      have hfree' : ∀ k ok, ops[k]? = some ok → k ≠ i → (listed.setIfInBounds j true).getD k true = false →
          (∀ e ∈ ok.after, Region.binds md e = true → e.on ≠ i) → oi.apart ops ok = true := fun k ok hk hki hun hno => by
        refine hfree k ok hk hki ?_ hno
        by_cases hjk : j = k
        · subst hjk; exact hjun
        · rw [getD_set_ne true hjk] at hun; exact hun
      have hiun : (listed.setIfInBounds j true).getD i true = false := by rw [getD_set_ne true hji]; exact (mem_ready.1 hr).1
      refine ih (listed.setIfInBounds j true) (a.put oj.dst u) (inv.set hj hjn) hfree' (ready_mono hr (Ne.symm hji)) ((LYields.put (fun cs b => hsel i oi cs b hi) a3 R).2 hy) fun v' hv' => ?_
      have hcomm : (a.put oj.dst u).put oi.dst v' = (a.put oi.dst v').put oj.dst u := (Act.put_comm a v' u a2).symm
      have hset : (listed.setIfInBounds j true).setIfInBounds i true = (listed.setIfInBounds i true).setIfInBounds j true := (Array.setIfInBounds_comm _ _ (Ne.symm hji)).symm
      rw [hcomm, hset]
      have hjun' : (listed.setIfInBounds i true).getD j true = false := by rw [getD_set_ne true (Ne.symm hji)]; exact hjun
      have hgo : Sat (known ops S ((listed.setIfInBounds i true).setIfInBounds j true) ((a.put oi.dst v').put oj.dst u) ++ B) → wpHeadL Pr ops S B md n L fuel ((listed.setIfInBounds i true).setIfInBounds j true) ((a.put oi.dst v').put oj.dst u) := fun hs => by
        obtain ⟨Y2, hY2⟩ := known_mono (S := S) hB hoj hjun' (a.put oi.dst v') u
        have hs1 : Sat (known ops S (listed.setIfInBounds i true) (a.put oi.dst v') ++ B) := hs.sub (Y := Y2) (by
          refine (hY2.append_right B).trans ?_
          rw [List.append_assoc, List.append_assoc]
          exact List.perm_append_comm.append_left _)
        have h3 := ((H v' hv' hs1).2 j (ready_mono hj hji)).2
        unfold lOp at h3
        simp only [hoj] at h3
        obtain ⟨Rj', hyj', hk⟩ := h3
        rw [LYields.put (fun cs b => hsel j oj cs b hoj) a1] at hyj'
        have := LYields.inj hyj hyj'
        subst this
        exact hk u hu
      cases fuel with
      | zero => exact fun hs => hgo hs hs
      | succ fuel => exact fun hs => hgo hs hs

theorem wpHeadL_lex (hB : looseB ops md = true) {n g : Nat} {Lq : Act → Prop} (hsel : Region.noSelect ops = true) (hs : Region.sinkB md ops n = true) (hc : Region.chainB md ops n = true) (hn : n < ops.size) :
    ∀ (l : List Oper) (k : Nat) (listed : Array Bool) (a : Act), (∀ j, j < l.length → l[j]? = ops[k + j]?) → k + l.length = n → HeadInv md ops n listed →
    Region.lexHead md ops g l.length k listed = true → wpLoose Pr ops S B Lq k l a →
    wpHeadL Pr ops S B md n (fun listed' a' => Region.seqB md ops g n listed' = true ∧ Lq a') l.length listed a
  | [], k, listed, a, _, hk, _, hL, h => fun _ => by
    have : k = n := by simpa using hk
    subst this
    exact ⟨by simpa [Region.lexHead] using hL, h⟩
  | o :: l, k, listed, a, hl, hk, inv, hL, h => by
    have h0 : ops[k]? = some o := by simpa using (hl 0 (by simp)).symm
    simp only [List.length_cons, Region.lexHead, Bool.and_eq_true] at hL
    obtain ⟨⟨hr, hf⟩, hL'⟩ := hL
    have hkn : k < n := by simp only [List.length_cons] at hk; omega
    have hr' : k ∈ Region.ready md ops listed := by simpa using hr
    have hrec := fun a' (h' : wpLoose Pr ops S B Lq (k + 1) l a') => wpHeadL_lex hB hsel hs hc hn l (k + 1) (listed.setIfInBounds k true) a' (fun j hj => by have := hl (j + 1) (by simp; omega); simpa [Nat.add_assoc, Nat.add_comm 1 j] using this) (by simp only [List.length_cons] at hk; omega) (inv.set hr' hkn) hL' h'
    obtain ⟨R, hy, hR⟩ := loose_yields h
    exact wpHeadL_first hB h0 (Region.noSelect_spec hsel) hs hc hn hkn (fun listed' a' hL => seqB_ready hL.1) l.length listed a inv (Region.free_spec h0 hf) hr' hy fun v hv => hrec _ (hR v hv)

/-- **The same, where the last operations come up one behind the other: those are walked as they stand.** -/
theorem wp_region_loose_tail {id : Nat} {Q : Exit → Act → World → Prop} {a : Act} {w : World} {l : List Oper} (n : Nat) (S : Nat → Option LSpec) (B : List HProp) (hm : Pr.follows .mixedOrders = true) (hB : (Region.lexTailB .any l.toArray n && looseB l.toArray .any) = true)
    (hC : holds w B) (h : wpLoose Pr l.toArray S B (fun a' => ∀ w', holds w' B → wpList Pr l.toArray Q (l.drop n) a' w') 0 (l.take n) a) : (Code.region id l.toArray true).wp Pr Q a w := by
  simp only [Region.lexTailB, Bool.and_eq_true, decide_eq_true_eq] at hB
  obtain ⟨⟨⟨⟨⟨hsel, hn⟩, hs⟩, hc⟩, hlex⟩, hB⟩ := hB
  have hC' : holds { w with drawn := w.drawn + 1 } B := hC.drew
  have htl : (l.take n).length = n := by have : n < l.length := by simpa using hn
                                         simp; omega
  have hdl : (l.drop n).length = l.toArray.size - n := by simp
  have inv0 : HeadInv .any l.toArray n (Array.replicate l.toArray.size false) :=
    ⟨by simp, fun j oj _ hl => (by rw [getD_replicate_false] at hl; cases hl), fun t _ ht => getD_in (by simpa using ht) (getD_replicate_false _ _)⟩
  have H := wpHeadL_lex (S := S) (B := B) (md := .any) (g := l.toArray.size - n) hB hsel hs hc hn (l.take n) 0 _ a (fun j hj => by
    have hj' : j < n := by rw [htl] at hj; exact hj
    simp [hj']) (by simpa using htl) inv0 (by rw [htl]; exact hlex) h
  refine wp_region_any hm ?_
  have := wpAny_of_headL (Q' := Q) hB (g := l.toArray.size - n) (fun listed a' w' hw' hL => by
    have := wpAny_of_seq (md := .any) (Q' := Q) (l.drop n) n listed a' w' (fun j => by simp [List.getElem?_drop]) (by rw [hdl]; exact hL.1) (hL.2 w' hw')
    rwa [hdl] at this) _ _ _ _ (by rw [known_none]; exact hC') H
  rw [htl, show n + (l.toArray.size - n) = l.toArray.size by omega] at this
  exact this

theorem known_piece {listed : Array Bool} {a : Act} {k : Nat} (hk : k < ops.size) (hl : listed.getD k false = true) : ∃ Y, (known ops S listed a).Perm (pieceAt ops S a k ++ Y) := by
  obtain ⟨Y, hY⟩ := flatMap_sub (fun i => if i = k then pieceAt ops S a k else []) (fun i => if listed.getD i false then pieceAt ops S a i else []) (List.range ops.size) (fun i _ => by
    by_cases h : i = k
    · subst h; right; simp only [if_pos, hl]
    · left; simp [h])
  refine ⟨Y, hY.trans (List.Perm.append_right Y ?_)⟩
  obtain ⟨m, hm⟩ := Nat.exists_eq_add_of_lt hk
  have hsplit : List.range ops.size = List.range k ++ k :: (List.range m).map (fun i => k + 1 + i) := by
    rw [hm, show k + m + 1 = k + (1 + m) by omega, List.range_add, List.range_add]; simp [List.range_succ, Nat.add_assoc]
  rw [hsplit]
  simp only [List.flatMap_append, List.flatMap_cons, if_true]
  have h1 : (List.range k).flatMap (fun i => if i = k then pieceAt ops S a k else []) = [] := List.flatMap_eq_nil_iff.2 fun i hi => by rw [if_neg (Nat.ne_of_lt (List.mem_range.1 hi))]
  have h2 : ((List.range m).map (fun i => k + 1 + i)).flatMap (fun i => if i = k then pieceAt ops S a k else []) = [] := List.flatMap_eq_nil_iff.2 fun i hi => by
    obtain ⟨x, _, rfl⟩ := List.mem_map.1 hi
    rw [if_neg (by omega)]
  rw [h1, h2]
  simp

theorem wpAny_of_headK (hB : looseB ops md = true) {n g : Nat} {L : Array Bool → Act → Prop} {Q' : Exit → Act → World → Prop} (hL : ∀ listed a w, holds w (known ops S listed a ++ B) → L listed a → wpAny Pr md ops Q' g listed a w) :
    ∀ (f : Nat) (listed : Array Bool) (a : Act) (w : World), holds w (known ops S listed a ++ B) → wpHeadL Pr ops S B md n L f listed a → wpAny Pr md ops Q' (f + g) listed a w
  | 0, listed, a, w, hw, h => by rw [Nat.zero_add]; exact hL _ _ _ hw (h ⟨_, hw⟩)
  | f + 1, listed, a, w, hw, h => by
    rw [show f + 1 + g = (f + g) + 1 by omega]
    obtain ⟨h1, h2⟩ := h ⟨_, hw⟩
    refine ⟨fun h0 => absurd h0 h1, fun i hi => ?_⟩
    obtain ⟨_, o, ho, _⟩ := mem_ready.1 hi
    have h3 := (h2 i hi).2
    unfold lOp at h3
    simp only [ho] at h3
    obtain ⟨R, hy, hR⟩ := h3
    obtain ⟨Y, hn, hp⟩ := known_split hB ho hi a hw
    refine hy.run ho hn fun u w' hu hh => ?_
    obtain ⟨Z, hZ⟩ := hp u
    exact wpAny_of_headK hB hL f _ _ w' (hh.perm_drop hZ) (hR u hu)

/-- .. and what operation k has made new is there still, where the first of the last ones waits for it. -/
theorem wp_region_loose_tail_keep {id : Nat} {Q : Exit → Act → World → Prop} {a : Act} {w : World} {l : List Oper} (n k : Nat) (S : Nat → Option LSpec) (B : List HProp) (hm : Pr.follows .mixedOrders = true) (hB : ((Region.lexTailB .any l.toArray n && looseB l.toArray .any) && (Region.waitsFor .any l.toArray n k && decide (k < n))) = true)
    (hC : holds w B) (h : wpLoose Pr l.toArray S B (fun a' => ∀ w', holds w' (pieceAt l.toArray S a' k ++ B) → wpList Pr l.toArray Q (l.drop n) a' w') 0 (l.take n) a) : (Code.region id l.toArray true).wp Pr Q a w := by
  simp only [Region.lexTailB, Bool.and_eq_true, decide_eq_true_eq] at hB
  obtain ⟨⟨⟨⟨⟨⟨hsel, hn⟩, hs⟩, hc⟩, hlex⟩, hB⟩, hwk, hkn⟩ := hB
  have hC' : holds { w with drawn := w.drawn + 1 } B := hC.drew
  have htl : (l.take n).length = n := by have : n < l.length := by simpa using hn
                                         simp; omega
  have hdl : (l.drop n).length = l.toArray.size - n := by simp
  have inv0 : HeadInv .any l.toArray n (Array.replicate l.toArray.size false) :=
    ⟨by simp, fun j oj _ hl => (by rw [getD_replicate_false] at hl; cases hl), fun t _ ht => getD_in (by simpa using ht) (getD_replicate_false _ _)⟩
  have H := wpHeadL_lex (S := S) (B := B) (md := .any) (g := l.toArray.size - n) hB hsel hs hc hn (l.take n) 0 _ a (fun j hj => by
    have hj' : j < n := by rw [htl] at hj; exact hj
    simp [hj']) (by simpa using htl) inv0 (by rw [htl]; exact hlex) h
  refine wp_region_any hm ?_
  have := wpAny_of_headK (Q' := Q) hB (g := l.toArray.size - n) (fun listed a' w' hw' hL => by
    have hk : k < l.toArray.size ∧ listed.getD k false = true := by
      have hsq := hL.1
      obtain ⟨r, hr⟩ : ∃ r, l.toArray.size - n = r + 1 := ⟨l.toArray.size - n - 1, by omega⟩
      rw [hr] at hsq
      simp only [Region.seqB, Bool.and_eq_true, decide_eq_true_eq] at hsq
      have hmem : n ∈ Region.ready .any l.toArray listed := by rw [hsq.1]; exact List.mem_singleton.2 rfl
      obtain ⟨_, o', ho', hall⟩ := mem_ready.1 hmem
      obtain ⟨oj, hoj, e, he, hb, hon⟩ := Region.waitsFor_spec hwk
      rw [ho'] at hoj; cases hoj
      have h1 := hall e he hb
      rw [hon] at h1
      exact ⟨by omega, h1⟩
    obtain ⟨Y, hY⟩ := known_piece (S := S) (a := a') hk.1 hk.2
    have hw2 : holds w' (pieceAt l.toArray S a' k ++ B) := hw'.perm_drop (Z := Y) (by
      refine (hY.append_right B).trans ?_
      rw [List.append_assoc, List.append_assoc]
      exact List.perm_append_comm.append_left _)
    have := wpAny_of_seq (md := .any) (Q' := Q) (l.drop n) n listed a' w' (fun j => by simp [List.getElem?_drop]) (by rw [hdl]; exact hL.1) (hL.2 w' hw2)
    rwa [hdl] at this) _ _ _ _ (by rw [known_none]; exact hC') H
  rw [htl, show n + (l.toArray.size - n) = l.toArray.size by omega] at this
  exact this

/-- One operation at a time, what follows behind a variable: one that yields one value in every world. -/
theorem loose_exact {Q : Act → Prop} {k : Nat} {o : Oper} {rest : List Oper} {a : Act} (hS : S k = none)
    (h : ∀ K : Act → Prop, (∀ a, wpLoose Pr ops S B Q (k + 1) rest a → K a) → if Region.wanted o (yielded ops a.tmps) then ∀ w, holds w B → exactUpon w (fun v => K (a.put o.dst v)) ((execOp a.eval o).run Pr w) else K (a.put o.dst undef)) :
    wpLoose Pr ops S B Q k (o :: rest) a := by
  unfold wpLoose LooseOp
  rw [hS]
  have h1 := h _ (fun _ h => h)
  split at h1
  · rename_i hw
    rw [if_pos hw]
    exact fun w F hh => h1 w ((holds_drop hh).perm_drop (.refl _))
  · rename_i hw
    rw [if_neg hw]
    exact h1
/-- .. one that is not wanted. -/
theorem loose_skip {Q : Act → Prop} {k : Nat} {o : Oper} {rest : List Oper} {a : Act} (hw : Region.wanted o (yielded ops a.tmps) = false) (h : wpLoose Pr ops S B Q (k + 1) rest (a.put o.dst undef)) :
    wpLoose Pr ops S B Q k (o :: rest) a := by
  unfold wpLoose
  rw [hw]
  exact h
/-- .. a call that looks at what was made new: 'L' are the pieces that it needs. -/
theorem loose_call_on {Q : Act → Prop} {k : Nat} {o : Oper} {rest : List Oper} {a : Act} {s : LSpec} (L : List HProp) (hL : needs ops S k o a = L) (hS : S k = some s) (hw : Region.wanted o (yielded ops a.tmps) = true)
    (h1 : ∀ w F, holds w (L ++ (B ++ F)) → looseUpon Pr (fun u w' => s.R u ∧ holds w' (lpieces S k u ++ (L ++ (B ++ F)))) ((execOp a.eval o).run Pr w))
    (h2 : ∀ u, s.R u → wpLoose Pr ops S B Q (k + 1) rest (a.put o.dst u)) :
    wpLoose Pr ops S B Q k (o :: rest) a := by
  unfold wpLoose LooseOp
  rw [hS, hw, hL]
  exact ⟨h1, h2⟩
/-- .. a call that looks at nothing new. -/
theorem loose_call {Q : Act → Prop} {k : Nat} {o : Oper} {rest : List Oper} {a : Act} {s : LSpec} (hS : S k = some s) (hw : Region.wanted o (yielded ops a.tmps) = true)
    (h1 : ∀ w F, holds w (B ++ F) → looseUpon Pr (fun u w' => s.R u ∧ holds w' (lpieces S k u ++ (B ++ F))) ((execOp a.eval o).run Pr w))
    (h2 : ∀ u, s.R u → wpLoose Pr ops S B Q (k + 1) rest (a.put o.dst u)) :
    wpLoose Pr ops S B Q k (o :: rest) a := by
  refine loose_call_on _ rfl hS hw (fun w F hh => ?_) h2
  have p : (needs ops S k o a ++ (B ++ F)).Perm (B ++ (needs ops S k o a ++ F)) := by
    rw [← List.append_assoc, ← List.append_assoc]
    exact List.perm_append_comm.append_right F
  have h4 := h1 w (needs ops S k o a ++ F) (hh.perm p)
  generalize (execOp a.eval o).run Pr w = r at h4 ⊢
  cases r with
  | ok n w' =>
    cases n <;> simp only [looseUpon] at h4 ⊢
    · exact ⟨h4.1, h4.2.perm (p.symm.append_left _)⟩
    · exact ⟨h4.1, h4.2.perm (p.symm.append_left _)⟩
    · exact h4.mono fun e w'' ⟨u, he, hu, hh⟩ => ⟨u, he, hu, hh.perm (p.symm.append_left _)⟩
  | halt x w' => simp only [looseUpon] at h4
/-- What a callee's contract gives at such a call: one value, nothing new. -/
theorem loose_val {f : FuncId} {args : Array Value} {w : World} {s : LSpec} {k : Nat} {L : List HProp} {v : Value} (h : Calls Pr f args w fun e w' => e = .returned v ∧ holds w' L) (hR : s.R v) (hN : lpieces S k v = []) :
    Calls Pr f args w fun e w'' => ∃ u, e = .returned u ∧ s.R u ∧ holds w'' (lpieces S k u ++ L) :=
  h.mono fun e w' ⟨he, hh⟩ => ⟨v, he, hR, by rw [hN]; exact hh⟩
theorem loose_nil {Q : Act → Prop} {k : Nat} {a : Act} (h : Q a) : wpLoose Pr ops S B Q k [] a := h
/-- The same walk behind a seal: what is not yet walked is not unfolded. -/
structure Sealed (p : Prop) : Prop where
  out : p
theorem loose_seal {p : Prop} (h : Sealed p) : p := h.out
theorem sealed_exact {Q : Act → Prop} {k : Nat} {o : Oper} {rest : List Oper} {a : Act} (hS : S k = none)
    (h : ∀ K : Act → Prop, (∀ a, Sealed (wpLoose Pr ops S B Q (k + 1) rest a) → K a) → if Region.wanted o (yielded ops a.tmps) then ∀ w, holds w B → exactUpon w (fun v => K (a.put o.dst v)) ((execOp a.eval o).run Pr w) else K (a.put o.dst undef)) :
    Sealed (wpLoose Pr ops S B Q k (o :: rest) a) := ⟨loose_exact hS fun K hK => h K fun a ha => hK a ha.out⟩
theorem sealed_skip {Q : Act → Prop} {k : Nat} {o : Oper} {rest : List Oper} {a : Act} (hw : Region.wanted o (yielded ops a.tmps) = false) (h : Sealed (wpLoose Pr ops S B Q (k + 1) rest (a.put o.dst undef))) :
    Sealed (wpLoose Pr ops S B Q k (o :: rest) a) := ⟨loose_skip hw h.out⟩
theorem sealed_call_on {Q : Act → Prop} {k : Nat} {o : Oper} {rest : List Oper} {a : Act} {s : LSpec} (L : List HProp) (hL : needs ops S k o a = L) (hS : S k = some s) (hw : Region.wanted o (yielded ops a.tmps) = true)
    (h1 : ∀ w F, holds w (L ++ (B ++ F)) → looseUpon Pr (fun u w' => s.R u ∧ holds w' (lpieces S k u ++ (L ++ (B ++ F)))) ((execOp a.eval o).run Pr w))
    (h2 : ∀ u, s.R u → Sealed (wpLoose Pr ops S B Q (k + 1) rest (a.put o.dst u))) :
    Sealed (wpLoose Pr ops S B Q k (o :: rest) a) := ⟨loose_call_on L hL hS hw h1 fun u hu => (h2 u hu).out⟩
theorem sealed_call {Q : Act → Prop} {k : Nat} {o : Oper} {rest : List Oper} {a : Act} {s : LSpec} (hS : S k = some s) (hw : Region.wanted o (yielded ops a.tmps) = true)
    (h1 : ∀ w F, holds w (B ++ F) → looseUpon Pr (fun u w' => s.R u ∧ holds w' (lpieces S k u ++ (B ++ F))) ((execOp a.eval o).run Pr w))
    (h2 : ∀ u, s.R u → Sealed (wpLoose Pr ops S B Q (k + 1) rest (a.put o.dst u))) :
    Sealed (wpLoose Pr ops S B Q k (o :: rest) a) := ⟨loose_call hS hw h1 fun u hu => (h2 u hu).out⟩
theorem sealed_nil {Q : Act → Prop} {k : Nat} {a : Act} (h : Q a) : Sealed (wpLoose Pr ops S B Q k [] a) := ⟨h⟩
end
end Go.Proofs.YtpkohkkkbnfigaaDoor
