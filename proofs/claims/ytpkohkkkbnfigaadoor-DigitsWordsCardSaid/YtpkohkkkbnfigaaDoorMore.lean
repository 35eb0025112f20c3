/- A region that draws its order: an operation that only moves a value may be taken to stand ahead of another one that need not wait for it; then the head by one walk, the tail as it stands, whatever pieces the head has made. -/
import Derived.Test.YtpkohkkkbnfigaaDoorBar
namespace Go.Proofs.YtpkohkkkbnfigaaDoor
open Go Go.RowKit
set_option linter.unusedVariables false

def pureOp (o : Oper) : Bool := match o.op with | .move _ | .assign _ | .extract .. => true | _ => false
theorem pure_exec {o : Oper} (h : pureOp o = true) (ρ : Operand → Value) : (∃ v, execOp ρ o = pure (Next.value v)) ∨ ∃ m, execOp ρ o = Next.value <$> (stuck m : Sem Value) := by
  unfold execOp
  cases ho : o.op <;> simp [pureOp, ho] at h
  case extract t i =>
    dsimp only
    unfold Instr.extract
    split
    · split
      · exact .inl ⟨_, rfl⟩
      · exact .inr ⟨_, rfl⟩
    · exact .inr ⟨_, rfl⟩
  all_goals exact .inl ⟨_, rfl⟩
theorem pure_asks {P : Program} {o : Oper} (h : pureOp o = true) (a : Act) (w : World) : ¬ o.asks P a w := by
  unfold Oper.asks
  rintro ⟨h1, -⟩
  rcases pure_exec h a.eval with ⟨v, e⟩ | ⟨m, e⟩
  · rw [e] at h1
    have : (Sem.runT P (pure (Next.value v)) w #[]).2 = #[] := rfl
    rw [this] at h1
    simp at h1
  · rw [e] at h1
    have : (Sem.runT P (Next.value <$> (stuck m : Sem Value)) w #[]).2 = #[] := rfl
    rw [this] at h1
    simp at h1
theorem pure_run {P : Program} {o : Oper} (h : pureOp o = true) (a : Act) {w : World} {K : Act → World → Prop} {Q} (hw : o.wp P a w K Q) : ∃ v, (∀ w, (execOp a.eval o).run P w = .ok (.value v) w) ∧ K (a.put o.dst v) w := by
  unfold Oper.wp at hw
  rcases pure_exec h a.eval with ⟨v, e⟩ | ⟨m, e⟩
  · rw [e] at hw ⊢
    exact ⟨v, fun _ => rfl, hw⟩
  · rw [e] at hw
    exact hw.elim

/-! ### Operations that are the same but for what they wait for -/
def bare (o : Oper) : Oper := { o with after := #[] }
def Alike (ops ops' : Array Oper) : Prop := ∀ j : Nat, (ops[j]?).map bare = (ops'[j]?).map bare
theorem Alike.dst {ops ops' : Array Oper} (h : Alike ops ops') (j : Nat) : (ops[j]?).bind (·.dst) = (ops'[j]?).bind (·.dst) := by
  have := congrArg (fun x => x.bind (·.dst)) (h j)
  simp only [Option.bind_map] at this
  exact this
theorem bare_exec (o : Oper) (ρ : Operand → Value) : execOp ρ (bare o) = execOp ρ o := rfl
theorem bare_eq {o o' : Oper} (h : bare o = bare o') : o.dst = o'.dst ∧ o.guard = o'.guard ∧ o.op = o'.op ∧ ∀ ρ, execOp ρ o = execOp ρ o' := by
  have h' := h
  unfold bare at h'
  injection h' with h1 h2 h3 h4 h5 h6
  refine ⟨h1, h6, h2, fun ρ => ?_⟩
  rw [← bare_exec, h, bare_exec]
theorem Alike.yielded {ops ops' : Array Oper} (h : Alike ops ops') (tmps : Array Value) : yielded ops tmps = yielded ops' tmps := by
  funext j
  unfold Go.yielded
  rw [h.dst j]
theorem Alike.wanted {o o' : Oper} (h : bare o = bare o') (f : Nat → Option Bool) : Region.wanted o f = Region.wanted o' f := by
  unfold Region.wanted
  rw [(bare_eq h).2.1]
theorem Alike.wp {P : Program} {o o' : Oper} (h : bare o = bare o') (a : Act) (w : World) (K : Act → World → Prop) (Q : Exit → Act → World → Prop) : o.wp P a w K Q = o'.wp P a w K Q := by
  unfold Oper.wp
  rw [(bare_eq h).2.2.2]
  unfold Oper.upon
  rw [(bare_eq h).1]
theorem Alike.asks {P : Program} {o o' : Oper} (h : bare o = bare o') (a : Act) (w : World) : o.asks P a w = o'.asks P a w := by
  unfold Oper.asks
  rw [(bare_eq h).2.2.2]
theorem Alike.get {ops ops' : Array Oper} (h : Alike ops ops') {j : Nat} {o : Oper} (hj : ops[j]? = some o) : ∃ o', ops'[j]? = some o' ∧ bare o = bare o' := by
  have := h j
  rw [hj] at this
  cases ho : ops'[j]? with
  | none => rw [ho] at this; cases this
  | some o' => rw [ho] at this; exact ⟨o', rfl, Option.some.inj this⟩
theorem Alike.symm {ops ops' : Array Oper} (h : Alike ops ops') : Alike ops' ops := fun j => (h j).symm
theorem Alike.trans {ops ops' ops'' : Array Oper} (h : Alike ops ops') (h' : Alike ops' ops'') : Alike ops ops'' := fun j => (h j).trans (h' j)
theorem Alike.wpOp {P : Program} {ops ops' : Array Oper} (h : Alike ops ops') {Q : Exit → Act → World → Prop} {i : Nat} {K : Act → World → Prop} {a : Act} {w : World} (hw : wpOp P ops Q i K a w) : wpOp P ops' Q i K a w := by
  unfold Go.wpOp at *
  cases hi : ops[i]? with
  | none =>
    have : ops'[i]? = none := by
      have := h i
      rw [hi] at this
      cases ho : ops'[i]? with
      | none => rfl
      | some o => rw [ho] at this; cases this
    rw [hi] at hw
    rw [this]
    exact hw
  | some o =>
    obtain ⟨o', ho', hb⟩ := h.get hi
    rw [hi] at hw
    rw [ho']
    dsimp only at hw ⊢
    rw [← Alike.wanted hb, ← h.yielded, ← Alike.wp hb, ← Alike.asks hb, ← (bare_eq hb).1]
    exact hw
theorem Alike.looksAt {ops ops' : Array Oper} (h : Alike ops ops') {o o' : Oper} (hb : bare o = bare o') : o.looksAt ops = o'.looksAt ops' := by
  unfold Oper.looksAt
  rw [(bare_eq hb).2.2.1, (bare_eq hb).2.1]
  split
  · rw [h.dst]
  · rfl
theorem Alike.needs {ops ops' : Array Oper} (h : Alike ops ops') (S : Nat → Option LSpec) {k : Nat} {o o' : Oper} (hb : bare o = bare o') (a : Act) : needs ops S k o a = needs ops' S k o' a := by
  unfold Go.Proofs.YtpkohkkkbnfigaaDoor.needs
  congr 1
  funext i
  unfold sees pieceAt
  rw [h.dst i, h.looksAt hb]
def Alike2 : List Oper → List Oper → Prop
  | [], [] => True
  | o :: l, o' :: l' => bare o = bare o' ∧ Alike2 l l'
  | _, _ => False
theorem Alike.loose {P : Program} {ops ops' : Array Oper} (h : Alike ops ops') {S : Nat → Option LSpec} {B : List HProp} {Q Q' : Act → Prop} (hQ : ∀ a, Q a → Q' a) : ∀ (l l' : List Oper) (k : Nat) (a : Act), Alike2 l l' → wpLoose P ops S B Q k l a → wpLoose P ops' S B Q' k l' a
  | [], [], k, a, _, hw => hQ _ hw
  | o :: l, o' :: l', k, a, ⟨hb, hl⟩, hw => by
    unfold wpLoose at hw ⊢
    rw [← Alike.wanted hb, ← h.yielded]
    have ih := fun a => Alike.loose h (P := P) (S := S) (B := B) hQ l l' (k + 1) a hl
    split
    · rename_i hwa
      rw [if_pos hwa] at hw
      unfold LooseOp at hw ⊢
      rw [← (bare_eq hb).1, ← h.needs S hb, ← (bare_eq hb).2.2.2]
      cases hS : S k with
      | none =>
        rw [hS] at hw
        dsimp only at hw ⊢
        exact fun w F hF => exactUpon_mono (hw w F hF) fun v _ hv => ih _ hv
      | some s =>
        rw [hS] at hw
        dsimp only at hw ⊢
        exact ⟨hw.1, fun u hu => ih _ (hw.2 u hu)⟩
    · rename_i hwa
      rw [if_neg hwa] at hw
      rw [← (bare_eq hb).1]
      exact ih _ hw
  | [], _ :: _, _, _, h, _ => h.elim
  | _ :: _, [], _, _, h, _ => h.elim
theorem Alike.list {P : Program} {ops ops' : Array Oper} (h : Alike ops ops') {Q : Exit → Act → World → Prop} : ∀ (l l' : List Oper) (a : Act) (w : World), Alike2 l l' → wpList P ops Q l a w → wpList P ops' Q l' a w
  | [], [], a, w, _, hw => hw
  | o :: l, o' :: l', a, w, ⟨hb, hl⟩, hw => by
    unfold wpList at hw ⊢
    rw [← Alike.wanted hb, ← h.yielded]
    have ih := fun a w => Alike.list h (P := P) (Q := Q) l l' a w hl
    split
    · rename_i hwa
      rw [if_pos hwa] at hw
      rw [← Alike.wp hb, ← Alike.asks hb]
      exact hw.imp (Oper.wp_mono ih) id
    · rename_i hwa
      rw [if_neg hwa] at hw
      rw [← (bare_eq hb).1]
      exact ih _ _ hw
  | [], _ :: _, _, _, h, _ => h.elim
  | _ :: _, [], _, _, h, _ => h.elim

/-! ### One wait more -/
def addEdge (t z : Nat) (ops : Array Oper) : Array Oper := ops.modify t fun o => { o with after := o.after.push ⟨z, .data⟩ }
theorem addEdge_alike (t z : Nat) (ops : Array Oper) : Alike (addEdge t z ops) ops := fun j => by
  unfold addEdge
  rw [Array.getElem?_modify]
  split
  · cases ops[j]? <;> rfl
  · rfl
def freeR (md : Region.Mode) (ops : Array Oper) (z : Nat) : Bool :=
  match ops[z]? with
  | none => false
  | some oz => (List.range ops.size).all fun j => j == z || oz.after.any (fun e => Region.binds md e && e.on == j) || match ops[j]? with
    | some oj => oj.after.any (fun e => Region.binds md e && e.on == z) || oz.apart ops oj
    | none => true
theorem free_ready {md : Region.Mode} {ops : Array Oper} {listed : Array Bool} {i : Nat} (h : freeR md ops i = true) (hr : i ∈ Region.ready md ops listed) : Region.free md ops listed i = true := by
  unfold freeR at h
  unfold Region.free
  obtain ⟨_, oi, hi, hall⟩ := mem_ready.1 hr
  rw [hi] at h ⊢
  dsimp only at h ⊢
  rw [List.all_eq_true] at h ⊢
  intro j hj
  have := h j hj
  simp only [Bool.or_eq_true] at this ⊢
  rcases this with (h1 | h1) | h1
  · exact .inl (.inl h1)
  · rw [Array.any_eq_true] at h1
    obtain ⟨x, hx, h2⟩ := h1
    simp only [Bool.and_eq_true, beq_iff_eq] at h2
    have h3 := hall _ (Array.getElem_mem hx) h2.1
    rw [h2.2] at h3
    refine .inl (.inr ?_)
    rcases Nat.lt_or_ge j listed.size with h' | h'
    · simp [h'] at h3 ⊢; exact h3
    · simp [Array.getElem?_eq_none h']
  · exact .inr h1
def moreB (md : Region.Mode) (ops : Array Oper) (t z : Nat) : Bool :=
  Region.noSelect ops && (t != z) && Region.binds md ⟨z, .data⟩ && match ops[z]?, ops[t]? with
  | some oz, some ot => pureOp oz && (oz.after.all fun e => !Region.binds md e || ot.after.any fun e' => Region.binds md e' && e'.on == e.on) && freeR md ops z
  | _, _ => false
theorem ready_addEdge {md : Region.Mode} {ops : Array Oper} {listed : Array Bool} {t z j : Nat} (hb : Region.binds md ⟨z, .data⟩ = true) :
    j ∈ Region.ready md (addEdge t z ops) listed ↔ j ∈ Region.ready md ops listed ∧ (j = t → listed.getD z false = true) := by
  rw [mem_ready, mem_ready]
  unfold addEdge
  rw [Array.getElem?_modify]
  by_cases hjt : t = j
  · subst hjt
    rw [if_pos rfl]
    constructor
    · rintro ⟨h1, o, ho, h2⟩
      rw [Option.map_eq_some_iff] at ho
      obtain ⟨o', ho', rfl⟩ := ho
      exact ⟨⟨h1, o', ho', fun e he hbe => h2 e (by simp [he]) hbe⟩, fun _ => h2 ⟨z, .data⟩ (by simp) hb⟩
    · rintro ⟨⟨h1, o, ho, h2⟩, h3⟩
      refine ⟨h1, _, by rw [ho]; rfl, fun e he hbe => ?_⟩
      dsimp only at he
      rcases Array.mem_push.1 he with he | rfl
      · exact h2 e he hbe
      · exact h3 rfl
  · rw [if_neg hjt]
    exact ⟨fun h => ⟨h, fun e => absurd e.symm hjt⟩, fun h => h.1⟩

section
variable {P : Program} {ops : Array Oper} {Q : Exit → Act → World → Prop} {md : Region.Mode}
theorem wpAny_more {t z : Nat} (h : moreB md ops t z = true) (hQ : ∀ c a d v w, Q (.panic c) (a.put d v) w → Q (.panic c) a w) :
    ∀ (f : Nat) (listed : Array Bool) (a : Act) (w : World), listed.size = ops.size → wpAny P md (addEdge t z ops) Q f listed a w → wpAny P md ops Q f listed a w := by
  unfold moreB at h
  cases hz : ops[z]? with
  | none => rw [hz] at h; simp at h
  | some oz =>
  cases ht : ops[t]? with
  | none => rw [hz, ht] at h; simp at h
  | some ot =>
  rw [hz, ht] at h
  simp only [Bool.and_eq_true, bne_iff_ne, ne_eq] at h
  obtain ⟨⟨⟨hsel, htz⟩, hb⟩, ⟨hp, hdeps⟩, hfree⟩ := h
  have alk := addEdge_alike t z ops
  have hzs : z < ops.size := (Array.getElem?_eq_some_iff.1 hz).1
  -- where z is not ready, one is ready here as there
  have key : ∀ (listed : Array Bool) j, listed.size = ops.size → z ∉ Region.ready md ops listed → j ∈ Region.ready md ops listed → j ∈ Region.ready md (addEdge t z ops) listed := fun listed j hsz hnz hj => by
    rw [ready_addEdge hb]
    refine ⟨hj, fun e => ?_⟩
    subst e
    cases hl : listed.getD z true with
    | false =>
      exfalso
      refine hnz (mem_ready.2 ⟨hl, oz, hz, fun e he hbe => ?_⟩)
      have h1 := Array.all_eq_true_iff_forall_mem.1 hdeps e he
      rw [hbe] at h1
      simp only [Bool.not_true, Bool.false_or] at h1
      rw [Array.any_eq_true] at h1
      obtain ⟨x, hx, h2⟩ := h1
      simp only [Bool.and_eq_true, beq_iff_eq] at h2
      obtain ⟨_, o', ho', hall⟩ := mem_ready.1 hj
      rw [ht] at ho'
      cases ho'
      rw [← h2.2]
      exact hall _ (Array.getElem_mem hx) h2.1
    | true =>
      have h' : z < listed.size := by omega
      simp [h'] at hl ⊢
      exact hl
  have nil : ∀ (listed : Array Bool), listed.size = ops.size → Region.ready md (addEdge t z ops) listed = [] → Region.ready md ops listed = [] := fun listed hsz hr => by
    by_cases hzr : z ∈ Region.ready md ops listed
    · have : z ∈ Region.ready md (addEdge t z ops) listed := (ready_addEdge hb).2 ⟨hzr, fun e => absurd e.symm htz⟩
      rw [hr] at this
      cases this
    · refine List.eq_nil_iff_forall_not_mem.2 fun j hj => ?_
      have := key listed j hsz hzr hj
      rw [hr] at this
      cases this
  intro f
  induction f with
  | zero => exact fun listed a w hsz hw => ⟨nil listed hsz hw.1, hw.2⟩
  | succ f ih =>
    intro listed a w hsz hw
    obtain ⟨h1, h2⟩ := hw
    by_cases hzr : z ∈ Region.ready md ops listed
    · have h3 := alk.wpOp (h2 z ((ready_addEdge hb).2 ⟨hzr, fun e => absurd e.symm htz⟩))
      unfold wpOp at h3
      rw [hz] at h3
      dsimp only at h3
      split at h3
      · rename_i hwa
        have h4 := h3.resolve_right fun h => pure_asks hp a w h.1
        obtain ⟨v, hv, hk⟩ := pure_run hp a h4
        exact wpAny_take hz hsel (free_ready hfree hzr) (by simpa using hzr) (fun c a w => hQ c a _ _ w) (.inl ⟨hwa, hv⟩) (ih _ _ _ (by simpa using hsz) hk)
      · rename_i hwa
        exact wpAny_take hz hsel (free_ready hfree hzr) (by simpa using hzr) (fun c a w => hQ c a _ _ w) (.inr ⟨by simpa using hwa, rfl⟩) (ih _ _ _ (by simpa using hsz) h3)
    · refine ⟨fun h0 => h1 ?_, fun i hi => ?_⟩
      · refine List.eq_nil_iff_forall_not_mem.2 fun j hj => ?_
        have := ((ready_addEdge hb).1 hj).1
        rw [h0] at this
        cases this
      · have h3 := alk.wpOp (h2 i (key listed i hsz hzr hi))
        exact wpOp_mono (fun a w hh => ih _ _ _ (by simpa using hsz) hh) h3

def moreOps : List (Nat × Nat) → Array Oper → Array Oper
  | [], ops => ops
  | e :: ex, ops => moreOps ex (addEdge e.1 e.2 ops)
def moresB (md : Region.Mode) : List (Nat × Nat) → Array Oper → Bool
  | [], _ => true
  | e :: ex, ops => moreB md ops e.1 e.2 && moresB md ex (addEdge e.1 e.2 ops)
theorem moreOps_alike : ∀ (ex : List (Nat × Nat)) (ops : Array Oper), Alike (moreOps ex ops) ops
  | [], _ => fun _ => rfl
  | e :: ex, ops => (moreOps_alike ex _).trans (addEdge_alike e.1 e.2 ops)
theorem moreOps_size : ∀ (ex : List (Nat × Nat)) (ops : Array Oper), (moreOps ex ops).size = ops.size
  | [], _ => rfl
  | e :: ex, ops => (moreOps_size ex _).trans (by simp [addEdge])
theorem wpAny_mores (hQ : ∀ c a d v w, Q (.panic c) (a.put d v) w → Q (.panic c) a w) (f : Nat) (listed : Array Bool) (a : Act) (w : World) : ∀ (ex : List (Nat × Nat)) (ops : Array Oper), moresB md ex ops = true → listed.size = ops.size → wpAny P md (moreOps ex ops) Q f listed a w → wpAny P md ops Q f listed a w
  | [], _, _, _, h => h
  | e :: ex, ops, hB, hs, h => by
    unfold moresB at hB
    rw [Bool.and_eq_true] at hB
    exact wpAny_more hB.1 hQ f listed a w hs (wpAny_mores hQ f listed a w ex _ hB.2 (by simpa [addEdge] using hs) h)
theorem Alike2.of : ∀ (l l' : List Oper), (∀ j : Nat, (l[j]?).map bare = (l'[j]?).map bare) → Alike2 l l'
  | [], [], _ => trivial
  | o :: l, o' :: l', h => ⟨by simpa using h 0, Alike2.of l l' fun j => by simpa using h (j + 1)⟩
  | [], o' :: l', h => by have := h 0; simp at this
  | o :: l, [], h => by have := h 0; simp at this
theorem Alike2.take {l l' : List Oper} (h : ∀ j : Nat, (l[j]?).map bare = (l'[j]?).map bare) (n : Nat) : Alike2 (l.take n) (l'.take n) := Alike2.of _ _ fun j => by
  rw [List.getElem?_take, List.getElem?_take]
  split
  · exact h j
  · rfl
theorem Alike2.drop {l l' : List Oper} (h : ∀ j : Nat, (l[j]?).map bare = (l'[j]?).map bare) (n : Nat) : Alike2 (l.drop n) (l'.drop n) := Alike2.of _ _ fun j => by
  rw [List.getElem?_drop, List.getElem?_drop]
  exact h _
theorem Alike.piece {ops ops' : Array Oper} (h : Alike ops ops') (S : Nat → Option LSpec) (a : Act) (k : Nat) : pieceAt ops S a k = pieceAt ops' S a k := by
  unfold pieceAt
  rw [h.dst k]

theorem sublist_flatMap {α : Type} {β : Type} (g : α → List β) : ∀ {ks l : List α}, ks.Sublist l → ∃ Y, (l.flatMap g).Perm (ks.flatMap g ++ Y)
  | _, _, .slnil => ⟨[], by simp⟩
  | ks, x :: l, .cons _ h => by
    obtain ⟨Y, hY⟩ := sublist_flatMap g h
    refine ⟨g x ++ Y, ?_⟩
    rw [List.flatMap_cons, ← List.append_assoc]
    refine (hY.append_left (g x)).trans ?_
    rw [← List.append_assoc]
    exact List.perm_append_comm.append_right _
  | x :: ks, _ :: l, .cons_cons _ h => by
    obtain ⟨Y, hY⟩ := sublist_flatMap g h
    refine ⟨Y, ?_⟩
    rw [List.flatMap_cons, List.flatMap_cons, List.append_assoc]
    exact hY.append_left _
theorem known_pieces {S : Nat → Option LSpec} {listed : Array Bool} {a : Act} {ks : List Nat} (hs : ks.Sublist (List.range ops.size)) (hl : ∀ k ∈ ks, listed.getD k false = true) :
    ∃ Y, (known ops S listed a).Perm (ks.flatMap (pieceAt ops S a) ++ Y) := by
  obtain ⟨Y, hY⟩ := sublist_flatMap (fun i => if listed.getD i false then pieceAt ops S a i else []) hs
  refine ⟨Y, ?_⟩
  have : ks.flatMap (fun i => if listed.getD i false then pieceAt ops S a i else []) = ks.flatMap (pieceAt ops S a) := flatMap_congr' fun i hi => by rw [hl i hi]; rfl
  rw [← this]
  exact hY

def onlyN (Q : Exit → Act → World → Prop) : Exit → Act → World → Prop
  | .normal, a, w => Q .normal a w
  | _, _, _ => False
theorem onlyN_in {a : Act} {w : World} (h : Q .normal a w) : onlyN Q .normal a w := h
theorem onlyN_le {e : Exit} {a : Act} {w : World} (h : onlyN Q e a w) : Q e a w := by
  cases e <;> first | exact h | exact h.elim
theorem Oper.wp_only {o : Oper} {a : Act} {w : World} {K K' : Act → World → Prop} (hK : ∀ a w, K a w → K' a w) (h : o.wp P a w K (onlyN Q)) : o.wp P a w K' Q := by
  unfold Oper.wp at *
  generalize (execOp a.eval o).run P w = r at *
  cases r with
  | ok n w' =>
    cases n
    case value v => exact hK _ _ h
    case skip => exact hK _ _ h
    case defer d => exact hK _ _ h
    case enter f args =>
      rw [Oper.upon_enter] at h ⊢
      refine h.mono fun e w'' he => ?_
      cases e
      case returned v => exact hK _ _ he
      case panicked c => exact he.elim
      case outgrown => obtain ⟨a, w, h⟩ := he; exact h.elim
    case row r args =>
      rw [Oper.upon_row] at h ⊢
      exact h.mono fun v w'' h => hK _ _ h
    all_goals exact h
  | halt x w' =>
    cases x
    case panic v => exact h.elim
    all_goals exact h
theorem wpOp_only {i : Nat} {a : Act} {w : World} {K K' : Act → World → Prop} (hK : ∀ a w, K a w → K' a w) (h : wpOp P ops (onlyN Q) i K a w) : wpOp P ops Q i K' a w := by
  unfold wpOp at *
  cases hi : ops[i]? with
  | none => rw [hi] at h; exact hK _ _ h
  | some o =>
    rw [hi] at h
    dsimp only at h ⊢
    split
    · rename_i hw
      rw [if_pos hw] at h
      rcases h with h | ⟨_, a, w, h⟩
      · exact .inl (Oper.wp_only hK h)
      · exact h.elim
    · rename_i hw
      rw [if_neg hw] at h
      exact hK _ _ h
theorem wpAny_only : ∀ (f : Nat) (listed : Array Bool) (a : Act) (w : World), wpAny P md ops (onlyN Q) f listed a w → wpAny P md ops Q f listed a w
  | 0, _, _, _, h => h
  | f + 1, listed, a, w, h => ⟨fun h0 => h.1 h0, fun i hi => wpOp_only (fun a w => wpAny_only f _ a w) (h.2 i hi)⟩

/-- **The head (the first n operations) by one walk, the tail (one behind the other) as it stands; ex: waits more; ks: the operations whose pieces are wanted behind.** -/
theorem wp_region_tail {id : Nat} {a : Act} {w : World} {l : List Oper} (n : Nat) (ex : List (Nat × Nat)) (ks : List Nat) (S : Nat → Option LSpec) (B : List HProp) (hm : P.follows .mixedOrders = true)
    (hB : ((Region.lexTailB .any (moreOps ex l.toArray) n && looseB (moreOps ex l.toArray) .any) && (moresB .any ex l.toArray && (ks.isSublist (List.range n) && ks.all fun k => Region.waitsFor .any (moreOps ex l.toArray) n k))) = true)
    (hC : holds w B) (h : wpLoose P l.toArray S B (fun a' => ∀ w', holds w' (ks.flatMap (pieceAt l.toArray S a') ++ B) → wpList P l.toArray (onlyN Q) (l.drop n) a' w') 0 (l.take n) a) : (Code.region id l.toArray true).wp P Q a w := by
  rw [Bool.and_eq_true, Bool.and_eq_true (moresB _ _ _), Bool.and_eq_true (ks.isSublist _)] at hB
  obtain ⟨hB, hmo, hks, hkw⟩ := hB
  have alk := (moreOps_alike ex l.toArray).symm
  have hsz := moreOps_size ex l.toArray
  generalize hops : moreOps ex l.toArray = ops' at hB alk hsz hkw
  obtain ⟨l', rfl⟩ : ∃ l' : List Oper, ops' = l'.toArray := ⟨ops'.toList, by simp⟩
  have hll : ∀ j : Nat, (l[j]?).map bare = (l'[j]?).map bare := fun j => by simpa using alk j
  have h' : wpLoose P l'.toArray S B (fun a' => ∀ w', holds w' (ks.flatMap (pieceAt l'.toArray S a') ++ B) → wpList P l'.toArray (onlyN Q) (l'.drop n) a' w') 0 (l'.take n) a := by
    refine alk.loose (fun a' ha' w' hw' => alk.list _ _ _ _ (Alike2.drop hll n) (ha' w' ?_)) _ _ _ _ (Alike2.take hll n) h
    rw [funext (alk.piece S a')]
    exact hw'
  clear h
  simp only [Region.lexTailB, Bool.and_eq_true, decide_eq_true_eq] at hB
  obtain ⟨⟨⟨⟨⟨hsel, hn⟩, hs⟩, hc⟩, hlex⟩, hB⟩ := hB
  have hC' : holds { w with drawn := w.drawn + 1 } B := hC.drew
  have htl : (l'.take n).length = n := by have : n < l'.length := by simpa using hn
                                          simp; omega
  have hdl : (l'.drop n).length = l'.toArray.size - n := by simp
  have inv0 : HeadInv .any l'.toArray n (Array.replicate l'.toArray.size false) :=
    ⟨by simp, fun j oj _ hl => (by rw [getD_replicate_false] at hl; cases hl), fun t _ ht => getD_in (by simpa using ht) (getD_replicate_false _ _)⟩
  have H := wpHeadL_lex (S := S) (B := B) (md := .any) (g := l'.toArray.size - n) hB hsel hs hc hn (l'.take n) 0 _ a (fun j hj => by
    have hj' : j < n := by rw [htl] at hj; exact hj
    simp [hj']) (by simpa using htl) inv0 (by rw [htl]; exact hlex) h'
  refine wp_region_any hm ?_
  refine wpAny_only _ _ _ _ ?_
  refine wpAny_mores (fun _ _ _ _ _ h => h) _ _ _ _ ex _ hmo (by simp) ?_
  rw [hops, ← hsz]
  have := wpAny_of_headK (Q' := onlyN Q) hB (g := l'.toArray.size - n) (fun listed a' w' hw' hL => by
    have hk : ∀ k ∈ ks, listed.getD k false = true := fun k hk => by
      have hsq := hL.1
      obtain ⟨r, hr⟩ : ∃ r, l'.toArray.size - n = r + 1 := ⟨l'.toArray.size - n - 1, by omega⟩
      rw [hr] at hsq
      simp only [Region.seqB, Bool.and_eq_true, decide_eq_true_eq] at hsq
      have hmem : n ∈ Region.ready .any l'.toArray listed := by rw [hsq.1]; exact List.mem_singleton.2 rfl
      obtain ⟨_, o', ho', hall⟩ := mem_ready.1 hmem
      obtain ⟨oj, hoj, e, he, hb, hon⟩ := Region.waitsFor_spec (List.all_eq_true.1 hkw k hk)
      rw [ho'] at hoj; cases hoj
      have h1 := hall e he hb
      rw [hon] at h1
      exact h1
    have hsub : ks.Sublist (List.range l'.toArray.size) := (List.isSublist_iff_sublist.1 hks).trans (List.range_sublist.2 (by omega))
    obtain ⟨Y, hY⟩ := known_pieces (S := S) (a := a') hsub hk
    have hw2 : holds w' (ks.flatMap (pieceAt l'.toArray S a') ++ B) := hw'.perm_drop (Z := Y) (by
      refine (hY.append_right B).trans ?_
      rw [List.append_assoc, List.append_assoc]
      exact List.perm_append_comm.append_left _)
    have := wpAny_of_seq (md := .any) (Q' := onlyN Q) (l'.drop n) n listed a' w' (fun j => by simp [List.getElem?_drop]) (by rw [hdl]; exact hL.1) (hL.2 w' hw2)
    rwa [hdl] at this) _ _ _ _ (by rw [known_none]; exact hC') H
  rw [htl, show n + (l'.toArray.size - n) = l'.toArray.size by omega] at this
  exact this

/-- The head, one operation that waits for nothing being taken ahead of all: the rest one by one, or by one walk ('wpAny_one', 'wpAny_rest2'). -/
theorem wp_region_cut2 {id : Nat} {a : Act} {w : World} {l : List Oper} (n p g : Nat) {op : Oper} {v : Value} (S : Nat → Option LSpec) (B : List HProp) (hm : P.follows .mixedOrders = true) (hp : l.toArray[p]? = some op)
    (hB : ((headB .any l.toArray n (listPre l.toArray.size [p]) && looseB l.toArray .any) && (Region.free .any l.toArray (Array.replicate l.toArray.size false) p && (Region.ready .any l.toArray (Array.replicate l.toArray.size false)).contains p && decide (l.toArray.size = n + g + 1))) = true)
    (hw : Region.wanted op (yielded l.toArray a.tmps) = true) (hy : ∀ w, (execOp a.eval op).run P w = .ok (.value v) w) (hS : S p = none) (hC : holds w B)
    (h : wpLoose P l.toArray S B (fun a' => ∀ w', holds w' B → wpAny P .any l.toArray (onlyN Q) g (listTo n 0 (listPre l.toArray.size [p])) a' w') 0 (l.take n) (a.put op.dst v)) : (Code.region id l.toArray true).wp P Q a w := by
  simp only [Bool.and_eq_true, decide_eq_true_eq] at hB
  obtain ⟨⟨hB1, hB2⟩, ⟨hf, hr⟩, hsz⟩ := hB
  have hsel : Region.noSelect l.toArray = true := by simp only [headB, Bool.and_eq_true] at hB1; exact hB1.1.1.1.1.1.1.1
  refine wp_region_any hm (wpAny_only _ _ _ _ ?_)
  have hC' : holds { w with drawn := w.drawn + 1 } B := hC.drew
  have H := wpAny_head (Q := onlyN Q) n g (listPre l.toArray.size [p]) S B (by rw [hB1, hB2]; rfl) (fun i hi => by rw [listPre_one hi]; exact hS) hC' h
  have H2 := wpAny_take (fuel := n + g) hp hsel hf hr (fun _ _ _ h => h) (Or.inl ⟨hw, hy⟩) (show wpAny P .any l.toArray (onlyN Q) (n + g) ((Array.replicate l.toArray.size false).setIfInBounds p true) _ _ from H)
  rw [← hsz] at H2
  exact H2
theorem wpAny_rest2 {a : Act} {w : World} {l : List Oper} (k g : Nat) (listed : Array Bool) (S : Nat → Option LSpec) (B : List HProp) (hB : ((Region.noSelect l.toArray && Region.lexFrom .any l.toArray g k listed && looseB l.toArray .any && decide (k + g = l.length)) && ((listed.size == l.length) && (List.range l.length).all fun i => !listed.getD i false || (S i).isNone)) = true)
    (hC : holds w B)
    (h : wpLoose P l.toArray S B (fun a' => ∀ w', holds w' B → Q .normal a' w') k (l.drop k) a) : wpAny P .any l.toArray Q g listed a w := by
  rw [Bool.and_eq_true, Bool.and_eq_true (listed.size == _)] at hB
  obtain ⟨hB, hsz, hS⟩ := hB
  refine wpAny_rest k g listed S B hB (fun i hi => ?_) hC h
  rcases Nat.lt_or_ge i l.length with h' | h'
  · have := List.all_eq_true.1 hS i (List.mem_range.2 h')
    rw [hi] at this
    simpa using this
  · exfalso
    have hsz' : listed.size = l.length := by simpa using hsz
    have : listed[i]? = none := Array.getElem?_eq_none (by omega)
    simp [this] at hi
end
end Go.Proofs.YtpkohkkkbnfigaaDoor
