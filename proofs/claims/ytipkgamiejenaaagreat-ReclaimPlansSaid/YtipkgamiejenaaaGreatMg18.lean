import Derived.Test.YtipkgamiejenaaaGreatMg5
import Derived.RangeFuncLeaves
import Derived.RangeFuncRecord
import Derived.RangeFuncSeq
import Derived.RangeFuncCalls
import Derived.Test.YtipkgamiejenaaaGreatMg17
import Derived.Test.YtipkgamiejenaaaGreatMg7
import Derived.OrdersIn
/- A range over a function, in the new road: walks behind the loop and within its rounds. -/
namespace Go.Proofs.YtipkgamiejenaaaGreat
open Go Go.RowKit Go.MapKept
set_option linter.unusedVariables false
set_option linter.unusedSectionVars false
set_option linter.unusedSimpArgs false

/-- The state of an activation that bears marks on its deferred calls. -/
structure FitsX (n : Nat) (ds : List Deferred) (a : Act) (env : Env) : Prop where
  size : a.tmps.size = n
  defs : a.defers = ds
  at_ : ∀ k v, look env k = some v → a.tmps[k]? = some v
theorem FitsX.bare {n : Nat} {ds : List Deferred} {a : Act} {env : Env} (h : FitsX n ds a env) : Fits n ⟨a.tmps, []⟩ env := ⟨h.size, rfl, h.at_⟩
theorem FitsX.bare' {n : Nat} {a : Act} {env : Env} (h : FitsX n [] a env) : Fits n a env := ⟨h.size, h.defs, h.at_⟩
theorem Fits.x {n : Nat} {a : Act} {env : Env} (h : Fits n a env) : FitsX n [] a env := ⟨h.size, h.defs, h.at_⟩
theorem FitsX.eval {n : Nat} {ds : List Deferred} {a : Act} {env : Env} (h : FitsX n ds a env) {x : Operand} {v : Value} (hx : opnd env x = some v) : a.eval x = v := h.bare.eval hx
theorem FitsX.put {n : Nat} {ds : List Deferred} {a : Act} {env : Env} (h : FitsX n ds a env) {d : Nat} (hd : Nat.blt d n = true) (v : Value) : FitsX n ds (a.put (some d) v) ((d, v) :: env) :=
  ⟨(h.bare.put hd v).size, by simp [Act.put, h.defs], (h.bare.put hd v).at_⟩
theorem FitsX.sub {n : Nat} {ds : List Deferred} {a : Act} {env e : Env} (h : FitsX n ds a env) (hs : Sub e env) : FitsX n ds a e := ⟨h.size, h.defs, fun k v hk => h.at_ k v (hs.look hk)⟩
/-- A fence that lets all in. -/
inductive WideF : Fence → Prop
  | wide : WideF Fence.wide
  | round (l : Nat) : WideF (Fence.wide.inRound l)
theorem WideF.calls {Fc : Fence} (h : WideF Fc) {n : Nat} {P : Program} {f : FuncId} {args : Array Value} {w : World} {R : Ending → World → Prop} (hc : Calls P f args w R) : CallsIn Fc n P f args w R := by
  cases h with
  | wide => exact callsIn_wide.2 hc
  | round l => exact CallsIn.inRound l (callsIn_wide.2 hc)
theorem WideF.rows {Fc : Fence} (h : WideF Fc) {n : Nat} {P : Program} {row : String} {args : Array Value} {w : World} {R : Value → World → Prop} (hc : Rows P row args w R) : RowsIn Fc n P row args w R := by
  have h1 : RowsIn Fence.wide n P row args w R := fun c cs _ => by
    obtain ⟨v, w', r, s⟩ := hc c cs
    exact ⟨v, w', r, stepsIn_wide.2 s⟩
  cases h with
  | wide => exact h1
  | round l => exact h1
theorem WideF.fn {Fc : Fence} (h : WideF Fc) (f : FuncId) : Fc.fn f := by cases h <;> trivial
theorem WideF.depth {Fc : Fence} (h : WideF Fc) : Fc.depth.isSome = true → 1 ≤ 5 := by cases h <;> (intro h; cases h)

section
variable (Fc : Fence) (P : Program) (n : Nat) (ds : List Deferred)
structure GI (c : Code) (Q : Exit → Act → World → Prop) (env : Env) (F : List HProp) : Prop where
  out : ∀ a w, FitsX n ds a env → holds w F → c.wpIn Fc 5 P Q a w
structure GLI (ops : Array Oper) (Q : Exit → Act → World → Prop) (rest : List Oper) (env : Env) (F : List HProp) : Prop where
  out : ∀ a w, FitsX n ds a env → holds w F → wpListIn Fc 5 P ops Q rest a w
end
structure GEI (n : Nat) (ds : List Deferred) (e : Exit) (Q : Exit → Act → World → Prop) (env : Env) (F : List HProp) : Prop where
  out : ∀ a w, FitsX n ds a env → holds w F → Q e a w
/-- One operation is done; the rest is a walk of the other kind. -/
def IQ (K : Act → World → Prop) : Exit → Act → World → Prop := fun e a w => e = .normal ∧ a.defers = [] ∧ K a w
section
variable {Fc : Fence} {P : Program} {n : Nat} {ds : List Deferred} {Q : Exit → Act → World → Prop} {env : Env} {F : List HProp} {ops : Array Oper} {rest : List Oper}
theorem GLI.op {o : Oper} (hW : WideF Fc) (hnd : ∀ c, o.op ≠ .defer c) (h : GL P n ops (IQ fun a' w' => ∀ a1 : Act, a1.tmps = a'.tmps → a1.defers = ds → wpListIn Fc 5 P ops Q rest a1 w') [o] env F) : GLI Fc P n ds ops Q (o :: rest) env F := ⟨fun a w hf hw => by
  have h1 := h.out ⟨a.tmps, []⟩ w hf.bare hw
  unfold wpList at h1
  unfold wpListIn
  have hy : yielded ops (⟨a.tmps, []⟩ : Act).tmps = yielded ops a.tmps := rfl
  rw [hy] at h1
  split at h1
  · rename_i hwt
    rw [if_pos hwt]
    refine ⟨fun f _ => hW.fn f, ?_⟩
    rw [Oper.semAt_eq _ _ _ hnd]
    rcases h1 with h1 | ⟨_, a', w', h2⟩
    · unfold Oper.wp at h1
      have he : (⟨a.tmps, []⟩ : Act).eval = a.eval := rfl
      rw [he] at h1
      revert h1
      generalize (execOp a.eval o).run P w = r
      intro h1
      cases r with
      | ok x w1 =>
        cases x with
        | value v =>
          obtain ⟨_, _, h2⟩ := h1
          exact h2 _ (by cases o.dst <;> rfl) (by cases o.dst <;> exact hf.defs)
        | skip =>
          obtain ⟨_, _, h2⟩ := h1
          exact h2 _ (by cases o.dst <;> rfl) (by cases o.dst <;> exact hf.defs)
        | defer d =>
          obtain ⟨_, h2, _⟩ := h1
          exfalso
          revert h2
          cases o.dst <;> simp [Act.put]
        | enter f args =>
          refine ⟨hW.depth, hW.calls (h1.mono fun e w' h2 => ?_)⟩
          cases e with
          | returned v =>
            obtain ⟨_, _, h2⟩ := h2
            exact h2 _ (by cases o.dst <;> rfl) (by cases o.dst <;> exact hf.defs)
          | panicked ch => exact absurd h2.1 (by simp)
          | outgrown => obtain ⟨_, _, h2⟩ := h2; exact absurd h2.1 (by simp)
        | row rw args =>
          refine ⟨hW.depth, hW.rows ?_⟩
          intro c cs
          obtain ⟨v, w', ⟨_, _, h2⟩, hs⟩ := h1 c cs
          exact ⟨v, w', h2 _ (by cases o.dst <;> rfl) (by cases o.dst <;> exact hf.defs), hs⟩
        | _ => exact h1.elim
      | halt x w1 =>
        cases x with
        | panic v => exact absurd h1.1 (by simp)
        | _ => exact h1.elim
    · exact absurd h2.1 (by simp)
  · rename_i hwt
    rw [if_neg hwt]
    obtain ⟨_, _, h2⟩ := h1
    exact ⟨fun f _ => hW.fn f, h2 _ (by cases o.dst <;> rfl) (by cases o.dst <;> exact hf.defs)⟩⟩
theorem GE.iq (h : GLI Fc P n ds ops Q rest env F) : GE n .normal (IQ fun a' w' => ∀ a1 : Act, a1.tmps = a'.tmps → a1.defers = ds → wpListIn Fc 5 P ops Q rest a1 w') env F :=
  .mk fun a w hf hw => ⟨rfl, hf.defs, fun a1 h1 h2 => h.out a1 w ⟨by rw [h1]; exact hf.size, h2, fun k v hk => by rw [h1]; exact hf.at_ k v hk⟩ hw⟩
theorem GLI.nil (h : GEI n ds .normal Q env F) : GLI Fc P n ds ops Q [] env F := ⟨fun a w hf hw => h.out a w hf hw⟩
theorem GI.skip (h : GEI n ds .normal Q env F) : GI Fc P n ds .skip Q env F := ⟨fun a w hf hw => wpIn_skip (h.out a w hf hw)⟩
theorem GI.ret (h : GEI n ds .ret Q env F) : GI Fc P n ds .ret Q env F := ⟨fun a w hf hw => wpIn_ret (h.out a w hf hw)⟩
theorem GI.exit {id : Nat} (h : GEI n ds (.exit id) Q env F) : GI Fc P n ds (.exit id) Q env F := ⟨fun a w hf hw => wpIn_exit (h.out a w hf hw)⟩
theorem GI.seq {x y : Code} (h : GI Fc P n ds x (Exit.then (y.wpIn Fc 5 P Q) Q) env F) : GI Fc P n ds (.seq x y) Q env F := ⟨fun a w hf hw => wpIn_seq (h.out a w hf hw)⟩
theorem GI.block {id : Nat} {c : Code} (h : GI Fc P n ds c (Exit.inBlock id Q) env F) : GI Fc P n ds (.block id c) Q env F := ⟨fun a w hf hw => wpIn_block (h.out a w hf hw)⟩
theorem GI.cond {c : Operand} {x y : Code} {b : Bool} (hc : opnd env c = some (.bool b)) (ht : b = true → GI Fc P n ds x Q env F) (hf : b = false → GI Fc P n ds y Q env F) : GI Fc P n ds (.cond c x y) Q env F :=
  ⟨fun a w h hw => wpIn_cond_split (h.eval hc) (fun e => (ht e).out a w h hw) (fun e => (hf e).out a w h hw)⟩
theorem GI.region {id : Nat} {l : List Oper} (h : GLI Fc P n ds l.toArray Q l env F) : GI Fc P n ds (.region id l.toArray false) Q env F := ⟨fun a w hf hw => wpIn_region_lit (h.out a w hf hw)⟩
theorem GEI.thenG {y : Code} (h : GI Fc P n ds y Q env F) : GEI n ds .normal (Exit.then (y.wpIn Fc 5 P Q) Q) env F := ⟨h.out⟩
theorem GEI.thenE {id : Nat} {x : Act → World → Prop} (h : GEI n ds (.exit id) Q env F) : GEI n ds (.exit id) (Exit.then x Q) env F := ⟨h.out⟩
theorem GEI.thenR {x : Act → World → Prop} (h : GEI n ds .ret Q env F) : GEI n ds .ret (Exit.then x Q) env F := ⟨h.out⟩
theorem GEI.blockN {id : Nat} (h : GEI n ds .normal Q env F) : GEI n ds .normal (Exit.inBlock id Q) env F := ⟨h.out⟩
theorem GEI.blockR {id : Nat} (h : GEI n ds .ret Q env F) : GEI n ds .ret (Exit.inBlock id Q) env F := ⟨h.out⟩
theorem GEI.blockE {id : Nat} (h : GEI n ds .normal Q env F) : GEI n ds (.exit id) (Exit.inBlock id Q) env F := ⟨fun a w hf hw => by
  show (if id = id then Q .normal a w else _); rw [if_pos rfl]; exact h.out a w hf hw⟩
/-- A region with a call of yield in it. -/
theorem G.regionI {id : Nat} {l : List Oper} (h : GLI Fence.wide P n [] l.toArray Q l env F) : G P n (.region id l.toArray false) Q env F := .mk fun a w hf hw =>
  wpIn_wide.1 (wpIn_region_lit (h.out a w hf.x hw))
theorem GLI.imp {F' : List HProp} (h : GLI Fc P n ds ops Q rest env F') (hi : ∀ w, holds w F → holds w F') : GLI Fc P n ds ops Q rest env F := ⟨fun a w hf hw => h.out a w hf (hi w hw)⟩
theorem GEI.imp {e : Exit} {F' : List HProp} (h : GEI n ds e Q env F') (hi : ∀ w, holds w F → holds w F') : GEI n ds e Q env F := ⟨fun a w hf hw => h.out a w hf (hi w hw)⟩
theorem GI.case {c : Code} {α : Sort _} {F' : α → List HProp} (h : ∀ x, GI Fc P n ds c Q env (F' x)) (hi : ∀ w, holds w F → ∃ x, holds w (F' x)) : GI Fc P n ds c Q env F := ⟨fun a w hf hw => let ⟨x, hx⟩ := hi w hw; (h x).out a w hf hx⟩
theorem GEI.case {e : Exit} {α : Sort _} {F' : α → List HProp} (h : ∀ x, GEI n ds e Q env (F' x)) (hi : ∀ w, holds w F → ∃ x, holds w (F' x)) : GEI n ds e Q env F := ⟨fun a w hf hw => let ⟨x, hx⟩ := hi w hw; (h x).out a w hf hx⟩
theorem GI.absurd {c : Code} (h : ∀ w, ¬ holds w F) : GI Fc P n ds c Q env F := ⟨fun a w hf hw => (h w hw).elim⟩
theorem holds.no {w : World} {l : List HProp} (h : holds w ((fun _ => False) :: l)) : False := by
  obtain ⟨f, _, f1, f2, h1, _⟩ := h
  exact h1
end
/-- A call of yield, and what comes of it. -/
structure Yt (P : Program) (l : Nat) (args : Array Value) (w : World) (R : Ending → World → Prop) : Prop where
  out : YieldAt Fence.wide 4 P l args w R
section
variable {P : Program} {n : Nat} {ds : List Deferred} {Q : Exit → Act → World → Prop} {env : Env} {F : List HProp} {ops : Array Oper} {rest : List Oper} {d : Tmp} {ty : TypeId} {pos : String} {aft : Array Edge}
/-- An operation under a guard that is so. -/
theorem GLI.guardY {Fc : Fence} {op : Op} {dst : Option Tmp} {j : Nat} {want : Bool} {dj : Tmp} (hj : (ops[j]?).bind (·.dst) = some dj) (hb : look env dj = some (.bool want)) (h : GLI Fc P n ds ops Q (⟨dst, op, ty, pos, aft, none⟩ :: rest) env F) :
    GLI Fc P n ds ops Q (⟨dst, op, ty, pos, aft, some (j, want)⟩ :: rest) env F := ⟨fun a w hf hw => by
  have h1 := h.out a w hf hw
  have hyl : yielded ops a.tmps j = some want := by
    have := hf.at_ _ _ hb
    unfold yielded; rw [hj, Option.bind_some, this]
  unfold wpListIn at h1 ⊢
  simp only [Region.wanted, hyl, beq_self_eq_true, if_true] at h1 ⊢
  exact h1⟩
/-- The call of yield, in the iterator. -/
theorem GLI.yield {l : Nat} {x : Operand} {xs : List Operand} {ts : Array TypeId} {vs : List Value} {α : Sort _} {v : α → Value} {F' : α → List HProp} (hx : opnd env x = some (.func (.yield l) #[] #[])) (hxs : opnds env xs = some vs) (hd : Nat.blt d n = true)
    (hY : ∀ w, holds w F → Yt P l vs.toArray w fun e w' => ∃ y, e = .returned (v y) ∧ holds w' (F' y)) (h : ∀ y, GLI Fence.wide P n ds ops Q rest ((d, v y) :: env) (F' y)) :
    GLI Fence.wide P n ds ops Q (⟨some d, .call { callee := .value x, args := xs.toArray, argTypes := ts }, ty, pos, aft, none⟩ :: rest) env F := ⟨fun a w hf hw => by
  obtain ⟨fn, tmps, assign, body, hy, hR⟩ := (hY w hw).out
  have hr : (execOp a.eval ⟨some d, .call { callee := .value x, args := xs.toArray, argTypes := ts }, ty, pos, aft, none⟩).run P w = .ok (.round l fn tmps assign body) w := by
    have hev := hf.eval hx
    have hes := hf.bare.evals hxs
    have hes' : xs.map a.eval = vs := hes
    simp [execOp, resolve, Deferred.ofValue, invoke, hev, hes', Result.andThen]
    simpa using hy
  unfold wpListIn
  rw [if_pos (by simp [Region.wanted])]
  refine ⟨fun f _ => trivial, ?_⟩
  rw [Oper.semAt_eq _ _ _ (by intro c h; cases h), hr]
  refine ⟨(fun h => by cases h), hR.mono fun e w' h2 => ?_⟩
  obtain ⟨y, rfl, hh⟩ := h2
  exact (h y).out _ _ (hf.put hd _) hh⟩
/-! ### The statement -/
def putsEnv : List Tmp → List Value → Env → Env
  | p :: ps, v :: vs, env => putsEnv ps vs ((p, v) :: env)
  | _, _, env => env
theorem puts_fits {n : Nat} {ds : List Deferred} : ∀ (ps : List Tmp) (vs : List Value) (env : Env) (a : Act), FitsX n ds a env → ps.all (Nat.blt · n) = true →
    FitsX n ds ⟨(ps.zip vs).foldl (fun t (p, v) => t.setIfInBounds p v) a.tmps, ds⟩ (putsEnv ps vs env)
  | [], _, _, a, h, _ => ⟨h.size, rfl, h.at_⟩
  | _ :: _, [], _, a, h, _ => ⟨h.size, rfl, h.at_⟩
  | p :: ps, v :: vs, env, a, h, hp => by
    simp only [List.all_cons, Bool.and_eq_true] at hp
    have := puts_fits ps vs _ _ (h.put hp.1 v) hp.2
    simpa [putsEnv, Act.put] using this
theorem wide_any {n m : Nat} {l : Nat} {P : Program} {c : Code} {Q : Exit → Act → World → Prop} {a : Act} {w : World} (h : c.wpIn (Fence.wide.inRound l) n P Q a w) : c.wpIn (Fence.wide.inRound l) m P Q a w :=
  fun b k cs hro hb _ => h b k cs hro hb (room_wide _)
/-- What a round leaves. -/
def RQ (jump : Code) (X Y : List HProp) : Exit → Act → World → Prop
  | .normal, _, w => holds w X
  | .ret, _, w => jump = .ret ∧ holds w Y
  | .exit id, _, w => jump = .exit id ∧ holds w Y
  | .goto t, _, w => jump = .goto t ∧ holds w Y
  | .panic _, _, _ => False
  | .outgrown, _, _ => False
theorem GEI.roundN {n : Nat} {ds : List Deferred} {env : Env} {F : List HProp} {jump : Code} {X Y : List HProp} (h : ∀ w, holds w F → holds w X) : GEI n ds .normal (RQ jump X Y) env F := ⟨fun a w _ hw => h w hw⟩
/-- What an iterator does: it yields the members of L in order, as long as it is told to go on; M: the state that both see, by how many are yielded. -/
structure Seq {α : Type} (P : Program) (gf : Nat) (lb : Array Value) (encs : α → List Value) (L : List α) (M : Bool → Nat → List HProp) (F F' : List HProp) : Prop where
  out : ∀ (l : Nat) (J : Bool → Nat → HProp) (w : World),
    (∀ (k : Nat) (x : α) (A : List HProp) (w1 : World), L[k]? = some x → holds w1 (J true k :: (M true (k + 1) ++ A)) → Yt P l (encs x).toArray w1 fun e w' => ∃ y : Bool, e = .returned (.bool y) ∧ holds w' (J y (k + 1) :: (M y (k + 1) ++ A))) →
    holds w (J true 0 :: (M true 0 ++ F)) → Ct P gf (#[.func (.yield l) #[] #[]] ++ lb) w fun e w' => ∃ v, e = .returned v ∧ ∃ y k, (y = true → k = L.length) ∧ (y = false → 0 < k ∧ k ≤ L.length) ∧ holds w' (J y k :: (M y k ++ F'))
def mark (D : Nat) : Deferred := { target := .collected D, args := #[] }
theorem holds.putObj {w : World} {l : List HProp} {b : Nat} {o : Obj} (o' : Obj) (h : holds w (blk b o :: l)) : holds (w.putObj b o') (blk b o' :: l) := h.turn (grownBy_putObj' w b o') (World.putObj_heap_same h.lt)
section
variable {P : Program} {n : Nat} {Q : Exit → Act → World → Prop} {env : Env}
theorem G.rangeFunc {α : Type} {g : Operand} {ps : List Tmp} {assign body : Code} {gf : Nat} {lb : Array Value} {encs : α → List Value} {L : List α} {M : Bool → Nat → List HProp} {F0 F F' : List HProp} (jump : Code) (I : Bool → Nat → List HProp) (E : α → Env)
    (hg : opnd env g = some (.func (.func gf) #[] lb)) (eg : ∀ args w, (callFunc gf args).run P w = .ok (.enter gf args) w) (hseq : Seq P gf lb encs L M F F')
    (hps : ∀ x, Nat.beq (encs x).length ps.length = true) (hlt : ps.all (Nat.blt · n) = true)
    (hassign : ∀ (l k : Nat) (x : α) (Q' : Exit → Act → World → Prop) (A : List HProp), L[k]? = some x → GEI n [] .normal Q' (E x) A → GI (Fence.wide.inRound l) P n [] assign Q' (putsEnv ps (encs x) env) A)
    (h0 : ∀ w, holds w F0 → holds w (I true 0 ++ (M true 0 ++ F)))
    (hbody : ∀ (l k : Nat) (x : α) (A : List HProp), L[k]? = some x → GI (Fence.wide.inRound l) P n [] body (RQ jump (I true (k + 1) ++ (M true (k + 1) ++ A)) (I false (k + 1) ++ (M false (k + 1) ++ A))) (E x) (I true k ++ (M true (k + 1) ++ A)))
    (hdone : ∀ D, GEI n [mark D] .normal Q env (I true L.length ++ (M true L.length ++ (F' ++ [blk D (.deferred (some []))]))))
    (hstop : ∀ D k, 0 < k → k ≤ L.length → GI Fence.wide P n [mark D] jump Q env (I false k ++ (M false k ++ (F' ++ [blk D (.deferred (some []))])))) : G P n (.rangeFunc g ps.toArray assign body) Q env F0 := .mk fun a w hf hw => by
  have hw := h0 w hw
  refine (wpIn_wide (n := 5)).1 (wpIn_rangeFunc fun fn _ => ?_)
  obtain ⟨rec, hrec⟩ : ∃ rec : LoopState → Option Code → Loop, rec = fun st pe => { state := st, pending := pe, fn, tmps := a.tmps, params := ps.toArray, assign, body, defers := w.heap.size } := ⟨_, rfl⟩
  obtain ⟨W1, hW1⟩ : ∃ W1, W1 = (w.alloc (.deferred (some []))).alloc (.loop (rec .ready none)) := ⟨_, rfl⟩
  have hW : holds W1 (blk (w.heap.size + 1) (.loop (rec .ready none)) :: blk w.heap.size (.deferred (some [])) :: (I true 0 ++ (M true 0 ++ F))) := by
    have := (hw.alloc (.deferred (some []))).alloc (.loop (rec .ready none))
    rw [World.size_alloc] at this
    rw [hW1]; exact this
  refine ⟨w.heap.size + 1, [mark w.heap.size], W1, { target := .fn (.func gf) lb, args := #[.func (.yield (w.heap.size + 1)) #[] #[]] }, W1, gf, #[.func (.yield (w.heap.size + 1)) #[] #[]] ++ lb, W1, ?_, ?_, fun _ _ => trivial, ?_, (fun h => by cases h), ?_⟩
  · rw [hW1, hrec]; exact run_enterLoop_outer _ _ _ _ _
  · simp only [resolve, hf.eval hg]
    simp [go_sem]
  · simp [invoke, go_sem, eg]
  clear hW1
  generalize w.heap.size = D at hW hrec ⊢
  obtain ⟨J, hJ⟩ : ∃ J : Bool → Nat → HProp, J = fun y k => sep (blk (D + 1) (.loop (rec (if y then .ready else .done) (if y then none else some jump))) :: blk D (.deferred (some [])) :: I y k) := ⟨_, rfl⟩
  refine callsIn_wide.2 (Calls.mono (hseq.out (D + 1) J W1 ?_ ?_).out ?_)
  rotate_left 2
  · rintro e w' ⟨v, rfl, y, k, h1, h2, h3⟩
    rw [hJ] at h3
    have h3 := holds_sep.1 h3
    have hl := h3.get_blk
    have he := run_endLoop (P := P) hl (by rw [hrec]; cases y <;> simp)
    have h4 : holds (w'.putObj (D + 1) (.loop { rec (if y then .ready else .done) (if y then none else some jump) with state := .exhausted })) (I y k ++ (M y k ++ (F' ++ [blk D (.deferred (some []))]))) := by
      have := (h3.putObj (.loop { rec (if y then .ready else .done) (if y then none else some jump) with state := .exhausted })).tail
      refine this.perm ?_
      refine (List.perm_append_singleton _ _).symm.trans ?_
      simp [List.append_assoc]
    have hfx : FitsX n [mark D] { a with defers := [mark D] ++ a.defers } env := ⟨hf.size, by rw [hf.defs]; rfl, hf.at_⟩
    cases y with
    | true =>
      obtain rfl := h1 rfl
      refine ⟨none, _, by rw [he, hrec]; rfl, (hdone D).out _ _ hfx h4⟩
    | false =>
      refine ⟨some jump, _, by rw [he, hrec]; rfl, (hstop D k (h2 rfl).1 (h2 rfl).2).out _ _ hfx h4⟩
  · intro k x A w1 hx hw1
    rw [hJ] at hw1
    have hw1 := holds_sep.1 hw1
    have hl := hw1.get_blk
    refine ⟨?_⟩
    have hy := run_yield (P := P) (args := (encs x).toArray) hl (by rw [hrec]; simpa using hps x)
    rw [hrec] at hy
    refine ⟨fn, _, assign, body, hy, roundIn_of_wpIn trivial (wide_any (n := 5) ((hassign (D + 1) k x _ _ hx ⟨fun a1 w1 hf1 hh => ?_⟩).out _ w1 ?_ hw1))⟩
    · have hl1 := hh.get_blk
      refine ⟨_, run_beginRound hl1 (by rw [hrec]; rfl), ?_⟩
      have hb := hh.putObj (.loop { rec .ready none with state := .busy })
      have hbody' := (hbody (D + 1) k x (blk (D + 1) (.loop { rec .ready none with state := .busy }) :: blk D (.deferred (some [])) :: A) hx).out a1 _ hf1 (hb.perm ?_)
      · refine wide_any (n := 5) (Code.wpIn_mono (fun e a3 w3 hq => ?_) hbody')
        have fin : ∀ (y : Bool) (jmp : Option Code), jmp = (if y then none else some jump) → holds w3 (I y (k + 1) ++ (M y (k + 1) ++ (blk (D + 1) (.loop { rec .ready none with state := .busy }) :: blk D (.deferred (some [])) :: A))) →
            ∃ v w', (Instr.endRound (D + 1) jmp).run P w3 = .ok v w' ∧ ∃ y : Bool, Ending.returned v = .returned (.bool y) ∧ holds w' (J y (k + 1) :: (M y (k + 1) ++ A)) := by
          intro y jmp hj hq
          have hq2 : holds w3 (blk (D + 1) (.loop { rec .ready none with state := .busy }) :: blk D (.deferred (some [])) :: (I y (k + 1) ++ (M y (k + 1) ++ A))) := by
            refine hq.perm ?_
            refine (List.Perm.append_left _ (List.perm_middle.trans (List.Perm.cons _ List.perm_middle))).trans ?_
            exact List.perm_middle.trans (List.Perm.cons _ List.perm_middle)
          refine ⟨_, _, run_endRound jmp hq2.get_blk, y, by subst hj; cases y <;> rfl, ?_⟩
          rw [hJ]
          refine holds_sep.2 ?_
          have := hq2.putObj (.loop { ({ rec .ready none with state := .busy } : Loop) with state := if jmp.isNone then .ready else .done, pending := jmp })
          subst hj
          rw [hrec] at this ⊢
          cases y <;> exact this
        cases e with
        | normal => exact fin true none rfl hq
        | ret => obtain ⟨rfl, hq⟩ := hq; exact fin false _ rfl hq
        | exit id => obtain ⟨rfl, hq⟩ := hq; exact fin false _ rfl hq
        | goto t => obtain ⟨rfl, hq⟩ := hq; exact fin false _ rfl hq
        | panic ch => exact hq.elim
        | outgrown => exact hq.elim
      · simp only [List.cons_append]
        refine (List.Perm.symm ?_)
        refine (List.Perm.append_left _ (List.perm_middle.trans (List.Perm.cons _ List.perm_middle))).trans ?_
        exact List.perm_middle.trans (List.Perm.cons _ List.perm_middle)
    · have := puts_fits ps (encs x) env ⟨a.tmps, []⟩ ⟨hf.size, rfl, hf.at_⟩ hlt
      simpa using this
  · rw [hJ]; exact holds_sep.2 hW
/-- Behind the statement: the walk goes on as GI. -/
theorem GEI.thenW {ds : List Deferred} {F : List HProp} {y : Code} (h : GI Fence.wide P n ds y Q env F) : GEI n ds .normal (Exit.then (fun a w => y.wp P Q a w) Q) env F := ⟨fun a w hf hw => (wpIn_wide (n := 5)).1 (h.out a w hf hw)⟩
theorem GEI.of {e : Exit} {F : List HProp} (h : GE n e Q env F) : GEI n [] e Q env F := ⟨fun a w hf hw => h.out a w hf.bare' hw⟩
/-- A call of a function with such a statement begins. -/
theorem Ct.goM {F : List HProp} {f : FuncId} {fn : Func} {c : Code} {args : List Value} {w : World} {R : Ending → World → Prop} (hf : P.funcs[f]? = some fn) (hb : fn.body = some c) (hn : fn.ntmps = n) (hargs : Nat.ble args.length n = true) (hw : holds w F)
    (h : G P n c (bodyPostM Fence.wide 5 P fn R) (env0 0 args) F) : Ct P f args.toArray w R := ⟨by
  have hle : args.length ≤ n := by simpa using hargs
  refine callsIn_wide.1 (callsIn_of_wp_marks (n := 5) hf hb trivial ((wpIn_wide (n := 5)).2 (h.out _ w ⟨?_, rfl, fun k v hk => ?_⟩ hw)))
  · simp [hn]; omega
  · obtain ⟨_, h2⟩ := look_env0 args 0 k v hk
    rw [Nat.sub_zero] at h2
    have hlt : k < args.length := (List.getElem?_eq_some_iff.1 h2).1
    have h3 : args[k] = v := by have := List.getElem?_eq_getElem hlt; rw [h2] at this; exact (Option.some.inj this).symm
    simp [Array.getElem?_append, hlt, h3]⟩
def resV : List Value → Value
  | [v] => v
  | l => .tuple l.toArray
theorem resV_eq (vs : List Value) : (if h : vs.toArray.size = 1 then vs.toArray[0] else .tuple vs.toArray) = resV vs := by
  match vs with
  | [] => rfl
  | [v] => rfl
  | v :: u :: l => simp [resV]
/-- Such a function's end, ahead of the statement or with its mark. -/
theorem GE.resM {F : List HProp} {rs : List ResultVar} {vs : List Value} {fn : Func} {R : Ending → World → Prop} {e : Exit} (he : e = .ret ∨ e = .normal) (hr : fn.results = rs.toArray) (h : Res P n env F rs vs) (hR : ∀ w, holds w F → R (.returned (resV vs)) w) : GE n e (bodyPostM Fence.wide 5 P fn R) env F := .mk fun a w hf hw => by
  have h1 := h.run hr hf hw
  have : LeavesInM Fence.wide 5 P fn a.tmps R a.defers .returning w := by
    rw [hf.defs]
    exact ⟨_, h1, by rw [resV_eq]; exact hR w hw⟩
  rcases he with rfl | rfl <;> exact this
theorem GEI.resM {F F1 : List HProp} {rs : List ResultVar} {vs : List Value} {fn : Func} {R : Ending → World → Prop} {D : Nat} {e : Exit} (he : e = .ret ∨ e = .normal) (hr : fn.results = rs.toArray) (hD : ∀ w, holds w F → holds w (blk D (.deferred (some [])) :: F1)) (h : Res P n env F1 rs vs) (hR : ∀ w, holds w F1 → R (.returned (resV vs)) w) : GEI n [mark D] e (bodyPostM Fence.wide 5 P fn R) env F := ⟨fun a w hf hw => by
  have hw1 := hD w hw
  have hw2 := (hw1.putObj (.deferred none)).tail
  have h1 := h.run hr hf.bare hw2
  have : LeavesInM Fence.wide 5 P fn a.tmps R a.defers .returning w := by
    rw [hf.defs]
    refine ⟨by simp, .inl ⟨D, _, rfl, run_takeDeferred hw1.get_blk, _, h1, by rw [resV_eq]; exact hR _ hw2⟩⟩
  rcases he with rfl | rfl <;> exact this⟩
end
end
end Go.Proofs.YtipkgamiejenaaaGreat

/- Package reclaim: the chunks that a tick makes free, one by one. -/
namespace Go.Proofs.YtipkgamiejenaaaGreat
open Go Go.RowKit Go.MapKept
set_option linter.unusedVariables false
set_option linter.unusedSectionVars false
set_option linter.unusedSimpArgs false
set_option maxRecDepth 100000
set_option maxHeartbeats 2000000
namespace Rc
theorem drain_succ : ∀ (k : Nat) (t : St.S) (l : List Int) (h : k < l.length), (drain (k + 1) t l).1 = wipe (drain k t l).1 l[k]
  | 0, t, i :: l, h => rfl
  | k + 1, t, i :: l, h => by
    show (drain (k + 1) (wipe t i) l).1 = _
    rw [drain_succ k (wipe t i) l (by simpa using h)]
    rfl
end Rc
theorem waits_TakeR (v : Value) (n : Nat) (i : Int) (l : List Int) (c : Int) (hc : c ≤ 1000000) (w : World) (F : List HProp) (hw : holds w (waitsAt v n (i :: l) c :: F)) :
    Ct Tryz.prog 174 #[v] w fun e w' => e = .returned (.tuple #[.int .i64 i, .int .i64 0]) ∧ holds w' (waitsAt v n l c :: F) := by
  have h := waits_Take w v n (i :: l) c F (by omega) hw
  simpa [ringGet] using (⟨h⟩ : Ct _ _ _ _ _)
theorem waits_TakeN (v : Value) (n : Nat) (c : Int) (hc : c ≤ 1000000) (w : World) (F : List HProp) (hw : holds w (waitsAt v n [] c :: F)) :
    Ct Tryz.prog 174 #[v] w fun e w' => e = .returned (.tuple #[.int .i64 0, .int .i64 20]) ∧ holds w' (waitsAt v n [] c :: F) := by
  have h := waits_Take w v n [] c F (by omega) hw
  simpa [ringGet] using (⟨h⟩ : Ct _ _ _ _ _)
theorem rec_drained1 (br rb sb : Nat) (t : St.S) (line : List Int) (K n : Nat) (cc : Int) (hcc : cc ≤ 1000000) (hI : St.Inv t K) (hW : Rc.Wt t line) (a b c d : Nat) (q : Int) (hq : 1 ≤ q ∧ q ≤ 1048576) (hK : K + 2 * line.length ≤ 900000) (F : List HProp) [SeesBlk F br #[.pointer (some ⟨rb, 0, none⟩)]] [SeesBlk F rb #[.pointer (some ⟨a, 0, none⟩), .pointer (some ⟨sb, 0, none⟩), .pointer (some ⟨b, 0, none⟩), .pointer (some ⟨c, 0, none⟩), .pointer (some ⟨d, 0, none⟩), .int .i64 q]] :
    Seq Tryz.prog 173 #[.pointer (some ⟨br, 0, none⟩)] (fun i : Int => [.int .i64 i, .int .i64 0]) (line.take q.toNat) (fun (y : Bool) (k : Nat) => match y with | true => [storeP sb (Rc.drain k t line).1, waitsAt (.pointer (some ⟨b, 0, none⟩)) n (line.drop k) cc] | false => []) F F := by
  refine ⟨fun l J w hY hw => ?_⟩
  have hw : holds w (J true 0 :: storeP sb t :: waitsAt (.pointer (some ⟨b, 0, none⟩)) n line cc :: F) := hw
  have hgo : Ct Tryz.prog 173 [.func (.yield l) #[] #[], .pointer (some ⟨br, 0, none⟩)].toArray w fun e w' => ∃ v, e = .returned v ∧ ∃ (y : Bool) (k : Nat), (y = true → k = (line.take q.toNat).length) ∧ (y = false → 0 < k ∧ k ≤ (line.take q.toNat).length) ∧ holds w' (J y k :: ((fun (y : Bool) (k : Nat) => match y with | true => [storeP sb (Rc.drain k t line).1, waitsAt (.pointer (some ⟨b, 0, none⟩)) n (line.drop k) cc] | false => []) y k ++ F)) := by
    refine Ct.go (args := [.func (.yield l) #[] #[], .pointer (some ⟨br, 0, none⟩)]) (F := J true 0 :: storeP sb t :: waitsAt (.pointer (some ⟨b, 0, none⟩)) n line cc :: F) Tryz.func173 rfl rfl rfl hw ?_
    repeat' (first | refine stp ?_ | (refine stpB ?_; intro _) | (refine spl ?_ ?_ <;> intro hc <;> ((try simp only [decide_eq_true_eq, decide_eq_false_iff_not, Bool.not_true, Bool.not_false, ne_eq, Classical.not_not, Int.not_lt, Int.not_le] at hc); (try (exfalso; first | omega | exact hc trivial | exact hc rfl)))))
    refine G.loopK [0, 1, 8] (Nat) (fun k => [(9, .int .i64 (k : Nat))]) (fun k => J true k :: storeP sb (Rc.drain k t line).1 :: waitsAt (.pointer (some ⟨b, 0, none⟩)) n (line.drop k) cc :: F) (fun k => k ≤ line.length ∧ (k : Int) ≤ q) (fun k => q.toNat - k) (0) (⟨Nat.zero_le _, by omega⟩) (by repeat (first | exact trivial | refine And.intro rfl ?_)) (fun w h => by (try dsimp only); first | exact h | exact h.sub | ((try simp only [List.take_zero, List.drop_zero, List.map_nil, List.nil_append, List.zipIdx_nil, List.filter_nil]); exact h.sub)) ?_
    rintro k ⟨hk, hkq⟩
    have hLl : (line.take q.toNat).length = min q.toNat line.length := List.length_take
    by_cases hkq2 : (k : Int) < q
    · by_cases hkl : k < line.length
      · obtain ⟨hTI, hTW, _, hTl⟩ := Rc.drain_inv k t line K hI hW
        have hlt : (line.take k).length = k := by rw [List.length_take]; omega
        rw [hlt] at hTI
        have hLk : (line.take q.toNat)[k]? = some line[k] := by rw [List.getElem?_take_of_lt (by omega), List.getElem?_eq_getElem hkl]
        have hd := List.drop_eq_getElem_cons hkl
        obtain ⟨j, hj, hj1, hj2⟩ := hTW.ph line[k] (by rw [hd]; exact List.mem_cons_self)
        have hsu := Rc.drain_succ k t line hkl
        have hY' := fun (A : List HProp) (w1 : World) => hY k line[k] A w1 hLk
        rw [hj] at hsu hd hY'
        rw [hd]
        obtain ⟨T, hT⟩ : ∃ T, T = (Rc.drain k t line).1 := ⟨_, rfl⟩
        rw [← hT] at hTI hj1 hj2 hsu ⊢
        have hY'' : ∀ (w1 : World), holds w1 (J true k :: storeP sb (Rc.wipe T j) :: waitsAt (.pointer (some ⟨b, 0, none⟩)) n (line.drop (k + 1)) cc :: F) → Yt Tryz.prog l #[.int .i64 (j : Nat), .int .i64 0] w1 fun e w' => ∃ y : Bool, e = .returned (.bool y) ∧ holds w' (J y (k + 1) :: ((match y with | true => [storeP sb (Rc.wipe T j), waitsAt (.pointer (some ⟨b, 0, none⟩)) n (line.drop (k + 1)) cc] | false => []) ++ F)) := fun w1 h1 => by
          have h2 := hY' F w1 (by show holds w1 (J true k :: storeP sb (Rc.drain (k + 1) t line).1 :: waitsAt (.pointer (some ⟨b, 0, none⟩)) n (line.drop (k + 1)) cc :: F); rw [hsu]; exact h1)
          rw [hsu] at h2
          exact h2
        clear hY hY'
        have dz : decide ((0 : Int) ≠ 0) = false := rfl
        repeat' (first | (first | (apply GL.isCall; refine GL.callH1 (waitsAt (.pointer (some ⟨b, 0, none⟩)) n ((j : Int) :: line.drop (k + 1)) cc) rfl rfl (fun w h => waits_TakeR (.pointer (some ⟨b, 0, none⟩)) n j (line.drop (k + 1)) cc hcc w _ h) ?_) | (refine G.isRegion 3 ?_; apply G.regionI)) | first | refine stp ?_ | (refine stpB ?_; intro _) | (refine spl ?_ ?_ <;> intro hc <;> ((try simp only [decide_eq_true_eq, decide_eq_false_iff_not, Bool.not_true, Bool.not_false, ne_eq, Classical.not_not, Int.not_lt, Int.not_le] at hc); (try (exfalso; first | omega | exact hc trivial | exact hc rfl)))))
        repeat' (first | apply GE.iq | ((apply GL.isAny; first | refine GL.runA rfl ?_ | (apply GL.isStore; first | refine GL.storeBlk rfl rfl rfl rfl rfl ?_ | refine GL.storeWhole rfl rfl rfl rfl rfl ?_ | refine GL.storeBlkA rfl rfl rfl rfl rfl ?_) | refine GL.guardY rfl rfl ?_ | refine GL.guardN rfl rfl rfl ?_ | refine GL.guardU rfl rfl rfl ?_ | (apply GL.isBox; first | refine GL.boxA rfl rfl (fun _ => ?_) | refine GL.box1 rfl rfl rfl (fun _ => ?_) | refine GL.box rfl rfl (fun _ => ?_)) | (apply GL.isBuildS; first | refine GL.buildSlice1A rfl rfl rfl rfl rfl (fun _ => ?_) | refine GL.buildSlice1 rfl rfl rfl rfl rfl (fun _ => ?_)) | (apply GL.isCall; refine GL.append1 _ rfl rfl rfl rfl (by rfl) (by omega) (by omega) rfl (fun _ => ?_)) | (apply GL.isAlloc; refine GL.alloc rfl (fun _ => ?_)))) | (apply GL.isAny; refine GL.guard rfl rfl (fun hc => ?_) (fun hc => ?_) <;> ((try simp only [decide_eq_true_eq, decide_eq_false_iff_not, Bool.not_true, Bool.not_false, ne_eq, Classical.not_not, Int.not_lt, Int.not_le] at hc); (try (exfalso; first | omega | exact hc trivial | exact hc rfl)))) | apply GL.nil | (first | (rw [dz]) | (apply GL.isCall; refine GL.callH1 (storeP sb T) rfl rfl (fun w h => rec_wipe rb sb (K + 2 * k) T hTI (by omega) a b c d q j hj1 hj2 w _ h) ?_) | (refine GLI.guardY rfl rfl ?_; refine GLI.imp (F' := J true k :: storeP sb (Rc.wipe T j) :: waitsAt (.pointer (some ⟨b, 0, none⟩)) n (line.drop (k + 1)) cc :: F) ?_ (fun w h => h.sub); refine GLI.yield (vs := [.int .i64 (j : Nat), .int .i64 0]) (v := fun y : Bool => .bool y) (F' := fun y : Bool => J y (k + 1) :: ((match y with | true => [storeP sb (Rc.wipe T j), waitsAt (.pointer (some ⟨b, 0, none⟩)) n (line.drop (k + 1)) cc] | false => []) ++ F)) rfl rfl rfl (fun w h => hY'' w h) (fun y => ?_); cases y <;> dsimp only [List.cons_append, List.nil_append])) | ((refine GLI.op (by first | exact .wide | exact .round _) (by intro c hc; cases hc) ?_)) | (apply GLI.nil; apply GEI.of))
        all_goals (first | (exfalso; simp at hc; done) | skip)
        · skip
          repeat' (first | refine stp ?_ | (refine stpB ?_; intro _) | (refine spl ?_ ?_ <;> intro hc <;> ((try simp only [decide_eq_true_eq, decide_eq_false_iff_not, Bool.not_true, Bool.not_false, ne_eq, Classical.not_not, Int.not_lt, Int.not_le] at hc); (try (exfalso; first | omega | exact hc trivial | exact hc rfl)))))
          refine GE.ret0 rfl (fun w h => ⟨_, rfl, false, k + 1, (fun h => by cases h), fun _ => ⟨by omega, by rw [hLl]; omega⟩, h⟩)
        · repeat' (first | refine stp ?_ | (refine stpB ?_; intro _) | (refine spl ?_ ?_ <;> intro hc <;> ((try simp only [decide_eq_true_eq, decide_eq_false_iff_not, Bool.not_true, Bool.not_false, ne_eq, Classical.not_not, Int.not_lt, Int.not_le] at hc); (try (exfalso; first | omega | exact hc trivial | exact hc rfl)))))
          refine GE.round (k + 1) ⟨by omega, by omega⟩ (by repeat (first | exact trivial | refine And.intro rfl ?_)) (fun w h => by (try dsimp only); rw [hsu]; exact h) (by omega)
      · obtain rfl : k = line.length := by omega
        rw [List.drop_length]
        repeat' (first | (first | (apply GL.isCall; refine GL.callH1 (waitsAt (.pointer (some ⟨b, 0, none⟩)) n [] cc) rfl rfl (fun w h => waits_TakeN (.pointer (some ⟨b, 0, none⟩)) n cc hcc w _ h) ?_)) | first | refine stp ?_ | (refine stpB ?_; intro _) | (refine spl ?_ ?_ <;> intro hc <;> ((try simp only [decide_eq_true_eq, decide_eq_false_iff_not, Bool.not_true, Bool.not_false, ne_eq, Classical.not_not, Int.not_lt, Int.not_le] at hc); (try (exfalso; first | omega | exact hc trivial | exact hc rfl)))))
        all_goals (first | (exfalso; simp at hc; done) | skip)
        refine GE.ret0 rfl (fun w h => ⟨_, rfl, true, line.length, fun _ => by rw [hLl]; omega, (fun h => by cases h), ?_⟩)
        show holds w (J true line.length :: storeP sb (Rc.drain line.length t line).1 :: waitsAt (.pointer (some ⟨b, 0, none⟩)) n (line.drop line.length) cc :: F)
        rw [List.drop_length]
        exact h.sub
    · repeat' (first | refine stp ?_ | (refine stpB ?_; intro _) | (refine spl ?_ ?_ <;> intro hc <;> ((try simp only [decide_eq_true_eq, decide_eq_false_iff_not, Bool.not_true, Bool.not_false, ne_eq, Classical.not_not, Int.not_lt, Int.not_le] at hc); (try (exfalso; first | omega | exact hc trivial | exact hc rfl)))))
      refine GE.end0 rfl (fun w h => ⟨_, rfl, true, k, fun _ => by rw [hLl]; omega, (fun h => by cases h), ?_⟩)
      exact h
  simpa using hgo
end Go.Proofs.YtipkgamiejenaaaGreat

/- A drawn region behind a range over a function: the activation bears a mark. -/
namespace Go.Proofs.YtipkgamiejenaaaGreat
open Go Go.RowKit Go.MapKept
set_option linter.unusedVariables false
set_option linter.unusedSectionVars false
set_option linter.unusedSimpArgs false
section
variable {Pr : Program}
theorem wpAny_region_tok {Q : Exit → Act → World → Prop} {a : Act} {w : World} {l : List Oper} (toks : List Tok) (S : Nat → TSpec) (B : List HProp) (start last : List Nat) 
    (hB : (tokB l.toArray toks S .any && (((List.range toks.length).filter (fun i => (tokNo toks i).prod.isNone) == start) && ((List.range toks.length).filter (fun i => (tokNo toks i).cons.isNone) == last))) = true)
    (hC : holds w (toksAt l.toArray toks a start ++ B)) (h : wpTok Pr l.toArray toks S B (fun a' => ∀ w', holds w' (toksAt l.toArray toks a' last ++ B) → Q .normal a' w') 0 l a) : wpAny Pr .any l.toArray Q l.toArray.size (Array.replicate l.toArray.size false) a { w with drawn := w.drawn + 1 } := by
  rw [Bool.and_eq_true, Bool.and_eq_true ((List.range toks.length).filter _ == _)] at hB
  obtain ⟨h1, h2, h3⟩ := hB
  have ok := TokOk.of h1
  rw [beq_iff_eq] at h2 h3
  have hC' : holds { w with drawn := w.drawn + 1 } (toksAt l.toArray toks a start ++ B) := hC.drew
  have hav : ∀ (listed : Array Bool), (∀ i, i < l.toArray.size → listed.getD i false = false) → listed.size = l.toArray.size → av l.toArray toks listed a = toksAt l.toArray toks a start := fun listed hf hsz => by
    unfold av
    rw [← h2]
    congr 1
    refine List.filter_congr fun i hi => ?_
    have hi' := List.mem_range.1 hi
    unfold live
    cases hp : (tokNo toks i).prod with
    | some p =>
      have := hf p (ok.prod i hi' p hp).1
      simp [this]
    | none =>
      cases hc : (tokNo toks i).cons with
      | none => simp
      | some c =>
        have hcs := (ok.cons i hi' c hc).1
        have := hf c hcs
        have hcs' : c < listed.size := by omega
        simp [hcs'] at this ⊢
        exact this
  have hlast : ∀ (listed : Array Bool) a, (∀ i, i < l.toArray.size → listed.getD i false = true) → av l.toArray toks listed a = toksAt l.toArray toks a last := fun listed a hf => by
    unfold av
    rw [← h3]
    congr 1
    refine List.filter_congr fun i hi => ?_
    have hi' := List.mem_range.1 hi
    unfold live
    cases hc : (tokNo toks i).cons with
    | some c =>
      have := hf c (ok.cons i hi' c hc).1
      have h5 : listed.getD c true = true := by
        rcases Nat.lt_or_ge c listed.size with h' | h'
        · simp [h'] at this ⊢; exact this
        · simp [h']
      dsimp only
      rw [h5]
      simp
    | none =>
      cases hp : (tokNo toks i).prod with
      | none => simp
      | some p => dsimp only; rw [hf p (ok.prod i hi' p hp).1]; simp
  have R0 := rem_of_tok (Pr := Pr) (ops := l.toArray) (toks := toks) (S := S) (B := B) l 0 a (by simp) h
  have := wpAny_of_rem (Pr := Pr) (Q' := Q) ok (Q := fun a' => ∀ w', holds w' (toksAt l.toArray toks a' last ++ B) → Q .normal a' w') (fun listed a w hf hw hq => hq w (by rw [← hlast listed a hf]; exact hw)) l.length _ (Array.replicate l.toArray.size false) a { w with drawn := w.drawn + 1 } (by simp) ⟨by simp, fun j oj _ hl => (by rw [getD_replicate_false] at hl; cases hl)⟩
    ⟨fun i => by
      rw [List.mem_range'_1]
      constructor
      · rintro ⟨_, h5⟩
        have : i < l.toArray.size := by simpa using h5
        exact ⟨this, getD_in (by simpa using this) (getD_replicate_false _ _)⟩
      · rintro ⟨h5, _⟩
        exact ⟨Nat.zero_le _, by simpa using h5⟩, List.pairwise_lt_range'⟩ (by rw [hav _ (fun i _ => getD_replicate_false _ _) (by simp)]; exact hC') R0
  simpa using this

end
def notDefer (o : Oper) : Bool := match o.op with | .defer _ => false | _ => true
theorem notDefer_ne {o : Oper} (h : notDefer o = true) : ∀ c, o.op ≠ .defer c := fun c e => by unfold notDefer at h; rw [e] at h; cases h
/-- What comes of an operation does not ask for the marks. -/
theorem opIn_bare {Fc : Fence} {P : Program} {ops : Array Oper} {Q0 Q : Exit → Act → World → Prop} {i : Nat} {K K' : Act → World → Prop} {ds : List Deferred} (hW : WideF Fc) (hnd : ∀ o, ops[i]? = some o → ∀ c, o.op ≠ .defer c) (hQ : ∀ e a w, Q0 e a w → e = .normal)
    (hK : ∀ (ts : Array Value) dd w, K ⟨ts, dd⟩ w → K' ⟨ts, dd ++ ds⟩ w) (ts : Array Value) (dd : List Deferred) (w : World) (h : wpOp P ops Q0 i K ⟨ts, dd⟩ w) : wpOpIn Fc 5 P ops Q i K' ⟨ts, dd ++ ds⟩ w := by
  have hput : ∀ (d : Option Tmp) (v : Value) (x : World), K ((⟨ts, dd⟩ : Act).put d v) x → K' ((⟨ts, dd ++ ds⟩ : Act).put d v) x := fun d v x hk => by
    cases d with
    | none => exact hK _ _ _ hk
    | some d => exact hK _ _ _ hk
  unfold wpOp at h
  unfold wpOpIn
  cases ho : ops[i]? with
  | none => rw [ho] at h; exact hK _ _ _ h
  | some o =>
    rw [ho] at h
    dsimp only at h ⊢
    have hy : yielded ops (⟨ts, dd⟩ : Act).tmps = yielded ops (⟨ts, dd ++ ds⟩ : Act).tmps := rfl
    rw [hy] at h
    split at h
    · rename_i hwt
      rw [if_pos hwt]
      refine ⟨fun f _ => hW.fn f, ?_⟩
      rw [Oper.semAt_eq _ _ _ (hnd o ho)]
      rcases h with h | ⟨_, a', w', h2⟩
      · unfold Oper.wp at h
        have he : (⟨ts, dd⟩ : Act).eval = (⟨ts, dd ++ ds⟩ : Act).eval := rfl
        rw [he] at h
        have hdef : ∀ (d : Deferred) (x : World), K (({ tmps := ts, defers := d :: dd } : Act).put o.dst undef) x → K' (({ tmps := ts, defers := d :: (dd ++ ds) } : Act).put o.dst undef) x := fun d x hk => by
          revert hk
          cases o.dst <;> exact fun hk => hK _ (d :: dd) _ hk
        revert h
        generalize (execOp (⟨ts, dd ++ ds⟩ : Act).eval o).run P w = r
        intro h
        cases r with
        | ok x w1 =>
          cases x with
          | value v => exact hput _ _ _ h
          | skip => exact hput _ _ _ h
          | defer d => exact hdef d _ h
          | enter f args =>
            refine ⟨hW.depth, hW.calls (h.mono fun e w' h2 => ?_)⟩
            cases e with
            | returned v => exact hput _ _ _ h2
            | panicked ch => exact absurd (hQ _ _ _ h2) (by simp)
            | outgrown => obtain ⟨_, _, h2⟩ := h2; exact absurd (hQ _ _ _ h2) (by simp)
          | row rw args =>
            refine ⟨hW.depth, hW.rows ?_⟩
            intro c cs
            obtain ⟨v, w', h2, hs⟩ := h c cs
            exact ⟨v, w', hput _ _ _ h2, hs⟩
          | _ => exact h.elim
        | halt x w1 =>
          cases x with
          | panic v => exact absurd (hQ _ _ _ h) (by simp)
          | _ => exact h.elim
      · exact absurd (hQ _ _ _ h2) (by simp)
    · rename_i hwt
      rw [if_neg hwt]
      exact ⟨fun f _ => hW.fn f, hput _ _ _ h⟩
theorem anyIn_bare {Fc : Fence} {P : Program} {ops : Array Oper} {md : Region.Mode} {Q : Exit → Act → World → Prop} {ds : List Deferred} (hW : WideF Fc) (hnd : ops.toList.all notDefer = true) : ∀ (fuel : Nat) (listed : Array Bool) (ts : Array Value) (dd : List Deferred) (w : World),
    wpAny P md ops (IQ fun a' w' => ∀ a1 : Act, a1.tmps = a'.tmps → a1.defers = ds → Q .normal a1 w') fuel listed ⟨ts, dd⟩ w → wpAnyIn Fc 5 P md ops Q fuel listed ⟨ts, dd ++ ds⟩ w
  | 0, _, ts, dd, w, h => by
    obtain ⟨h0, _, h1, h2⟩ := h
    dsimp only at h1; subst h1
    exact ⟨h0, h2 _ rfl rfl⟩
  | fuel + 1, listed, ts, dd, w, h => ⟨fun h0 => by
    obtain ⟨_, h1, h2⟩ := h.1 h0
    dsimp only at h1; subst h1
    exact h2 _ rfl rfl, fun i hi => opIn_bare hW (fun o ho => notDefer_ne (List.all_eq_true.1 hnd o (by
      have := Array.mem_of_getElem? ho
      exact Array.mem_def.1 this))) (fun e a w he => he.1) (fun ts dd w hk => anyIn_bare hW hnd fuel _ ts dd w hk) ts dd w (h.2 i hi)⟩
section
variable {Fc : Fence} {P : Program} {n : Nat} {ds : List Deferred} {Q : Exit → Act → World → Prop} {env : Env} {F : List HProp}
theorem GE.iqE (h : GEI n ds .normal Q env F) : GE n .normal (IQ fun a' w' => ∀ a1 : Act, a1.tmps = a'.tmps → a1.defers = ds → Q .normal a1 w') env F :=
  .mk fun a w hf hw => ⟨rfl, hf.defs, fun a1 h1 h2 => h.out a1 w ⟨by rw [h1]; exact hf.size, h2, fun k v hk => by rw [h1]; exact hf.at_ k v hk⟩ hw⟩
theorem GI.drawW {id : Nat} {l : List Oper} {S B : List HProp} (hW : WideF Fc) (hnd : l.toArray.toList.all notDefer = true) (E : List Wff) (V : List (Nat × List Nat)) (start last : List Nat) (hm : P.follows .mixedOrders = true)
    (hB : (tokB l.toArray (wffToks E) (wffS E V) .any && (((List.range (wffToks E).length).filter (fun i => (tokNo (wffToks E) i).prod.isNone) == start) && ((List.range (wffToks E).length).filter (fun i => (tokNo (wffToks E) i).cons.isNone) == last))) = true)
    (hS : wffNow E env start = some S) (hd : wffDef E env start) [ht : Takes F S B]
    (h : GW P n l.toArray E V B (fun a' => ∀ w', holds w' (toksAt l.toArray (wffToks E) a' last ++ B) → (IQ fun a' w' => ∀ a1 : Act, a1.tmps = a'.tmps → a1.defers = ds → Q .normal a1 w') .normal a' w') 0 l env) : GI Fc P n ds (.region id l.toArray true) Q env F := ⟨fun a w hf hw => by
  have h1 := wpAny_region_tok (wffToks E) (wffS E V) B start last hB (by rw [wffNow_at hf.bare start S hS hd]; exact hw.perm ht.perm) (h.out ⟨a.tmps, []⟩ hf.bare)
  refine wpIn_region_any hm ?_
  have h2 := anyIn_bare (ds := ds) hW hnd _ _ _ _ _ h1
  have ha : (⟨a.tmps, [] ++ ds⟩ : Act) = a := by rw [← hf.defs]; rfl
  rw [ha] at h2
  exact h2⟩
end
end Go.Proofs.YtipkgamiejenaaaGreat
