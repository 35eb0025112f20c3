import Derived.Test.YtfiggkbclldccaaMg0
import Derived.Test.YtfiggkbclldccaaMg5
import Derived.RangeFuncLeaves
import Derived.RangeFuncRecord
import Derived.RangeFuncSeq
import Derived.RangeFuncCalls
import Derived.Test.YtfiggkbclldccaaTypes
/- Chunks as a law's arguments. -/
namespace Go.Proofs.Ytfiggkbclldccaa
open Go Go.RowKit Go.MapKept Go.ChangeShapes Go.WideShapes Go.Deep Go.Joins

set_option maxRecDepth 100000

def chunkWf (c : ChunkM) : Prop := (Lit.int .i64 c.phase).wf = true ∧ (Lit.int .i64 c.owner).wf = true ∧ (Lit.int .i64 c.gen).wf = true
theorem Try.cellsChunk : Try.prog.cellsOf 69 = 3 := by kernel_rfl

section
variable {H : Type} {enc0 : TypeId × Value → H} {W : World} {r : Reach} {b0 : Nat} {sp : Nat → Bool} {held : Bool}
theorem trod_chunk (n : Nat) (cs : List Value) (x : DataW H × List MemPlace) (h : DataW.trod enc0 Try.prog W 0 sp held n 69 cs = some x) : ∃ c, chunkWf c ∧ cs = chunkCells c := by
  obtain ⟨hl, hf⟩ := trod_fields Try.underlying69 (by kernel_rfl) Try.cellsChunk h
  obtain ⟨n0, u0, y0, c0, t0⟩ := hf 0 _ rfl
  obtain ⟨n1, u1, y1, c1, t1⟩ := hf 1 _ rfl
  obtain ⟨n2, u2, y2, c2, t2⟩ := hf 2 _ rfl
  obtain ⟨a0, e0, _, w0⟩ := DataW.trod_int Try.underlying3 t0
  obtain ⟨a1, e1, _, w1⟩ := DataW.trod_int Try.underlying3 t1
  obtain ⟨a2, e2, _, w2⟩ := DataW.trod_int Try.underlying3 t2
  simp only [List.cons.injEq, and_true] at e0 e1 e2
  subst e0 e1 e2
  refine ⟨⟨a0, a1, a2⟩, ⟨w0, w1, w2⟩, ?_⟩
  match cs, hl with
  | [x, y, z], _ =>
    simp at c0 c1 c2
    subst c0 c1 c2
    rfl

end
end Go.Proofs.Ytfiggkbclldccaa

/- A range over a function, in the new road: walks behind the loop and within its rounds. -/
namespace Go.Proofs.Ytfiggkbclldccaa
open Go Go.RowKit Go.MapKept
set_option linter.unusedVariables false
set_option linter.unusedSectionVars false
set_option linter.unusedSimpArgs false

/-- The state of an activation that bears marks on its deferred calls. -/
structure FitsX (n : Nat) (ds : List Deferred) (a : Act) (env : Env) : Prop where
  size : a.tmps.size = n
  defs : a.defers = ds
  at_ : ∀ k v, look env k = some v → a.tmps[k]? = some v
theorem FitsX.bare {n : Nat} {ds : List Deferred} {a : Act} {env : Env} (h : FitsX n ds a env) : Fits n ⟨a.tmps, []⟩ env := ⟨h.size, rfl, h.at_⟩
theorem FitsX.bare' {n : Nat} {a : Act} {env : Env} (h : FitsX n [] a env) : Fits n a env := ⟨h.size, h.defs, h.at_⟩
theorem Fits.x {n : Nat} {a : Act} {env : Env} (h : Fits n a env) : FitsX n [] a env := ⟨h.size, h.defs, h.at_⟩
theorem FitsX.eval {n : Nat} {ds : List Deferred} {a : Act} {env : Env} (h : FitsX n ds a env) {x : Operand} {v : Value} (hx : opnd env x = some v) : a.eval x = v := h.bare.eval hx
theorem FitsX.put {n : Nat} {ds : List Deferred} {a : Act} {env : Env} (h : FitsX n ds a env) {d : Nat} (hd : Nat.blt d n = true) (v : Value) : FitsX n ds (a.put (some d) v) ((d, v) :: env) :=
  ⟨(h.bare.put hd v).size, by simp [Act.put, h.defs], (h.bare.put hd v).at_⟩
theorem FitsX.sub {n : Nat} {ds : List Deferred} {a : Act} {env e : Env} (h : FitsX n ds a env) (hs : Sub e env) : FitsX n ds a e := ⟨h.size, h.defs, fun k v hk => h.at_ k v (hs.look hk)⟩
/-- A fence that lets all in. -/
inductive WideF : Fence → Prop
  | wide : WideF Fence.wide
  | round (l : Nat) : WideF (Fence.wide.inRound l)
theorem WideF.calls {Fc : Fence} (h : WideF Fc) {n : Nat} {P : Program} {f : FuncId} {args : Array Value} {w : World} {R : Ending → World → Prop} (hc : Calls P f args w R) : CallsIn Fc n P f args w R := by
  cases h with
  | wide => exact callsIn_wide.2 hc
  | round l => exact CallsIn.inRound l (callsIn_wide.2 hc)
theorem WideF.rows {Fc : Fence} (h : WideF Fc) {n : Nat} {P : Program} {row : String} {args : Array Value} {w : World} {R : Value → World → Prop} (hc : Rows P row args w R) : RowsIn Fc n P row args w R := by
  have h1 : RowsIn Fence.wide n P row args w R := fun c cs _ => by
    obtain ⟨v, w', r, s⟩ := hc c cs
    exact ⟨v, w', r, stepsIn_wide.2 s⟩
  cases h with
  | wide => exact h1
  | round l => exact h1
theorem WideF.fn {Fc : Fence} (h : WideF Fc) (f : FuncId) : Fc.fn f := by cases h <;> trivial
theorem WideF.depth {Fc : Fence} (h : WideF Fc) : Fc.depth.isSome = true → 1 ≤ 5 := by cases h <;> (intro h; cases h)

section
variable (Fc : Fence) (P : Program) (n : Nat) (ds : List Deferred)
structure GI (c : Code) (Q : Exit → Act → World → Prop) (env : Env) (F : List HProp) : Prop where
  out : ∀ a w, FitsX n ds a env → holds w F → c.wpIn Fc 5 P Q a w
structure GLI (ops : Array Oper) (Q : Exit → Act → World → Prop) (rest : List Oper) (env : Env) (F : List HProp) : Prop where
  out : ∀ a w, FitsX n ds a env → holds w F → wpListIn Fc 5 P ops Q rest a w
end
structure GEI (n : Nat) (ds : List Deferred) (e : Exit) (Q : Exit → Act → World → Prop) (env : Env) (F : List HProp) : Prop where
  out : ∀ a w, FitsX n ds a env → holds w F → Q e a w
/-- One operation is done; the rest is a walk of the other kind. -/
def IQ (K : Act → World → Prop) : Exit → Act → World → Prop := fun e a w => e = .normal ∧ a.defers = [] ∧ K a w
section
variable {Fc : Fence} {P : Program} {n : Nat} {ds : List Deferred} {Q : Exit → Act → World → Prop} {env : Env} {F : List HProp} {ops : Array Oper} {rest : List Oper}
theorem GLI.op {o : Oper} (hW : WideF Fc) (hnd : ∀ c, o.op ≠ .defer c) (h : GL P n ops (IQ fun a' w' => ∀ a1 : Act, a1.tmps = a'.tmps → a1.defers = ds → wpListIn Fc 5 P ops Q rest a1 w') [o] env F) : GLI Fc P n ds ops Q (o :: rest) env F := ⟨fun a w hf hw => by
  have h1 := h.out ⟨a.tmps, []⟩ w hf.bare hw
  unfold wpList at h1
  unfold wpListIn
  have hy : yielded ops (⟨a.tmps, []⟩ : Act).tmps = yielded ops a.tmps := rfl
  rw [hy] at h1
  split at h1
  · rename_i hwt
    rw [if_pos hwt]
    refine ⟨fun f _ => hW.fn f, ?_⟩
    rw [Oper.semAt_eq _ _ _ hnd]
    rcases h1 with h1 | ⟨_, a', w', h2⟩
    · unfold Oper.wp at h1
      have he : (⟨a.tmps, []⟩ : Act).eval = a.eval := rfl
      rw [he] at h1
      revert h1
      generalize (execOp a.eval o).run P w = r
      intro h1
      cases r with
      | ok x w1 =>
        cases x with
        | value v =>
          obtain ⟨_, _, h2⟩ := h1
          exact h2 _ (by cases o.dst <;> rfl) (by cases o.dst <;> exact hf.defs)
        | skip =>
          obtain ⟨_, _, h2⟩ := h1
          exact h2 _ (by cases o.dst <;> rfl) (by cases o.dst <;> exact hf.defs)
        | defer d =>
          obtain ⟨_, h2, _⟩ := h1
          exfalso
          revert h2
          cases o.dst <;> simp [Act.put]
        | enter f args =>
          refine ⟨hW.depth, hW.calls (h1.mono fun e w' h2 => ?_)⟩
          cases e with
          | returned v =>
            obtain ⟨_, _, h2⟩ := h2
            exact h2 _ (by cases o.dst <;> rfl) (by cases o.dst <;> exact hf.defs)
          | panicked ch => exact absurd h2.1 (by simp)
          | outgrown => obtain ⟨_, _, h2⟩ := h2; exact absurd h2.1 (by simp)
        | row rw args =>
          refine ⟨hW.depth, hW.rows ?_⟩
          intro c cs
          obtain ⟨v, w', ⟨_, _, h2⟩, hs⟩ := h1 c cs
          exact ⟨v, w', h2 _ (by cases o.dst <;> rfl) (by cases o.dst <;> exact hf.defs), hs⟩
        | _ => exact h1.elim
      | halt x w1 =>
        cases x with
        | panic v => exact absurd h1.1 (by simp)
        | _ => exact h1.elim
    · exact absurd h2.1 (by simp)
  · rename_i hwt
    rw [if_neg hwt]
    obtain ⟨_, _, h2⟩ := h1
    exact ⟨fun f _ => hW.fn f, h2 _ (by cases o.dst <;> rfl) (by cases o.dst <;> exact hf.defs)⟩⟩
theorem GE.iq (h : GLI Fc P n ds ops Q rest env F) : GE n .normal (IQ fun a' w' => ∀ a1 : Act, a1.tmps = a'.tmps → a1.defers = ds → wpListIn Fc 5 P ops Q rest a1 w') env F :=
  .mk fun a w hf hw => ⟨rfl, hf.defs, fun a1 h1 h2 => h.out a1 w ⟨by rw [h1]; exact hf.size, h2, fun k v hk => by rw [h1]; exact hf.at_ k v hk⟩ hw⟩
theorem GLI.nil (h : GEI n ds .normal Q env F) : GLI Fc P n ds ops Q [] env F := ⟨fun a w hf hw => h.out a w hf hw⟩
theorem GI.skip (h : GEI n ds .normal Q env F) : GI Fc P n ds .skip Q env F := ⟨fun a w hf hw => wpIn_skip (h.out a w hf hw)⟩
theorem GI.ret (h : GEI n ds .ret Q env F) : GI Fc P n ds .ret Q env F := ⟨fun a w hf hw => wpIn_ret (h.out a w hf hw)⟩
theorem GI.exit {id : Nat} (h : GEI n ds (.exit id) Q env F) : GI Fc P n ds (.exit id) Q env F := ⟨fun a w hf hw => wpIn_exit (h.out a w hf hw)⟩
theorem GI.seq {x y : Code} (h : GI Fc P n ds x (Exit.then (y.wpIn Fc 5 P Q) Q) env F) : GI Fc P n ds (.seq x y) Q env F := ⟨fun a w hf hw => wpIn_seq (h.out a w hf hw)⟩
theorem GI.block {id : Nat} {c : Code} (h : GI Fc P n ds c (Exit.inBlock id Q) env F) : GI Fc P n ds (.block id c) Q env F := ⟨fun a w hf hw => wpIn_block (h.out a w hf hw)⟩
theorem GI.cond {c : Operand} {x y : Code} {b : Bool} (hc : opnd env c = some (.bool b)) (ht : b = true → GI Fc P n ds x Q env F) (hf : b = false → GI Fc P n ds y Q env F) : GI Fc P n ds (.cond c x y) Q env F :=
  ⟨fun a w h hw => wpIn_cond_split (h.eval hc) (fun e => (ht e).out a w h hw) (fun e => (hf e).out a w h hw)⟩
theorem GI.region {id : Nat} {l : List Oper} (h : GLI Fc P n ds l.toArray Q l env F) : GI Fc P n ds (.region id l.toArray false) Q env F := ⟨fun a w hf hw => wpIn_region_lit (h.out a w hf hw)⟩
theorem GEI.thenG {y : Code} (h : GI Fc P n ds y Q env F) : GEI n ds .normal (Exit.then (y.wpIn Fc 5 P Q) Q) env F := ⟨h.out⟩
theorem GEI.thenE {id : Nat} {x : Act → World → Prop} (h : GEI n ds (.exit id) Q env F) : GEI n ds (.exit id) (Exit.then x Q) env F := ⟨h.out⟩
theorem GEI.thenR {x : Act → World → Prop} (h : GEI n ds .ret Q env F) : GEI n ds .ret (Exit.then x Q) env F := ⟨h.out⟩
theorem GEI.blockN {id : Nat} (h : GEI n ds .normal Q env F) : GEI n ds .normal (Exit.inBlock id Q) env F := ⟨h.out⟩
theorem GEI.blockR {id : Nat} (h : GEI n ds .ret Q env F) : GEI n ds .ret (Exit.inBlock id Q) env F := ⟨h.out⟩
theorem GEI.blockE {id : Nat} (h : GEI n ds .normal Q env F) : GEI n ds (.exit id) (Exit.inBlock id Q) env F := ⟨fun a w hf hw => by
  show (if id = id then Q .normal a w else _); rw [if_pos rfl]; exact h.out a w hf hw⟩
/-- A region with a call of yield in it. -/
theorem G.regionI {id : Nat} {l : List Oper} (h : GLI Fence.wide P n [] l.toArray Q l env F) : G P n (.region id l.toArray false) Q env F := .mk fun a w hf hw =>
  wpIn_wide.1 (wpIn_region_lit (h.out a w hf.x hw))
theorem GLI.imp {F' : List HProp} (h : GLI Fc P n ds ops Q rest env F') (hi : ∀ w, holds w F → holds w F') : GLI Fc P n ds ops Q rest env F := ⟨fun a w hf hw => h.out a w hf (hi w hw)⟩
theorem GEI.imp {e : Exit} {F' : List HProp} (h : GEI n ds e Q env F') (hi : ∀ w, holds w F → holds w F') : GEI n ds e Q env F := ⟨fun a w hf hw => h.out a w hf (hi w hw)⟩
theorem GI.case {c : Code} {α : Sort _} {F' : α → List HProp} (h : ∀ x, GI Fc P n ds c Q env (F' x)) (hi : ∀ w, holds w F → ∃ x, holds w (F' x)) : GI Fc P n ds c Q env F := ⟨fun a w hf hw => let ⟨x, hx⟩ := hi w hw; (h x).out a w hf hx⟩
theorem GEI.case {e : Exit} {α : Sort _} {F' : α → List HProp} (h : ∀ x, GEI n ds e Q env (F' x)) (hi : ∀ w, holds w F → ∃ x, holds w (F' x)) : GEI n ds e Q env F := ⟨fun a w hf hw => let ⟨x, hx⟩ := hi w hw; (h x).out a w hf hx⟩
theorem GI.absurd {c : Code} (h : ∀ w, ¬ holds w F) : GI Fc P n ds c Q env F := ⟨fun a w hf hw => (h w hw).elim⟩
theorem holds.no {w : World} {l : List HProp} (h : holds w ((fun _ => False) :: l)) : False := by
  obtain ⟨f, _, f1, f2, h1, _⟩ := h
  exact h1
end
/-- A call of yield, and what comes of it. -/
structure Yt (P : Program) (l : Nat) (args : Array Value) (w : World) (R : Ending → World → Prop) : Prop where
  out : YieldAt Fence.wide 4 P l args w R
section
variable {P : Program} {n : Nat} {ds : List Deferred} {Q : Exit → Act → World → Prop} {env : Env} {F : List HProp} {ops : Array Oper} {rest : List Oper} {d : Tmp} {ty : TypeId} {pos : String} {aft : Array Edge}
/-- An operation under a guard that is so. -/
theorem GLI.guardY {Fc : Fence} {op : Op} {dst : Option Tmp} {j : Nat} {want : Bool} {dj : Tmp} (hj : (ops[j]?).bind (·.dst) = some dj) (hb : look env dj = some (.bool want)) (h : GLI Fc P n ds ops Q (⟨dst, op, ty, pos, aft, none⟩ :: rest) env F) :
    GLI Fc P n ds ops Q (⟨dst, op, ty, pos, aft, some (j, want)⟩ :: rest) env F := ⟨fun a w hf hw => by
  have h1 := h.out a w hf hw
  have hyl : yielded ops a.tmps j = some want := by
    have := hf.at_ _ _ hb
    unfold yielded; rw [hj, Option.bind_some, this]
  unfold wpListIn at h1 ⊢
  simp only [Region.wanted, hyl, beq_self_eq_true, if_true] at h1 ⊢
  exact h1⟩
/-- The call of yield, in the iterator. -/
theorem GLI.yield {l : Nat} {x : Operand} {xs : List Operand} {ts : Array TypeId} {vs : List Value} {α : Sort _} {v : α → Value} {F' : α → List HProp} (hx : opnd env x = some (.func (.yield l) #[] #[])) (hxs : opnds env xs = some vs) (hd : Nat.blt d n = true)
    (hY : ∀ w, holds w F → Yt P l vs.toArray w fun e w' => ∃ y, e = .returned (v y) ∧ holds w' (F' y)) (h : ∀ y, GLI Fence.wide P n ds ops Q rest ((d, v y) :: env) (F' y)) :
    GLI Fence.wide P n ds ops Q (⟨some d, .call { callee := .value x, args := xs.toArray, argTypes := ts }, ty, pos, aft, none⟩ :: rest) env F := ⟨fun a w hf hw => by
  obtain ⟨fn, tmps, assign, body, hy, hR⟩ := (hY w hw).out
  have hr : (execOp a.eval ⟨some d, .call { callee := .value x, args := xs.toArray, argTypes := ts }, ty, pos, aft, none⟩).run P w = .ok (.round l fn tmps assign body) w := by
    have hev := hf.eval hx
    have hes := hf.bare.evals hxs
    have hes' : xs.map a.eval = vs := hes
    simp [execOp, resolve, Deferred.ofValue, invoke, hev, hes', Result.andThen]
    simpa using hy
  unfold wpListIn
  rw [if_pos (by simp [Region.wanted])]
  refine ⟨fun f _ => trivial, ?_⟩
  rw [Oper.semAt_eq _ _ _ (by intro c h; cases h), hr]
  refine ⟨(fun h => by cases h), hR.mono fun e w' h2 => ?_⟩
  obtain ⟨y, rfl, hh⟩ := h2
  exact (h y).out _ _ (hf.put hd _) hh⟩
/-! ### The statement -/
def putsEnv : List Tmp → List Value → Env → Env
  | p :: ps, v :: vs, env => putsEnv ps vs ((p, v) :: env)
  | _, _, env => env
theorem puts_fits {n : Nat} {ds : List Deferred} : ∀ (ps : List Tmp) (vs : List Value) (env : Env) (a : Act), FitsX n ds a env → ps.all (Nat.blt · n) = true →
    FitsX n ds ⟨(ps.zip vs).foldl (fun t (p, v) => t.setIfInBounds p v) a.tmps, ds⟩ (putsEnv ps vs env)
  | [], _, _, a, h, _ => ⟨h.size, rfl, h.at_⟩
  | _ :: _, [], _, a, h, _ => ⟨h.size, rfl, h.at_⟩
  | p :: ps, v :: vs, env, a, h, hp => by
    simp only [List.all_cons, Bool.and_eq_true] at hp
    have := puts_fits ps vs _ _ (h.put hp.1 v) hp.2
    simpa [putsEnv, Act.put] using this
theorem wide_any {n m : Nat} {l : Nat} {P : Program} {c : Code} {Q : Exit → Act → World → Prop} {a : Act} {w : World} (h : c.wpIn (Fence.wide.inRound l) n P Q a w) : c.wpIn (Fence.wide.inRound l) m P Q a w :=
  fun b k cs hro hb _ => h b k cs hro hb (room_wide _)
/-- What a round leaves. -/
def RQ (jump : Code) (X Y : List HProp) : Exit → Act → World → Prop
  | .normal, _, w => holds w X
  | .ret, _, w => jump = .ret ∧ holds w Y
  | .exit id, _, w => jump = .exit id ∧ holds w Y
  | .goto t, _, w => jump = .goto t ∧ holds w Y
  | .panic _, _, _ => False
  | .outgrown, _, _ => False
theorem GEI.roundN {n : Nat} {ds : List Deferred} {env : Env} {F : List HProp} {jump : Code} {X Y : List HProp} (h : ∀ w, holds w F → holds w X) : GEI n ds .normal (RQ jump X Y) env F := ⟨fun a w _ hw => h w hw⟩
/-- What an iterator does: it yields the members of L in order, as long as it is told to go on; M: the state that both see, by how many are yielded. -/
structure Seq {α : Type} (P : Program) (gf : Nat) (lb : Array Value) (encs : α → List Value) (L : List α) (M : Bool → Nat → List HProp) (F F' : List HProp) : Prop where
  out : ∀ (l : Nat) (J : Bool → Nat → HProp) (w : World),
    (∀ (k : Nat) (x : α) (A : List HProp) (w1 : World), L[k]? = some x → holds w1 (J true k :: (M true (k + 1) ++ A)) → Yt P l (encs x).toArray w1 fun e w' => ∃ y : Bool, e = .returned (.bool y) ∧ holds w' (J y (k + 1) :: (M y (k + 1) ++ A))) →
    holds w (J true 0 :: (M true 0 ++ F)) → Ct P gf (#[.func (.yield l) #[] #[]] ++ lb) w fun e w' => ∃ v, e = .returned v ∧ ∃ y k, (y = true → k = L.length) ∧ (y = false → 0 < k ∧ k ≤ L.length) ∧ holds w' (J y k :: (M y k ++ F'))
def mark (D : Nat) : Deferred := { target := .collected D, args := #[] }
theorem holds.putObj {w : World} {l : List HProp} {b : Nat} {o : Obj} (o' : Obj) (h : holds w (blk b o :: l)) : holds (w.putObj b o') (blk b o' :: l) := h.turn (grownBy_putObj' w b o') (World.putObj_heap_same h.lt)
section
variable {P : Program} {n : Nat} {Q : Exit → Act → World → Prop} {env : Env}
theorem G.rangeFunc {α : Type} {g : Operand} {ps : List Tmp} {assign body : Code} {gf : Nat} {lb : Array Value} {encs : α → List Value} {L : List α} {M : Bool → Nat → List HProp} {F0 F F' : List HProp} (jump : Code) (I : Bool → Nat → List HProp) (E : α → Env)
    (hg : opnd env g = some (.func (.func gf) #[] lb)) (eg : ∀ args w, (callFunc gf args).run P w = .ok (.enter gf args) w) (hseq : Seq P gf lb encs L M F F')
    (hps : ∀ x, Nat.beq (encs x).length ps.length = true) (hlt : ps.all (Nat.blt · n) = true)
    (hassign : ∀ (l k : Nat) (x : α) (Q' : Exit → Act → World → Prop) (A : List HProp), L[k]? = some x → GEI n [] .normal Q' (E x) A → GI (Fence.wide.inRound l) P n [] assign Q' (putsEnv ps (encs x) env) A)
    (h0 : ∀ w, holds w F0 → holds w (I true 0 ++ (M true 0 ++ F)))
    (hbody : ∀ (l k : Nat) (x : α) (A : List HProp), L[k]? = some x → GI (Fence.wide.inRound l) P n [] body (RQ jump (I true (k + 1) ++ (M true (k + 1) ++ A)) (I false (k + 1) ++ (M false (k + 1) ++ A))) (E x) (I true k ++ (M true (k + 1) ++ A)))
    (hdone : ∀ D, GEI n [mark D] .normal Q env (I true L.length ++ (M true L.length ++ (F' ++ [blk D (.deferred (some []))]))))
    (hstop : ∀ D k, 0 < k → k ≤ L.length → GI Fence.wide P n [mark D] jump Q env (I false k ++ (M false k ++ (F' ++ [blk D (.deferred (some []))])))) : G P n (.rangeFunc g ps.toArray assign body) Q env F0 := .mk fun a w hf hw => by
  have hw := h0 w hw
  refine (wpIn_wide (n := 5)).1 (wpIn_rangeFunc fun fn _ => ?_)
  obtain ⟨rec, hrec⟩ : ∃ rec : LoopState → Option Code → Loop, rec = fun st pe => { state := st, pending := pe, fn, tmps := a.tmps, params := ps.toArray, assign, body, defers := w.heap.size } := ⟨_, rfl⟩
  obtain ⟨W1, hW1⟩ : ∃ W1, W1 = (w.alloc (.deferred (some []))).alloc (.loop (rec .ready none)) := ⟨_, rfl⟩
  have hW : holds W1 (blk (w.heap.size + 1) (.loop (rec .ready none)) :: blk w.heap.size (.deferred (some [])) :: (I true 0 ++ (M true 0 ++ F))) := by
    have := (hw.alloc (.deferred (some []))).alloc (.loop (rec .ready none))
    rw [World.size_alloc] at this
    rw [hW1]; exact this
  refine ⟨w.heap.size + 1, [mark w.heap.size], W1, { target := .fn (.func gf) lb, args := #[.func (.yield (w.heap.size + 1)) #[] #[]] }, W1, gf, #[.func (.yield (w.heap.size + 1)) #[] #[]] ++ lb, W1, ?_, ?_, fun _ _ => trivial, ?_, (fun h => by cases h), ?_⟩
  · rw [hW1, hrec]; exact run_enterLoop_outer _ _ _ _ _
  · simp only [resolve, hf.eval hg]
    simp [go_sem]
  · simp [invoke, go_sem, eg]
  clear hW1
  generalize w.heap.size = D at hW hrec ⊢
  obtain ⟨J, hJ⟩ : ∃ J : Bool → Nat → HProp, J = fun y k => sep (blk (D + 1) (.loop (rec (if y then .ready else .done) (if y then none else some jump))) :: blk D (.deferred (some [])) :: I y k) := ⟨_, rfl⟩
  refine callsIn_wide.2 (Calls.mono (hseq.out (D + 1) J W1 ?_ ?_).out ?_)
  rotate_left 2
  · rintro e w' ⟨v, rfl, y, k, h1, h2, h3⟩
    rw [hJ] at h3
    have h3 := holds_sep.1 h3
    have hl := h3.get_blk
    have he := run_endLoop (P := P) hl (by rw [hrec]; cases y <;> simp)
    have h4 : holds (w'.putObj (D + 1) (.loop { rec (if y then .ready else .done) (if y then none else some jump) with state := .exhausted })) (I y k ++ (M y k ++ (F' ++ [blk D (.deferred (some []))]))) := by
      have := (h3.putObj (.loop { rec (if y then .ready else .done) (if y then none else some jump) with state := .exhausted })).tail
      refine this.perm ?_
      refine (List.perm_append_singleton _ _).symm.trans ?_
      simp [List.append_assoc]
    have hfx : FitsX n [mark D] { a with defers := [mark D] ++ a.defers } env := ⟨hf.size, by rw [hf.defs]; rfl, hf.at_⟩
    cases y with
    | true =>
      obtain rfl := h1 rfl
      refine ⟨none, _, by rw [he, hrec]; rfl, (hdone D).out _ _ hfx h4⟩
    | false =>
      refine ⟨some jump, _, by rw [he, hrec]; rfl, (hstop D k (h2 rfl).1 (h2 rfl).2).out _ _ hfx h4⟩
  · intro k x A w1 hx hw1
    rw [hJ] at hw1
    have hw1 := holds_sep.1 hw1
    have hl := hw1.get_blk
    refine ⟨?_⟩
    have hy := run_yield (P := P) (args := (encs x).toArray) hl (by rw [hrec]; simpa using hps x)
    rw [hrec] at hy
    refine ⟨fn, _, assign, body, hy, roundIn_of_wpIn trivial (wide_any (n := 5) ((hassign (D + 1) k x _ _ hx ⟨fun a1 w1 hf1 hh => ?_⟩).out _ w1 ?_ hw1))⟩
    · have hl1 := hh.get_blk
      refine ⟨_, run_beginRound hl1 (by rw [hrec]; rfl), ?_⟩
      have hb := hh.putObj (.loop { rec .ready none with state := .busy })
      have hbody' := (hbody (D + 1) k x (blk (D + 1) (.loop { rec .ready none with state := .busy }) :: blk D (.deferred (some [])) :: A) hx).out a1 _ hf1 (hb.perm ?_)
      · refine wide_any (n := 5) (Code.wpIn_mono (fun e a3 w3 hq => ?_) hbody')
        have fin : ∀ (y : Bool) (jmp : Option Code), jmp = (if y then none else some jump) → holds w3 (I y (k + 1) ++ (M y (k + 1) ++ (blk (D + 1) (.loop { rec .ready none with state := .busy }) :: blk D (.deferred (some [])) :: A))) →
            ∃ v w', (Instr.endRound (D + 1) jmp).run P w3 = .ok v w' ∧ ∃ y : Bool, Ending.returned v = .returned (.bool y) ∧ holds w' (J y (k + 1) :: (M y (k + 1) ++ A)) := by
          intro y jmp hj hq
          have hq2 : holds w3 (blk (D + 1) (.loop { rec .ready none with state := .busy }) :: blk D (.deferred (some [])) :: (I y (k + 1) ++ (M y (k + 1) ++ A))) := by
            refine hq.perm ?_
            refine (List.Perm.append_left _ (List.perm_middle.trans (List.Perm.cons _ List.perm_middle))).trans ?_
            exact List.perm_middle.trans (List.Perm.cons _ List.perm_middle)
          refine ⟨_, _, run_endRound jmp hq2.get_blk, y, by subst hj; cases y <;> rfl, ?_⟩
          rw [hJ]
          refine holds_sep.2 ?_
          have := hq2.putObj (.loop { ({ rec .ready none with state := .busy } : Loop) with state := if jmp.isNone then .ready else .done, pending := jmp })
          subst hj
          rw [hrec] at this ⊢
          cases y <;> exact this
        cases e with
        | normal => exact fin true none rfl hq
        | ret => obtain ⟨rfl, hq⟩ := hq; exact fin false _ rfl hq
        | exit id => obtain ⟨rfl, hq⟩ := hq; exact fin false _ rfl hq
        | goto t => obtain ⟨rfl, hq⟩ := hq; exact fin false _ rfl hq
        | panic ch => exact hq.elim
        | outgrown => exact hq.elim
      · simp only [List.cons_append]
        refine (List.Perm.symm ?_)
        refine (List.Perm.append_left _ (List.perm_middle.trans (List.Perm.cons _ List.perm_middle))).trans ?_
        exact List.perm_middle.trans (List.Perm.cons _ List.perm_middle)
    · have := puts_fits ps (encs x) env ⟨a.tmps, []⟩ ⟨hf.size, rfl, hf.at_⟩ hlt
      simpa using this
  · rw [hJ]; exact holds_sep.2 hW
/-- Behind the statement: the walk goes on as GI. -/
theorem GEI.thenW {ds : List Deferred} {F : List HProp} {y : Code} (h : GI Fence.wide P n ds y Q env F) : GEI n ds .normal (Exit.then (fun a w => y.wp P Q a w) Q) env F := ⟨fun a w hf hw => (wpIn_wide (n := 5)).1 (h.out a w hf hw)⟩
theorem GEI.of {e : Exit} {F : List HProp} (h : GE n e Q env F) : GEI n [] e Q env F := ⟨fun a w hf hw => h.out a w hf.bare' hw⟩
/-- A call of a function with such a statement begins. -/
theorem Ct.goM {F : List HProp} {f : FuncId} {fn : Func} {c : Code} {args : List Value} {w : World} {R : Ending → World → Prop} (hf : P.funcs[f]? = some fn) (hb : fn.body = some c) (hn : fn.ntmps = n) (hargs : Nat.ble args.length n = true) (hw : holds w F)
    (h : G P n c (bodyPostM Fence.wide 5 P fn R) (env0 0 args) F) : Ct P f args.toArray w R := ⟨by
  have hle : args.length ≤ n := by simpa using hargs
  refine callsIn_wide.1 (callsIn_of_wp_marks (n := 5) hf hb trivial ((wpIn_wide (n := 5)).2 (h.out _ w ⟨?_, rfl, fun k v hk => ?_⟩ hw)))
  · simp [hn]; omega
  · obtain ⟨_, h2⟩ := look_env0 args 0 k v hk
    rw [Nat.sub_zero] at h2
    have hlt : k < args.length := (List.getElem?_eq_some_iff.1 h2).1
    have h3 : args[k] = v := by have := List.getElem?_eq_getElem hlt; rw [h2] at this; exact (Option.some.inj this).symm
    simp [Array.getElem?_append, hlt, h3]⟩
def resV : List Value → Value
  | [v] => v
  | l => .tuple l.toArray
theorem resV_eq (vs : List Value) : (if h : vs.toArray.size = 1 then vs.toArray[0] else .tuple vs.toArray) = resV vs := by
  match vs with
  | [] => rfl
  | [v] => rfl
  | v :: u :: l => simp [resV]
/-- Such a function's end, ahead of the statement or with its mark. -/
theorem GE.resM {F : List HProp} {rs : List ResultVar} {vs : List Value} {fn : Func} {R : Ending → World → Prop} {e : Exit} (he : e = .ret ∨ e = .normal) (hr : fn.results = rs.toArray) (h : Res P n env F rs vs) (hR : ∀ w, holds w F → R (.returned (resV vs)) w) : GE n e (bodyPostM Fence.wide 5 P fn R) env F := .mk fun a w hf hw => by
  have h1 := h.run hr hf hw
  have : LeavesInM Fence.wide 5 P fn a.tmps R a.defers .returning w := by
    rw [hf.defs]
    exact ⟨_, h1, by rw [resV_eq]; exact hR w hw⟩
  rcases he with rfl | rfl <;> exact this
theorem GEI.resM {F F1 : List HProp} {rs : List ResultVar} {vs : List Value} {fn : Func} {R : Ending → World → Prop} {D : Nat} {e : Exit} (he : e = .ret ∨ e = .normal) (hr : fn.results = rs.toArray) (hD : ∀ w, holds w F → holds w (blk D (.deferred (some [])) :: F1)) (h : Res P n env F1 rs vs) (hR : ∀ w, holds w F1 → R (.returned (resV vs)) w) : GEI n [mark D] e (bodyPostM Fence.wide 5 P fn R) env F := ⟨fun a w hf hw => by
  have hw1 := hD w hw
  have hw2 := (hw1.putObj (.deferred none)).tail
  have h1 := h.run hr hf.bare hw2
  have : LeavesInM Fence.wide 5 P fn a.tmps R a.defers .returning w := by
    rw [hf.defs]
    refine ⟨by simp, .inl ⟨D, _, rfl, run_takeDeferred hw1.get_blk, _, h1, by rw [resV_eq]; exact hR _ hw2⟩⟩
  rcases he with rfl | rfl <;> exact this⟩
end
end
end Go.Proofs.Ytfiggkbclldccaa

/- Contracts of slices' functions that are handed a function. Printed by genhof.py. -/
namespace Go.Proofs.Ytfiggkbclldccaa
open Go Go.RowKit Go.MapKept
set_option linter.unusedVariables false
set_option linter.unusedSimpArgs false
set_option maxRecDepth 100000
set_option maxHeartbeats 4000000

/-- slices.IndexFunc[[]copyhold/api.Member,copyhold/api.Member] -/
theorem ctIndexFunc61 {α : Type} {enc : α → List Value} [Enc enc 4] (v : Value) (l : List α) (p : α → Bool) (g : FuncId) (fs cs : List Value) [Own Try.prog g] (hl : l.length ≤ 1099511627776) (w : World) (F : List HProp) [Reads F v enc 4 l]
    (hcl : ∀ x ∈ l, ∀ w, holds w F → Ct Try.prog g (fs ++ [Value.agg (enc x).toArray] ++ cs).toArray w fun e w' => e = .returned (.bool (p x)) ∧ holds w' F) (hw : holds w F) :
    Ct Try.prog 61 #[v, .func (.func g) fs.toArray cs.toArray] w fun e w' => ∃ r : {r : Int // IsIdx p l r}, e = .returned (.int .i64 r.1) ∧ holds w' F := by
  refine Ct.go (args := [v, .func (.func g) fs.toArray cs.toArray]) Try.func61 rfl rfl rfl hw ?_
  repeat' (first | (apply GL.isAny; first | refine GL.runA rfl ?_ | (apply GL.isStore; first | refine GL.storeBlk rfl rfl rfl rfl rfl ?_ | refine GL.storeWhole rfl rfl rfl rfl rfl ?_ | refine GL.storeBlkA rfl rfl rfl rfl rfl ?_) | refine GL.guardY rfl rfl ?_ | refine GL.guardN rfl rfl rfl ?_ | refine GL.guardU rfl rfl rfl ?_ | (apply GL.isBox; first | refine GL.boxA rfl rfl (fun _ => ?_) | refine GL.box1 rfl rfl rfl (fun _ => ?_) | refine GL.box rfl rfl (fun _ => ?_)) | (apply GL.isBuildS; first | refine GL.buildSlice1A rfl rfl rfl rfl rfl (fun _ => ?_) | refine GL.buildSlice1 rfl rfl rfl rfl rfl (fun _ => ?_)) | (apply GL.isCall; refine GL.append1 _ rfl rfl rfl rfl (by rfl) (by omega) (by omega) rfl (fun _ => ?_)) | (apply GL.isAlloc; refine GL.alloc rfl (fun _ => ?_))) | apply GL.nil | first | apply G.seq | apply G.region | apply G.block | apply G.skip | apply G.exit | apply G.ret | (apply G.isCond; first | refine G.condT rfl ?_ | refine G.condF rfl ?_) | refine G.draw (by kernel_rfl) (by kernel_rfl) ?_ | (apply GE.isAny; first | apply GE.again | apply GE.thenG | apply GE.blockN | apply GE.blockE | apply GE.thenE | apply GE.thenR | apply GE.blockR | refine GE.blockO rfl ?_ | apply GE.only) | (apply GD.isAny; first | refine GD.runA rfl ?_ | refine GD.guardY rfl rfl ?_ | refine GD.guardN rfl rfl rfl ?_ | refine GD.guardU rfl rfl rfl ?_) | apply GD.nilE | apply GD.nilL | (apply GT.isAny; refine GT.runA rfl rfl ?_) | ((first | (apply GL.isAny; refine GL.guard rfl rfl (fun hc => ?_) (fun hc => ?_)) | (apply G.isCond; refine G.cond rfl (fun hc => ?_) (fun hc => ?_)) | (apply GD.isAny; refine GD.guard rfl rfl (fun hc => ?_) (fun hc => ?_))) <;> ((try simp only [decide_eq_true_eq, decide_eq_false_iff_not, Bool.not_true, Bool.not_false, ne_eq, Classical.not_not, Int.not_lt, Int.not_le] at hc); (try (exfalso; first | omega | exact hc trivial | exact hc rfl)))))
  refine G.loop (α := Nat) (fun k => [(0, v), (1, .func (.func g) fs.toArray cs.toArray), (7, .int .i64 l.length), (8, .int .i64 k)]) (fun k => F) (fun k => k ≤ l.length ∧ ∀ (j : Nat) (h : j < l.length), j < k → p l[j] = false) (fun k => l.length - k) 0 ⟨Nat.zero_le _, fun j h hj => absurd hj (Nat.not_lt_zero j)⟩ ⟨rfl, rfl, rfl, rfl, trivial⟩ (fun w h => h) ?_
  rintro k ⟨hk, hn⟩
  by_cases hlt : k < l.length
  · have hx := hcl _ (List.getElem_mem hlt)
    repeat' (first | ((apply GL.isCall; refine GL.callV1 (first := fs) (captured := cs) rfl rfl rfl (fun w h => hx w h) ?_)) | first | (apply GL.isAny; first | refine GL.runA rfl ?_ | (apply GL.isStore; first | refine GL.storeBlk rfl rfl rfl rfl rfl ?_ | refine GL.storeWhole rfl rfl rfl rfl rfl ?_ | refine GL.storeBlkA rfl rfl rfl rfl rfl ?_) | refine GL.guardY rfl rfl ?_ | refine GL.guardN rfl rfl rfl ?_ | refine GL.guardU rfl rfl rfl ?_ | (apply GL.isBox; first | refine GL.boxA rfl rfl (fun _ => ?_) | refine GL.box1 rfl rfl rfl (fun _ => ?_) | refine GL.box rfl rfl (fun _ => ?_)) | (apply GL.isBuildS; first | refine GL.buildSlice1A rfl rfl rfl rfl rfl (fun _ => ?_) | refine GL.buildSlice1 rfl rfl rfl rfl rfl (fun _ => ?_)) | (apply GL.isCall; refine GL.append1 _ rfl rfl rfl rfl (by rfl) (by omega) (by omega) rfl (fun _ => ?_)) | (apply GL.isAlloc; refine GL.alloc rfl (fun _ => ?_))) | apply GL.nil | first | apply G.seq | apply G.region | apply G.block | apply G.skip | apply G.exit | apply G.ret | (apply G.isCond; first | refine G.condT rfl ?_ | refine G.condF rfl ?_) | refine G.draw (by kernel_rfl) (by kernel_rfl) ?_ | (apply GE.isAny; first | apply GE.again | apply GE.thenG | apply GE.blockN | apply GE.blockE | apply GE.thenE | apply GE.thenR | apply GE.blockR | refine GE.blockO rfl ?_ | apply GE.only) | (apply GD.isAny; first | refine GD.runA rfl ?_ | refine GD.guardY rfl rfl ?_ | refine GD.guardN rfl rfl rfl ?_ | refine GD.guardU rfl rfl rfl ?_) | apply GD.nilE | apply GD.nilL | (apply GT.isAny; refine GT.runA rfl rfl ?_) | ((first | (apply GL.isAny; refine GL.guard rfl rfl (fun hc => ?_) (fun hc => ?_)) | (apply G.isCond; refine G.cond rfl (fun hc => ?_) (fun hc => ?_)) | (apply GD.isAny; refine GD.guard rfl rfl (fun hc => ?_) (fun hc => ?_))) <;> ((try simp only [decide_eq_true_eq, decide_eq_false_iff_not, Bool.not_true, Bool.not_false, ne_eq, Classical.not_not, Int.not_lt, Int.not_le] at hc); (try (exfalso; first | omega | exact hc trivial | exact hc rfl)))))
    · refine GE.resOne rfl (by (repeat (first | apply Res.nil | (apply Res.tmp; rfl) | (refine Res.cellA rfl rfl rfl ?_) | (refine Res.cell1 rfl rfl ?_)))) (fun w h => ?_)
      exact ⟨⟨k, .inr ⟨k, hlt, rfl, hc, hn⟩⟩, rfl, h⟩
    · exact GE.round (k + 1) ⟨by omega, fun j hj hjk => by
        rcases Nat.lt_or_ge j k with h1 | h1
        · exact hn j hj h1
        · obtain rfl : j = k := by omega
          simpa using hc⟩ ⟨rfl, rfl, rfl, rfl, trivial⟩ (fun w h => h) (by omega)
  · repeat' (first | (apply GL.isAny; first | refine GL.runA rfl ?_ | (apply GL.isStore; first | refine GL.storeBlk rfl rfl rfl rfl rfl ?_ | refine GL.storeWhole rfl rfl rfl rfl rfl ?_ | refine GL.storeBlkA rfl rfl rfl rfl rfl ?_) | refine GL.guardY rfl rfl ?_ | refine GL.guardN rfl rfl rfl ?_ | refine GL.guardU rfl rfl rfl ?_ | (apply GL.isBox; first | refine GL.boxA rfl rfl (fun _ => ?_) | refine GL.box1 rfl rfl rfl (fun _ => ?_) | refine GL.box rfl rfl (fun _ => ?_)) | (apply GL.isBuildS; first | refine GL.buildSlice1A rfl rfl rfl rfl rfl (fun _ => ?_) | refine GL.buildSlice1 rfl rfl rfl rfl rfl (fun _ => ?_)) | (apply GL.isCall; refine GL.append1 _ rfl rfl rfl rfl (by rfl) (by omega) (by omega) rfl (fun _ => ?_)) | (apply GL.isAlloc; refine GL.alloc rfl (fun _ => ?_))) | apply GL.nil | first | apply G.seq | apply G.region | apply G.block | apply G.skip | apply G.exit | apply G.ret | (apply G.isCond; first | refine G.condT rfl ?_ | refine G.condF rfl ?_) | refine G.draw (by kernel_rfl) (by kernel_rfl) ?_ | (apply GE.isAny; first | apply GE.again | apply GE.thenG | apply GE.blockN | apply GE.blockE | apply GE.thenE | apply GE.thenR | apply GE.blockR | refine GE.blockO rfl ?_ | apply GE.only) | (apply GD.isAny; first | refine GD.runA rfl ?_ | refine GD.guardY rfl rfl ?_ | refine GD.guardN rfl rfl rfl ?_ | refine GD.guardU rfl rfl rfl ?_) | apply GD.nilE | apply GD.nilL | (apply GT.isAny; refine GT.runA rfl rfl ?_) | ((first | (apply GL.isAny; refine GL.guard rfl rfl (fun hc => ?_) (fun hc => ?_)) | (apply G.isCond; refine G.cond rfl (fun hc => ?_) (fun hc => ?_)) | (apply GD.isAny; refine GD.guard rfl rfl (fun hc => ?_) (fun hc => ?_))) <;> ((try simp only [decide_eq_true_eq, decide_eq_false_iff_not, Bool.not_true, Bool.not_false, ne_eq, Classical.not_not, Int.not_lt, Int.not_le] at hc); (try (exfalso; first | omega | exact hc trivial | exact hc rfl)))))
    refine GE.resOne rfl (by (repeat (first | apply Res.nil | (apply Res.tmp; rfl) | (refine Res.cellA rfl rfl rfl ?_) | (refine Res.cell1 rfl rfl ?_)))) (fun w h => ?_)
    exact ⟨⟨-1, .inl ⟨rfl, fun x hx => by obtain ⟨j, hj, rfl⟩ := List.getElem_of_mem hx; exact hn j hj (by omega)⟩⟩, rfl, h⟩

/-- slices.IndexFunc[[]int,int] -/
theorem ctIndexFunc126  (v : Value) (l : List Int) (p : Int → Bool) (g : FuncId) (fs cs : List Value) [Own Try.prog g] (hl : l.length ≤ 1099511627776) (w : World) (F : List HProp) [Reads F v encI1 1 l]
    (hcl : ∀ x ∈ l, ∀ w, holds w F → Ct Try.prog g (fs ++ [Value.int .i64 x] ++ cs).toArray w fun e w' => e = .returned (.bool (p x)) ∧ holds w' F) (hw : holds w F) :
    Ct Try.prog 126 #[v, .func (.func g) fs.toArray cs.toArray] w fun e w' => ∃ r : {r : Int // IsIdx p l r}, e = .returned (.int .i64 r.1) ∧ holds w' F := by
  refine Ct.go (args := [v, .func (.func g) fs.toArray cs.toArray]) Try.func126 rfl rfl rfl hw ?_
  repeat' (first | (apply GL.isAny; first | refine GL.runA rfl ?_ | (apply GL.isStore; first | refine GL.storeBlk rfl rfl rfl rfl rfl ?_ | refine GL.storeWhole rfl rfl rfl rfl rfl ?_ | refine GL.storeBlkA rfl rfl rfl rfl rfl ?_) | refine GL.guardY rfl rfl ?_ | refine GL.guardN rfl rfl rfl ?_ | refine GL.guardU rfl rfl rfl ?_ | (apply GL.isBox; first | refine GL.boxA rfl rfl (fun _ => ?_) | refine GL.box1 rfl rfl rfl (fun _ => ?_) | refine GL.box rfl rfl (fun _ => ?_)) | (apply GL.isBuildS; first | refine GL.buildSlice1A rfl rfl rfl rfl rfl (fun _ => ?_) | refine GL.buildSlice1 rfl rfl rfl rfl rfl (fun _ => ?_)) | (apply GL.isCall; refine GL.append1 _ rfl rfl rfl rfl (by rfl) (by omega) (by omega) rfl (fun _ => ?_)) | (apply GL.isAlloc; refine GL.alloc rfl (fun _ => ?_))) | apply GL.nil | first | apply G.seq | apply G.region | apply G.block | apply G.skip | apply G.exit | apply G.ret | (apply G.isCond; first | refine G.condT rfl ?_ | refine G.condF rfl ?_) | refine G.draw (by kernel_rfl) (by kernel_rfl) ?_ | (apply GE.isAny; first | apply GE.again | apply GE.thenG | apply GE.blockN | apply GE.blockE | apply GE.thenE | apply GE.thenR | apply GE.blockR | refine GE.blockO rfl ?_ | apply GE.only) | (apply GD.isAny; first | refine GD.runA rfl ?_ | refine GD.guardY rfl rfl ?_ | refine GD.guardN rfl rfl rfl ?_ | refine GD.guardU rfl rfl rfl ?_) | apply GD.nilE | apply GD.nilL | (apply GT.isAny; refine GT.runA rfl rfl ?_) | ((first | (apply GL.isAny; refine GL.guard rfl rfl (fun hc => ?_) (fun hc => ?_)) | (apply G.isCond; refine G.cond rfl (fun hc => ?_) (fun hc => ?_)) | (apply GD.isAny; refine GD.guard rfl rfl (fun hc => ?_) (fun hc => ?_))) <;> ((try simp only [decide_eq_true_eq, decide_eq_false_iff_not, Bool.not_true, Bool.not_false, ne_eq, Classical.not_not, Int.not_lt, Int.not_le] at hc); (try (exfalso; first | omega | exact hc trivial | exact hc rfl)))))
  refine G.loop (α := Nat) (fun k => [(0, v), (1, .func (.func g) fs.toArray cs.toArray), (7, .int .i64 l.length), (8, .int .i64 k)]) (fun k => F) (fun k => k ≤ l.length ∧ ∀ (j : Nat) (h : j < l.length), j < k → p l[j] = false) (fun k => l.length - k) 0 ⟨Nat.zero_le _, fun j h hj => absurd hj (Nat.not_lt_zero j)⟩ ⟨rfl, rfl, rfl, rfl, trivial⟩ (fun w h => h) ?_
  rintro k ⟨hk, hn⟩
  by_cases hlt : k < l.length
  · have hx := hcl _ (List.getElem_mem hlt)
    repeat' (first | ((apply GL.isCall; refine GL.callV1 (first := fs) (captured := cs) rfl rfl rfl (fun w h => hx w h) ?_)) | first | (apply GL.isAny; first | refine GL.runA rfl ?_ | (apply GL.isStore; first | refine GL.storeBlk rfl rfl rfl rfl rfl ?_ | refine GL.storeWhole rfl rfl rfl rfl rfl ?_ | refine GL.storeBlkA rfl rfl rfl rfl rfl ?_) | refine GL.guardY rfl rfl ?_ | refine GL.guardN rfl rfl rfl ?_ | refine GL.guardU rfl rfl rfl ?_ | (apply GL.isBox; first | refine GL.boxA rfl rfl (fun _ => ?_) | refine GL.box1 rfl rfl rfl (fun _ => ?_) | refine GL.box rfl rfl (fun _ => ?_)) | (apply GL.isBuildS; first | refine GL.buildSlice1A rfl rfl rfl rfl rfl (fun _ => ?_) | refine GL.buildSlice1 rfl rfl rfl rfl rfl (fun _ => ?_)) | (apply GL.isCall; refine GL.append1 _ rfl rfl rfl rfl (by rfl) (by omega) (by omega) rfl (fun _ => ?_)) | (apply GL.isAlloc; refine GL.alloc rfl (fun _ => ?_))) | apply GL.nil | first | apply G.seq | apply G.region | apply G.block | apply G.skip | apply G.exit | apply G.ret | (apply G.isCond; first | refine G.condT rfl ?_ | refine G.condF rfl ?_) | refine G.draw (by kernel_rfl) (by kernel_rfl) ?_ | (apply GE.isAny; first | apply GE.again | apply GE.thenG | apply GE.blockN | apply GE.blockE | apply GE.thenE | apply GE.thenR | apply GE.blockR | refine GE.blockO rfl ?_ | apply GE.only) | (apply GD.isAny; first | refine GD.runA rfl ?_ | refine GD.guardY rfl rfl ?_ | refine GD.guardN rfl rfl rfl ?_ | refine GD.guardU rfl rfl rfl ?_) | apply GD.nilE | apply GD.nilL | (apply GT.isAny; refine GT.runA rfl rfl ?_) | ((first | (apply GL.isAny; refine GL.guard rfl rfl (fun hc => ?_) (fun hc => ?_)) | (apply G.isCond; refine G.cond rfl (fun hc => ?_) (fun hc => ?_)) | (apply GD.isAny; refine GD.guard rfl rfl (fun hc => ?_) (fun hc => ?_))) <;> ((try simp only [decide_eq_true_eq, decide_eq_false_iff_not, Bool.not_true, Bool.not_false, ne_eq, Classical.not_not, Int.not_lt, Int.not_le] at hc); (try (exfalso; first | omega | exact hc trivial | exact hc rfl)))))
    · refine GE.resOne rfl (by (repeat (first | apply Res.nil | (apply Res.tmp; rfl) | (refine Res.cellA rfl rfl rfl ?_) | (refine Res.cell1 rfl rfl ?_)))) (fun w h => ?_)
      exact ⟨⟨k, .inr ⟨k, hlt, rfl, hc, hn⟩⟩, rfl, h⟩
    · exact GE.round (k + 1) ⟨by omega, fun j hj hjk => by
        rcases Nat.lt_or_ge j k with h1 | h1
        · exact hn j hj h1
        · obtain rfl : j = k := by omega
          simpa using hc⟩ ⟨rfl, rfl, rfl, rfl, trivial⟩ (fun w h => h) (by omega)
  · repeat' (first | (apply GL.isAny; first | refine GL.runA rfl ?_ | (apply GL.isStore; first | refine GL.storeBlk rfl rfl rfl rfl rfl ?_ | refine GL.storeWhole rfl rfl rfl rfl rfl ?_ | refine GL.storeBlkA rfl rfl rfl rfl rfl ?_) | refine GL.guardY rfl rfl ?_ | refine GL.guardN rfl rfl rfl ?_ | refine GL.guardU rfl rfl rfl ?_ | (apply GL.isBox; first | refine GL.boxA rfl rfl (fun _ => ?_) | refine GL.box1 rfl rfl rfl (fun _ => ?_) | refine GL.box rfl rfl (fun _ => ?_)) | (apply GL.isBuildS; first | refine GL.buildSlice1A rfl rfl rfl rfl rfl (fun _ => ?_) | refine GL.buildSlice1 rfl rfl rfl rfl rfl (fun _ => ?_)) | (apply GL.isCall; refine GL.append1 _ rfl rfl rfl rfl (by rfl) (by omega) (by omega) rfl (fun _ => ?_)) | (apply GL.isAlloc; refine GL.alloc rfl (fun _ => ?_))) | apply GL.nil | first | apply G.seq | apply G.region | apply G.block | apply G.skip | apply G.exit | apply G.ret | (apply G.isCond; first | refine G.condT rfl ?_ | refine G.condF rfl ?_) | refine G.draw (by kernel_rfl) (by kernel_rfl) ?_ | (apply GE.isAny; first | apply GE.again | apply GE.thenG | apply GE.blockN | apply GE.blockE | apply GE.thenE | apply GE.thenR | apply GE.blockR | refine GE.blockO rfl ?_ | apply GE.only) | (apply GD.isAny; first | refine GD.runA rfl ?_ | refine GD.guardY rfl rfl ?_ | refine GD.guardN rfl rfl rfl ?_ | refine GD.guardU rfl rfl rfl ?_) | apply GD.nilE | apply GD.nilL | (apply GT.isAny; refine GT.runA rfl rfl ?_) | ((first | (apply GL.isAny; refine GL.guard rfl rfl (fun hc => ?_) (fun hc => ?_)) | (apply G.isCond; refine G.cond rfl (fun hc => ?_) (fun hc => ?_)) | (apply GD.isAny; refine GD.guard rfl rfl (fun hc => ?_) (fun hc => ?_))) <;> ((try simp only [decide_eq_true_eq, decide_eq_false_iff_not, Bool.not_true, Bool.not_false, ne_eq, Classical.not_not, Int.not_lt, Int.not_le] at hc); (try (exfalso; first | omega | exact hc trivial | exact hc rfl)))))
    refine GE.resOne rfl (by (repeat (first | apply Res.nil | (apply Res.tmp; rfl) | (refine Res.cellA rfl rfl rfl ?_) | (refine Res.cell1 rfl rfl ?_)))) (fun w h => ?_)
    exact ⟨⟨-1, .inl ⟨rfl, fun x hx => by obtain ⟨j, hj, rfl⟩ := List.getElem_of_mem hx; exact hn j hj (by omega)⟩⟩, rfl, h⟩

/-- slices.ContainsFunc[[]int,int] -/
theorem ctContainsFunc104  (v : Value) (l : List Int) (p : Int → Bool) (g : FuncId) (fs cs : List Value) [Own Try.prog g] (hl : l.length ≤ 1099511627776) (w : World) (F : List HProp) [Reads F v encI1 1 l]
    (hcl : ∀ x ∈ l, ∀ w, holds w F → Ct Try.prog g (fs ++ [Value.int .i64 x] ++ cs).toArray w fun e w' => e = .returned (.bool (p x)) ∧ holds w' F) (hw : holds w F) :
    Ct Try.prog 104 #[v, .func (.func g) fs.toArray cs.toArray] w fun e w' => e = .returned (.bool (l.any p)) ∧ holds w' F := by
  refine Ct.go (args := [v, .func (.func g) fs.toArray cs.toArray]) Try.func104 rfl rfl rfl hw ?_
  repeat' (first | ((apply GL.isCall; refine GL.call rfl rfl (fun w h => ctIndexFunc126 v l p g fs cs hl w _ hcl h) (fun r => ?_); obtain ⟨r, hr⟩ := r; dsimp only)) | first | (apply GL.isAny; first | refine GL.runA rfl ?_ | (apply GL.isStore; first | refine GL.storeBlk rfl rfl rfl rfl rfl ?_ | refine GL.storeWhole rfl rfl rfl rfl rfl ?_ | refine GL.storeBlkA rfl rfl rfl rfl rfl ?_) | refine GL.guardY rfl rfl ?_ | refine GL.guardN rfl rfl rfl ?_ | refine GL.guardU rfl rfl rfl ?_ | (apply GL.isBox; first | refine GL.boxA rfl rfl (fun _ => ?_) | refine GL.box1 rfl rfl rfl (fun _ => ?_) | refine GL.box rfl rfl (fun _ => ?_)) | (apply GL.isBuildS; first | refine GL.buildSlice1A rfl rfl rfl rfl rfl (fun _ => ?_) | refine GL.buildSlice1 rfl rfl rfl rfl rfl (fun _ => ?_)) | (apply GL.isCall; refine GL.append1 _ rfl rfl rfl rfl (by rfl) (by omega) (by omega) rfl (fun _ => ?_)) | (apply GL.isAlloc; refine GL.alloc rfl (fun _ => ?_))) | apply GL.nil | first | apply G.seq | apply G.region | apply G.block | apply G.skip | apply G.exit | apply G.ret | (apply G.isCond; first | refine G.condT rfl ?_ | refine G.condF rfl ?_) | refine G.draw (by kernel_rfl) (by kernel_rfl) ?_ | (apply GE.isAny; first | apply GE.again | apply GE.thenG | apply GE.blockN | apply GE.blockE | apply GE.thenE | apply GE.thenR | apply GE.blockR | refine GE.blockO rfl ?_ | apply GE.only) | (apply GD.isAny; first | refine GD.runA rfl ?_ | refine GD.guardY rfl rfl ?_ | refine GD.guardN rfl rfl rfl ?_ | refine GD.guardU rfl rfl rfl ?_) | apply GD.nilE | apply GD.nilL | (apply GT.isAny; refine GT.runA rfl rfl ?_) | ((first | (apply GL.isAny; refine GL.guard rfl rfl (fun hc => ?_) (fun hc => ?_)) | (apply G.isCond; refine G.cond rfl (fun hc => ?_) (fun hc => ?_)) | (apply GD.isAny; refine GD.guard rfl rfl (fun hc => ?_) (fun hc => ?_))) <;> ((try simp only [decide_eq_true_eq, decide_eq_false_iff_not, Bool.not_true, Bool.not_false, ne_eq, Classical.not_not, Int.not_lt, Int.not_le] at hc); (try (exfalso; first | omega | exact hc trivial | exact hc rfl)))))
  refine GE.resOne rfl (by (repeat (first | apply Res.nil | (apply Res.tmp; rfl) | (refine Res.cellA rfl rfl rfl ?_) | (refine Res.cell1 rfl rfl ?_)))) (fun w h => ?_)
  refine ⟨?_, h⟩
  rw [hr.any]

/-- slices.ContainsFunc[[]copyhold/api.Member,copyhold/api.Member] -/
theorem ctContainsFunc107 {α : Type} {enc : α → List Value} [Enc enc 4] (v : Value) (l : List α) (p : α → Bool) (g : FuncId) (fs cs : List Value) [Own Try.prog g] (hl : l.length ≤ 1099511627776) (w : World) (F : List HProp) [Reads F v enc 4 l]
    (hcl : ∀ x ∈ l, ∀ w, holds w F → Ct Try.prog g (fs ++ [Value.agg (enc x).toArray] ++ cs).toArray w fun e w' => e = .returned (.bool (p x)) ∧ holds w' F) (hw : holds w F) :
    Ct Try.prog 107 #[v, .func (.func g) fs.toArray cs.toArray] w fun e w' => e = .returned (.bool (l.any p)) ∧ holds w' F := by
  refine Ct.go (args := [v, .func (.func g) fs.toArray cs.toArray]) Try.func107 rfl rfl rfl hw ?_
  repeat' (first | ((apply GL.isCall; refine GL.call rfl rfl (fun w h => ctIndexFunc61 v l p g fs cs hl w _ hcl h) (fun r => ?_); obtain ⟨r, hr⟩ := r; dsimp only)) | first | (apply GL.isAny; first | refine GL.runA rfl ?_ | (apply GL.isStore; first | refine GL.storeBlk rfl rfl rfl rfl rfl ?_ | refine GL.storeWhole rfl rfl rfl rfl rfl ?_ | refine GL.storeBlkA rfl rfl rfl rfl rfl ?_) | refine GL.guardY rfl rfl ?_ | refine GL.guardN rfl rfl rfl ?_ | refine GL.guardU rfl rfl rfl ?_ | (apply GL.isBox; first | refine GL.boxA rfl rfl (fun _ => ?_) | refine GL.box1 rfl rfl rfl (fun _ => ?_) | refine GL.box rfl rfl (fun _ => ?_)) | (apply GL.isBuildS; first | refine GL.buildSlice1A rfl rfl rfl rfl rfl (fun _ => ?_) | refine GL.buildSlice1 rfl rfl rfl rfl rfl (fun _ => ?_)) | (apply GL.isCall; refine GL.append1 _ rfl rfl rfl rfl (by rfl) (by omega) (by omega) rfl (fun _ => ?_)) | (apply GL.isAlloc; refine GL.alloc rfl (fun _ => ?_))) | apply GL.nil | first | apply G.seq | apply G.region | apply G.block | apply G.skip | apply G.exit | apply G.ret | (apply G.isCond; first | refine G.condT rfl ?_ | refine G.condF rfl ?_) | refine G.draw (by kernel_rfl) (by kernel_rfl) ?_ | (apply GE.isAny; first | apply GE.again | apply GE.thenG | apply GE.blockN | apply GE.blockE | apply GE.thenE | apply GE.thenR | apply GE.blockR | refine GE.blockO rfl ?_ | apply GE.only) | (apply GD.isAny; first | refine GD.runA rfl ?_ | refine GD.guardY rfl rfl ?_ | refine GD.guardN rfl rfl rfl ?_ | refine GD.guardU rfl rfl rfl ?_) | apply GD.nilE | apply GD.nilL | (apply GT.isAny; refine GT.runA rfl rfl ?_) | ((first | (apply GL.isAny; refine GL.guard rfl rfl (fun hc => ?_) (fun hc => ?_)) | (apply G.isCond; refine G.cond rfl (fun hc => ?_) (fun hc => ?_)) | (apply GD.isAny; refine GD.guard rfl rfl (fun hc => ?_) (fun hc => ?_))) <;> ((try simp only [decide_eq_true_eq, decide_eq_false_iff_not, Bool.not_true, Bool.not_false, ne_eq, Classical.not_not, Int.not_lt, Int.not_le] at hc); (try (exfalso; first | omega | exact hc trivial | exact hc rfl)))))
  refine GE.resOne rfl (by (repeat (first | apply Res.nil | (apply Res.tmp; rfl) | (refine Res.cellA rfl rfl rfl ?_) | (refine Res.cell1 rfl rfl ?_)))) (fun w h => ?_)
  refine ⟨?_, h⟩
  rw [hr.any]

/-- slices.EqualFunc[[]copyhold/api.Chunk,[]copyhold/api.Chunk,copyhold/api.Chunk,copyhold/api.Chunk] -/
theorem ctEqualFunc42 {α : Type} {enc : α → List Value} [Enc enc 3] (v u : Value) (l l' : List α) (p : α → α → Bool) (g : FuncId) (fs cs : List Value) [Own Try.prog g] (hl : l.length ≤ 1099511627776) (hl' : l'.length ≤ 1099511627776) (w : World) (F : List HProp) [Reads F v enc 3 l] [Reads F u enc 3 l']
    (hcl : ∀ x ∈ l, ∀ y ∈ l', ∀ w (G : List HProp), holds w (G ++ F) → Ct Try.prog g (fs ++ [Value.agg (enc x).toArray, Value.agg (enc y).toArray] ++ cs).toArray w fun e w' => e = .returned (.bool (p x y)) ∧ holds w' (G ++ F)) (hw : holds w F) :
    Ct Try.prog 42 #[v, u, .func (.func g) fs.toArray cs.toArray] w fun e w' => e = .returned (.bool (eqBy p l l')) ∧ holds w' F := by
  refine Ct.go (args := [v, u, .func (.func g) fs.toArray cs.toArray]) Try.func42 rfl rfl rfl hw ?_
  by_cases hlen : l.length = l'.length
  · repeat' (first | (apply GL.isAny; first | refine GL.runA rfl ?_ | (apply GL.isStore; first | refine GL.storeBlk rfl rfl rfl rfl rfl ?_ | refine GL.storeWhole rfl rfl rfl rfl rfl ?_ | refine GL.storeBlkA rfl rfl rfl rfl rfl ?_) | refine GL.guardY rfl rfl ?_ | refine GL.guardN rfl rfl rfl ?_ | refine GL.guardU rfl rfl rfl ?_ | (apply GL.isBox; first | refine GL.boxA rfl rfl (fun _ => ?_) | refine GL.box1 rfl rfl rfl (fun _ => ?_) | refine GL.box rfl rfl (fun _ => ?_)) | (apply GL.isBuildS; first | refine GL.buildSlice1A rfl rfl rfl rfl rfl (fun _ => ?_) | refine GL.buildSlice1 rfl rfl rfl rfl rfl (fun _ => ?_)) | (apply GL.isCall; refine GL.append1 _ rfl rfl rfl rfl (by rfl) (by omega) (by omega) rfl (fun _ => ?_)) | (apply GL.isAlloc; refine GL.alloc rfl (fun _ => ?_))) | apply GL.nil | first | apply G.seq | apply G.region | apply G.block | apply G.skip | apply G.exit | apply G.ret | (apply G.isCond; first | refine G.condT rfl ?_ | refine G.condF rfl ?_) | refine G.draw (by kernel_rfl) (by kernel_rfl) ?_ | (apply GE.isAny; first | apply GE.again | apply GE.thenG | apply GE.blockN | apply GE.blockE | apply GE.thenE | apply GE.thenR | apply GE.blockR | refine GE.blockO rfl ?_ | apply GE.only) | (apply GD.isAny; first | refine GD.runA rfl ?_ | refine GD.guardY rfl rfl ?_ | refine GD.guardN rfl rfl rfl ?_ | refine GD.guardU rfl rfl rfl ?_) | apply GD.nilE | apply GD.nilL | (apply GT.isAny; refine GT.runA rfl rfl ?_) | ((first | (apply GL.isAny; refine GL.guard rfl rfl (fun hc => ?_) (fun hc => ?_)) | (apply G.isCond; refine G.cond rfl (fun hc => ?_) (fun hc => ?_)) | (apply GD.isAny; refine GD.guard rfl rfl (fun hc => ?_) (fun hc => ?_))) <;> ((try simp only [decide_eq_true_eq, decide_eq_false_iff_not, Bool.not_true, Bool.not_false, ne_eq, Classical.not_not, Int.not_lt, Int.not_le] at hc); (try (exfalso; first | omega | exact hc trivial | exact hc rfl)))))
    refine G.loop (α := Nat) (fun k => [(0, v), (1, u), (2, .func (.func g) fs.toArray cs.toArray), (15, v), (16, .int .i64 l.length), (17, .int .i64 k)]) (fun k => F) (fun k => k ≤ l.length ∧ eqBy p (l.take k) (l'.take k) = true) (fun k => l.length - k) 0 ⟨Nat.zero_le _, rfl⟩ ⟨rfl, rfl, rfl, rfl, rfl, rfl, trivial⟩ (fun w h => h) ?_
    rintro k ⟨hk, hn⟩
    by_cases hlt : k < l.length
    · have hx := hcl _ (List.getElem_mem hlt) _ (List.getElem_mem (show k < l'.length by omega))
      have hx2 : ∀ w (X Y : HProp), holds w (X :: Y :: F) → Ct Try.prog g (fs ++ [Value.agg (enc l[k]).toArray, Value.agg (enc l'[k]).toArray] ++ cs).toArray w fun e w' => e = .returned (.bool (p l[k] l'[k])) ∧ holds w' (X :: Y :: F) := fun w X Y h => hx w [X, Y] h
      repeat' (first | (first | (apply GL.isStore; refine GL.storeEnc rfl rfl rfl ?_) | (apply GL.isAny; refine GL.run (by (apply Runs.isLoad; exact Runs.loadEnc rfl)) rfl ?_) | (apply GL.isCall; refine GL.callV1 (first := fs) (captured := cs) rfl rfl rfl (fun w h => hx2 w _ _ h) ?_)) | first | (apply GL.isAny; first | refine GL.runA rfl ?_ | (apply GL.isStore; first | refine GL.storeBlk rfl rfl rfl rfl rfl ?_ | refine GL.storeWhole rfl rfl rfl rfl rfl ?_ | refine GL.storeBlkA rfl rfl rfl rfl rfl ?_) | refine GL.guardY rfl rfl ?_ | refine GL.guardN rfl rfl rfl ?_ | refine GL.guardU rfl rfl rfl ?_ | (apply GL.isBox; first | refine GL.boxA rfl rfl (fun _ => ?_) | refine GL.box1 rfl rfl rfl (fun _ => ?_) | refine GL.box rfl rfl (fun _ => ?_)) | (apply GL.isBuildS; first | refine GL.buildSlice1A rfl rfl rfl rfl rfl (fun _ => ?_) | refine GL.buildSlice1 rfl rfl rfl rfl rfl (fun _ => ?_)) | (apply GL.isCall; refine GL.append1 _ rfl rfl rfl rfl (by rfl) (by omega) (by omega) rfl (fun _ => ?_)) | (apply GL.isAlloc; refine GL.alloc rfl (fun _ => ?_))) | apply GL.nil | first | apply G.seq | apply G.region | apply G.block | apply G.skip | apply G.exit | apply G.ret | (apply G.isCond; first | refine G.condT rfl ?_ | refine G.condF rfl ?_) | refine G.draw (by kernel_rfl) (by kernel_rfl) ?_ | (apply GE.isAny; first | apply GE.again | apply GE.thenG | apply GE.blockN | apply GE.blockE | apply GE.thenE | apply GE.thenR | apply GE.blockR | refine GE.blockO rfl ?_ | apply GE.only) | (apply GD.isAny; first | refine GD.runA rfl ?_ | refine GD.guardY rfl rfl ?_ | refine GD.guardN rfl rfl rfl ?_ | refine GD.guardU rfl rfl rfl ?_) | apply GD.nilE | apply GD.nilL | (apply GT.isAny; refine GT.runA rfl rfl ?_) | ((first | (apply GL.isAny; refine GL.guard rfl rfl (fun hc => ?_) (fun hc => ?_)) | (apply G.isCond; refine G.cond rfl (fun hc => ?_) (fun hc => ?_)) | (apply GD.isAny; refine GD.guard rfl rfl (fun hc => ?_) (fun hc => ?_))) <;> ((try simp only [decide_eq_true_eq, decide_eq_false_iff_not, Bool.not_true, Bool.not_false, ne_eq, Classical.not_not, Int.not_lt, Int.not_le] at hc); (try (exfalso; first | omega | exact hc trivial | exact hc rfl)))))
      all_goals first
        | (refine GE.round (k + 1) ⟨by omega, eqBy_next hlt (by omega) hn (by simpa using hc)⟩ ⟨rfl, rfl, rfl, rfl, rfl, rfl, trivial⟩ (fun w h => h.sub) (by omega))
        | (refine GE.resOne rfl (by (repeat (first | apply Res.nil | (apply Res.tmp; rfl) | (refine Res.cellA rfl rfl rfl ?_) | (refine Res.cell1 rfl rfl ?_)))) (fun w h => ?_); rw [eqBy_stop hlt (by omega) (by simpa using hc)]; exact ⟨rfl, h.sub⟩)
    · repeat' (first | (apply GL.isAny; first | refine GL.runA rfl ?_ | (apply GL.isStore; first | refine GL.storeBlk rfl rfl rfl rfl rfl ?_ | refine GL.storeWhole rfl rfl rfl rfl rfl ?_ | refine GL.storeBlkA rfl rfl rfl rfl rfl ?_) | refine GL.guardY rfl rfl ?_ | refine GL.guardN rfl rfl rfl ?_ | refine GL.guardU rfl rfl rfl ?_ | (apply GL.isBox; first | refine GL.boxA rfl rfl (fun _ => ?_) | refine GL.box1 rfl rfl rfl (fun _ => ?_) | refine GL.box rfl rfl (fun _ => ?_)) | (apply GL.isBuildS; first | refine GL.buildSlice1A rfl rfl rfl rfl rfl (fun _ => ?_) | refine GL.buildSlice1 rfl rfl rfl rfl rfl (fun _ => ?_)) | (apply GL.isCall; refine GL.append1 _ rfl rfl rfl rfl (by rfl) (by omega) (by omega) rfl (fun _ => ?_)) | (apply GL.isAlloc; refine GL.alloc rfl (fun _ => ?_))) | apply GL.nil | first | apply G.seq | apply G.region | apply G.block | apply G.skip | apply G.exit | apply G.ret | (apply G.isCond; first | refine G.condT rfl ?_ | refine G.condF rfl ?_) | refine G.draw (by kernel_rfl) (by kernel_rfl) ?_ | (apply GE.isAny; first | apply GE.again | apply GE.thenG | apply GE.blockN | apply GE.blockE | apply GE.thenE | apply GE.thenR | apply GE.blockR | refine GE.blockO rfl ?_ | apply GE.only) | (apply GD.isAny; first | refine GD.runA rfl ?_ | refine GD.guardY rfl rfl ?_ | refine GD.guardN rfl rfl rfl ?_ | refine GD.guardU rfl rfl rfl ?_) | apply GD.nilE | apply GD.nilL | (apply GT.isAny; refine GT.runA rfl rfl ?_) | ((first | (apply GL.isAny; refine GL.guard rfl rfl (fun hc => ?_) (fun hc => ?_)) | (apply G.isCond; refine G.cond rfl (fun hc => ?_) (fun hc => ?_)) | (apply GD.isAny; refine GD.guard rfl rfl (fun hc => ?_) (fun hc => ?_))) <;> ((try simp only [decide_eq_true_eq, decide_eq_false_iff_not, Bool.not_true, Bool.not_false, ne_eq, Classical.not_not, Int.not_lt, Int.not_le] at hc); (try (exfalso; first | omega | exact hc trivial | exact hc rfl)))))
      refine GE.resOne rfl (by (repeat (first | apply Res.nil | (apply Res.tmp; rfl) | (refine Res.cellA rfl rfl rfl ?_) | (refine Res.cell1 rfl rfl ?_)))) (fun w h => ?_)
      obtain rfl : k = l.length := by omega
      rw [List.take_length, hlen, List.take_length] at hn
      rw [hn]
      exact ⟨rfl, h⟩
  · repeat' (first | (apply GL.isAny; first | refine GL.runA rfl ?_ | (apply GL.isStore; first | refine GL.storeBlk rfl rfl rfl rfl rfl ?_ | refine GL.storeWhole rfl rfl rfl rfl rfl ?_ | refine GL.storeBlkA rfl rfl rfl rfl rfl ?_) | refine GL.guardY rfl rfl ?_ | refine GL.guardN rfl rfl rfl ?_ | refine GL.guardU rfl rfl rfl ?_ | (apply GL.isBox; first | refine GL.boxA rfl rfl (fun _ => ?_) | refine GL.box1 rfl rfl rfl (fun _ => ?_) | refine GL.box rfl rfl (fun _ => ?_)) | (apply GL.isBuildS; first | refine GL.buildSlice1A rfl rfl rfl rfl rfl (fun _ => ?_) | refine GL.buildSlice1 rfl rfl rfl rfl rfl (fun _ => ?_)) | (apply GL.isCall; refine GL.append1 _ rfl rfl rfl rfl (by rfl) (by omega) (by omega) rfl (fun _ => ?_)) | (apply GL.isAlloc; refine GL.alloc rfl (fun _ => ?_))) | apply GL.nil | first | apply G.seq | apply G.region | apply G.block | apply G.skip | apply G.exit | apply G.ret | (apply G.isCond; first | refine G.condT rfl ?_ | refine G.condF rfl ?_) | refine G.draw (by kernel_rfl) (by kernel_rfl) ?_ | (apply GE.isAny; first | apply GE.again | apply GE.thenG | apply GE.blockN | apply GE.blockE | apply GE.thenE | apply GE.thenR | apply GE.blockR | refine GE.blockO rfl ?_ | apply GE.only) | (apply GD.isAny; first | refine GD.runA rfl ?_ | refine GD.guardY rfl rfl ?_ | refine GD.guardN rfl rfl rfl ?_ | refine GD.guardU rfl rfl rfl ?_) | apply GD.nilE | apply GD.nilL | (apply GT.isAny; refine GT.runA rfl rfl ?_) | ((first | (apply GL.isAny; refine GL.guard rfl rfl (fun hc => ?_) (fun hc => ?_)) | (apply G.isCond; refine G.cond rfl (fun hc => ?_) (fun hc => ?_)) | (apply GD.isAny; refine GD.guard rfl rfl (fun hc => ?_) (fun hc => ?_))) <;> ((try simp only [decide_eq_true_eq, decide_eq_false_iff_not, Bool.not_true, Bool.not_false, ne_eq, Classical.not_not, Int.not_lt, Int.not_le] at hc); (try (exfalso; first | omega | exact hc trivial | exact hc rfl)))))
    refine GE.resOne rfl (by (repeat (first | apply Res.nil | (apply Res.tmp; rfl) | (refine Res.cellA rfl rfl rfl ?_) | (refine Res.cell1 rfl rfl ?_)))) (fun w h => ?_)
    rw [eqBy_len hlen]
    exact ⟨rfl, h⟩

end Go.Proofs.Ytfiggkbclldccaa
