/- Running code by calculation: the symbolic machine's step. -/
import Derived.Test.YtpfmhnjogfjekaaGreatExK
namespace Go.Proofs.YtpfmhnjogfjekaaGreat
open Go Go.RowKit
set_option linter.unusedVariables false
set_option linter.unusedSectionVars false
set_option linter.unusedSimpArgs false
set_option maxRecDepth 100000
namespace Ex
noncomputable def envOf : List Value → Nat → Tr Value → Tr Value := List.rec (motive := fun _ => Nat → Tr Value → Tr Value) (fun _ t => t) fun v _ ih k t => ih (Nat.add k 1) (t.put k v)
theorem envOf_get : ∀ (l : List Value) (k : Nat) (t : Tr Value) (j : Nat) (v : Value), (envOf l k t).get j = some v → (k ≤ j ∧ l[j - k]? = some v) ∨ t.get j = some v
  | [], _, _, _, _, h => .inr h
  | u :: l, k, t, j, v, h => by
    rcases envOf_get l (k + 1) (t.put k u) j v h with ⟨h1, h2⟩ | h1
    · left
      refine ⟨by omega, ?_⟩
      rw [show j - k = (j - (k + 1)) + 1 by omega]; simpa using h2
    · rcases Tr.get_put h1 with ⟨rfl, rfl⟩ | ⟨_, h2⟩
      · left; simp
      · exact .inr h2
noncomputable def enterF2 (f : FuncId) (nt : Nat) (args : List Value) (dfr : Bool) (c : Code) : Option SF := some ⟨⟨f, Nat.add args.length (Nat.sub nt args.length), dfr, none⟩, envOf args 0 .leaf, [.code c], [], false⟩
noncomputable def enterF (P : Program) (f : FuncId) (args : Array Value) (dfr : Bool) : Option SF := on1 P.funcs[f]? fun fn => on1 fn.body (enterF2 f fn.ntmps args.toList dfr)
noncomputable def isWant (want : Bool) (v : Value) : Option Bool := match v with
  | .bool b => some (b == want)
  | .tuple ⟨[]⟩ => some false
  | _ => none
noncomputable def wantD (ops : Array Oper) (e : Tr Value) (want : Bool) (d : Option Tmp) : Option Bool := match d with
  | some d => on1 (e.get d) (isWant want)
  | none => some false
noncomputable def swanted (ops : Array Oper) (e : Tr Value) (g : Option (Nat × Bool)) : Option Bool := match g with
  | none => some true
  | some (j, want) => wantD ops e want ((ops[j]?).bind (·.dst))
noncomputable def putPs (n : Nat) : List Tmp → List Value → Tr Value → Option (Tr Value) := List.rec (motive := fun _ => List Value → Tr Value → Option (Tr Value))
  (fun vs e => match vs with
    | [] => some e
    | _ => none) fun p _ ih vs e => match vs with
    | v :: vs => bif Nat.blt p n then ih vs (e.put p v) else none
    | [] => none
section
variable (P : Program) (X : FuncId → Option XK) (i : SI0) (e : Tr Value) (ds : List Deferred) (cs : List SF) (h : Tr SO) (nx : Nat)
noncomputable def mkS (k : List SI) : Option SM := some ⟨⟨i, e, k, ds, false⟩, cs, h, nx⟩
noncomputable def mkR : Option SM := some ⟨⟨i, e, [], ds, true⟩, cs, h, nx⟩
noncomputable def topS (t : SF) : Option SM := some ⟨t, cs, h, nx⟩
/-- The round l ends. -/
noncomputable def endR2 (l : Nat) (jump : Option Code) (so : SO) : Option SM := match so, cs with
  | .loop _ _ fn n env ps as bd dfs, c :: cs => on1 (sfin c (.bool jump.isNone)) fun c' => some ⟨c', cs, h.put l (.loop (bif jump.isNone then .ready else .done) jump fn n env ps as bd dfs), nx⟩
  | _, _ => none
noncomputable def retOk : Option Code → Bool
  | none | some .ret => true
  | _ => false
noncomputable def sleave (jump : Option Code) : Option SM := match i.round with
  | none => bif retOk jump then mkR i e ds cs h nx else none
  | some l => bif i.dfr then none else on1 (h.get l) (endR2 cs h nx l jump)
noncomputable def roundF (l : Nat) (args : List Value) (so : SO) : Option SF := match so with
  | .loop .ready _ fn n env ps as bd _ => on1 (putPs n ps.toList args env) fun e => some ⟨⟨fn, n, false, some l⟩, e, [.code as, .br, .code bd], [], false⟩
  | _ => none
/-- What comes of an operation goes on. -/
noncomputable def spush (todo : List SI) (r : SN) : Option SM := match r with
  | .val v h' nx' => on1 (sfinT i e ds false v todo) (topS cs h' nx')
  | .enter f args => on1 (enterF P f args false) (topS (⟨i, e, todo, ds, false⟩ :: cs) h nx)
  | .round l args => on1 (h.get l) fun so => on1 (roundF l args.toList so) (topS (⟨i, e, todo, ds, false⟩ :: cs) h nx)
  | .dfr d => bif i.round.isNone then on1 (sfinT i e (d :: ds) false undef todo) (topS cs h nx) else none
noncomputable def sreg2 (todo : List SI) (o : Oper) (b : Bool) : Option SM := match b with
  | false => on1 (sfinT i e ds false undef todo) (topS cs h nx)
  | true => on1 (sop P X e h nx o) (spush P i e ds cs h nx todo)
noncomputable def sreg (k : List SI) (ops : Array Oper) (l : List Oper) : Option SM := match l with
  | [] => mkS i e ds cs h nx k
  | o :: r => on1 (swanted ops e o.guard) (sreg2 P X i e ds cs h nx (.reg ops (o :: r) :: k) o)
noncomputable def scond (k : List SI) (x y : Code) (v : Value) : Option SM := match v with
  | .bool true => mkS i e ds cs h nx (.code x :: k)
  | .bool false => mkS i e ds cs h nx (.code y :: k)
  | _ => none
noncomputable def sexit (k : List SI) (id : Nat) : Option SM := match sexitTo id k with
  | some k' => mkS i e ds cs h nx k'
  | none => sleave i e ds cs h nx (some (.exit id))
noncomputable def drawn (k : List SI) (x : Tr Value × Tr SO × Nat) : Option SM := mkS i x.1 ds cs x.2.1 x.2.2 k
noncomputable def rf2 (k : List SI) (ps : Array Tmp) (as bd : Code) (mk : List Deferred) (l dfs : Nat) (h' : Tr SO) (r : SN) : Option SM := match r with
  | .enter g args => on1 (enterF P g args false) (topS (⟨i, e, .rf l :: k, mk ++ ds, false⟩ :: cs) (h'.put l (.loop .ready none i.fn i.n e ps as bd dfs)) (Nat.add l 1))
  | _ => none
noncomputable def rfIn (k : List SI) (ps : Array Tmp) (as bd : Code) (v : Value) (so : SO) : Option SM := match so with
  | .loop _ _ _ _ _ _ _ _ dfs => on1 (rcallF P X h nx v [.func (.yield nx) #[] #[]]) (rf2 P i e ds cs k ps as bd [] nx dfs h)
  | _ => none
noncomputable def srf (k : List SI) (ps : Array Tmp) (as bd : Code) (v : Value) : Option SM := match i.round with
  | none => on1 (rcallF P X h nx v [.func (.yield (Nat.add nx 1)) #[] #[]]) (rf2 P i e ds cs k ps as bd [{ target := .collected nx, args := #[] }] (Nat.add nx 1) nx (h.put nx (.dfd (some []))))
  | some l0 => on1 (h.get l0) (rfIn P X i e ds cs h nx k ps as bd v)
noncomputable def sbr2 (k : List SI) (l : Nat) (so : SO) : Option SM := match so with
  | .loop .ready pd fn n env ps as bd dfs => mkS i e ds cs (h.put l (.loop .busy pd fn n env ps as bd dfs)) nx k
  | _ => none
noncomputable def pendI : Option Code → List SI
  | some c => [.code c]
  | none => []
noncomputable def serf2 (k : List SI) (l : Nat) (so : SO) : Option SM := match so with
  | .loop .busy .. => none
  | .loop _ pd fn n env ps as bd dfs => mkS i e ds cs (h.put l (.loop .exhausted pd fn n env ps as bd dfs)) nx (pendI pd ++ k)
  | _ => none
variable (dr : SI0 → Tr Value → Tr SO → Nat → Array Oper → Option (Tr Value × Tr SO × Nat))
noncomputable def sdr (k : List SI) (ops : Array Oper) (d : Bool) : Option SM := match d with
  | true => on1 (dr i e h nx ops) (drawn i ds cs k)
  | false => mkS i e ds cs h nx (.reg ops ops.toList :: k)
noncomputable def scode (k : List SI) (c : Code) : Option SM := match c with
  | .skip => mkS i e ds cs h nx k
  | .region _ ops d => sdr i e ds cs h nx dr k ops d
  | .seq a b => mkS i e ds cs h nx (.code a :: .code b :: k)
  | .cond c x y => on1 (ev e c) (scond i e ds cs h nx k x y)
  | .block id b => mkS i e ds cs h nx (.code b :: .blk id :: k)
  | .loop b => mkS i e ds cs h nx (.code b :: .lp b :: k)
  | .rangeFunc f ps as bd => on1 (ev e f) (srf P X i e ds cs h nx k ps as bd)
  | .exit id => sexit i e ds cs h nx k id
  | .scope b => mkS i e ds cs h nx (.code b :: .sc b :: k)
  | .label _ => mkS i e ds cs h nx k
  | .ret => sleave i e ds cs h nx (some .ret)
  | _ => none
noncomputable def sitem (k : List SI) (it : SI) : Option SM := match it with
  | .code c => scode P X i e ds cs h nx dr k c
  | .blk _ => mkS i e ds cs h nx k
  | .lp b => mkS i e ds cs h nx (.code b :: .lp b :: k)
  | .sc _ => mkS i e ds cs h nx k
  | .reg ops l => sreg P X i e ds cs h nx k ops l
  | .rf _ => none
  | .erf l => on1 (h.get l) (serf2 i e ds cs h nx k l)
  | .br => on1 i.round fun l => on1 (h.get l) (sbr2 i e ds cs h nx k l)
noncomputable def stodo (todo : List SI) : Option SM := match todo with
  | [] => sleave i e ds cs h nx none
  | it :: k => sitem P X i e ds cs h nx dr k it
/-! Leaving. -/
noncomputable def sback2 (v : Value) : Option SM := match cs with
  | c :: cs => bif i.dfr then some ⟨c, cs, h, nx⟩ else on1 (sfin c v) (topS cs h nx)
  | [] => none
noncomputable def sback : Option SM := on1 P.funcs[i.fn]? fun fn => on1 (sres P e h fn.results.toList) fun vs => sback2 i cs h nx (sresult vs)
noncomputable def sdef2 (ds : List Deferred) (r : SN) : Option SM := match r with
  | .val _ h nx => some ⟨⟨i, e, [], ds, true⟩, cs, h, nx⟩
  | .enter f vs => on1 (enterF P f vs true) (topS (⟨i, e, [], ds, true⟩ :: cs) h nx)
  | _ => none
noncomputable def scol (ds : List Deferred) (r : Nat) (so : SO) : Option SM := match so with
  | .dfd (some calls) => some ⟨⟨i, e, [], calls ++ ds, true⟩, cs, h.put r (.dfd none), nx⟩
  | _ => none
noncomputable def sdef (ds : List Deferred) (t : Target) (args : Array Value) : Option SM := match t with
  | .collected r => on1 (h.get r) (scol i e cs h nx ds r)
  | .fn (.func g) cap => on1 (rcallF P X h nx (.func (.func g) #[] cap) args.toList) (sdef2 P i e cs h nx ds)
  | _ => none
noncomputable def sretS : Option SM := match ds with
  | [] => sback P i e cs h nx
  | d :: ds => sdef P X i e cs h nx ds d.target d.args
noncomputable def sstep3 (todo : List SI) (ret : Bool) : Option SM := match ret with
  | true => sretS P X i e ds cs h nx
  | false => stodo P X i e ds cs h nx dr todo
end
noncomputable def sstep2 (P : Program) (X : FuncId → Option XK) (dr : SI0 → Tr Value → Tr SO → Nat → Array Oper → Option (Tr Value × Tr SO × Nat)) (cs : List SF) (h : Tr SO) (nx : Nat) (f : SF) : Option SM := match f with
  | ⟨i, e, todo, ds, ret⟩ => sstep3 P X i e ds cs h nx dr todo ret
/-- One step; 'dr': a drawn region, whole. -/
noncomputable def sstep (P : Program) (X : FuncId → Option XK) (dr : SI0 → Tr Value → Tr SO → Nat → Array Oper → Option (Tr Value × Tr SO × Nat)) (s : SM) : Option SM := match s with
  | ⟨f, cs, h, nx⟩ => sstep2 P X dr cs h nx f
inductive Out where
  | done (g : FuncId) (v : Value) (h : Tr SO) (nx : Nat)
  | stuck (s : SM)
  | long
end Ex
end Go.Proofs.YtpfmhnjogfjekaaGreat
