/- Running code by calculation: drawn regions, and whole runs. -/
import Derived.Test.YtpfmhnjogfjekaaGreatExL
namespace Go.Proofs.YtpfmhnjogfjekaaGreat
open Go Go.RowKit
set_option linter.unusedVariables false
set_option linter.unusedSectionVars false
set_option linter.unusedSimpArgs false
set_option maxRecDepth 100000
namespace Ex
noncomputable def bitB (b j : Nat) : Bool := Nat.beq (Nat.mod (Nat.div b (Nat.pow 2 j)) 2) 1
noncomputable def veq1 : Value → Value → Bool
  | .bool a, .bool b => a == b
  | .int j a, .int k b => decide (j = k) && decide (a = b)
  | .pointer none, .pointer none => true
  | .pointer (some ⟨k, o, none⟩), .pointer (some ⟨k', o', none⟩) => Nat.beq k k' && Nat.beq o o'
  | .slice none a b, .slice none a' b' => Nat.beq a a' && Nat.beq b b'
  | .slice (some ⟨k, o, none⟩) a b, .slice (some ⟨k', o', none⟩) a' b' => Nat.beq k k' && Nat.beq o o' && Nat.beq a a' && Nat.beq b b'
  | .map none, .map none => true
  | .map (some a), .map (some b) => Nat.beq a b
  | .nilFunc, .nilFunc => true
  | .nilIface, .nilIface => true
  | .string a, .string b => decide (a = b)
  | .func (.func f) ⟨[]⟩ ⟨[]⟩, .func (.func g) ⟨[]⟩ ⟨[]⟩ => Nat.beq f g
  | .chan (some a), .chan (some b) => Nat.beq a b
  | _, _ => false
noncomputable def veqs : List Value → List Value → Bool := List.rec (motive := fun _ => List Value → Bool) (fun l => l.isEmpty) fun a _ ih m => match m with
  | b :: m => veq1 a b && ih m
  | [] => false
noncomputable def veq : Value → Value → Bool
  | .agg a, .agg b => veqs a.toList b.toList
  | .tuple a, .tuple b => veqs a.toList b.toList
  | a, b => veq1 a b
def rds : Op → Bool
  | .load .. | .lookup .. | .slice .. | .call _ | .entry .. | .convert .. => true
  | _ => false
/-! What is known of a region without running it. -/
noncomputable def tmpsOf : List Operand → List Nat := List.rec (motive := fun _ => List Nat) [] fun x _ ih => match x with
  | .tmp t => t :: ih
  | _ => ih
noncomputable def gdst (ops : Array Oper) (g : Option (Nat × Bool)) : List Nat := match g with
  | some (j, _) => ((ops[j]?).bind (·.dst)).toList
  | none => []
/-- The slots that an operation looks at. -/
noncomputable def names (ops : Array Oper) (o : Oper) : List Nat := gdst ops o.guard ++ tmpsOf o.op.operands.toList
structure Pn1 where
  o : Oper
  b : Nat
  ns : List Nat
noncomputable def bef1 (i : Nat) (bs : List Nat) (x : Edge) (b : Nat) : Option Nat := bif Region.binds .any x then (bif Nat.blt x.on i then on1 bs[Nat.sub (Nat.sub i 1) x.on]? fun c => some (Nat.lor b (Nat.lor (Nat.pow 2 x.on) c)) else none) else some b
/-- What stands ahead of an operation: those on its edges, and what stands ahead of these. -/
noncomputable def befOf (bs : List Nat) (i : Nat) : List Edge → Option Nat := List.rec (motive := fun _ => Option Nat) (some 0) fun x _ ih => on1 ih (bef1 i bs x)
def hitD (d : Option Tmp) (l : List Nat) : Bool := match d with
  | some d => l.any (Nat.beq d)
  | none => false
def sameD (d d' : Option Tmp) : Bool := match d, d' with
  | some a, some b => Nat.beq a b
  | _, _ => false
/-- Two operations that look at, or set, the same slot stand in an order. -/
noncomputable def apart (b : Nat) (o : Oper) (ns : List Nat) (i : Nat) (x : Pn1) : Bool := bitB b i || !(hitD o.dst x.ns || hitD x.o.dst ns || sameD o.dst x.o.dst)
noncomputable def apartAll (b : Nat) (o : Oper) (ns : List Nat) : List Pn1 → Nat → Bool := List.rec (motive := fun _ => Nat → Bool) (fun _ => true) fun x _ ih k => apart b o ns (Nat.sub k 1) x && ih (Nat.sub k 1)
noncomputable def plan1 (o : Oper) (i : Nat) (ps : List Pn1) (ns : List Nat) (b : Nat) : Option (List Pn1) := bif apartAll b o ns ps i then some (⟨o, b, ns⟩ :: ps) else none
/-- The operations, the last ahead. -/
noncomputable def planR (ops : Array Oper) : List Oper → Nat → List Pn1 → Option (List Pn1) := List.rec (motive := fun _ => Nat → List Pn1 → Option (List Pn1)) (fun _ ps => some ps) fun o _ ih i ps =>
  on1 (on1 (befOf (ps.map (·.b)) i o.after.toList) (plan1 o i ps (names ops o))) (ih (Nat.add i 1))
noncomputable def plan (ops : Array Oper) : Option (List Pn1) := on1 (planR ops ops.toList 0 []) fun l => some l.reverse
/-! Running it. -/
/-- What was read, to be asked again in other states of memory. -/
structure Rec where
  i : Nat
  o : Oper
  b : Nat
  e : Tr Value
  v : Value
/-- What a region has done: slots, reads, states of memory (the last ahead), numbers, effects (number, what stands ahead), new blocks that no effect has taken up. -/
structure DS where
  env : Tr Value
  recs : List Rec
  hs : List (Tr SO)
  nx : Nat
  effs : List (Nat × Nat)
  als : List (Nat × SO)
noncomputable def pick1 (t : Nat) (r : Tr Value) (o : Option Value) : Tr Value := Option.rec (motive := fun _ => Tr Value) r (r.put t) o
noncomputable def pickE (e : Tr Value) : List Nat → Tr Value := List.rec (motive := fun _ => Tr Value) .leaf fun t _ ih => pick1 t ih (e.get t)
noncomputable def popIs (P : Program) (e : Tr Value) (o : Oper) (v : Value) (h : Tr SO) : Bool := match pop P e h o with
  | some u => veq u v
  | none => false
noncomputable def putAls (nx0 b : Nat) (h : Tr SO) : List (Nat × SO) → Tr SO := List.rec (motive := fun _ => Tr SO) h fun x _ ih => bif bitB b x.1 then ih.put (Nat.add nx0 x.1) x.2 else ih
section
variable (P : Program) (X : FuncId → Option XK) (callF : FuncId → Array Value → Tr SO → Nat → Option (Value × Tr SO × Nat)) (n nx0 i : Nat) (o : Oper) (b : Nat)
noncomputable def dpure (s : DS) (e : Tr Value) (v : Value) : Option DS := on1 (sput n s.env v o.dst) fun e' => some ⟨e', bif rds o.op then ⟨i, o, b, e, v⟩ :: s.recs else s.recs, s.hs, s.nx, s.effs, s.als⟩
noncomputable def dall (s : DS) (x : SO × Sh) : Option DS := on1 (sput n s.env (x.2.mk (Nat.add nx0 i)) o.dst) fun e' => some ⟨e', s.recs, s.hs, s.nx, s.effs, (i, x.1) :: s.als⟩
noncomputable def dEff (T : Tr SO) (nx : Nat) (r : SN) : Option (Value × Tr SO × Nat) := match r with
  | .val v h' nx' => some (v, h', nx')
  | .enter f args => callF f args T nx
  | _ => none
noncomputable def deff (s : DS) (x : Value × Tr SO × Nat) : Option DS := on1 (sput n s.env x.1 o.dst) fun e' => some ⟨e', s.recs, x.2.1 :: s.hs, x.2.2, (i, b) :: s.effs, s.als.filter (fun y => !bitB b y.1)⟩
noncomputable def chained (b : Nat) : List (Nat × Nat) → Bool
  | [] => true
  | x :: _ => bitB b x.1
/-- The blocks that float beside an effect are not in its table. -/
noncomputable def floats (nx0 b : Nat) (T : Tr SO) (x : Nat × SO) : Bool := bitB b x.1 || (T.get (Nat.add nx0 x.1)).isNone
noncomputable def dopE (s : DS) (e : Tr Value) (T : Tr SO) : Option DS := bif chained b s.effs && s.als.all (floats nx0 b T) then on1 (on1 (eop P X e T s.nx o) (dEff callF T s.nx)) (deff n i o b s) else none
noncomputable def dop (s : DS) (e : Tr Value) (h : Tr SO) (k : OK) : Option DS := match k with
  | .p => on1 (pop P e h o) (dpure n i o b s e)
  | .a => on1 (aop P e o) (dall n nx0 i o s)
  | .e => dopE P X callF n nx0 i o b s e (putAls nx0 b h s.als)
noncomputable def dwant (s : DS) (e : Tr Value) (h : Tr SO) (w : Bool) : Option DS := match w with
  | false => on1 (sput n s.env undef o.dst) fun e' => some ⟨e', s.recs, s.hs, s.nx, s.effs, s.als⟩
  | true => dop P X callF n nx0 i o b s e h (opK o.op)
noncomputable def dheap (ops : Array Oper) (s : DS) (e : Tr Value) (l : List (Tr SO)) : Option DS := match l with
  | [] => none
  | h :: _ => on1 (swanted ops e o.guard) (dwant P X callF n nx0 i o b s e h)
end
noncomputable def dstep (P : Program) (X : FuncId → Option XK) (callF : FuncId → Array Value → Tr SO → Nat → Option (Value × Tr SO × Nat)) (n nx0 : Nat) (ops : Array Oper) (i : Nat) (x : Pn1) (s : DS) : Option DS := dheap P X callF n nx0 i x.o x.b ops s (pickE s.env x.ns) s.hs
noncomputable def dgo (P : Program) (X : FuncId → Option XK) (callF : FuncId → Array Value → Tr SO → Nat → Option (Value × Tr SO × Nat)) (n nx0 : Nat) (ops : Array Oper) : List Pn1 → Nat → DS → Option DS :=
  List.rec (motive := fun _ => Nat → DS → Option DS) (fun _ s => some s) fun x _ ih i s => on1 (dstep P X callF n nx0 ops i x s) (ih (Nat.add i 1))
/-- May the read i be in the state of memory behind the first k effects? effs: the last ahead, m of them. -/
noncomputable def may1 (i b k p : Nat) (x : Nat × Nat) : Bool := (!bitB b x.1 || Nat.blt p k) && (!bitB x.2 i || Nat.ble k p)
noncomputable def mayIn (i b k : Nat) : List (Nat × Nat) → Nat → Bool := List.rec (motive := fun _ => Nat → Bool) (fun _ => true) fun x _ ih m => may1 i b k (Nat.sub m 1) x && ih (Nat.sub m 1)
noncomputable def okRec (P : Program) (effs : List (Nat × Nat)) (r : Rec) : List (Tr SO) → Nat → Bool := List.rec (motive := fun _ => Nat → Bool) (fun _ => true) fun h _ ih k => (bif mayIn r.i r.b (Nat.sub k 1) effs effs.length then popIs P r.e r.o r.v h else true) && ih (Nat.sub k 1)
noncomputable def okRecs (P : Program) (s : DS) : Bool := match s.effs with
  | [] => true
  | _ => s.recs.all fun r => okRec P s.effs r s.hs s.hs.length
noncomputable def allA (nx0 : Nat) (h : Tr SO) : List (Nat × SO) → Tr SO := List.rec (motive := fun _ => Tr SO) h fun x _ ih => ih.put (Nat.add nx0 x.1) x.2
noncomputable def dend (nx0 : Nat) (d : DS) (l : List (Tr SO)) : Option (Tr Value × Tr SO × Nat) := match l with
  | h :: _ => some (d.env, allA nx0 h d.als, d.nx)
  | [] => none
noncomputable def dfin (P : Program) (nx0 : Nat) (d : DS) : Option (Tr Value × Tr SO × Nat) := bif okRecs P d then dend nx0 d d.hs else none
noncomputable def sdraw (P : Program) (X : FuncId → Option XK) (callF : FuncId → Array Value → Tr SO → Nat → Option (Value × Tr SO × Nat)) (i : SI0) (e : Tr Value) (h : Tr SO) (nx : Nat) (ops : Array Oper) : Option (Tr Value × Tr SO × Nat) :=
  on1 (plan ops) fun l => on1 (dgo P X callF i.n nx ops l 0 ⟨e, [], [h], Nat.add nx ops.size, [], []⟩) (dfin P nx)
noncomputable def sfinal2 (P : Program) (e : Tr Value) (h : Tr SO) (f : FuncId) : Option Value := on1 P.funcs[f]? fun fn => on1 (sres P e h fn.results.toList) fun vs => some (sresult vs)
noncomputable def sfinal (P : Program) (s : SM) : Option Value := match s with
  | ⟨⟨⟨f, _, false, _⟩, e, _, [], true⟩, [], h, _⟩ => sfinal2 P e h f
  | _ => none
noncomputable def outOf (f : FuncId) : Out → Option (Value × Tr SO × Nat)
  | .done g v h nx => bif Nat.beq g f then some (v, h, nx) else none
  | _ => none
noncomputable def srunF (P : Program) (go : SM → Out) (f : FuncId) (args : Array Value) (h : Tr SO) (nx : Nat) : Option (Value × Tr SO × Nat) := on1 (enterF P f args false) fun t => outOf f (go ⟨t, [], h, nx⟩)
noncomputable def srunL (P : Program) (s : SM) : Option Value → Out
  | some v => .done s.top.i.fn v s.h s.nx
  | none => .stuck s
noncomputable def srunK (P : Program) (go : SM → Out) (s : SM) : Option SM → Out
  | some s' => go s'
  | none => srunL P s (sfinal P s)
noncomputable def srun (P : Program) (X : FuncId → Option XK) : Nat → SM → Out := Nat.rec (motive := fun _ => SM → Out) (fun _ => .long) fun _ go s => srunK P go s (sstep P X (sdraw P X (srunF P go)) s)
/-- A call, from nothing. -/
noncomputable def scall (P : Program) (X : FuncId → Option XK) (n : Nat) (f : FuncId) (args : Array Value) : Option (Value × Tr SO × Nat) := srunF P (srun P X n) f args .leaf 0
noncomputable def scallO (P : Program) (X : FuncId → Option XK) (n : Nat) (f : FuncId) (args : Array Value) : Out := match enterF P f args false with
  | some t => srun P X n ⟨t, [], .leaf, 0⟩
  | none => .long
end Ex
end Go.Proofs.YtpfmhnjogfjekaaGreat
