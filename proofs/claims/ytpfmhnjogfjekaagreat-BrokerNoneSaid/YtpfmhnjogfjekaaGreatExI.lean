/- Running code by calculation: one operation, of whatever kind. -/
import Derived.Test.YtpfmhnjogfjekaaGreatExH
namespace Go.Proofs.YtpfmhnjogfjekaaGreat
open Go Go.RowKit
set_option linter.unusedVariables false
set_option linter.unusedSectionVars false
set_option linter.unusedSimpArgs false
set_option maxRecDepth 100000
namespace Ex
section
variable {θ : Nat → Value} {ρ : Ren} {P : Program} {w0 : Fm} {w : World} {h : Tr SO} {nx : Nat}
noncomputable def U (nx : Nat) : Option (Tr SO) → Option SN
  | some h => some (.val undef h nx)
  | none => none
noncomputable def orV (a b : Option Value) : Option Value := match a with
  | some r => some r
  | none => b
noncomputable def rcallB (X : FuncId → Option XK) (h : Tr SO) (nx : Nat) (g : FuncId) (vs : List Value) : Option Code → Option SN
  | some _ => some (.enter g vs.toArray)
  | none => on1 (X g) fun x => rext h nx x vs
noncomputable def rloop (l : Nat) (vs : List Value) : SO → Option SN
  | .loop .. => some (.round l vs.toArray)
  | _ => none
noncomputable def rcallF (P : Program) (X : FuncId → Option XK) (h : Tr SO) (nx : Nat) (v : Value) (vs : List Value) : Option SN := match v with
  | .func (.func g) first cap => on1 P.funcs[g]? fun fn => rcallB X h nx g (first.toList ++ vs ++ cap.toList) fn.body
  | .func (.yield l) _ _ => on1 (h.get l) (rloop l vs)
  | _ => none
noncomputable def rbuiltin (P : Program) (h : Tr SO) (nx : Nat) : Builtin → List TypeId → List Value → Option SN
  | .append, [t, t'], [x, y] => bif Nat.beq t t' then (match x, y with
    | .slice (some a) n c, .slice none _ _ => (match P.underlying t with
      | some (.slice el) => (match P.info? el with
        | some _ => some (.val (.slice (some a) n c) h nx)
        | none => none)
      | _ => none)
    | .slice (some a) n c, .slice (some b) 0 c0 => (match P.underlying t with
      | some (.slice el) => (match P.info? el with
        | some _ => some (.val (.slice (some a) n c) h nx)
        | none => none)
      | _ => none)
    | x, y => rappend P h nx t x y) else rapZ P h nx t t' x y
  | .copy, [t, _], [x, y] => rcopy P h nx t x y
  | .clear, [t], [x] => rclear P h nx t x
  | .delete, [t, _], [x, k] => (match rdelete P h t k x with
    | some h' => some (.val undef h' nx)
    | none => none)
  | _, _, _ => none
noncomputable def ppick (e : Tr Value) (a b : Operand) : Value → Option Value
  | .bool true => ev e a
  | .bool false => ev e b
  | _ => none
noncomputable def pnil : Value → Option Value
  | .pointer (some a) => some (.pointer (some a))
  | .func (.func f) a b => some (.func (.func f) a b)
  | _ => none
noncomputable def pcmp (P : Program) (t : TypeId) (r : Bool) (a b : Value) : Option Value := bif rnil P t a b then some (.bool r) else none
noncomputable def pbinN (m n : Nat) : BinOp → Option Value
  | .add => bif Nat.blt (Nat.add m n) 9223372036854775808 then some (.int .i64 (.ofNat (Nat.add m n))) else none
  | .sub => bif Nat.ble n m && Nat.blt m 9223372036854775808 then some (.int .i64 (.ofNat (Nat.sub m n))) else none
  | .eql => some (.bool (Nat.beq m n))
  | .neq => some (.bool (!Nat.beq m n))
  | .lss => some (.bool (Nat.blt m n))
  | .leq => some (.bool (Nat.ble m n))
  | .gtr => some (.bool (Nat.blt n m))
  | .geq => some (.bool (Nat.ble n m))
  | _ => none
/-- Small numbers. -/
noncomputable def pbinI (op : BinOp) (a b : Value) : Option Value := match a, b with
  | .int .i64 (.ofNat m), .int .i64 (.ofNat n) => pbinN m n op
  | _, _ => none
noncomputable def pbin2 (P : Program) (e : Tr Value) (t : TypeId) (x y : Operand) : BinOp → Option Value
  | .eql => on2 (ev e x) (ev e y) (pcmp P t false)
  | .neq => on2 (ev e x) (ev e y) (pcmp P t true)
  | _ => none
noncomputable def pfunc2 (f : FuncId) (us vs : List Value) : Option Value := some (.func (.func f) us.toArray vs.toArray)
noncomputable def pfunc (e : Tr Value) (a b : List Operand) : Fn → Option Value
  | .func f => on2 (evs e a) (evs e b) (pfunc2 f)
  | _ => none
noncomputable def plen2 (P : Program) (h : Tr SO) : List Value → List TypeId → Option Value
  | [x], [t] => rlen P h t x
  | _, _ => none
noncomputable def pbuiltin (P : Program) (e : Tr Value) (h : Tr SO) (xs : Array Operand) (ts : Array TypeId) : Builtin → Option Value
  | .len => on1 (evs e xs.toList) fun vs => plen2 P h vs ts.toList
  | _ => none
noncomputable def pcall (P : Program) (e : Tr Value) (h : Tr SO) (c : Call) : Option Value := match c.callee with
  | .builtin b => pbuiltin P e h c.args c.argTypes b
  | _ => none
/-- What only reads. -/
noncomputable def pop (P : Program) (e : Tr Value) (h : Tr SO) (o : Oper) : Option Value := match o.op with
  | .move x => ev e x
  | .assign x => ev e x
  | .pick c a b => on1 (ev e c) (ppick e a b)
  | .build t parts => on1 (evps e parts.toList) (rbuild P t)
  | .load t x => on1 (ev e x) (rload P h t)
  | .nilCheck x => on1 (ev e x) pnil
  | .binOp op t x y _ => orV (on2 (ev e x) (ev e y) (pbinI op)) (orV (r0 P e o) (pbin2 P e t x y op))
  | .makeFunc fn first cap => pfunc e first.toList cap.toList fn
  | .slice t x lo hi mx => orV (on1 (ev e x) (rslice P h e t lo hi mx)) (r0 P e o)
  | .fieldAddr t x f => on1 (ev e x) (rfieldAddr P t f)
  | .field t x f => on1 (ev e x) (rfield P t f)
  | .indexAddr t x y => on2 (ev e x) (ev e y) (rindexAddr P t)
  | .index t x y => orV (on2 (ev e x) (ev e y) (rindex P t)) (r0 P e o)
  | .lookup t x y ok => on2 (ev e x) (ev e y) (rlookup P h t ok)
  | .extract x i => on1 (ev e x) (rextract i)
  | .call c => orV (pcall P e h c) (r0 P e o)
  | .entry x => on1 (ev e x) (rentry h)
  | .convert s d x => orV (r0 P e o) (on1 (ev e x) (rconv P h s d))
  | _ => r0 P e o
noncomputable def aalloc (T : TypeId) (z : Value) : Option (SO × Sh) := some (.cells (.of z.cells.toList) T true 0, .ptr)
noncomputable def amap (P : Program) (e : Tr Value) (t : TypeId) : Option Operand → Option (SO × Sh)
  | none => some (.map [] 0, .mp)
  | some r => on2 (P.underlying t) (ev e r) fun d v => match d, v with
    | .map _ _, .int _ _ => some (.map [] 0, .mp)
    | _, _ => none
/-- What makes a block. -/
noncomputable def aop (P : Program) (e : Tr Value) (o : Oper) : Option (SO × Sh) := match o.op with
  | .alloc T => on1 (zeroOf P T) (aalloc T)
  | .box T x => on1 (ev e x) (aalloc T)
  | .buildSlice t m parts => on1 (evps e parts.toList) (rbuildSlice P t m)
  | .makeSlice t l c => on2 (ev e l) (ev e c) (rmake P t)
  | .makeMap t r => amap P e t r
  | _ => none
noncomputable def estore (P : Program) (h : Tr SO) (nx : Nat) (t : TypeId) (a v : Value) : Option SN := U nx (rstore P h t a v)
noncomputable def eupd (P : Program) (h : Tr SO) (nx : Nat) (t : TypeId) (a b c : Value) : Option SN := U nx (rmapUpdate P h t b c a)
noncomputable def eent (h : Tr SO) (nx : Nat) (a b c : Value) : Option SN := U nx (rentryStore h c a b)
noncomputable def e0 (h : Tr SO) (nx : Nat) (v : Value) : Option SN := some (.val v h nx)
noncomputable def orE (a b : Option SN) : Option SN := match a with
  | some r => some r
  | none => b
noncomputable def edef (g : FuncId) (first cap : Array Value) (vs : List Value) : Option SN := some (.dfr { target := .fn (.func g) cap, args := (first.toList ++ vs).toArray })
noncomputable def edefer (v : Value) (vs : List Value) : Option SN := match v with
  | .func (.func g) first cap => edef g first cap vs
  | _ => none
noncomputable def ecall (P : Program) (X : FuncId → Option XK) (e : Tr Value) (h : Tr SO) (nx : Nat) (o : Oper) (c : Call) : Option SN := match c.callee with
  | .value f => on2 (ev e f) (evs e c.args.toList) (rcallF P X h nx)
  | .builtin b => orE (on1 (evs e c.args.toList) (rbuiltin P h nx b c.argTypes.toList)) (on1 (r0 P e o) (e0 h nx))
  | _ => none
noncomputable def edeferC (e : Tr Value) (c : Call) : Option SN := match c.callee with
  | .value f => on2 (ev e f) (evs e c.args.toList) edefer
  | _ => none
/-- What changes memory, or goes elsewhere. -/
noncomputable def eop (P : Program) (X : FuncId → Option XK) (e : Tr Value) (h : Tr SO) (nx : Nat) (o : Oper) : Option SN := match o.op with
  | .store t x y => on2 (ev e x) (ev e y) (estore P h nx t)
  | .mapUpdate t m k x => on1 (ev e m) fun a => on2 (ev e k) (ev e x) (eupd P h nx t a)
  | .mapEntry t m k => on2 (ev e m) (ev e k) fun a b => rmapEntry P h nx t b a
  | .entryStore _ m s x => on1 (ev e m) fun a => on2 (ev e s) (ev e x) (eent h nx a)
  | .call c => ecall P X e h nx o c
  | .defer c => edeferC e c
  | .range t x => on1 (ev e x) (rrange P h nx t)
  | .next x isStr => on1 (ev e x) (rnext h nx isStr)
  | _ => none
inductive OK where
  | p | a | e
def opB : Builtin → OK
  | .append | .copy | .delete | .clear => .e
  | _ => .p
def opC : Callee → OK
  | .builtin b => opB b
  | _ => .e
def opK : Op → OK
  | .alloc _ | .box _ _ | .buildSlice .. | .makeMap .. | .makeSlice .. => .a
  | .store .. | .mapUpdate .. | .mapEntry .. | .entryStore .. | .defer _ | .range .. | .next .. => .e
  | .call c => opC c.callee
  | _ => .p
noncomputable def sopA (h : Tr SO) (nx : Nat) (x : SO × Sh) : Option SN := some (.val (x.2.mk nx) (h.put nx x.1) (Nat.add nx 1))
noncomputable def sop (P : Program) (X : FuncId → Option XK) (e : Tr Value) (h : Tr SO) (nx : Nat) (o : Oper) : Option SN := match opK o.op with
  | .p => on1 (pop P e h o) (e0 h nx)
  | .a => on1 (aop P e o) (sopA h nx)
  | .e => eop P X e h nx o
/-- The program names no function of the runtime's that is met apart. -/
noncomputable def NoNG (P : Program) : Prop := ∀ (f : Nat) fn, P.funcs[f]? = some fn → (fn.name == "runtime.NumGoroutine") = false
theorem run_enter (hN : NoNG P) {f : FuncId} {fn : Func} {c : Code} (hf : P.funcs[f]? = some fn) (hb : fn.body = some c) (args : Array Value) : (callFunc f args).run P w = .ok (.enter f args) w := by
  have := hN f fn hf
  simp only [callFunc, Sem.run_bind, run_program, Result.andThen_ok, hf, this, hb]
  rfl
theorem SNok.val' {v : Value} {h' : Tr SO} {nx' : Nat} {s : Sem Value} {r : Result Next} (hv : Val θ w0 ρ v h' nx' (s.run P w)) (ho : r = ((do pure (.value (← s)) : Sem Next)).run P w) : SNok θ w0 ρ w r (.val v h' nx') := by
  obtain ⟨ρ', v', w', h1, h2, h3, h4⟩ := hv
  refine ⟨ρ', v', w', h1, h2, h3, .inl ?_⟩
  rw [ho]; simp [h4]
theorem SNok.skip' {h' : Tr SO} {s : Sem Unit} {r : Result Next} {w' : World} (hv : s.run P w = .ok () w') (hh : HT θ w0 ρ h' nx w') (ho : r = ((do s; pure .skip : Sem Next)).run P w) : SNok θ w0 ρ w r (.val undef h' nx) := by
  refine ⟨ρ, undef, w', .refl ρ, Rv.undef, hh, .inr ⟨rfl, ?_⟩⟩
  rw [ho]; simp [hv]
theorem rcallF_ok (hh : HT θ w0 ρ h nx w) {X : FuncId → Option XK} (hX : ∀ f k, X f = some k → XOK P f k) (hN : NoNG P) {v v' : Value} {vs vs' : List Value} (hv : Rv θ ρ v v') (hvs : Rl θ ρ vs vs') {r : SN} (hs : rcallF P X h nx v vs = some r) :
    SNok θ w0 ρ w ((do let d ← Deferred.ofValue v' vs'.toArray; invoke d.target d.args : Sem Next).run P w) r := by
  unfold rcallF at hs
  split at hs
  · rename_i g first cap
    cases hv with
    | fn h1 h2 h3 h4 =>
      rename_i xs' ys'
      have hall : Rl θ ρ (first.toList ++ vs ++ cap.toList) (xs'.toList ++ vs' ++ ys'.toList) := Rl.append (Rl.append (Ra.list.1 ⟨h1, h2⟩) hvs) (Ra.list.1 ⟨h3, h4⟩)
      have harr : xs' ++ vs'.toArray ++ ys' = (xs'.toList ++ vs' ++ ys'.toList).toArray := by apply Array.ext'; simp
      obtain ⟨fn, hf, hs⟩ := on1_ok hs
      cases hb : fn.body with
      | some c =>
        rw [hb] at hs
        cases hs
        refine ⟨_, hall.arr, ?_⟩
        simp [Deferred.ofValue, invoke, harr, run_enter hN hf hb]
      | none =>
        rw [hb] at hs
        obtain ⟨x, hx, hs⟩ := on1_ok hs
        have := rext_ok hh (hX g x hx) hall hs
        simp only [Deferred.ofValue, invoke, Sem.run_bind, Sem.run_pure, Result.andThen_ok, harr]
        exact this
  · rename_i l a b
    obtain ⟨so, hl, hs⟩ := on1_ok hs
    unfold rloop at hs
    split at hs
    · cases hs
      cases hv with
      | yield hp =>
        rename_i p
        obtain ⟨p', lo', g1, g2, g3, g4⟩ := hh.obj l _ hl
        rw [hp] at g1; cases g1
        cases lo' with
        | loop lo =>
          refine ⟨p, lo, vs'.toArray, hp, g2, hvs.arr, fun hsz => ?_⟩
          have hg : (Instr.getLoop p.b).run P w = .ok lo w := by simp [Instr.getLoop, getObj, Sem.run, g2]
          simp [Deferred.ofValue, invoke, Instr.yield, hg, hsz]
        | _ => exact g3.elim
    · cases hs
  · cases hs
theorem run_zeroApp {t ty el : TypeId} {i : TypeInfo} (hu : P.underlying t = some (.slice el)) (hi : P.info? el = some i) {a : Addr} {n c : Nat} (hn : n ≤ c) : (Builtin.append_ #[t, t] ty #[.slice (some a) n c, .slice none 0 0]).run P w = .ok (.slice (some a) n c) w := by
  simp [Builtin.append_, run_underlying hu, sizeOf, typeInfo, hi, Builtin.lenOf, hn, Builtin.firstCells, storeCells]
theorem run_zeroApp2 {t ty el : TypeId} {i : TypeInfo} (hu : P.underlying t = some (.slice el)) (hi : P.info? el = some i) {a b : Addr} {n c c0 : Nat} (hn : n ≤ c) : (Builtin.append_ #[t, t] ty #[.slice (some a) n c, .slice (some b) 0 c0]).run P w = .ok (.slice (some a) n c) w := by
  simp [Builtin.append_, run_underlying hu, sizeOf, typeInfo, hi, Builtin.lenOf, hn, Builtin.firstCells, storeCells, loadCells, loadCellsFrom]
theorem Rl.one1 {a : Value} {l' : List Value} (h : Rl θ ρ [a] l') : ∃ a', l' = [a'] ∧ Rv θ ρ a a' := by
  cases l' with
  | nil => have := h.1; simp at this
  | cons b m => cases m with
    | nil => exact ⟨b, rfl, h.head⟩
    | cons c m => have := h.1; simp at this
theorem Rl.two {a b : Value} {l' : List Value} (h : Rl θ ρ [a, b] l') : ∃ a' b', l' = [a', b'] ∧ Rv θ ρ a a' ∧ Rv θ ρ b b' := by
  cases l' with
  | nil => have := h.1; simp at this
  | cons c m =>
    obtain ⟨d, rfl, h2⟩ := Rl.one1 h.tail
    exact ⟨c, d, rfl, h.head, h2⟩
theorem rbuiltin_ok (hh : HT θ w0 ρ h nx w) {b : Builtin} {ts : Array TypeId} {ty : TypeId} {cs : Array Bool} {vs vs' : List Value} (hvs : Rl θ ρ vs vs') {r : SN} (hs : rbuiltin P h nx b ts.toList vs = some r) : SNok θ w0 ρ w ((builtin b ts ty cs vs'.toArray).run P w) r := by
  unfold rbuiltin at hs
  have arr : ∀ {l : List TypeId}, ts.toList = l → ts = l.toArray := fun {l} e => by apply Array.ext'; simpa using e
  split at hs
  · rename_i t t' x y ht
    cases hc : Nat.beq t t' with
    | false =>
      rw [hc] at hs
      rw [arr ht]
      obtain ⟨x', y', rfl, hx, hy⟩ := hvs.two
      obtain ⟨v, h', nx', rfl, hv⟩ := rapZ_ok (ty := ty) hh hx hy hs
      exact SNok.val' hv rfl
    | true =>
      rw [hc] at hs
      have := Nat.eq_of_beq_eq_true hc
      subst this
      rw [arr ht]
      obtain ⟨x', y', rfl, hx, hy⟩ := hvs.two
      simp only [cond_true] at hs
      split at hs
      · rename_i a n c n0 c0
        split at hs
        · rename_i el hu
          split at hs
          · rename_i i hi
            cases hs
            obtain ⟨rfl, rfl, rfl⟩ := hy.toS0
            have hx2 := hx
            cases hx with
            | sl h1 h2 h3 =>
              exact SNok.val' (s := Builtin.append_ #[t, t] ty #[_, .slice none 0 0]) (.same hh hx2 (run_zeroApp hu hi h2)) rfl
          · cases hs
        · cases hs
      · rename_i a n c b c0
        split at hs
        · rename_i el hu
          split at hs
          · rename_i i hi
            cases hs
            have hx2 := hx
            cases hx with
            | sl h1 h2 h3 =>
              cases hy with
              | sl k1 k2 k3 =>
                exact SNok.val' (s := Builtin.append_ #[t, t] ty #[_, .slice _ 0 _]) (.same hh hx2 (run_zeroApp2 hu hi h2)) rfl
          · cases hs
        · cases hs
      · obtain ⟨v, h', nx', rfl, hv⟩ := rappend_ok (ty := ty) hh hx hy hs
        exact SNok.val' hv rfl
  · rename_i t t2 x y ht
    rw [arr ht]
    obtain ⟨x', y', rfl, hx, hy⟩ := hvs.two
    obtain ⟨v, h', nx', rfl, hv⟩ := rcopy_ok (t2 := t2) (ty := ty) hh hx hy hs
    exact SNok.val' hv rfl
  · rename_i t x ht
    rw [arr ht]
    obtain ⟨x', rfl, hx⟩ := hvs.one1
    obtain ⟨v, h', nx', rfl, hv⟩ := rclear_ok (ty := ty) hh hx hs
    exact SNok.val' hv rfl
  · rename_i t t2 x k ht
    rw [arr ht]
    obtain ⟨x', y', rfl, hx, hy⟩ := hvs.two
    split at hs
    · rename_i h' hd
      cases hs
      obtain ⟨w', g1, g2⟩ := rdelete_ok (t2 := t2) (ty := ty) hh hx hy hd
      exact SNok.val' (s := Builtin.delete_ #[t, t2] ty #[x', y']) ⟨ρ, _, w', .refl ρ, Rv.undef, g2, g1⟩ rfl
    · cases hs
  · cases hs
end
end Ex
end Go.Proofs.YtpfmhnjogfjekaaGreat
