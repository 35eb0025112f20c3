import Derived.Test.YtlcdaalalihaiaaGreatExG
import Derived.Laws.IdiomStrings

/- Running code by calculation: copy, len, comparisons with nil, calls; one operation. -/
namespace Go.Proofs.YtlcdaalalihaiaaGreat
open Go Go.RowKit
set_option linter.unusedVariables false
set_option linter.unusedSectionVars false
set_option linter.unusedSimpArgs false
set_option maxRecDepth 100000
namespace Ex
variable [GN]
section
variable {θ : Nat → Value} {ρ : Ren} {P : Program} {w0 : Fm} {w : World} {h : Tr SO} {nx : Nat}
noncomputable def rlen (P : Program) (h : Tr SO) (t : TypeId) : Value → Option Value
  | .slice (some _) n _ => (match P.underlying t with
    | some (.slice _) => some (goInt n)
    | _ => none)
  | .map (some r) => (match P.underlying t, h.get r with
    | some (.map _ _), some (.map m _) => some (goInt m.length)
    | _, _ => none)
  | _ => none
theorem rlen_ok (hh : HT θ w0 ρ h nx w) {t ty : TypeId} {ts : Array TypeId} (ht : ts[0]? = some t) {x x' v : Value} (hx : Rv θ ρ x x') (hs : rlen P h t x = some v) : Pv θ ρ w v ((Builtin.len_ ts ty #[x']).run P w) := by
  unfold rlen at hs
  split at hs
  · rename_i a n c
    split at hs
    · rename_i el hu
      cases hs
      cases hx
      exact ⟨_, .int _ _, by simp [Builtin.len_, ht, run_underlying hu]; rfl⟩
    · cases hs
  · rename_i r
    obtain ⟨p, hp, rfl⟩ := hx.toMap
    split at hs
    · rename_i k e m ck hu hr
      cases hs
      obtain ⟨es, g1, g2⟩ := hh.mapAt hr hp
      have hl := g2.length
      rw [Array.length_toList] at hl
      exact ⟨_, .int _ _, by simp [Builtin.len_, ht, run_underlying hu, run_getMap g1, hl]; rfl⟩
    · cases hs
  · cases hs
noncomputable def rcpW (h : Tr SO) (nx k o l : Nat) (g : CL) (T : TypeId) (sz n : Nat) (vs : List Value) : Option SN :=
  bif Nat.ble (Nat.add o l) g.len && vs.all Value.oneCell' then some (.val (goInt (n : Nat)) (h.put k (.cells (CL.write vs g o) T true sz)) nx) else none
noncomputable def rcp2 (h : Tr SO) (nx k o q l n : Nat) (a b : SO) : Option SN := match a, b with
  | .cells g T true sz, .cells d _ _ _ => on1 (d.read l q) (rcpW h nx k o l g T sz n)
  | _, _ => none
noncomputable def rcpD (P : Program) (h : Tr SO) (nx k o n j q m : Nat) (d : TypeDesc) : Option SN := match d with
  | .slice el => on1 (P.info? el) fun i => bif Nat.beq (Nat.min m n) 0 then some (.val (goInt 0) h nx) else on2 (h.get k) (h.get j) (rcp2 h nx k o q (Nat.mul (Nat.min m n) i.size) (Nat.min m n))
  | _ => none
noncomputable def rcp0 (P : Program) (h : Tr SO) (nx : Nat) : TypeDesc → Option SN
  | .slice el => on1 (P.info? el) fun _ => some (.val (goInt 0) h nx)
  | _ => none
noncomputable def bytesV (l : List UInt8) : List Value := l.map fun b => .int .u8 (Int.ofNat b.toNat)
noncomputable def rcpS2 (h : Tr SO) (nx k o l : Nat) (s : ByteArray) (a : SO) : Option SN := match a with
  | .cells g T true sz => rcpW h nx k o l g T sz l (bytesV (s.data.toList.take l))
  | _ => none
noncomputable def rcpS (P : Program) (h : Tr SO) (nx k o n : Nat) (s : ByteArray) : TypeDesc → Option SN
  | .slice el => on1 (P.info? el) fun _ => bif Nat.beq (Nat.min s.size n) 0 then some (.val (goInt 0) h nx) else on1 (h.get k) (rcpS2 h nx k o (Nat.min s.size n) s)
  | _ => none
noncomputable def rcopy (P : Program) (h : Tr SO) (nx : Nat) (t : TypeId) (x y : Value) : Option SN := match x, y with
  | .slice (some ⟨k, o, none⟩) n _, .slice (some ⟨j, q, none⟩) m _ => on1 (P.underlying t) (rcpD P h nx k o n j q m)
  | .slice (some ⟨_, _, none⟩) _ _, .slice none _ _ => on1 (P.underlying t) (rcp0 P h nx)
  | .slice (some ⟨k, o, none⟩) n _, .string s => on1 (P.underlying t) (rcpS P h nx k o n s)
  | _, _ => none
theorem rcopy_ok (hh : HT θ w0 ρ h nx w) {t t2 ty : TypeId} {x x' y y' : Value} (hx : Rv θ ρ x x') (hy : Rv θ ρ y y') {r : SN} (hs : rcopy P h nx t x y = some r) : ∃ v h' nx', r = .val v h' nx' ∧ Val θ w0 ρ v h' nx' ((Builtin.copy_ #[t, t2] ty #[x', y']).run P w) := by
  unfold rcopy at hs
  split at hs
  · rename_i k o n c j q m cj
    obtain ⟨p, c', a, hp, hn, hcap, rfl⟩ := hx.toSl
    obtain ⟨pj, mc', aj, hpj, hnj, hcapj, rfl⟩ := hy.toSl
    obtain ⟨dd, hu, hs⟩ := on1_ok hs
    unfold rcpD at hs
    split at hs
    · rename_i el
      obtain ⟨i, hi, hs⟩ := on1_ok hs
      cases h0 : Nat.beq (Nat.min m n) 0 with
      | true =>
        rw [h0] at hs; cases hs
        have h0 := Nat.eq_of_beq_eq_true h0
        refine ⟨_, _, _, rfl, .same hh (.int _ _) ?_⟩
        simp only [Builtin.copy_, Sem.run_bind, run_underlying hu, Result.andThen_ok, Builtin.lenOf, sizeOf, typeInfo, run_program, hi, Sem.run_pure, h0]
        simp [run_underlying hu, typeInfo, hi, h0, Builtin.lenOf, Builtin.firstCells, loadCells, loadCellsFrom, storeCells]
        rfl
      | false =>
        rw [h0] at hs
        have h0 : Nat.min m n ≠ 0 := fun e => by rw [e] at h0; cases h0
        simp only [cond_false] at hs
        obtain ⟨sa, sb, hk, hj, hs⟩ := on2_ok hs
        unfold rcp2 at hs
        split at hs
        · rename_i g T sz d T2 r2 s2
          obtain ⟨vs, hvs, hs⟩ := on1_ok hs
          unfold rcpW at hs
          cases hc : (Nat.ble (Nat.add o (Nat.mul (Nat.min m n) i.size)) g.len && vs.all Value.oneCell') with
          | false => rw [hc] at hs; cases hs
          | true =>
            rw [hc] at hs
            simp only [Bool.and_eq_true, cond_true, Option.some.injEq] at hc hs
            subst hs
            obtain ⟨a2, a3⟩ := hc
            have a2 : o + Nat.min m n * i.size ≤ g.len := Nat.le_of_ble_eq_true a2
            have hmn : Nat.min m n ≤ m ∧ Nat.min m n ≤ n := ⟨Nat.min_le_left _ _, Nat.min_le_right _ _⟩
            have ha : a = ⟨p.b, p.s + o, none⟩ := by
              rcases hcap.2 with e | e
              · omega
              · exact e
            have haj : aj = ⟨pj.b, pj.s + q, none⟩ := by
              rcases hcapj.2 with e | e
              · omega
              · exact e
            subst ha haj
            obtain ⟨ys, b1, b2, b3⟩ := hh.cells hj hpj q (Nat.min m n * i.size) hvs
            obtain ⟨w', g1, g2⟩ := hh.write (P := P) (o := o) hk hp b2 (Rl.ones b2 a3) (by rw [b2.1, b1]; exact a2)
            have hl := run_loadCells_list (P := P) w ⟨pj.b, pj.s + q, none⟩ ys (fun j v hv => by rw [addr_plus]; exact b3 j v hv)
            rw [b1] at hl
            refine ⟨_, _, _, rfl, ρ, goInt (Nat.min m n : Nat), w', .refl ρ, .int _ _, g2, ?_⟩
            simp only [Builtin.copy_, Sem.run_bind, run_underlying hu, Result.andThen_ok, Builtin.lenOf, sizeOf, typeInfo, run_program, hi, Sem.run_pure]
            simp only [Builtin.copy_, List.getElem?_toArray, List.getElem?_cons_zero, List.getElem?_cons_succ, Sem.run_bind, run_underlying hu, Result.andThen_ok, Builtin.lenOf, sizeOf, typeInfo, run_program, hi, Sem.run_pure, Builtin.firstCells, hl, g1]
        · cases hs
    · cases hs
  · rename_i k o n c m cj
    obtain ⟨p, c', a, hp, hn, hcap, rfl⟩ := hx.toSl
    obtain ⟨rfl, rfl, rfl⟩ := hy.toS0
    obtain ⟨dd, hu, hs⟩ := on1_ok hs
    unfold rcp0 at hs
    split at hs
    · rename_i el
      obtain ⟨i, hi, hs⟩ := on1_ok hs
      cases hs
      refine ⟨_, _, _, rfl, .same hh (.int _ _) ?_⟩
      have h0 : Nat.min 0 n = 0 := Nat.zero_min n
      simp only [Builtin.copy_, Sem.run_bind, run_underlying hu, Result.andThen_ok, Builtin.lenOf, sizeOf, typeInfo, run_program, hi, Sem.run_pure, h0]
      simp [run_underlying hu, typeInfo, hi, h0, Builtin.lenOf, Builtin.firstCells, loadCells, loadCellsFrom, storeCells]
      rfl
    · cases hs
  · rename_i k o n c s
    obtain ⟨p, c', a, hp, hn, hcap, rfl⟩ := hx.toSl
    obtain rfl := hy.toStr
    obtain ⟨dd, hu, hs⟩ := on1_ok hs
    unfold rcpS at hs
    split at hs
    · rename_i el
      obtain ⟨i, hi, hs⟩ := on1_ok hs
      cases h0 : Nat.beq (Nat.min s.size n) 0 with
      | true =>
        rw [h0] at hs; cases hs
        have h0 := Nat.eq_of_beq_eq_true h0
        refine ⟨_, _, _, rfl, .same hh (.int _ _) ?_⟩
        simp only [Builtin.copy_, Sem.run_bind, run_underlying hu, Result.andThen_ok, Builtin.lenOf, sizeOf, typeInfo, run_program, hi, Sem.run_pure, h0]
        simp [run_underlying hu, typeInfo, hi, h0, Builtin.lenOf, Builtin.firstCells, loadCells, loadCellsFrom, storeCells]
        rfl
      | false =>
        rw [h0] at hs
        have h0 : Nat.min s.size n ≠ 0 := fun e => by rw [e] at h0; cases h0
        simp only [cond_false] at hs
        obtain ⟨sa, hk, hs⟩ := on1_ok hs
        unfold rcpS2 at hs
        split at hs
        · rename_i g T sz
          unfold rcpW at hs
          cases hc : (Nat.ble (Nat.add o (Nat.min s.size n)) g.len && (bytesV (s.data.toList.take (Nat.min s.size n))).all Value.oneCell') with
          | false => rw [hc] at hs; cases hs
          | true =>
            rw [hc] at hs
            simp only [Bool.and_eq_true, cond_true, Option.some.injEq] at hc hs
            subst hs
            obtain ⟨a2, a3⟩ := hc
            have a2 : o + Nat.min s.size n ≤ g.len := Nat.le_of_ble_eq_true a2
            have ha : a = ⟨p.b, p.s + o, none⟩ := by
              rcases hcap.2 with e | e
              · have : Nat.min s.size n ≤ n := Nat.min_le_right _ _
                omega
              · exact e
            subst ha
            have hb : Rl θ ρ (bytesV (s.data.toList.take (Nat.min s.size n))) (bytesV (s.data.toList.take (Nat.min s.size n))) := by
              refine ⟨rfl, fun j x x' h1 h2 => ?_⟩
              rw [h1] at h2; cases h2
              obtain ⟨b, _, rfl⟩ := List.mem_map.1 (List.mem_of_getElem? h1)
              exact .int _ _
            have hlen : (bytesV (s.data.toList.take (Nat.min s.size n))).length ≤ Nat.min s.size n := by simp [bytesV]
            obtain ⟨w', g1, g2⟩ := hh.write (P := P) (o := o) hk hp hb (fun v hv => List.all_eq_true.1 a3 v hv) (by omega)
            have he : ((s.extract 0 (Nat.min s.size n)).data.map fun b => Value.int .u8 b.toNat).toList = bytesV (s.data.toList.take (Nat.min s.size n)) := by
              simp [bytesV]
            refine ⟨_, _, _, rfl, ρ, goInt (Nat.min s.size n : Nat), w', .refl ρ, .int _ _, g2, ?_⟩
            simp only [Builtin.copy_, List.getElem?_toArray, List.getElem?_cons_zero, List.getElem?_cons_succ, Sem.run_bind, run_underlying hu, Result.andThen_ok, Builtin.lenOf, sizeOf, typeInfo, run_program, hi, Sem.run_pure, Builtin.firstCells, he, g1]
        · cases hs
    · cases hs
  · cases hs
/-- A comparison with nil. -/
noncomputable def rnil (P : Program) (t : TypeId) : Value → Value → Bool
  | .pointer (some _), .pointer none | .pointer none, .pointer (some _) => (match P.underlying t with
    | some (.pointer _) => true
    | _ => false)
  | .slice (some _) _ _, .slice none _ _ | .slice none _ _, .slice (some _) _ _ => (match P.underlying t with
    | some (.slice _) => true
    | _ => false)
  | .map (some _), .map none | .map none, .map (some _) => (match P.underlying t with
    | some (.map _ _) => true
    | _ => false)
  | .func (.func _) _ _, .nilFunc | .nilFunc, .func (.func _) _ _ => (match P.underlying t with
    | some (.func _ _ _) => true
    | _ => false)
  | _, _ => false
theorem rnil_ok {t : TypeId} {x x' y y' : Value} (hx : Rv θ ρ x x') (hy : Rv θ ρ y y') (hs : rnil P t x y = true) : (Op.equal t x' y').run P w = .ok false w ∧ (∀ op a b, eqGuard op t a b x' y' = pure ()) ∧ binOp .eql t x' y' = (do pure (.bool (← Op.equal t x' y'))) ∧ binOp .neq t x' y' = (do pure (.bool (!(← Op.equal t x' y')))) := by
  unfold rnil at hs
  obtain ⟨d, e1⟩ : ∃ d, ∀ a b, Op.equal t a b = Op.equalIn (d + 1) t a b := ⟨9999, fun _ _ => rfl⟩
  split at hs <;> first | exact absurd hs Bool.false_ne_true | (split at hs <;> first | exact absurd hs Bool.false_ne_true | (rename_i hu; cases hx <;> cases hy <;> refine ⟨by rw [e1]; simp [Op.equalIn, run_underlying hu], fun op a b => by cases op <;> rfl, rfl, rfl⟩))
/-! ### Functions without a body -/
/-- A call of f is run as m tells. -/
def MemoOK (θ : Nat → Value) (P : Program) (f : FuncId) (m : List Value → Tr SO → Nat → Option (Value × Tr SO × Nat)) : Prop :=
  ∀ (F : Fm) (ρ : Ren) (w : World) (h : Tr SO) (nx : Nat) (args args' : Array Value) (v : Value) (h' : Tr SO) (nx' : Nat), m args.toList h nx = some (v, h', nx') → Ra θ ρ args args' → HT θ F ρ h nx w → ∀ base,
    ∃ ρ' w' v' fr, ρ.le ρ' ∧ Rv θ ρ' v v' ∧ HT θ F ρ' h' nx' w' ∧ Steps P (lone (Frame.enter P f args' .normal) base w) (lone fr base w') ∧ fr.fn = f ∧ fr.leaving P w' (.returned v')
inductive XK where
  | mark0 | markA | load (k : IntKind) | store | add (k : IntKind) | cas (k : IntKind) | memo (m : List Value → Tr SO → Nat → Option (Value × Tr SO × Nat))
noncomputable def XOK (P : Program) (f : FuncId) : XK → Prop
  | .mark0 => ∀ w, (callFunc f #[]).run P w = .ok (.value (.tuple #[])) w
  | .markA => ∀ (a : Addr) w, (callFunc f #[.pointer (some a)]).run P w = .ok (.value (.tuple #[])) w
  | .load k => ∀ (a : Addr) (x : Int) (w : World), w.cell? a = some (.int k x) → (callFunc f #[.pointer (some a)]).run P w = .ok (.value (.int k x)) w
  | .store => ∀ (a : Addr) (k : IntKind) (y : Int) (u : Value) (w : World), w.cell? a = some u → w.frozen? a = false → (callFunc f #[.pointer (some a), .int k y]).run P w = .ok (.value (.tuple #[])) (w.setCell a (.int k y))
  | .add k => ∀ (a : Addr) (x y : Int) (w : World), w.cell? a = some (.int k x) → w.frozen? a = false → (callFunc f #[.pointer (some a), .int k y]).run P w = .ok (.value (.int k (k.wrap (x + y)))) (w.setCell a (.int k (k.wrap (x + y))))
  | .cas k => ∀ (a : Addr) (x y : Int) (w : World), w.cell? a = some (.int k x) → w.frozen? a = false → (callFunc f #[.pointer (some a), .int k x, .int k y]).run P w = .ok (.value (.bool true)) (w.setCell a (.int k y))
  | .memo m => ∀ θ, MemoOK θ P f m
/-- What is known ahead of a call. -/
noncomputable def memoOf (X : FuncId → Option XK) (f : FuncId) (args : Array Value) (h : Tr SO) (nx : Nat) : Option (Value × Tr SO × Nat) := match X f with
  | some (.memo m) => m args.toList h nx
  | _ => none
theorem memoOf_ok {X : FuncId → Option XK} {P : Program} (hX : ∀ f k, X f = some k → XOK P f k) {θ : Nat → Value} {f : FuncId} {args : Array Value} {h : Tr SO} {nx : Nat} {r : Value × Tr SO × Nat} (hs : memoOf X f args h nx = some r) : ∃ m, MemoOK θ P f m ∧ m args.toList h nx = some r := by
  unfold memoOf at hs
  split at hs
  · rename_i m hm; exact ⟨m, hX f _ hm θ, hs⟩
  · cases hs
noncomputable def rset (h : Tr SO) (nx : Nat) (k o : Nat) (u v : Value) : Option SN := match h.get k with
  | some (.cells c T true sz) => bif Nat.blt o c.len && (c.get o).isSome then some (.val v (h.put k (.cells (CL.write [u] c o) T true sz)) nx) else none
  | _ => none
noncomputable def rcell (h : Tr SO) (k o : Nat) : Option Value := match h.get k with
  | some (.cells c _ _ _) => c.get o
  | _ => none
noncomputable def rext (h : Tr SO) (nx : Nat) : XK → List Value → Option SN
  | .mark0, [] => some (.val (.tuple #[]) h nx)
  | .markA, [.pointer (some ⟨_, _, none⟩)] => some (.val (.tuple #[]) h nx)
  | .load k, [.pointer (some ⟨b, o, none⟩)] => (match rcell h b o with
    | some (.int k' n) => if k' = k then some (.val (.int k n) h nx) else none
    | _ => none)
  | .store, [.pointer (some ⟨b, o, none⟩), .int k y] => rset h nx b o (.int k y) (.tuple #[])
  | .add k, [.pointer (some ⟨b, o, none⟩), .int k1 y] => (match rcell h b o with
    | some (.int k2 x) => if k1 = k ∧ k2 = k then rset h nx b o (.int k (k.wrap (x + y))) (.int k (k.wrap (x + y))) else none
    | _ => none)
  | .cas k, [.pointer (some ⟨b, o, none⟩), .int k1 x, .int k2 y] => (match rcell h b o with
    | some (.int k3 z) => if k1 = k ∧ k2 = k ∧ k3 = k ∧ z = x then rset h nx b o (.int k y) (.bool true) else none
    | _ => none)
  | _, _ => none
theorem rset_ok (hh : HT θ w0 ρ h nx w) {k o : Nat} {p : Pl} (hp : ρ k = some p) {u v : Value} (hu : okc u = true ∧ u.oneCell' = true) {r : SN} (hs : rset h nx k o u v = some r) :
    ∃ h', r = .val v h' nx ∧ HT θ w0 ρ h' nx (w.setCell ⟨p.b, p.s + o, none⟩ u) ∧ (w.cell? ⟨p.b, p.s + o, none⟩).isSome = true ∧ w.frozen? ⟨p.b, p.s + o, none⟩ = false := by
  unfold rset at hs
  split at hs
  · rename_i c T sz hk
    cases hc : (Nat.blt o c.len && (c.get o).isSome) with
    | false => rw [hc] at hs; cases hs
    | true =>
      rw [hc] at hs; cases hs
      simp only [Bool.and_eq_true] at hc
      have hlt : o < c.len := by simpa [Nat.blt_eq] using hc.1
      obtain ⟨x0, hx0⟩ := Option.isSome_iff_exists.1 hc.2
      obtain ⟨y, hy, _⟩ := hh.cell hk hp hx0
      obtain ⟨p', o', g1, g2, g3, g4⟩ := hh.obj k _ hk
      rw [hp] at g1; cases g1
      have hz : w.frozen? ⟨p.b, p.s + o, none⟩ = false := by
        cases o' with
        | cells cur T' fz => obtain ⟨_, rfl, _⟩ := g3; simp [World.frozen?, g2]
        | _ => exact g3.elim
      obtain ⟨w', e1, e2⟩ := hh.write (P := default) (o := o) hk hp (vs := [u]) (vs' := [u]) (Rl.cons (okc_rv hu.1) Rl.nil) (by simpa using hu.2) (by simp; omega)
      refine ⟨_, rfl, ?_, by rw [hy]; rfl, hz⟩
      have : (storeCells ⟨p.b, p.s + o, none⟩ [u]).run default w = .ok () (w.setCell ⟨p.b, p.s + o, none⟩ u) := by
        simp only [storeCells, Sem.run_bind, addr_plus, Nat.add_zero, run_store default w _ u _ hu.2, hy, hz]
        rfl
      rw [this] at e1
      cases e1; exact e2
  · cases hs
theorem rcell_ok (hh : HT θ w0 ρ h nx w) {k o : Nat} {p : Pl} (hp : ρ k = some p) {v : Value} (hs : rcell h k o = some v) : ∃ v', w.cell? ⟨p.b, p.s + o, none⟩ = some v' ∧ Rv θ ρ v v' := by
  unfold rcell at hs
  split at hs
  · rename_i c T b sz hk
    exact hh.cell hk hp hs
  · cases hs
theorem rext_ok (hh : HT θ w0 ρ h nx w) {f : FuncId} {x : XK} (hx : XOK P f x) {vs vs' : List Value} (hv : Rl θ ρ vs vs') {r : SN} (hs : rext h nx x vs = some r) : SNok θ w0 ρ w ((callFunc f vs'.toArray).run P w) r := by
  have one : ∀ {a : Value} {l : List Value} {l' : List Value}, Rl θ ρ (a :: l) l' → ∃ a' m, l' = a' :: m ∧ Rv θ ρ a a' ∧ Rl θ ρ l m := fun {a l l'} h => by
    cases l' with
    | nil => have := h.1; simp at this
    | cons b m => exact ⟨b, m, rfl, h.head, h.tail⟩
  have nil : ∀ {l' : List Value}, Rl θ ρ [] l' → l' = [] := fun {l'} h => by
    cases l' with
    | nil => rfl
    | cons b m => have := h.1; simp at this
  unfold rext at hs
  split at hs
  · cases hs
    rw [nil hv]
    exact ⟨ρ, _, w, .refl ρ, Rv.undef, hh, .inl (hx w)⟩
  · cases hs
    obtain ⟨a', m, rfl, h1, h2⟩ := one hv
    rw [nil h2]
    obtain ⟨p, hp, rfl⟩ := h1.toPtr
    exact ⟨ρ, _, w, .refl ρ, Rv.undef, hh, .inl (hx _ w)⟩
  · obtain ⟨a', m, rfl, h1, h2⟩ := one hv
    rw [nil h2]
    obtain ⟨p, hp, rfl⟩ := h1.toPtr
    split at hs
    · rename_i k' n hc
      split at hs
      · rename_i hd
        cases hs
        subst hd
        obtain ⟨v', e1, e2⟩ := rcell_ok hh hp hc
        rw [e2.toInt] at e1
        exact ⟨ρ, _, w, .refl ρ, .int _ _, hh, .inl (hx _ _ w e1)⟩
      · cases hs
    · cases hs
  · obtain ⟨a', m, rfl, h1, h2⟩ := one hv
    obtain ⟨b', m, rfl, h3, h4⟩ := one h2
    rw [nil h4]
    obtain ⟨p, hp, rfl⟩ := h1.toPtr
    obtain rfl := h3.toInt
    obtain ⟨h', rfl, g1, g2, g3⟩ := rset_ok hh hp ⟨rfl, rfl⟩ hs
    obtain ⟨u, hu⟩ := Option.isSome_iff_exists.1 g2
    exact ⟨ρ, _, _, .refl ρ, Rv.undef, g1, .inl (hx _ _ _ u w hu g3)⟩
  · obtain ⟨a', m, rfl, h1, h2⟩ := one hv
    obtain ⟨b', m, rfl, h3, h4⟩ := one h2
    rw [nil h4]
    obtain ⟨p, hp, rfl⟩ := h1.toPtr
    obtain rfl := h3.toInt
    split at hs
    · rename_i k2 x hc
      split at hs
      · rename_i hd
        obtain ⟨rfl, rfl⟩ := hd
        obtain ⟨v', e1, e2⟩ := rcell_ok hh hp hc
        rw [e2.toInt] at e1
        obtain ⟨h', rfl, g1, g2, g3⟩ := rset_ok hh hp ⟨rfl, rfl⟩ hs
        exact ⟨ρ, _, _, .refl ρ, .int _ _, g1, .inl (hx _ _ _ w e1 g3)⟩
      · cases hs
    · cases hs
  · obtain ⟨a', m, rfl, h1, h2⟩ := one hv
    obtain ⟨b', m, rfl, h3, h4⟩ := one h2
    obtain ⟨c', m, rfl, h5, h6⟩ := one h4
    rw [nil h6]
    obtain ⟨p, hp, rfl⟩ := h1.toPtr
    obtain rfl := h3.toInt
    obtain rfl := h5.toInt
    split at hs
    · rename_i k3 z hc
      split at hs
      · rename_i hd
        obtain ⟨rfl, rfl, rfl, rfl⟩ := hd
        obtain ⟨v', e1, e2⟩ := rcell_ok hh hp hc
        rw [e2.toInt] at e1
        obtain ⟨h', rfl, g1, g2, g3⟩ := rset_ok hh hp ⟨rfl, rfl⟩ hs
        exact ⟨ρ, _, _, .refl ρ, .bool _, g1, .inl (hx _ _ _ w e1 g3)⟩
      · cases hs
    · cases hs
  · cases hs
/-- A pointer seen as an unsafe one. -/
noncomputable def rconv2 (P : Program) (h : Tr SO) (t : TypeId) (v : Value) : Option Value := match v with
  | .pointer none => some v
  | .pointer (some ⟨k, o, none⟩) => (match P.info? t, rcell h k o with
    | some i, some _ => bif Nat.beq i.size 0 then none else some v
    | _, _ => none)
  | _ => none
noncomputable def u8c (v : Value) (l : List UInt8) : Option (List UInt8) := match v with
  | .int .u8 (.ofNat m) => bif Nat.blt m 256 then some (UInt8.ofNat m :: l) else none
  | _ => none
noncomputable def u8s : List Value → Option (List UInt8) := List.rec (motive := fun _ => Option (List UInt8)) (some []) fun v _ ih => on1 ih (u8c v)
theorem u8s_ok : ∀ {vs : List Value} {l : List UInt8}, u8s vs = some l → l.length = vs.length ∧ ∀ j (hj : j < l.length), vs[j]? = some (.int .u8 (l[j].toNat : Int))
  | [], l, h => by cases h; exact ⟨rfl, fun j hj => by simp at hj⟩
  | v :: vs, l, h => by
    have h : on1 (u8s vs) (u8c v) = some l := h
    obtain ⟨l', h1, h⟩ := on1_ok h
    obtain ⟨h2, h3⟩ := u8s_ok h1
    unfold u8c at h
    split at h
    · rename_i m h0 h00
      cases hb : Nat.blt m 256 with
      | false => rw [hb] at h; cases h
      | true =>
        rw [hb] at h; cases h
        have hm : m < 256 := by simpa [Nat.blt_eq] using hb
        refine ⟨by simp [h2], fun j hj => ?_⟩
        cases j with
        | zero =>
          have : (UInt8.ofNat m).toNat = m := UInt8.toNat_ofNat_of_lt' hm
          simp [this]
        | succ j => simpa using h3 j (by simpa using hj)
    · cases h
noncomputable def rbytes (k o n : Nat) (so : SO) : Option Value := match so with
  | .cells c _ _ _ => on1 (c.read n o) fun vs => on1 (u8s vs) fun l => some (.string ⟨⟨l⟩⟩)
  | _ => none
noncomputable def rconvB (P : Program) (h : Tr SO) (v : Value) (d : TypeDesc) : Option Value := match d, v with
  | .int .u8, .slice (some ⟨k, o, none⟩) n _ => on1 (h.get k) (rbytes k o n)
  | _, _ => none
noncomputable def rconv (P : Program) (h : Tr SO) (s d : TypeId) (v : Value) : Option Value := match P.underlying s, P.underlying d with
  | some (.pointer t), some .unsafePointer => rconv2 P h t v
  | some (.slice e), some .string => on1 (P.underlying e) (rconvB P h v)
  | _, _ => none
theorem rconv_ok (hh : HT θ w0 ρ h nx w) {s d : TypeId} {x x' v : Value} (hx : Rv θ ρ x x') (hs : rconv P h s d x = some v) : Pv θ ρ w v ((convert s d x').run P w) := by
  unfold rconv at hs
  split at hs
  · rename_i t hus hud
    unfold rconv2 at hs
    split at hs
    · cases hs
      obtain rfl := hx.toP0
      exact ⟨_, .p0, by simp [convert, Conv.unsafePointer, run_underlying hus, run_underlying hud]⟩
    · rename_i k o
      split at hs
      · rename_i i c hi hc
        cases hz : Nat.beq i.size 0 with
        | true => rw [hz] at hs; cases hs
        | false =>
          rw [hz] at hs
          cases hs
          have hx0 := hx
          obtain ⟨p, hp, rfl⟩ := hx.toPtr
          unfold rcell at hc
          split at hc
          · rename_i hk
            obtain ⟨y, hy, _⟩ := hh.cell hk hp hc
            have hne : ¬ i.size = 0 := fun e => by rw [e] at hz; cases hz
            exact ⟨_, hx0, run_convert_to_unsafe hus hud (by rw [hi]; simp [hne]) hy⟩
          · cases hc
      · cases hs
    · cases hs
  · rename_i e hus hud
    obtain ⟨dd, hue, hs⟩ := on1_ok hs
    unfold rconvB at hs
    split at hs
    · rename_i k o n c h0
      obtain ⟨so, hk, hs⟩ := on1_ok hs
      obtain ⟨p, c', a, hp, hn, hcap, rfl⟩ := hx.toSl
      unfold rbytes at hs
      split at hs
      · rename_i g T rw_ sz
        obtain ⟨vs, hvs, hs⟩ := on1_ok hs
        obtain ⟨l, hl, hs⟩ := on1_ok hs
        cases hs
        obtain ⟨ys, b1, b2, b3⟩ := hh.cells hk hp o n hvs
        obtain ⟨q1, q2⟩ := u8s_ok hl
        have hln : l.length = n := by rw [q1, b2.1, b1]
        subst hln
        refine ⟨_, .str _, ?_⟩
        refine run_convert_bytes_back w s d e a c' l hus hue hud fun j hj => ?_
        have ha : a = ⟨p.b, p.s + o, none⟩ := by
          rcases hcap.2 with e | e
          · omega
          · exact e
        obtain ⟨y, g1, g2⟩ := b2.at_ (q2 j hj)
        have := g2.toInt
        subst this
        rw [ha, addr_plus]
        exact b3 j _ g1
      · cases hs
    · cases hs
  · cases hs
end
end Ex
end Go.Proofs.YtlcdaalalihaiaaGreat

/- Running code by calculation: one operation, of whatever kind. -/
namespace Go.Proofs.YtlcdaalalihaiaaGreat
open Go Go.RowKit
set_option linter.unusedVariables false
set_option linter.unusedSectionVars false
set_option linter.unusedSimpArgs false
set_option maxRecDepth 100000
namespace Ex
variable [GN]
section
variable {θ : Nat → Value} {ρ : Ren} {P : Program} {w0 : Fm} {w : World} {h : Tr SO} {nx : Nat}
noncomputable def U (nx : Nat) : Option (Tr SO) → Option SN
  | some h => some (.val undef h nx)
  | none => none
noncomputable def orV (a b : Option Value) : Option Value := match a with
  | some r => some r
  | none => b
noncomputable def rcallB (X : FuncId → Option XK) (h : Tr SO) (nx : Nat) (g : FuncId) (vs : List Value) : Option Code → Option SN
  | some _ => some (.enter g vs.toArray)
  | none => on1 (X g) fun x => rext h nx x vs
noncomputable def rloop (l : Nat) (vs : List Value) : SO → Option SN
  | .loop .. => some (.round l vs.toArray)
  | _ => none
noncomputable def rcallF (P : Program) (X : FuncId → Option XK) (h : Tr SO) (nx : Nat) (v : Value) (vs : List Value) : Option SN := match v with
  | .func (.func g) first cap => on1 P.funcs[g]? fun fn => rcallB X h nx g (first.toList ++ vs ++ cap.toList) fn.body
  | .func (.yield l) _ _ => on1 (h.get l) (rloop l vs)
  | _ => none
noncomputable def rmethK : TypeDesc → Bool → Bool
  | .pointer _, b => b
  | _, b => !b
/-- The method of a value in an interface: of its own, at no path. -/
noncomputable def rmeth (P : Program) (t : TypeId) (m : String) : Option FuncId := on1 (P.info? t) fun i => on1 (i.methods.find? (·.name == m)) fun r => bif r.path.toList.isEmpty then on2 r.func (P.underlying t) fun f d => bif rmethK d f.2 then some f.1 else none else none
noncomputable def rinvoke (P : Program) (X : FuncId → Option XK) (h : Tr SO) (nx : Nat) (m : String) (v : Value) (vs : List Value) : Option SN := match v with
  | .iface t x => on1 (rmeth P t m) fun g => rcallF P X h nx (.func (.func g) #[] #[]) (x :: vs)
  | _ => none
noncomputable def rbuiltin (P : Program) (h : Tr SO) (nx : Nat) : Builtin → List TypeId → List Value → Option SN
  | .append, [t, t'], [x, y] => bif Nat.beq t t' then (match x, y with
    | .slice (some a) n c, .slice none _ _ => (match P.underlying t with
      | some (.slice el) => (match P.info? el with
        | some _ => some (.val (.slice (some a) n c) h nx)
        | none => none)
      | _ => none)
    | .slice (some a) n c, .slice (some b) 0 c0 => (match P.underlying t with
      | some (.slice el) => (match P.info? el with
        | some _ => some (.val (.slice (some a) n c) h nx)
        | none => none)
      | _ => none)
    | x, y => rappend P h nx t x y) else rapZ P h nx t t' x y
  | .copy, [t, _], [x, y] => rcopy P h nx t x y
  | .clear, [t], [x] => rclear P h nx t x
  | .delete, [t, _], [x, k] => (match rdelete P h t k x with
    | some h' => some (.val undef h' nx)
    | none => none)
  | _, _, _ => none
noncomputable def ppick (e : Tr Value) (a b : Operand) : Value → Option Value
  | .bool true => ev e a
  | .bool false => ev e b
  | _ => none
noncomputable def pnil : Value → Option Value
  | .pointer (some a) => some (.pointer (some a))
  | .func (.func f) a b => some (.func (.func f) a b)
  | _ => none
noncomputable def pcmp (P : Program) (t : TypeId) (r : Bool) (a b : Value) : Option Value := bif rnil P t a b then some (.bool r) else none
noncomputable def pbinN (m n : Nat) : BinOp → Option Value
  | .add => bif Nat.blt (Nat.add m n) 9223372036854775808 then some (.int .i64 (.ofNat (Nat.add m n))) else none
  | .sub => bif Nat.ble n m && Nat.blt m 9223372036854775808 then some (.int .i64 (.ofNat (Nat.sub m n))) else none
  | .eql => some (.bool (Nat.beq m n))
  | .neq => some (.bool (!Nat.beq m n))
  | .lss => some (.bool (Nat.blt m n))
  | .leq => some (.bool (Nat.ble m n))
  | .gtr => some (.bool (Nat.blt n m))
  | .geq => some (.bool (Nat.ble n m))
  | _ => none
/-- Small numbers. -/
noncomputable def pbinI (op : BinOp) (a b : Value) : Option Value := match a, b with
  | .int .i64 (.ofNat m), .int .i64 (.ofNat n) => pbinN m n op
  | _, _ => none
noncomputable def pbin2 (P : Program) (e : Tr Value) (t : TypeId) (x y : Operand) : BinOp → Option Value
  | .eql => on2 (ev e x) (ev e y) (pcmp P t false)
  | .neq => on2 (ev e x) (ev e y) (pcmp P t true)
  | _ => none
noncomputable def pfunc2 (f : FuncId) (us vs : List Value) : Option Value := some (.func (.func f) us.toArray vs.toArray)
noncomputable def pfunc (e : Tr Value) (a b : List Operand) : Fn → Option Value
  | .func f => on2 (evs e a) (evs e b) (pfunc2 f)
  | _ => none
noncomputable def plen2 (P : Program) (h : Tr SO) : List Value → List TypeId → Option Value
  | [x], [t] => rlen P h t x
  | _, _ => none
noncomputable def pbuiltin (P : Program) (e : Tr Value) (h : Tr SO) (xs : Array Operand) (ts : Array TypeId) : Builtin → Option Value
  | .len => on1 (evs e xs.toList) fun vs => plen2 P h vs ts.toList
  | _ => none
noncomputable def pcall (P : Program) (e : Tr Value) (h : Tr SO) (c : Call) : Option Value := match c.callee with
  | .builtin b => pbuiltin P e h c.args c.argTypes b
  | _ => none
/-- What only reads. -/
noncomputable def pop (P : Program) (e : Tr Value) (h : Tr SO) (o : Oper) : Option Value := match o.op with
  | .move x => ev e x
  | .assign x => ev e x
  | .pick c a b => on1 (ev e c) (ppick e a b)
  | .build t parts => on1 (evps e parts.toList) (rbuild P t)
  | .load t x => on1 (ev e x) (rload P h t)
  | .nilCheck x => on1 (ev e x) pnil
  | .binOp op t x y _ => orV (on2 (ev e x) (ev e y) (pbinI op)) (orV (r0 P e o) (pbin2 P e t x y op))
  | .makeFunc fn first cap => pfunc e first.toList cap.toList fn
  | .slice t x lo hi mx => orV (on1 (ev e x) (rslice P h e t lo hi mx)) (r0 P e o)
  | .fieldAddr t x f => on1 (ev e x) (rfieldAddr P t f)
  | .field t x f => on1 (ev e x) (rfield P t f)
  | .indexAddr t x y => on2 (ev e x) (ev e y) (rindexAddr P t)
  | .index t x y => orV (on2 (ev e x) (ev e y) (rindex P t)) (r0 P e o)
  | .lookup t x y ok => on2 (ev e x) (ev e y) (rlookup P h t ok)
  | .extract x i => on1 (ev e x) (rextract i)
  | .call c => orV (pcall P e h c) (r0 P e o)
  | .entry x => on1 (ev e x) (rentry h)
  | .convert s d x => orV (r0 P e o) (on1 (ev e x) (rconv P h s d))
  | _ => r0 P e o
noncomputable def aalloc (T : TypeId) (z : Value) : Option (SO × Sh) := some (.cells (.of z.cells.toList) T true 0, .ptr)
noncomputable def amap (P : Program) (e : Tr Value) (t : TypeId) : Option Operand → Option (SO × Sh)
  | none => some (.map [] 0, .mp)
  | some r => on2 (P.underlying t) (ev e r) fun d v => match d, v with
    | .map _ _, .int _ _ => some (.map [] 0, .mp)
    | _, _ => none
/-- What makes a block. -/
noncomputable def aop (P : Program) (e : Tr Value) (o : Oper) : Option (SO × Sh) := match o.op with
  | .alloc T => on1 (zeroOf P T) (aalloc T)
  | .box T x => on1 (ev e x) (aalloc T)
  | .buildSlice t m parts => on1 (evps e parts.toList) (rbuildSlice P t m)
  | .makeSlice t l c => on2 (ev e l) (ev e c) (rmake P t)
  | .makeMap t r => amap P e t r
  | _ => none
noncomputable def estore (P : Program) (h : Tr SO) (nx : Nat) (t : TypeId) (a v : Value) : Option SN := U nx (rstore P h t a v)
noncomputable def eupd (P : Program) (h : Tr SO) (nx : Nat) (t : TypeId) (a b c : Value) : Option SN := U nx (rmapUpdate P h t b c a)
noncomputable def eent (h : Tr SO) (nx : Nat) (a b c : Value) : Option SN := U nx (rentryStore h c a b)
noncomputable def e0 (h : Tr SO) (nx : Nat) (v : Value) : Option SN := some (.val v h nx)
noncomputable def orE (a b : Option SN) : Option SN := match a with
  | some r => some r
  | none => b
noncomputable def edef (g : FuncId) (first cap : Array Value) (vs : List Value) : Option SN := some (.dfr { target := .fn (.func g) cap, args := (first.toList ++ vs).toArray })
noncomputable def edefer (v : Value) (vs : List Value) : Option SN := match v with
  | .func (.func g) first cap => edef g first cap vs
  | _ => none
noncomputable def ecall (P : Program) (X : FuncId → Option XK) (e : Tr Value) (h : Tr SO) (nx : Nat) (o : Oper) (c : Call) : Option SN := match c.callee with
  | .value f => on2 (ev e f) (evs e c.args.toList) (rcallF P X h nx)
  | .builtin b => orE (on1 (evs e c.args.toList) (rbuiltin P h nx b c.argTypes.toList)) (on1 (r0 P e o) (e0 h nx))
  | .invoke x m => on2 (ev e x) (evs e c.args.toList) (rinvoke P X h nx m)
noncomputable def edeferC (e : Tr Value) (c : Call) : Option SN := match c.callee with
  | .value f => on2 (ev e f) (evs e c.args.toList) edefer
  | _ => none
/-- What changes memory, or goes elsewhere. -/
noncomputable def eop (P : Program) (X : FuncId → Option XK) (e : Tr Value) (h : Tr SO) (nx : Nat) (o : Oper) : Option SN := match o.op with
  | .store t x y => on2 (ev e x) (ev e y) (estore P h nx t)
  | .mapUpdate t m k x => on1 (ev e m) fun a => on2 (ev e k) (ev e x) (eupd P h nx t a)
  | .insert t m k x => on1 (ev e m) fun a => on2 (ev e k) (ev e x) (eupd P h nx t a)
  | .mapEntry t m k => on2 (ev e m) (ev e k) fun a b => rmapEntry P h nx t b a
  | .entryStore _ m s x => on1 (ev e m) fun a => on2 (ev e s) (ev e x) (eent h nx a)
  | .call c => ecall P X e h nx o c
  | .defer c => edeferC e c
  | .range t x => on1 (ev e x) (rrange P h nx t)
  | .next x isStr => on1 (ev e x) (rnext h nx isStr)
  | _ => none
inductive OK where
  | p | a | e
def opB : Builtin → OK
  | .append | .copy | .delete | .clear => .e
  | _ => .p
def opC : Callee → OK
  | .builtin b => opB b
  | _ => .e
def opK : Op → OK
  | .alloc _ | .box _ _ | .buildSlice .. | .makeMap .. | .makeSlice .. => .a
  | .store .. | .mapUpdate .. | .insert .. | .mapEntry .. | .entryStore .. | .defer _ | .range .. | .next .. => .e
  | .call c => opC c.callee
  | _ => .p
noncomputable def sopA (h : Tr SO) (nx : Nat) (x : SO × Sh) : Option SN := some (.val (x.2.mk nx) (h.put nx x.1) (Nat.add nx 1))
noncomputable def sop (P : Program) (X : FuncId → Option XK) (e : Tr Value) (h : Tr SO) (nx : Nat) (o : Oper) : Option SN := match opK o.op with
  | .p => on1 (pop P e h o) (e0 h nx)
  | .a => on1 (aop P e o) (sopA h nx)
  | .e => eop P X e h nx o
/-- The program names no function of the runtime's that is met apart. -/
noncomputable def NoNG (P : Program) : Prop := ∀ (f : Nat) fn, P.funcs[f]? = some fn → (fn.name == "runtime.NumGoroutine") = false
theorem run_enter (hN : NoNG P) {f : FuncId} {fn : Func} {c : Code} (hf : P.funcs[f]? = some fn) (hb : fn.body = some c) (args : Array Value) : (callFunc f args).run P w = .ok (.enter f args) w := by
  have := hN f fn hf
  simp only [callFunc, Sem.run_bind, run_program, Result.andThen_ok, hf, this, hb]
  rfl
theorem SNok.val' {v : Value} {h' : Tr SO} {nx' : Nat} {s : Sem Value} {r : Result Next} (hv : Val θ w0 ρ v h' nx' (s.run P w)) (ho : r = ((do pure (.value (← s)) : Sem Next)).run P w) : SNok θ w0 ρ w r (.val v h' nx') := by
  obtain ⟨ρ', v', w', h1, h2, h3, h4⟩ := hv
  refine ⟨ρ', v', w', h1, h2, h3, .inl ?_⟩
  rw [ho]; simp [h4]
theorem SNok.skip' {h' : Tr SO} {s : Sem Unit} {r : Result Next} {w' : World} (hv : s.run P w = .ok () w') (hh : HT θ w0 ρ h' nx w') (ho : r = ((do s; pure .skip : Sem Next)).run P w) : SNok θ w0 ρ w r (.val undef h' nx) := by
  refine ⟨ρ, undef, w', .refl ρ, Rv.undef, hh, .inr ⟨rfl, ?_⟩⟩
  rw [ho]; simp [hv]
theorem rcallF_ok (hh : HT θ w0 ρ h nx w) {X : FuncId → Option XK} (hX : ∀ f k, X f = some k → XOK P f k) (hN : NoNG P) {v v' : Value} {vs vs' : List Value} (hv : Rv θ ρ v v') (hvs : Rl θ ρ vs vs') {r : SN} (hs : rcallF P X h nx v vs = some r) :
    SNok θ w0 ρ w ((do let d ← Deferred.ofValue v' vs'.toArray; invoke d.target d.args : Sem Next).run P w) r := by
  unfold rcallF at hs
  split at hs
  · rename_i g first cap
    cases hv with
    | fn h1 h2 h3 h4 =>
      rename_i xs' ys'
      have hall : Rl θ ρ (first.toList ++ vs ++ cap.toList) (xs'.toList ++ vs' ++ ys'.toList) := Rl.append (Rl.append (Ra.list.1 ⟨h1, h2⟩) hvs) (Ra.list.1 ⟨h3, h4⟩)
      have harr : xs' ++ vs'.toArray ++ ys' = (xs'.toList ++ vs' ++ ys'.toList).toArray := by apply Array.ext'; simp
      obtain ⟨fn, hf, hs⟩ := on1_ok hs
      cases hb : fn.body with
      | some c =>
        rw [hb] at hs
        cases hs
        refine ⟨_, hall.arr, ?_⟩
        simp [Deferred.ofValue, invoke, harr, run_enter hN hf hb]
      | none =>
        rw [hb] at hs
        obtain ⟨x, hx, hs⟩ := on1_ok hs
        have := rext_ok hh (hX g x hx) hall hs
        simp only [Deferred.ofValue, invoke, Sem.run_bind, Sem.run_pure, Result.andThen_ok, harr]
        exact this
  · rename_i l a b
    obtain ⟨so, hl, hs⟩ := on1_ok hs
    unfold rloop at hs
    split at hs
    · cases hs
      cases hv with
      | yield hp =>
        rename_i p
        obtain ⟨p', lo', g1, g2, g3, g4⟩ := hh.obj l _ hl
        rw [hp] at g1; cases g1
        cases lo' with
        | loop lo =>
          refine ⟨p, lo, vs'.toArray, hp, g2, hvs.arr, fun hsz => ?_⟩
          have hg : (Instr.getLoop p.b).run P w = .ok lo w := by simp [Instr.getLoop, getObj, Sem.run, g2]
          simp [Deferred.ofValue, invoke, Instr.yield, hg, hsz]
        | _ => exact g3.elim
    · cases hs
  · cases hs
theorem rmeth_run {t : TypeId} {m : String} {g : FuncId} (h : rmeth P t m = some g) (v : Value) (n : Nat) : (method (n + 1) t v m).run P w = .ok (g, v) w := by
  obtain ⟨i, hi, h⟩ := on1_ok h
  obtain ⟨r, hr, h⟩ := on1_ok h
  cases hp : r.path.toList.isEmpty with
  | false => rw [hp] at h; cases h
  | true =>
    rw [hp] at h
    obtain ⟨f, d, hf, hd, h⟩ := on2_ok h
    cases hk : rmethK d f.2 with
    | false => rw [hk] at h; cases h
    | true =>
      rw [hk] at h
      cases h
      have hp : r.path.toList = [] := by simpa using hp
      have hrec : (receiverAt t (.val v) f.2 (if r.path.isEmpty then some ((m.splitOn ".").getLastD m) else none)).run P w = .ok v w := by
        obtain ⟨f1, f2⟩ := f
        cases d <;> cases f2 <;> simp_all [receiverAt, rmethK, run_underlying hd, Place.get]
      obtain ⟨f1, f2⟩ := f
      simp only [method, typeInfo, Sem.run_bind, run_program, Result.andThen_ok, hi, Sem.run_pure, hr, hp, follow, hf, hrec]
theorem rinvoke_ok (hh : HT θ w0 ρ h nx w) {X : FuncId → Option XK} (hX : ∀ f k, X f = some k → XOK P f k) (hN : NoNG P) {m : String} {v v' : Value} {vs vs' : List Value} (hv : Rv θ ρ v v') (hvs : Rl θ ρ vs vs') {r : SN} (hs : rinvoke P X h nx m v vs = some r) :
    SNok θ w0 ρ w ((invoke (.fn (.method m) #[]) (#[v'] ++ vs'.toArray)).run P w) r := by
  unfold rinvoke at hs
  split at hs
  · rename_i t x
    cases hv with
    | iface hx =>
      rename_i x'
      obtain ⟨g, hg, hs⟩ := on1_ok hs
      have h1 := rcallF_ok hh hX hN (.fn (xs := #[]) (ys := #[]) (xs' := #[]) (ys' := #[]) rfl (fun i x x' h => by simp at h) rfl (fun i x x' h => by simp at h)) (Rl.cons hx hvs) hs
      have e1 : (invoke (.fn (.method m) #[]) (#[.iface t x'] ++ vs'.toArray)).run P w = ((do let d ← Deferred.ofValue (.func (.func g) #[] #[]) (x' :: vs').toArray; invoke d.target d.args : Sem Next)).run P w := by
        have e2 : P.types.size + Made.depth = (P.types.size + 99) + 1 := by show P.types.size + 100 = _; omega
        have e3 : (#[Value.iface t x'] ++ vs'.toArray)[0]? = some (.iface t x') := by simp
        have e4 : (#[Value.iface t x'] ++ vs'.toArray).extract 1 (#[Value.iface t x'] ++ vs'.toArray).size = vs'.toArray := by
          apply Array.ext'; simp
        have e5 : (#[x'] ++ vs'.toArray) = (x' :: vs').toArray := by apply Array.ext'; simp
        simp only [invoke, e3, e4, callMethod, Sem.run_bind, run_program, Result.andThen_ok, e2, rmeth_run hg, Deferred.ofValue, Sem.run_pure, e5, Array.append_empty, Array.empty_append]
      rw [e1]; exact h1
  · cases hs
theorem run_zeroApp {t ty el : TypeId} {i : TypeInfo} (hu : P.underlying t = some (.slice el)) (hi : P.info? el = some i) {a : Addr} {n c : Nat} (hn : n ≤ c) : (Builtin.append_ #[t, t] ty #[.slice (some a) n c, .slice none 0 0]).run P w = .ok (.slice (some a) n c) w := by
  simp [Builtin.append_, run_underlying hu, sizeOf, typeInfo, hi, Builtin.lenOf, hn, Builtin.firstCells, storeCells]
theorem run_zeroApp2 {t ty el : TypeId} {i : TypeInfo} (hu : P.underlying t = some (.slice el)) (hi : P.info? el = some i) {a b : Addr} {n c c0 : Nat} (hn : n ≤ c) : (Builtin.append_ #[t, t] ty #[.slice (some a) n c, .slice (some b) 0 c0]).run P w = .ok (.slice (some a) n c) w := by
  simp [Builtin.append_, run_underlying hu, sizeOf, typeInfo, hi, Builtin.lenOf, hn, Builtin.firstCells, storeCells, loadCells, loadCellsFrom]
theorem Rl.one1 {a : Value} {l' : List Value} (h : Rl θ ρ [a] l') : ∃ a', l' = [a'] ∧ Rv θ ρ a a' := by
  cases l' with
  | nil => have := h.1; simp at this
  | cons b m => cases m with
    | nil => exact ⟨b, rfl, h.head⟩
    | cons c m => have := h.1; simp at this
theorem Rl.two {a b : Value} {l' : List Value} (h : Rl θ ρ [a, b] l') : ∃ a' b', l' = [a', b'] ∧ Rv θ ρ a a' ∧ Rv θ ρ b b' := by
  cases l' with
  | nil => have := h.1; simp at this
  | cons c m =>
    obtain ⟨d, rfl, h2⟩ := Rl.one1 h.tail
    exact ⟨c, d, rfl, h.head, h2⟩
theorem rbuiltin_ok (hh : HT θ w0 ρ h nx w) {b : Builtin} {ts : Array TypeId} {ty : TypeId} {cs : Array Bool} {vs vs' : List Value} (hvs : Rl θ ρ vs vs') {r : SN} (hs : rbuiltin P h nx b ts.toList vs = some r) : SNok θ w0 ρ w ((builtin b ts ty cs vs'.toArray).run P w) r := by
  unfold rbuiltin at hs
  have arr : ∀ {l : List TypeId}, ts.toList = l → ts = l.toArray := fun {l} e => by apply Array.ext'; simpa using e
  split at hs
  · rename_i t t' x y ht
    cases hc : Nat.beq t t' with
    | false =>
      rw [hc] at hs
      rw [arr ht]
      obtain ⟨x', y', rfl, hx, hy⟩ := hvs.two
      obtain ⟨v, h', nx', rfl, hv⟩ := rapZ_ok (ty := ty) hh hx hy hs
      exact SNok.val' hv rfl
    | true =>
      rw [hc] at hs
      have := Nat.eq_of_beq_eq_true hc
      subst this
      rw [arr ht]
      obtain ⟨x', y', rfl, hx, hy⟩ := hvs.two
      simp only [cond_true] at hs
      split at hs
      · rename_i a n c n0 c0
        split at hs
        · rename_i el hu
          split at hs
          · rename_i i hi
            cases hs
            obtain ⟨rfl, rfl, rfl⟩ := hy.toS0
            have hx2 := hx
            cases hx with
            | sl h1 h2 h3 =>
              exact SNok.val' (s := Builtin.append_ #[t, t] ty #[_, .slice none 0 0]) (.same hh hx2 (run_zeroApp hu hi h2)) rfl
          · cases hs
        · cases hs
      · rename_i a n c b c0
        split at hs
        · rename_i el hu
          split at hs
          · rename_i i hi
            cases hs
            have hx2 := hx
            cases hx with
            | sl h1 h2 h3 =>
              cases hy with
              | sl k1 k2 k3 =>
                exact SNok.val' (s := Builtin.append_ #[t, t] ty #[_, .slice _ 0 _]) (.same hh hx2 (run_zeroApp2 hu hi h2)) rfl
          · cases hs
        · cases hs
      · obtain ⟨v, h', nx', rfl, hv⟩ := rappend_ok (ty := ty) hh hx hy hs
        exact SNok.val' hv rfl
  · rename_i t t2 x y ht
    rw [arr ht]
    obtain ⟨x', y', rfl, hx, hy⟩ := hvs.two
    obtain ⟨v, h', nx', rfl, hv⟩ := rcopy_ok (t2 := t2) (ty := ty) hh hx hy hs
    exact SNok.val' hv rfl
  · rename_i t x ht
    rw [arr ht]
    obtain ⟨x', rfl, hx⟩ := hvs.one1
    obtain ⟨v, h', nx', rfl, hv⟩ := rclear_ok (ty := ty) hh hx hs
    exact SNok.val' hv rfl
  · rename_i t t2 x k ht
    rw [arr ht]
    obtain ⟨x', y', rfl, hx, hy⟩ := hvs.two
    split at hs
    · rename_i h' hd
      cases hs
      obtain ⟨w', g1, g2⟩ := rdelete_ok (t2 := t2) (ty := ty) hh hx hy hd
      exact SNok.val' (s := Builtin.delete_ #[t, t2] ty #[x', y']) ⟨ρ, _, w', .refl ρ, Rv.undef, g2, g1⟩ rfl
    · cases hs
  · cases hs
end
end Ex
end Go.Proofs.YtlcdaalalihaiaaGreat
