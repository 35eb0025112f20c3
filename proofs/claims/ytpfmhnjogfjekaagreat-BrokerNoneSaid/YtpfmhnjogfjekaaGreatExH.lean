/- Running code by calculation: copy, len, comparisons with nil, calls; one operation. -/
import Derived.Test.YtpfmhnjogfjekaaGreatExG
namespace Go.Proofs.YtpfmhnjogfjekaaGreat
open Go Go.RowKit
set_option linter.unusedVariables false
set_option linter.unusedSectionVars false
set_option linter.unusedSimpArgs false
set_option maxRecDepth 100000
namespace Ex
section
variable {θ : Nat → Value} {ρ : Ren} {P : Program} {w0 : Fm} {w : World} {h : Tr SO} {nx : Nat}
noncomputable def rlen (P : Program) (h : Tr SO) (t : TypeId) : Value → Option Value
  | .slice (some _) n _ => (match P.underlying t with
    | some (.slice _) => some (goInt n)
    | _ => none)
  | .map (some r) => (match P.underlying t, h.get r with
    | some (.map _ _), some (.map m _) => some (goInt m.length)
    | _, _ => none)
  | _ => none
theorem rlen_ok (hh : HT θ w0 ρ h nx w) {t ty : TypeId} {ts : Array TypeId} (ht : ts[0]? = some t) {x x' v : Value} (hx : Rv θ ρ x x') (hs : rlen P h t x = some v) : Pv θ ρ w v ((Builtin.len_ ts ty #[x']).run P w) := by
  unfold rlen at hs
  split at hs
  · rename_i a n c
    split at hs
    · rename_i el hu
      cases hs
      cases hx
      exact ⟨_, .int _ _, by simp [Builtin.len_, ht, run_underlying hu]; rfl⟩
    · cases hs
  · rename_i r
    obtain ⟨p, hp, rfl⟩ := hx.toMap
    split at hs
    · rename_i k e m ck hu hr
      cases hs
      obtain ⟨es, g1, g2⟩ := hh.mapAt hr hp
      have hl := g2.length
      rw [Array.length_toList] at hl
      exact ⟨_, .int _ _, by simp [Builtin.len_, ht, run_underlying hu, run_getMap g1, hl]; rfl⟩
    · cases hs
  · cases hs
noncomputable def rcpW (h : Tr SO) (nx k o l : Nat) (g : CL) (T : TypeId) (sz n : Nat) (vs : List Value) : Option SN :=
  bif Nat.ble (Nat.add o l) g.len && vs.all Value.oneCell' then some (.val (goInt (n : Nat)) (h.put k (.cells (CL.write vs g o) T true sz)) nx) else none
noncomputable def rcp2 (h : Tr SO) (nx k o q l n : Nat) (a b : SO) : Option SN := match a, b with
  | .cells g T true sz, .cells d _ _ _ => on1 (d.read l q) (rcpW h nx k o l g T sz n)
  | _, _ => none
noncomputable def rcpD (P : Program) (h : Tr SO) (nx k o n j q m : Nat) (d : TypeDesc) : Option SN := match d with
  | .slice el => on1 (P.info? el) fun i => bif Nat.beq (Nat.min m n) 0 then some (.val (goInt 0) h nx) else on2 (h.get k) (h.get j) (rcp2 h nx k o q (Nat.mul (Nat.min m n) i.size) (Nat.min m n))
  | _ => none
noncomputable def rcopy (P : Program) (h : Tr SO) (nx : Nat) (t : TypeId) (x y : Value) : Option SN := match x, y with
  | .slice (some ⟨k, o, none⟩) n _, .slice (some ⟨j, q, none⟩) m _ => on1 (P.underlying t) (rcpD P h nx k o n j q m)
  | _, _ => none
theorem rcopy_ok (hh : HT θ w0 ρ h nx w) {t t2 ty : TypeId} {x x' y y' : Value} (hx : Rv θ ρ x x') (hy : Rv θ ρ y y') {r : SN} (hs : rcopy P h nx t x y = some r) : ∃ v h' nx', r = .val v h' nx' ∧ Val θ w0 ρ v h' nx' ((Builtin.copy_ #[t, t2] ty #[x', y']).run P w) := by
  unfold rcopy at hs
  split at hs
  · rename_i k o n c j q m cj
    obtain ⟨p, c', a, hp, hn, hcap, rfl⟩ := hx.toSl
    obtain ⟨pj, mc', aj, hpj, hnj, hcapj, rfl⟩ := hy.toSl
    obtain ⟨dd, hu, hs⟩ := on1_ok hs
    unfold rcpD at hs
    split at hs
    · rename_i el
      obtain ⟨i, hi, hs⟩ := on1_ok hs
      cases h0 : Nat.beq (Nat.min m n) 0 with
      | true =>
        rw [h0] at hs; cases hs
        have h0 := Nat.eq_of_beq_eq_true h0
        refine ⟨_, _, _, rfl, .same hh (.int _ _) ?_⟩
        simp only [Builtin.copy_, Sem.run_bind, run_underlying hu, Result.andThen_ok, Builtin.lenOf, sizeOf, typeInfo, run_program, hi, Sem.run_pure, h0]
        simp [run_underlying hu, typeInfo, hi, h0, Builtin.lenOf, Builtin.firstCells, loadCells, loadCellsFrom, storeCells]
        rfl
      | false =>
        rw [h0] at hs
        have h0 : Nat.min m n ≠ 0 := fun e => by rw [e] at h0; cases h0
        simp only [cond_false] at hs
        obtain ⟨sa, sb, hk, hj, hs⟩ := on2_ok hs
        unfold rcp2 at hs
        split at hs
        · rename_i g T sz d T2 r2 s2
          obtain ⟨vs, hvs, hs⟩ := on1_ok hs
          unfold rcpW at hs
          cases hc : (Nat.ble (Nat.add o (Nat.mul (Nat.min m n) i.size)) g.len && vs.all Value.oneCell') with
          | false => rw [hc] at hs; cases hs
          | true =>
            rw [hc] at hs
            simp only [Bool.and_eq_true, cond_true, Option.some.injEq] at hc hs
            subst hs
            obtain ⟨a2, a3⟩ := hc
            have a2 : o + Nat.min m n * i.size ≤ g.len := Nat.le_of_ble_eq_true a2
            have hmn : Nat.min m n ≤ m ∧ Nat.min m n ≤ n := ⟨Nat.min_le_left _ _, Nat.min_le_right _ _⟩
            have ha : a = ⟨p.b, p.s + o, none⟩ := by
              rcases hcap.2 with e | e
              · omega
              · exact e
            have haj : aj = ⟨pj.b, pj.s + q, none⟩ := by
              rcases hcapj.2 with e | e
              · omega
              · exact e
            subst ha haj
            obtain ⟨ys, b1, b2, b3⟩ := hh.cells hj hpj q (Nat.min m n * i.size) hvs
            obtain ⟨w', g1, g2⟩ := hh.write (P := P) (o := o) hk hp b2 (Rl.ones b2 a3) (by rw [b2.1, b1]; exact a2)
            have hl := run_loadCells_list (P := P) w ⟨pj.b, pj.s + q, none⟩ ys (fun j v hv => by rw [addr_plus]; exact b3 j v hv)
            rw [b1] at hl
            refine ⟨_, _, _, rfl, ρ, goInt (Nat.min m n : Nat), w', .refl ρ, .int _ _, g2, ?_⟩
            simp only [Builtin.copy_, Sem.run_bind, run_underlying hu, Result.andThen_ok, Builtin.lenOf, sizeOf, typeInfo, run_program, hi, Sem.run_pure]
            simp only [Builtin.copy_, List.getElem?_toArray, List.getElem?_cons_zero, List.getElem?_cons_succ, Sem.run_bind, run_underlying hu, Result.andThen_ok, Builtin.lenOf, sizeOf, typeInfo, run_program, hi, Sem.run_pure, Builtin.firstCells, hl, g1]
        · cases hs
    · cases hs
  · cases hs
/-- A comparison with nil. -/
noncomputable def rnil (P : Program) (t : TypeId) : Value → Value → Bool
  | .pointer (some _), .pointer none | .pointer none, .pointer (some _) => (match P.underlying t with
    | some (.pointer _) => true
    | _ => false)
  | .slice (some _) _ _, .slice none _ _ | .slice none _ _, .slice (some _) _ _ => (match P.underlying t with
    | some (.slice _) => true
    | _ => false)
  | .map (some _), .map none | .map none, .map (some _) => (match P.underlying t with
    | some (.map _ _) => true
    | _ => false)
  | .func (.func _) _ _, .nilFunc | .nilFunc, .func (.func _) _ _ => (match P.underlying t with
    | some (.func _ _ _) => true
    | _ => false)
  | _, _ => false
theorem rnil_ok {t : TypeId} {x x' y y' : Value} (hx : Rv θ ρ x x') (hy : Rv θ ρ y y') (hs : rnil P t x y = true) : (Op.equal t x' y').run P w = .ok false w ∧ (∀ op a b, eqGuard op t a b x' y' = pure ()) ∧ binOp .eql t x' y' = (do pure (.bool (← Op.equal t x' y'))) ∧ binOp .neq t x' y' = (do pure (.bool (!(← Op.equal t x' y')))) := by
  unfold rnil at hs
  obtain ⟨d, e1⟩ : ∃ d, ∀ a b, Op.equal t a b = Op.equalIn (d + 1) t a b := ⟨9999, fun _ _ => rfl⟩
  split at hs <;> first | exact absurd hs Bool.false_ne_true | (split at hs <;> first | exact absurd hs Bool.false_ne_true | (rename_i hu; cases hx <;> cases hy <;> refine ⟨by rw [e1]; simp [Op.equalIn, run_underlying hu], fun op a b => by cases op <;> rfl, rfl, rfl⟩))
/-! ### Functions without a body -/
inductive XK where
  | mark0 | markA | load (k : IntKind) | store | add (k : IntKind) | cas (k : IntKind)
noncomputable def XOK (P : Program) (f : FuncId) : XK → Prop
  | .mark0 => ∀ w, (callFunc f #[]).run P w = .ok (.value (.tuple #[])) w
  | .markA => ∀ (a : Addr) w, (callFunc f #[.pointer (some a)]).run P w = .ok (.value (.tuple #[])) w
  | .load k => ∀ (a : Addr) (x : Int) (w : World), w.cell? a = some (.int k x) → (callFunc f #[.pointer (some a)]).run P w = .ok (.value (.int k x)) w
  | .store => ∀ (a : Addr) (k : IntKind) (y : Int) (u : Value) (w : World), w.cell? a = some u → w.frozen? a = false → (callFunc f #[.pointer (some a), .int k y]).run P w = .ok (.value (.tuple #[])) (w.setCell a (.int k y))
  | .add k => ∀ (a : Addr) (x y : Int) (w : World), w.cell? a = some (.int k x) → w.frozen? a = false → (callFunc f #[.pointer (some a), .int k y]).run P w = .ok (.value (.int k (k.wrap (x + y)))) (w.setCell a (.int k (k.wrap (x + y))))
  | .cas k => ∀ (a : Addr) (x y : Int) (w : World), w.cell? a = some (.int k x) → w.frozen? a = false → (callFunc f #[.pointer (some a), .int k x, .int k y]).run P w = .ok (.value (.bool true)) (w.setCell a (.int k y))
noncomputable def rset (h : Tr SO) (nx : Nat) (k o : Nat) (u v : Value) : Option SN := match h.get k with
  | some (.cells c T true sz) => bif Nat.blt o c.len && (c.get o).isSome then some (.val v (h.put k (.cells (CL.write [u] c o) T true sz)) nx) else none
  | _ => none
noncomputable def rcell (h : Tr SO) (k o : Nat) : Option Value := match h.get k with
  | some (.cells c _ _ _) => c.get o
  | _ => none
noncomputable def rext (h : Tr SO) (nx : Nat) : XK → List Value → Option SN
  | .mark0, [] => some (.val (.tuple #[]) h nx)
  | .markA, [.pointer (some ⟨_, _, none⟩)] => some (.val (.tuple #[]) h nx)
  | .load k, [.pointer (some ⟨b, o, none⟩)] => (match rcell h b o with
    | some (.int k' n) => if k' = k then some (.val (.int k n) h nx) else none
    | _ => none)
  | .store, [.pointer (some ⟨b, o, none⟩), .int k y] => rset h nx b o (.int k y) (.tuple #[])
  | .add k, [.pointer (some ⟨b, o, none⟩), .int k1 y] => (match rcell h b o with
    | some (.int k2 x) => if k1 = k ∧ k2 = k then rset h nx b o (.int k (k.wrap (x + y))) (.int k (k.wrap (x + y))) else none
    | _ => none)
  | .cas k, [.pointer (some ⟨b, o, none⟩), .int k1 x, .int k2 y] => (match rcell h b o with
    | some (.int k3 z) => if k1 = k ∧ k2 = k ∧ k3 = k ∧ z = x then rset h nx b o (.int k y) (.bool true) else none
    | _ => none)
  | _, _ => none
theorem rset_ok (hh : HT θ w0 ρ h nx w) {k o : Nat} {p : Pl} (hp : ρ k = some p) {u v : Value} (hu : okc u = true ∧ u.oneCell' = true) {r : SN} (hs : rset h nx k o u v = some r) :
    ∃ h', r = .val v h' nx ∧ HT θ w0 ρ h' nx (w.setCell ⟨p.b, p.s + o, none⟩ u) ∧ (w.cell? ⟨p.b, p.s + o, none⟩).isSome = true ∧ w.frozen? ⟨p.b, p.s + o, none⟩ = false := by
  unfold rset at hs
  split at hs
  · rename_i c T sz hk
    cases hc : (Nat.blt o c.len && (c.get o).isSome) with
    | false => rw [hc] at hs; cases hs
    | true =>
      rw [hc] at hs; cases hs
      simp only [Bool.and_eq_true] at hc
      have hlt : o < c.len := by simpa [Nat.blt_eq] using hc.1
      obtain ⟨x0, hx0⟩ := Option.isSome_iff_exists.1 hc.2
      obtain ⟨y, hy, _⟩ := hh.cell hk hp hx0
      obtain ⟨p', o', g1, g2, g3, g4⟩ := hh.obj k _ hk
      rw [hp] at g1; cases g1
      have hz : w.frozen? ⟨p.b, p.s + o, none⟩ = false := by
        cases o' with
        | cells cur T' fz => obtain ⟨_, rfl, _⟩ := g3; simp [World.frozen?, g2]
        | _ => exact g3.elim
      obtain ⟨w', e1, e2⟩ := hh.write (P := default) (o := o) hk hp (vs := [u]) (vs' := [u]) (Rl.cons (okc_rv hu.1) Rl.nil) (by simpa using hu.2) (by simp; omega)
      refine ⟨_, rfl, ?_, by rw [hy]; rfl, hz⟩
      have : (storeCells ⟨p.b, p.s + o, none⟩ [u]).run default w = .ok () (w.setCell ⟨p.b, p.s + o, none⟩ u) := by
        simp only [storeCells, Sem.run_bind, addr_plus, Nat.add_zero, run_store default w _ u _ hu.2, hy, hz]
        rfl
      rw [this] at e1
      cases e1; exact e2
  · cases hs
theorem rcell_ok (hh : HT θ w0 ρ h nx w) {k o : Nat} {p : Pl} (hp : ρ k = some p) {v : Value} (hs : rcell h k o = some v) : ∃ v', w.cell? ⟨p.b, p.s + o, none⟩ = some v' ∧ Rv θ ρ v v' := by
  unfold rcell at hs
  split at hs
  · rename_i c T b sz hk
    exact hh.cell hk hp hs
  · cases hs
theorem rext_ok (hh : HT θ w0 ρ h nx w) {f : FuncId} {x : XK} (hx : XOK P f x) {vs vs' : List Value} (hv : Rl θ ρ vs vs') {r : SN} (hs : rext h nx x vs = some r) : SNok θ w0 ρ w ((callFunc f vs'.toArray).run P w) r := by
  have one : ∀ {a : Value} {l : List Value} {l' : List Value}, Rl θ ρ (a :: l) l' → ∃ a' m, l' = a' :: m ∧ Rv θ ρ a a' ∧ Rl θ ρ l m := fun {a l l'} h => by
    cases l' with
    | nil => have := h.1; simp at this
    | cons b m => exact ⟨b, m, rfl, h.head, h.tail⟩
  have nil : ∀ {l' : List Value}, Rl θ ρ [] l' → l' = [] := fun {l'} h => by
    cases l' with
    | nil => rfl
    | cons b m => have := h.1; simp at this
  unfold rext at hs
  split at hs
  · cases hs
    rw [nil hv]
    exact ⟨ρ, _, w, .refl ρ, Rv.undef, hh, .inl (hx w)⟩
  · cases hs
    obtain ⟨a', m, rfl, h1, h2⟩ := one hv
    rw [nil h2]
    obtain ⟨p, hp, rfl⟩ := h1.toPtr
    exact ⟨ρ, _, w, .refl ρ, Rv.undef, hh, .inl (hx _ w)⟩
  · obtain ⟨a', m, rfl, h1, h2⟩ := one hv
    rw [nil h2]
    obtain ⟨p, hp, rfl⟩ := h1.toPtr
    split at hs
    · rename_i k' n hc
      split at hs
      · rename_i hd
        cases hs
        subst hd
        obtain ⟨v', e1, e2⟩ := rcell_ok hh hp hc
        rw [e2.toInt] at e1
        exact ⟨ρ, _, w, .refl ρ, .int _ _, hh, .inl (hx _ _ w e1)⟩
      · cases hs
    · cases hs
  · obtain ⟨a', m, rfl, h1, h2⟩ := one hv
    obtain ⟨b', m, rfl, h3, h4⟩ := one h2
    rw [nil h4]
    obtain ⟨p, hp, rfl⟩ := h1.toPtr
    obtain rfl := h3.toInt
    obtain ⟨h', rfl, g1, g2, g3⟩ := rset_ok hh hp ⟨rfl, rfl⟩ hs
    obtain ⟨u, hu⟩ := Option.isSome_iff_exists.1 g2
    exact ⟨ρ, _, _, .refl ρ, Rv.undef, g1, .inl (hx _ _ _ u w hu g3)⟩
  · obtain ⟨a', m, rfl, h1, h2⟩ := one hv
    obtain ⟨b', m, rfl, h3, h4⟩ := one h2
    rw [nil h4]
    obtain ⟨p, hp, rfl⟩ := h1.toPtr
    obtain rfl := h3.toInt
    split at hs
    · rename_i k2 x hc
      split at hs
      · rename_i hd
        obtain ⟨rfl, rfl⟩ := hd
        obtain ⟨v', e1, e2⟩ := rcell_ok hh hp hc
        rw [e2.toInt] at e1
        obtain ⟨h', rfl, g1, g2, g3⟩ := rset_ok hh hp ⟨rfl, rfl⟩ hs
        exact ⟨ρ, _, _, .refl ρ, .int _ _, g1, .inl (hx _ _ _ w e1 g3)⟩
      · cases hs
    · cases hs
  · obtain ⟨a', m, rfl, h1, h2⟩ := one hv
    obtain ⟨b', m, rfl, h3, h4⟩ := one h2
    obtain ⟨c', m, rfl, h5, h6⟩ := one h4
    rw [nil h6]
    obtain ⟨p, hp, rfl⟩ := h1.toPtr
    obtain rfl := h3.toInt
    obtain rfl := h5.toInt
    split at hs
    · rename_i k3 z hc
      split at hs
      · rename_i hd
        obtain ⟨rfl, rfl, rfl, rfl⟩ := hd
        obtain ⟨v', e1, e2⟩ := rcell_ok hh hp hc
        rw [e2.toInt] at e1
        obtain ⟨h', rfl, g1, g2, g3⟩ := rset_ok hh hp ⟨rfl, rfl⟩ hs
        exact ⟨ρ, _, _, .refl ρ, .bool _, g1, .inl (hx _ _ _ w e1 g3)⟩
      · cases hs
    · cases hs
  · cases hs
/-- A pointer seen as an unsafe one. -/
noncomputable def rconv2 (P : Program) (h : Tr SO) (t : TypeId) (v : Value) : Option Value := match v with
  | .pointer none => some v
  | .pointer (some ⟨k, o, none⟩) => (match P.info? t, rcell h k o with
    | some i, some _ => bif Nat.beq i.size 0 then none else some v
    | _, _ => none)
  | _ => none
noncomputable def rconv (P : Program) (h : Tr SO) (s d : TypeId) (v : Value) : Option Value := match P.underlying s, P.underlying d with
  | some (.pointer t), some .unsafePointer => rconv2 P h t v
  | _, _ => none
theorem rconv_ok (hh : HT θ w0 ρ h nx w) {s d : TypeId} {x x' v : Value} (hx : Rv θ ρ x x') (hs : rconv P h s d x = some v) : Pv θ ρ w v ((convert s d x').run P w) := by
  unfold rconv at hs
  split at hs
  · rename_i t hus hud
    unfold rconv2 at hs
    split at hs
    · cases hs
      obtain rfl := hx.toP0
      exact ⟨_, .p0, by simp [convert, Conv.unsafePointer, run_underlying hus, run_underlying hud]⟩
    · rename_i k o
      split at hs
      · rename_i i c hi hc
        cases hz : Nat.beq i.size 0 with
        | true => rw [hz] at hs; cases hs
        | false =>
          rw [hz] at hs
          cases hs
          have hx0 := hx
          obtain ⟨p, hp, rfl⟩ := hx.toPtr
          unfold rcell at hc
          split at hc
          · rename_i hk
            obtain ⟨y, hy, _⟩ := hh.cell hk hp hc
            have hne : ¬ i.size = 0 := fun e => by rw [e] at hz; cases hz
            exact ⟨_, hx0, run_convert_to_unsafe hus hud (by rw [hi]; simp [hne]) hy⟩
          · cases hc
      · cases hs
    · cases hs
  · cases hs
end
end Ex
end Go.Proofs.YtpfmhnjogfjekaaGreat
