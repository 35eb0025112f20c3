import Derived.Test.YtlcdaalalihaiaaGreatMg4

/- Running code by calculation: one operation is sound. -/
namespace Go.Proofs.YtlcdaalalihaiaaGreat
open Go Go.RowKit
set_option linter.unusedVariables false
set_option linter.unusedSectionVars false
set_option linter.unusedSimpArgs false
set_option maxRecDepth 100000
namespace Ex
variable [GN]
section
variable {θ : Nat → Value} {ρ : Ren} {P : Program} {w0 : Fm} {w : World} {h : Tr SO} {nx : Nat}
theorem U_ok {o : Option (Tr SO)} {r : SN} (hs : U nx o = some r) : ∃ h', o = some h' ∧ r = .val undef h' nx := by
  cases o with
  | none => cases hs
  | some v => cases hs; exact ⟨v, rfl, rfl⟩
theorem orV_ok {a b : Option Value} {r : Value} (hs : orV a b = some r) : a = some r ∨ b = some r := by
  cases a with
  | none => exact .inr hs
  | some x => exact .inl hs
theorem map_toArray {α β : Type} {l : Array α} {f : α → β} : l.map f = (l.toList.map f).toArray := by apply Array.ext'; simp
variable {e : Tr Value} {f : Operand → Value}
theorem pop_ok (hh : HT θ w0 ρ h nx w) (he : REv θ ρ e f) {o : Oper} {v : Value} (hs : pop P e h o = some v) : Pn θ ρ w v ((execOp f o).run P w) := by
  obtain ⟨dst, op, ty, pos, aft, g⟩ := o
  have h0 : ∀ {v : Value}, r0 P e ⟨dst, op, ty, pos, aft, g⟩ = some v → Pn θ ρ w v ((execOp f ⟨dst, op, ty, pos, aft, g⟩).run P w) := fun hr => r0_ok he hr
  unfold pop at hs
  dsimp only at hs
  split at hs
  · exact ⟨_, he _ _ hs, rfl⟩
  · exact ⟨_, he _ _ hs, rfl⟩
  · rename_i c a b
    obtain ⟨u, hc, hs⟩ := on1_ok hs
    unfold ppick at hs
    split at hs
    · have hc := (he _ _ hc).toBool
      exact ⟨_, he _ _ hs, by simp [execOp, hc, asBool]⟩
    · have hc := (he _ _ hc).toBool
      exact ⟨_, he _ _ hs, by simp [execOp, hc, asBool]⟩
    · cases hs
  · rename_i t parts
    obtain ⟨ps, hp, hs⟩ := on1_ok hs
    refine (rbuild_ok (w := w) (he.parts hp) hs).next ?_
    simp only [execOp, map_toArray]
  · rename_i t x
    obtain ⟨u, hv, hs⟩ := on1_ok hs
    exact (rload_ok hh (he _ _ hv) hs).next rfl
  · rename_i x
    obtain ⟨u, ha, hs⟩ := on1_ok hs
    unfold pnil at hs
    split at hs
    · rename_i a
      cases hs
      have h1 := he _ _ ha
      obtain ⟨b, o, s⟩ := a
      cases s with
      | some s => cases h1
      | none =>
        obtain ⟨p, hp, e1⟩ := h1.toPtr
        exact ⟨_, h1, by simp only [execOp, e1]; rfl⟩
    · cases hs
      refine ⟨f x, he _ _ ha, ?_⟩
      have h2 := he _ _ ha
      simp only [execOp]
      generalize f x = y at h2 ⊢
      cases h2
      rfl
    · cases hs
  · rename_i op t x y u
    rcases orV_ok hs with hs | hs
    · obtain ⟨a, b, ha, hb, hs⟩ := on2_ok hs
      unfold pbinI at hs
      split at hs
      · rename_i m n
        have ha := (he _ _ ha).toInt
        have hb := (he _ _ hb).toInt
        have key : ∀ r : Value, pbinN m n op = some r → Rv θ ρ r r ∧ (binOp op t (.int .i64 (.ofNat m)) (.int .i64 (.ofNat n))).run P w = .ok r w := fun r hr => by
          unfold pbinN at hr
          split at hr
          · cases hc : Nat.blt (Nat.add m n) 9223372036854775808 with
            | false => rw [hc] at hr; cases hr
            | true =>
              rw [hc] at hr; cases hr
              have hc : m + n < 9223372036854775808 := by simpa [Nat.blt_eq] using hc
              refine ⟨.int _ _, ?_⟩
              have : IntKind.i64.wrap (Int.ofNat m + Int.ofNat n) = Int.ofNat (m + n) := by
                rw [IntKind.wrap_i64]; simp only [Int.ofNat_eq_natCast]; omega
              simp only [binOp, Op.intArith, ne_eq, not_true_eq_false, if_false, this]; rfl
          · cases hc : (Nat.ble n m && Nat.blt m 9223372036854775808) with
            | false => rw [hc] at hr; cases hr
            | true =>
              rw [hc] at hr; cases hr
              simp only [Bool.and_eq_true, Nat.ble_eq, Nat.blt_eq] at hc
              refine ⟨.int _ _, ?_⟩
              have : IntKind.i64.wrap (Int.ofNat m - Int.ofNat n) = Int.ofNat (m - n) := by
                rw [IntKind.wrap_i64]; simp only [Int.ofNat_eq_natCast]; omega
              simp only [binOp, Op.intArith, ne_eq, not_true_eq_false, if_false, this]; rfl
          · cases hr
            refine ⟨.bool _, ?_⟩
            have : (Int.ofNat m == Int.ofNat n) = Nat.beq m n := by
              rw [Bool.eq_iff_iff, beq_iff_eq, Nat.beq_eq]; simp only [Int.ofNat_eq_natCast]; omega
            simp only [binOp, Op.intCmp, ne_eq, not_true_eq_false, if_false, this]; rfl
          · cases hr
            refine ⟨.bool _, ?_⟩
            have : (Int.ofNat m != Int.ofNat n) = !Nat.beq m n := by
              have : (Int.ofNat m == Int.ofNat n) = Nat.beq m n := by
                rw [Bool.eq_iff_iff, beq_iff_eq, Nat.beq_eq]; simp only [Int.ofNat_eq_natCast]; omega
              rw [bne, this]
            simp only [binOp, Op.intCmp, ne_eq, not_true_eq_false, if_false, this]; rfl
          · cases hr
            refine ⟨.bool _, ?_⟩
            have : decide (Int.ofNat m < Int.ofNat n) = Nat.blt m n := by
              rw [Bool.eq_iff_iff, decide_eq_true_eq, Nat.blt_eq]; simp only [Int.ofNat_eq_natCast]; omega
            simp only [binOp, Op.intCmp, ne_eq, not_true_eq_false, if_false, this]; rfl
          · cases hr
            refine ⟨.bool _, ?_⟩
            have : decide (Int.ofNat m ≤ Int.ofNat n) = Nat.ble m n := by
              rw [Bool.eq_iff_iff, decide_eq_true_eq, Nat.ble_eq]; simp only [Int.ofNat_eq_natCast]; omega
            simp only [binOp, Op.intCmp, ne_eq, not_true_eq_false, if_false, this]; rfl
          · cases hr
            refine ⟨.bool _, ?_⟩
            have : decide (Int.ofNat m > Int.ofNat n) = Nat.blt n m := by
              rw [Bool.eq_iff_iff, decide_eq_true_eq, Nat.blt_eq]; simp only [Int.ofNat_eq_natCast]; omega
            simp only [binOp, Op.intCmp, ne_eq, not_true_eq_false, if_false, this]; rfl
          · cases hr
            refine ⟨.bool _, ?_⟩
            have : decide (Int.ofNat m ≥ Int.ofNat n) = Nat.ble n m := by
              rw [Bool.eq_iff_iff, decide_eq_true_eq, Nat.ble_eq]; simp only [Int.ofNat_eq_natCast]; omega
            simp only [binOp, Op.intCmp, ne_eq, not_true_eq_false, if_false, this]; rfl
          · cases hr
        obtain ⟨k1, k2⟩ := key _ hs
        refine ⟨_, k1, ?_⟩
        have hg : (eqGuard op t x y (.int .i64 (.ofNat m)) (.int .i64 (.ofNat n))).run P w = .ok () w := by
          unfold eqGuard; cases op <;> rfl
        simp only [execOp, ha, hb, Sem.run_bind, hg, k2, Result.andThen_ok, Sem.run_pure]
      · cases hs
    rcases orV_ok hs with hs | hs
    · exact h0 hs
    · unfold pbin2 at hs
      split at hs
      · obtain ⟨a, b, ha, hb, hs⟩ := on2_ok hs
        unfold pcmp at hs
        cases hc : rnil P t a b with
        | false => rw [hc] at hs; cases hs
        | true =>
          rw [hc] at hs; cases hs
          obtain ⟨g1, g2, g3, _⟩ := rnil_ok (w := w) (he _ _ ha) (he _ _ hb) hc
          exact ⟨_, .bool _, by simp only [execOp, g2, g3]; simp [g1]⟩
      · obtain ⟨a, b, ha, hb, hs⟩ := on2_ok hs
        unfold pcmp at hs
        cases hc : rnil P t a b with
        | false => rw [hc] at hs; cases hs
        | true =>
          rw [hc] at hs; cases hs
          obtain ⟨g1, g2, _, g3⟩ := rnil_ok (w := w) (he _ _ ha) (he _ _ hb) hc
          exact ⟨_, .bool _, by simp only [execOp, g2, g3]; simp [g1]⟩
      · cases hs
  · rename_i fn first cap
    unfold pfunc at hs
    split at hs
    · rename_i g
      obtain ⟨us, vs, hu, hv, hs⟩ := on2_ok hs
      cases hs
      have h1 := (he.list hu).arr
      have h2 := (he.list hv).arr
      refine ⟨.func (.func g) (first.toList.map f).toArray (cap.toList.map f).toArray, .fn h1.1 h1.2 h2.1 h2.2, ?_⟩
      simp [execOp, Instr.makeFunc, map_toArray]
    · cases hs
  · rename_i t x lo hi mx
    rcases orV_ok hs with hs | hs
    · obtain ⟨u, hv, hs⟩ := on1_ok hs
      exact (rslice_ok hh he (he _ _ hv) hs).next rfl
    · exact h0 hs
  · rename_i t x fd
    obtain ⟨u, hv, hs⟩ := on1_ok hs
    exact (rfieldAddr_ok (w := w) (he _ _ hv) hs).next rfl
  · rename_i t x fd
    obtain ⟨u, hv, hs⟩ := on1_ok hs
    exact (rfield_ok (w := w) (he _ _ hv) hs).next rfl
  · rename_i t x y
    obtain ⟨a, b, ha, hb, hs⟩ := on2_ok hs
    exact (rindexAddr_ok (w := w) (he _ _ ha) (he _ _ hb) hs).next rfl
  · rename_i t x y
    rcases orV_ok hs with hs | hs
    · obtain ⟨a, b, ha, hb, hs⟩ := on2_ok hs
      exact (rindex_ok (w := w) (he _ _ ha) (he _ _ hb) hs).next rfl
    · exact h0 hs
  · rename_i t x y ok
    obtain ⟨a, b, ha, hb, hs⟩ := on2_ok hs
    exact (rlookup_ok hh (he _ _ ha) (he _ _ hb) hs).next rfl
  · rename_i x i
    obtain ⟨u, hv, hs⟩ := on1_ok hs
    exact (rextract_ok (w := w) (he _ _ hv) hs).next rfl
  · rename_i c
    rcases orV_ok hs with hs | hs
    · obtain ⟨cal, args, tys⟩ := c
      unfold pcall at hs
      dsimp only at hs
      split at hs
      · rename_i b
        unfold pbuiltin at hs
        split at hs
        · obtain ⟨vs, hx, hs⟩ := on1_ok hs
          unfold plen2 at hs
          split at hs
          · rename_i x t ht
            obtain ⟨x', e1, hx'⟩ := (he.list hx).one1
            have e2 : tys = #[t] := by apply Array.ext'; simpa using ht
            refine (rlen_ok (ty := ty) hh (ts := tys) (by rw [e2]; rfl) hx' hs).next ?_
            have e1' : args.map f = #[x'] := by rw [map_toArray, e1]
            simp only [execOp, resolve, invoke, Sem.run_bind, Sem.run_pure, Result.andThen_ok, e1', builtin]
          · cases hs
        · cases hs
      · cases hs
    · exact h0 hs
  · rename_i x
    obtain ⟨u, hv, hs⟩ := on1_ok hs
    exact (rentry_ok hh (he _ _ hv) hs).next rfl
  · rename_i s d x
    rcases orV_ok hs with hs | hs
    · exact h0 hs
    · obtain ⟨u, hv, hs⟩ := on1_ok hs
      exact (rconv_ok hh (he _ _ hv) hs).next rfl
  · exact h0 hs
/-- .. of an operation. -/
structure An (θ : Nat → Value) (ρ : Ren) (w : World) (so : SO) (sh : Sh) (r : Result Next) : Prop where
  out : so.rw = true ∧ ∃ o' v', (∀ ρ', ρ.le ρ' → Ro θ ρ' ⟨w.heap.size, 0, none⟩ so o') ∧ (∀ ρ' k, ρ' k = some ⟨w.heap.size, 0, none⟩ → Rv θ ρ' (sh.mk k) v') ∧ r = .ok (.value v') (w.alloc o')
theorem Av.next {so : SO} {sh : Sh} {s : Sem Value} {r : Result Next} (h : Av θ ρ w so sh (s.run P w)) (ho : r = ((do pure (.value (← s)) : Sem Next)).run P w) : An θ ρ w so sh r := by
  obtain ⟨h0, o', v', h1, h2, h3⟩ := h
  exact ⟨h0, o', v', h1, h2, by rw [ho]; simp [h3]⟩
theorem aop_ok (he : REv θ ρ e f) {o : Oper} {x : SO × Sh} (hs : aop P e o = some x) : An θ ρ w x.1 x.2 ((execOp f o).run P w) := by
  obtain ⟨dst, op, ty, pos, aft, g⟩ := o
  unfold aop at hs
  dsimp only at hs
  split at hs
  · obtain ⟨z, hz, hs⟩ := on1_ok hs
    cases hs
    exact (ralloc_ok hz).next rfl
  · rename_i T x
    obtain ⟨v, hv, hs⟩ := on1_ok hs
    cases hs
    exact (rbox_ok T (he _ _ hv)).next rfl
  · rename_i t m parts
    obtain ⟨ps, hp, hs⟩ := on1_ok hs
    refine (rbuildSlice_ok (w := w) (he.parts hp) hs).next ?_
    simp only [execOp, map_toArray]
  · rename_i t l c
    obtain ⟨a, b, ha, hb, hs⟩ := on2_ok hs
    have h1 : f l = a := by
      unfold rmake at hs
      split at hs
      · exact (he _ _ ha).toInt
      · cases hs
    have h2 : f c = b := by
      unfold rmake at hs
      split at hs
      · exact (he _ _ hb).toInt
      · cases hs
    exact (rmake_ok (θ := θ) (ρ := ρ) (w := w) hs).next (by simp only [execOp, h1, h2])
  · rename_i t r
    unfold amap at hs
    split at hs
    · cases hs
      exact ⟨rfl, .map #[] 0, .map (some w.heap.size), fun _ _ => ⟨rfl, trivial⟩, fun ρ' k hk => .map hk, by simp [execOp, Instr.makeMap]⟩
    · rename_i r
      obtain ⟨d, u, hu, hr, hs⟩ := on2_ok hs
      split at hs
      · cases hs
        have h1 := (he _ _ hr).toInt
        exact ⟨rfl, .map #[] 0, .map (some w.heap.size), fun _ _ => ⟨rfl, trivial⟩, fun ρ' k hk => .map hk, by simp [execOp, Instr.makeMap, run_underlying hu, h1, asInt, asIntOf]⟩
      · cases hs
  · cases hs
theorem orE_ok {a b : Option SN} {r : SN} (hs : orE a b = some r) : a = some r ∨ b = some r := by
  cases a with
  | none => exact .inr hs
  | some x => exact .inl hs
theorem eop_ok (hh : HT θ w0 ρ h nx w) (he : REv θ ρ e f) {X : FuncId → Option XK} (hX : ∀ f k, X f = some k → XOK P f k) (hN : NoNG P) {o : Oper} {r : SN} (hs : eop P X e h nx o = some r) :
    SNok θ w0 ρ w ((execOp f o).run P w) r := by
  obtain ⟨dst, op, ty, pos, aft, g⟩ := o
  have h0 : ∀ {v : Value}, r0 P e ⟨dst, op, ty, pos, aft, g⟩ = some v → Pn θ ρ w v ((execOp f ⟨dst, op, ty, pos, aft, g⟩).run P w) := fun hr => r0_ok he hr
  unfold eop at hs
  dsimp only at hs
  split at hs
  · rename_i t x y
    obtain ⟨a, v, ha, hv, hs⟩ := on2_ok hs
    obtain ⟨h', hu, rfl⟩ := U_ok hs
    obtain ⟨w', g1, g2⟩ := rstore_ok (P := P) hh (he _ _ ha) (he _ _ hv) hu
    exact SNok.skip' g1 g2 rfl
  · rename_i t m k x
    obtain ⟨a, ha, hs⟩ := on1_ok hs
    obtain ⟨b, c, hb, hc, hs⟩ := on2_ok hs
    obtain ⟨h', hu, rfl⟩ := U_ok hs
    obtain ⟨w', g1, g2⟩ := rmapUpdate_ok (P := P) hh (he _ _ ha) (he _ _ hb) (he _ _ hc) hu
    exact SNok.skip' g1 g2 rfl
  · rename_i t m k x
    obtain ⟨a, ha, hs⟩ := on1_ok hs
    obtain ⟨b, c, hb, hc, hs⟩ := on2_ok hs
    obtain ⟨h', hu, rfl⟩ := U_ok hs
    obtain ⟨w', g1, g2⟩ := rmapUpdate_ok (P := P) hh (he _ _ ha) (he _ _ hb) (he _ _ hc) hu
    exact SNok.skip' g1 g2 rfl
  · rename_i t m k
    obtain ⟨a, b, ha, hb, hs⟩ := on2_ok hs
    obtain ⟨v, h', nx', rfl, hv⟩ := rmapEntry_ok hh (he _ _ ha) (he _ _ hb) hs
    exact SNok.val' hv rfl
  · rename_i t m s x
    obtain ⟨a, ha, hs⟩ := on1_ok hs
    obtain ⟨b, c, hb, hc, hs⟩ := on2_ok hs
    obtain ⟨h', hu, rfl⟩ := U_ok hs
    obtain ⟨w', g1, g2⟩ := rentryStore_ok (P := P) (t := t) hh (he _ _ ha) (he _ _ hb) (he _ _ hc) hu
    exact SNok.skip' g1 g2 rfl
  · rename_i c
    obtain ⟨cal, args, tys⟩ := c
    unfold ecall at hs
    dsimp only at hs
    split at hs
    · rename_i fo
      obtain ⟨v1, vs1, h1, h2, hs⟩ := on2_ok hs
      have := rcallF_ok hh hX hN (he _ _ h1) (he.list h2) hs
      have e1 : execOp f ⟨dst, .call { callee := .value fo, args := args, argTypes := tys }, ty, pos, aft, g⟩ = (do let d ← Deferred.ofValue (f fo) (args.toList.map f).toArray; invoke d.target d.args : Sem Next) := by
        simp only [execOp, resolve, map_toArray]
      rw [e1]; exact this
    · rename_i b
      rcases orE_ok hs with hs | hs
      · obtain ⟨vs, hv, hs⟩ := on1_ok hs
        have := rbuiltin_ok (ty := ty) (cs := args.map fun | .const _ => true | _ => false) hh (he.list hv) hs
        have e1 : (execOp f ⟨dst, .call { callee := .builtin b, args := args, argTypes := tys }, ty, pos, aft, g⟩) = builtin b tys ty (args.map fun | .const _ => true | _ => false) (args.toList.map f).toArray := by
          simp only [execOp, resolve, map_toArray]; rfl
        rw [e1]; exact this
      · obtain ⟨v, hv, hs⟩ := on1_ok hs
        cases hs
        obtain ⟨v', g1, g2⟩ := h0 hv
        exact ⟨ρ, v', w, .refl ρ, g1, hh, .inl g2⟩
    · rename_i x m
      obtain ⟨v1, vs1, h1, h2, hs⟩ := on2_ok hs
      have := rinvoke_ok hh hX hN (he _ _ h1) (he.list h2) hs
      have e1 : execOp f ⟨dst, .call { callee := .invoke x m, args := args, argTypes := tys }, ty, pos, aft, g⟩ = invoke (.fn (.method m) #[]) (#[f x] ++ (args.toList.map f).toArray) := by
        simp only [execOp, resolve, map_toArray, pure_bind]
      rw [e1]; exact this
  · rename_i c
    obtain ⟨cal, args, tys⟩ := c
    unfold edeferC at hs
    dsimp only at hs
    split at hs
    · rename_i fo
      obtain ⟨v1, vs, h1, h2, hs⟩ := on2_ok hs
      unfold edefer at hs
      split at hs
      · rename_i gg first cap
        cases hs
        have h3 := he _ _ h1
        have h4 := he.list h2
        have e1 : execOp f ⟨dst, .defer { callee := .value fo, args := args, argTypes := tys }, ty, pos, aft, g⟩ = (do pure (.defer (← Deferred.ofValue (f fo) (args.toList.map f).toArray)) : Sem Next) := by
          simp only [execOp, resolve, map_toArray]
        rw [e1]
        generalize f fo = y at h3 ⊢
        cases h3 with
        | fn a1 a2 a3 a4 =>
          rename_i xs' ys'
          refine ⟨{ target := .fn (.func gg) ys', args := xs' ++ (args.toList.map f).toArray }, ⟨⟨rfl, a3, a4⟩, ?_⟩, by simp [Deferred.ofValue]⟩
          have := (Rl.append (Ra.list.1 (⟨a1, a2⟩ : Ra θ ρ first xs')) h4).arr
          have e2 : xs' ++ (args.toList.map f).toArray = (xs'.toList ++ args.toList.map f).toArray := by apply Array.ext'; simp
          rw [e2]; exact this
      · cases hs
    · cases hs
  · rename_i t x
    obtain ⟨a, ha, hs⟩ := on1_ok hs
    obtain ⟨v, h', nx', rfl, hv⟩ := rrange_ok hh (he _ _ ha) hs
    exact SNok.val' hv rfl
  · rename_i x isStr
    obtain ⟨a, ha, hs⟩ := on1_ok hs
    obtain ⟨v, h', nx', rfl, hv⟩ := rnext_ok (ty := ty) hh (he _ _ ha) hs
    exact SNok.val' hv rfl
  · cases hs
theorem sop_ok (hh : HT θ w0 ρ h nx w) (he : REv θ ρ e f) {X : FuncId → Option XK} (hX : ∀ f k, X f = some k → XOK P f k) (hN : NoNG P) {o : Oper} {r : SN} (hs : sop P X e h nx o = some r) :
    SNok θ w0 ρ w ((execOp f o).run P w) r := by
  unfold sop at hs
  split at hs
  · obtain ⟨v, hv, hs⟩ := on1_ok hs
    cases hs
    obtain ⟨v', g1, g2⟩ := pop_ok hh he hv
    exact ⟨ρ, v', w, .refl ρ, g1, hh, .inl g2⟩
  · obtain ⟨x, ha, hs⟩ := on1_ok hs
    cases hs
    obtain ⟨h0, o', v', h1, h2, h3⟩ := aop_ok (w := w) he ha
    obtain ⟨ρ', k1, k2, k3⟩ := hh.alloc none h1 h0
    exact ⟨ρ', v', _, k1, h2 _ _ k2, k3, .inl h3⟩
  · exact eop_ok hh he hX hN hs
end
end Ex
end Go.Proofs.YtlcdaalalihaiaaGreat

/- Running code by calculation: frames, and a machine's step. -/
namespace Go.Proofs.YtlcdaalalihaiaaGreat
open Go Go.RowKit
set_option linter.unusedVariables false
set_option linter.unusedSectionVars false
set_option linter.unusedSimpArgs false
set_option maxRecDepth 100000
namespace Ex
variable [GN]
structure SI0 where
  fn : FuncId
  n : Nat
  dfr : Bool
  round : Option Nat
inductive SI where
  | code (c : Code)
  | blk (id : Nat)
  | lp (b : Code)
  | sc (b : Code)
  | reg (ops : Array Oper) (l : List Oper)
  | rf (l : Nat)
  | erf (l : Nat)
  | br
structure SF where
  i : SI0
  env : Tr Value
  todo : List SI
  defers : List Deferred
  ret : Bool
structure SM where
  top : SF
  cs : List SF
  h : Tr SO
  nx : Nat
inductive RI (ρ : Ren) : SI → Item → Prop where
  | code (c : Code) : RI ρ (.code c) (.code c)
  | blk (id : Nat) : RI ρ (.blk id) (.inBlock id)
  | lp (b : Code) : RI ρ (.lp b) (.inLoop b)
  | sc (b : Code) : RI ρ (.sc b) (.inScope b)
  | reg (ops : Array Oper) (i : Nat) {l : List Oper} {m : List Nat} (hl : l = ops.toList.drop i) (hm : m = (List.range ops.size).drop i) : RI ρ (.reg ops l) (.inRegion ops m)
  | rf {k : Nat} {p : Pl} (h : ρ k = some p) : RI ρ (.rf k) (.inRangeFunc p.b)
  | erf {k : Nat} {p : Pl} (h : ρ k = some p) : RI ρ (.erf k) (.endRangeFunc p.b)
  | br : RI ρ .br .beginRound
def RIs (ρ : Ren) : List SI → List Item → Prop
  | [], [] => True
  | i :: l, i' :: l' => RI ρ i i' ∧ RIs ρ l l'
  | _, _ => False
noncomputable def sexitTo (id : Nat) : List SI → Option (List SI) := List.rec (motive := fun _ => Option (List SI)) none fun i l ih => match i with
  | .blk id' => bif Nat.beq id' id then some l else ih
  | _ => ih
section
variable {θ : Nat → Value} {ρ ρ' : Ren} {P : Program} {F : Fm} {w : World} {h : Tr SO} {nx : Nat}
theorem RI.mono (hl : ρ.le ρ') {i : SI} {i' : Item} (h : RI ρ i i') : RI ρ' i i' := by
  cases h with
  | code c => exact .code c
  | blk id => exact .blk id
  | lp b => exact .lp b
  | sc b => exact .sc b
  | reg o i h1 h2 => exact .reg o i h1 h2
  | rf h => exact .rf (hl _ _ h)
  | erf h => exact .erf (hl _ _ h)
  | br => exact .br
theorem RIs.mono (hl : ρ.le ρ') : ∀ {l : List SI} {l' : List Item}, RIs ρ l l' → RIs ρ' l l'
  | [], [], _ => trivial
  | _ :: _, _ :: _, ⟨h1, h2⟩ => ⟨h1.mono hl, h2.mono hl⟩
  | [], _ :: _, h => h.elim
  | _ :: _, [], h => h.elim
theorem RIs.cons {i : SI} {l : List SI} {t : List Item} (h : RIs ρ (i :: l) t) : ∃ i' l', t = i' :: l' ∧ RI ρ i i' ∧ RIs ρ l l' := by
  cases t with
  | nil => exact h.elim
  | cons i' l' => exact ⟨i', l', rfl, h.1, h.2⟩
theorem RIs.nil {t : List Item} (h : RIs ρ [] t) : t = [] := by
  cases t with
  | nil => rfl
  | cons => exact h.elim
theorem RIs.exitTo (id : Nat) : ∀ {l : List SI} {l' : List Item}, RIs ρ l l' → (∀ k, sexitTo id l = some k → ∃ k', Go.exitTo id l' = some k' ∧ RIs ρ k k') ∧ (sexitTo id l = none → Go.exitTo id l' = none)
  | [], [], _ => ⟨(fun k h => by cases h), fun _ => rfl⟩
  | [], _ :: _, h => h.elim
  | _ :: _, [], h => h.elim
  | i :: l, i' :: l', ⟨h1, h2⟩ => by
    have ih := RIs.exitTo id h2
    cases h1 with
    | blk j =>
      have e1 : sexitTo id (.blk j :: l) = bif Nat.beq j id then some l else sexitTo id l := rfl
      rw [e1]
      simp only [Go.exitTo]
      cases hb : Nat.beq j id with
      | true =>
        have := Nat.eq_of_beq_eq_true hb
        subst this
        simp only [beq_self_eq_true, if_true, cond_true]
        exact ⟨(fun k hk => by cases hk; exact ⟨l', rfl, h2⟩), (fun hk => by cases hk)⟩
      | false =>
        have : (j == id) = false := beq_eq_false_iff_ne.2 fun e => by subst e; rw [Nat.beq_refl] at hb; cases hb
        simp only [this, cond_false]
        exact ih
    | _ => exact ih
/-- What a frame of ours says of a frame. -/
structure FrR (θ : Nat → Value) (ρ : Ren) (s : SF) (fr : Frame) : Prop where
  fn : fr.fn = s.i.fn
  n : fr.tmps.size = s.i.n
  env : REnv θ ρ s.env fr.tmps
  todo : (s.ret = true ∧ s.todo = []) ∨ RIs ρ s.todo fr.todo
  defers : RDefs θ ρ s.defers fr.defers
  mode : fr.mode = bif s.ret then .returning else .run
  kind : fr.kind = bif s.i.dfr then .deferred else .normal
  round : match s.i.round with
    | none => fr.roundOf = none
    | some l => ∃ p, ρ l = some p ∧ fr.roundOf = some p.b
theorem FrR.mono (hl : ρ.le ρ') {s : SF} {fr : Frame} (h : FrR θ ρ s fr) : FrR θ ρ' s fr := ⟨h.fn, h.n, h.env.mono hl, h.todo.imp id (·.mono hl), h.defers.mono hl, h.mode, h.kind, by
  have := h.round
  split at this
  · exact this
  · obtain ⟨p, h1, h2⟩ := this; exact ⟨p, hl _ _ h1, h2⟩⟩
def FrRs (θ : Nat → Value) (ρ : Ren) : List SF → List Frame → Prop
  | [], [] => True
  | s :: l, fr :: l' => FrR θ ρ s fr ∧ FrRs θ ρ l l'
  | _, _ => False
theorem FrRs.mono (hl : ρ.le ρ') : ∀ {l : List SF} {l' : List Frame}, FrRs θ ρ l l' → FrRs θ ρ' l l'
  | [], [], _ => trivial
  | _ :: _, _ :: _, ⟨h1, h2⟩ => ⟨h1.mono hl, h2.mono hl⟩
  | [], _ :: _, h => h.elim
  | _ :: _, [], h => h.elim
theorem FrRs.cons {s : SF} {l : List SF} {t : List Frame} (h : FrRs θ ρ (s :: l) t) : ∃ fr l', t = fr :: l' ∧ FrR θ ρ s fr ∧ FrRs θ ρ l l' := by
  cases t with
  | nil => exact h.elim
  | cons i' l' => exact ⟨i', l', rfl, h.1, h.2⟩
theorem FrR.td {i : SI0} {e : Tr Value} {todo : List SI} {ds : List Deferred} {fr : Frame} (h : FrR θ ρ ⟨i, e, todo, ds, false⟩ fr) : RIs ρ todo fr.todo := by
  rcases h.todo with ⟨h1, _⟩ | h1
  · cases h1
  · exact h1
/-- .. a machine of a machine. -/
structure MR (θ : Nat → Value) (F : Fm) (base : List Frame) (ρ : Ren) (s : SM) (m : Machine) : Prop where
  out : ∃ fr cs w, m = lone fr (cs ++ base) w ∧ FrR θ ρ s.top fr ∧ FrRs θ ρ s.cs cs ∧ HT θ F ρ s.h s.nx w
/-! ### Steps of the machine itself -/
theorem step_run {fr : Frame} {cs : List Frame} {w : World} {r : GStep} (hm : fr.mode = .run) (hr : (stepG.exec P true true fr cs none w).bare = r) {fr' : Frame} {cs' : List Frame} {w' : World} (h : r = .go { frame := fr', callers := cs', status := .running, dying := none } w') : step P (lone fr cs w) = .next (lone fr' cs' w') := by
  refine step_lone_go ?_
  rw [← h, ← hr]
  simp [stepG, hm]
theorem step_ret' {fr : Frame} {cs : List Frame} {w : World} (hm : fr.mode = .returning) {fr' : Frame} {cs' : List Frame} {w' : World} (h : (unwind P true fr cs none w).bare = .go { frame := fr', callers := cs', status := .running, dying := none } w') : step P (lone fr cs w) = .next (lone fr' cs' w') := by
  refine step_lone_go ?_
  rw [← h]
  simp [stepG, hm]
/-! ### Values into slots -/
noncomputable def sput (n : Nat) (e : Tr Value) (v : Value) (d : Option Tmp) : Option (Tr Value) := match d with
  | some d => bif Nat.blt d n then some (e.put d v) else none
  | none => some e
noncomputable def sfinO (i : SI0) (e : Tr Value) (ds : List Deferred) (ret : Bool) (v : Value) (k : List SI) (ops : Array Oper) (l : List Oper) : Option SF := match l with
  | o :: r => on1 (sput i.n e v o.dst) fun e' => some ⟨i, e', .reg ops r :: k, ds, ret⟩
  | [] => none
noncomputable def sfinI (i : SI0) (e : Tr Value) (ds : List Deferred) (ret : Bool) (v : Value) (k : List SI) (it : SI) : Option SF := match it with
  | .reg ops l => sfinO i e ds ret v k ops l
  | .rf l => some ⟨i, e, .erf l :: k, ds, ret⟩
  | .br => some ⟨i, e, k, ds, ret⟩
  | _ => none
noncomputable def sfinT (i : SI0) (e : Tr Value) (ds : List Deferred) (ret : Bool) (v : Value) (todo : List SI) : Option SF := match todo with
  | it :: k => sfinI i e ds ret v k it
  | [] => none
noncomputable def sfin (f : SF) (v : Value) : Option SF := match f with
  | ⟨i, e, todo, ds, ret⟩ => sfinT i e ds ret v todo
theorem drop_cons {α : Type} {l : List α} {i : Nat} {a : α} {r : List α} (h : a :: r = l.drop i) : l[i]? = some a ∧ r = l.drop (i + 1) := by
  have h1 : (l.drop i)[0]? = some a := by rw [← h]; rfl
  rw [List.getElem?_drop, Nat.add_zero] at h1
  refine ⟨h1, ?_⟩
  have h2 : (l.drop i).drop 1 = r := by rw [← h]; rfl
  rw [← h2, List.drop_drop]
theorem range_drop {n i : Nat} (h : i < n) : (List.range n).drop i = i :: (List.range n).drop (i + 1) := by
  have h1 : i < (List.range n).length := by simpa using h
  rw [List.drop_eq_getElem_cons h1]; simp
theorem reg_cons {ops : Array Oper} {i : Nat} {o : Oper} {r : List Oper} {m : List Nat} (hl : o :: r = ops.toList.drop i) (hm : m = (List.range ops.size).drop i) : ops[i]? = some o ∧ m = i :: (List.range ops.size).drop (i + 1) ∧ r = ops.toList.drop (i + 1) := by
  obtain ⟨h1, h2⟩ := drop_cons hl
  rw [Array.getElem?_toList] at h1
  have hlt := (Array.getElem?_eq_some_iff.1 h1).1
  exact ⟨h1, by rw [hm, range_drop hlt], h2⟩
theorem sfin_ok {s s' : SF} {v v' : Value} (hs : sfin s v = some s') {fr : Frame} (hf : FrR θ ρ s fr) (hv : Rv θ ρ v v') : FrR θ ρ s' (fr.finish v') := by
  obtain ⟨fn, tmps, todo, defers, mode, kind, ro⟩ := fr
  obtain ⟨si, e, st, ds, ret⟩ := s
  unfold sfin sfinT at hs
  dsimp only at hs
  split at hs
  · rename_i it k
    have h1 : RIs ρ (it :: k) todo := by
      rcases hf.todo with ⟨_, h1⟩ | h1
      · cases h1
      · exact h1
    obtain ⟨i', l', e1, h2, h3⟩ := h1.cons
    subst e1
    unfold sfinI at hs
    split at hs
    · rename_i ops l
      cases h2 with
      | reg _ i hl hm =>
        unfold sfinO at hs
        split at hs
        · rename_i o r
          obtain ⟨e2, hp, hs⟩ := on1_ok hs
          cases hs
          obtain ⟨g1, g2, g3⟩ := reg_cons hl hm
          subst g2
          unfold sput at hp
          cases hd : o.dst with
          | none =>
            rw [hd] at hp; cases hp
            simp only [Frame.finish, g1, Option.bind_some, hd]
            exact ⟨hf.fn, hf.n, hf.env, .inr ⟨.reg ops (i + 1) g3 rfl, h3⟩, hf.defers, hf.mode, hf.kind, hf.round⟩
          | some d =>
            rw [hd] at hp
            cases hb : Nat.blt d si.n with
            | false => simp only [hb] at hp; cases hp
            | true =>
              simp only [hb, cond_true] at hp
              cases hp
              have hlt : d < si.n := by simpa [Nat.blt_eq] using hb
              simp only [Frame.finish, g1, Option.bind_some, hd]
              have hn : tmps.size = si.n := hf.n
              exact ⟨hf.fn, by simpa using hn, hf.env.put (by rw [hn]; exact hlt) hv, .inr ⟨.reg ops (i + 1) g3 rfl, h3⟩, hf.defers, hf.mode, hf.kind, hf.round⟩
        · cases hs
    · cases hs
      cases h2 with
      | rf hp => exact ⟨hf.fn, hf.n, hf.env, .inr ⟨.erf hp, h3⟩, hf.defers, hf.mode, hf.kind, hf.round⟩
    · cases hs
      cases h2
      exact ⟨hf.fn, hf.n, hf.env, .inr h3, hf.defers, hf.mode, hf.kind, hf.round⟩
    · cases hs
  · cases hs
/-! ### Results -/
noncomputable def sres1 (P : Program) (e : Tr Value) (h : Tr SO) : ResultVar → Option Value
  | .tmp t => e.get t
  | .cell a t => on1 (e.get a) (rload P h t)
noncomputable def sres (P : Program) (e : Tr Value) (h : Tr SO) : List ResultVar → Option (List Value) := List.rec (motive := fun _ => Option (List Value)) (some []) fun x _ ih => on2 (sres1 P e h x) ih consO
noncomputable def sresult : List Value → Value
  | [v] => v
  | vs => .tuple vs.toArray
def resOf' (tmps : Array Value) : ResultVar → Sem Value
  | .tmp t => pure (tmps.getD t undef)
  | .cell p t => do loadVar t (← asAddr (tmps.getD p undef))
theorem results_resOf' (fn : Func) (tmps : Array Value) : results fn tmps = (do let vs ← fn.results.mapM (resOf' tmps); pure (if h : vs.size = 1 then vs[0] else .tuple vs)) := by
  unfold results
  congr 1
theorem getD_of {tmps : Array Value} {t : Nat} {v : Value} (h : tmps[t]? = some v) : tmps.getD t undef = v := by
  rw [Array.getD_eq_getD_getElem?, h]; rfl
theorem sres_ok (hh : HT θ F ρ h nx w) {e : Tr Value} {tmps : Array Value} (he : REnv θ ρ e tmps) : ∀ {l : List ResultVar} {vs : List Value}, sres P e h l = some vs → ∃ vs', Rl θ ρ vs vs' ∧ (l.mapM (resOf' tmps)).run P w = .ok vs' w
  | [], vs, hs => by cases hs; exact ⟨[], Rl.nil, by simp⟩
  | x :: l, vs, hs => by
    obtain ⟨v, us, hx, hu, e1⟩ := on2_ok (show on2 (sres1 P e h x) (sres P e h l) consO = some vs from hs)
    cases e1
    obtain ⟨vs', h1, h2⟩ := sres_ok hh he hu
    have h3 : ∃ v', Rv θ ρ v v' ∧ (resOf' tmps x).run P w = .ok v' w := by
      unfold sres1 at hx
      split at hx
      · obtain ⟨v', h3, h4⟩ := he _ _ hx
        exact ⟨v', h4, by simp only [resOf', getD_of h3, Sem.run_pure]⟩
      · obtain ⟨p, hp, hx⟩ := on1_ok hx
        obtain ⟨p', h3, h4⟩ := he _ _ hp
        obtain ⟨v', h5, h6⟩ := rload_ok hh h4 hx
        refine ⟨v', h5, ?_⟩
        unfold rload at hx
        split at hx
        · obtain ⟨q, hq, rfl⟩ := h4.toPtr
          simp only [resOf', getD_of h3, asAddr, Sem.run_bind, Sem.run_pure, Result.andThen_ok]
          simpa [Instr.loadAt, Instr.sureAddr] using h6
        · cases hx
    obtain ⟨v', h3, h4⟩ := h3
    exact ⟨v' :: vs', Rl.cons h3 h1, by simp only [List.mapM_cons, Sem.run_bind, h4, Sem.run_pure, Result.andThen_ok, h2]⟩
theorem sresults_ok (hh : HT θ F ρ h nx w) {e : Tr Value} {tmps : Array Value} (he : REnv θ ρ e tmps) {fn : Func} {vs : List Value} (hs : sres P e h fn.results.toList = some vs) : ∃ v', Rv θ ρ (sresult vs) v' ∧ (results fn tmps).run P w = .ok v' w := by
  obtain ⟨vs', h1, h2⟩ := sres_ok (P := P) hh he hs
  have hr : (results fn tmps).run P w = .ok (if h : vs'.toArray.size = 1 then vs'.toArray[0] else .tuple vs'.toArray) w := by
    rw [results_resOf']
    have h3 : fn.results = fn.results.toList.toArray := by simp
    rw [h3, List.mapM_toArray]
    simp [Sem.run_bind, h2, Result.andThen]
  refine ⟨_, ?_, hr⟩
  have hl := h1.1
  unfold sresult
  split
  · rename_i v
    obtain ⟨v', rfl, hv⟩ := h1.one1
    simpa using hv
  · rename_i hne
    have : vs'.toArray.size ≠ 1 := fun e => by
      simp at e
      rw [e] at hl
      match vs, hl with
      | [v], _ => exact hne v rfl
    rw [dif_neg this]
    exact Rv.ofTup h1.arr
end
end Ex
end Go.Proofs.YtlcdaalalihaiaaGreat

/- Running code by calculation: the symbolic machine's step. -/
namespace Go.Proofs.YtlcdaalalihaiaaGreat
open Go Go.RowKit
set_option linter.unusedVariables false
set_option linter.unusedSectionVars false
set_option linter.unusedSimpArgs false
set_option maxRecDepth 100000
namespace Ex
variable [GN]
noncomputable def envOf : List Value → Nat → Tr Value → Tr Value := List.rec (motive := fun _ => Nat → Tr Value → Tr Value) (fun _ t => t) fun v _ ih k t => ih (Nat.add k 1) (t.put k v)
theorem envOf_get : ∀ (l : List Value) (k : Nat) (t : Tr Value) (j : Nat) (v : Value), (envOf l k t).get j = some v → (k ≤ j ∧ l[j - k]? = some v) ∨ t.get j = some v
  | [], _, _, _, _, h => .inr h
  | u :: l, k, t, j, v, h => by
    rcases envOf_get l (k + 1) (t.put k u) j v h with ⟨h1, h2⟩ | h1
    · left
      refine ⟨by omega, ?_⟩
      rw [show j - k = (j - (k + 1)) + 1 by omega]; simpa using h2
    · rcases Tr.get_put h1 with ⟨rfl, rfl⟩ | ⟨_, h2⟩
      · left; simp
      · exact .inr h2
noncomputable def enterF2 (f : FuncId) (nt : Nat) (args : List Value) (dfr : Bool) (c : Code) : Option SF := some ⟨⟨f, Nat.add args.length (Nat.sub nt args.length), dfr, none⟩, envOf args 0 .leaf, [.code c], [], false⟩
noncomputable def enterF (P : Program) (f : FuncId) (args : Array Value) (dfr : Bool) : Option SF := on1 P.funcs[f]? fun fn => on1 fn.body (enterF2 f fn.ntmps args.toList dfr)
noncomputable def isWant (want : Bool) (v : Value) : Option Bool := match v with
  | .bool b => some (b == want)
  | .tuple ⟨[]⟩ => some false
  | _ => none
noncomputable def wantD (ops : Array Oper) (e : Tr Value) (want : Bool) (d : Option Tmp) : Option Bool := match d with
  | some d => on1 (e.get d) (isWant want)
  | none => some false
noncomputable def swanted (ops : Array Oper) (e : Tr Value) (g : Option (Nat × Bool)) : Option Bool := match g with
  | none => some true
  | some (j, want) => wantD ops e want ((ops[j]?).bind (·.dst))
noncomputable def putPs (n : Nat) : List Tmp → List Value → Tr Value → Option (Tr Value) := List.rec (motive := fun _ => List Value → Tr Value → Option (Tr Value))
  (fun vs e => match vs with
    | [] => some e
    | _ => none) fun p _ ih vs e => match vs with
    | v :: vs => bif Nat.blt p n then ih vs (e.put p v) else none
    | [] => none
section
variable (P : Program) (X : FuncId → Option XK) (i : SI0) (e : Tr Value) (ds : List Deferred) (cs : List SF) (h : Tr SO) (nx : Nat)
noncomputable def mkS (k : List SI) : Option SM := some ⟨⟨i, e, k, ds, false⟩, cs, h, nx⟩
noncomputable def mkR : Option SM := some ⟨⟨i, e, [], ds, true⟩, cs, h, nx⟩
noncomputable def topS (t : SF) : Option SM := some ⟨t, cs, h, nx⟩
/-- The round l ends. -/
noncomputable def endR2 (l : Nat) (jump : Option Code) (so : SO) : Option SM := match so, cs with
  | .loop _ _ fn n env ps as bd dfs, c :: cs => on1 (sfin c (.bool jump.isNone)) fun c' => some ⟨c', cs, h.put l (.loop (bif jump.isNone then .ready else .done) jump fn n env ps as bd dfs), nx⟩
  | _, _ => none
noncomputable def retOk : Option Code → Bool
  | none | some .ret => true
  | _ => false
noncomputable def sleave (jump : Option Code) : Option SM := match i.round with
  | none => bif retOk jump then mkR i e ds cs h nx else none
  | some l => bif i.dfr then none else on1 (h.get l) (endR2 cs h nx l jump)
noncomputable def roundF (l : Nat) (args : List Value) (so : SO) : Option SF := match so with
  | .loop .ready _ fn n env ps as bd _ => on1 (putPs n ps.toList args env) fun e => some ⟨⟨fn, n, false, some l⟩, e, [.code as, .br, .code bd], [], false⟩
  | _ => none
/-- What comes of an operation goes on. -/
noncomputable def spush (todo : List SI) (r : SN) : Option SM := match r with
  | .val v h' nx' => on1 (sfinT i e ds false v todo) (topS cs h' nx')
  | .enter f args => on1 (enterF P f args false) (topS (⟨i, e, todo, ds, false⟩ :: cs) h nx)
  | .round l args => on1 (h.get l) fun so => on1 (roundF l args.toList so) (topS (⟨i, e, todo, ds, false⟩ :: cs) h nx)
  | .dfr d => bif i.round.isNone then on1 (sfinT i e (d :: ds) false undef todo) (topS cs h nx) else none
noncomputable def spushE (todo : List SI) (f : FuncId) (args : Array Value) (m : Option (Value × Tr SO × Nat)) : Option SM := match m with
  | some x => on1 (sfinT i e ds false x.1 todo) (topS cs x.2.1 x.2.2)
  | none => spush P i e ds cs h nx todo (.enter f args)
noncomputable def spushM (todo : List SI) (r : SN) : Option SM := match r with
  | .enter f args => spushE P i e ds cs h nx todo f args (memoOf X f args h nx)
  | r => spush P i e ds cs h nx todo r
noncomputable def sreg2 (todo : List SI) (o : Oper) (b : Bool) : Option SM := match b with
  | false => on1 (sfinT i e ds false undef todo) (topS cs h nx)
  | true => on1 (sop P X e h nx o) (spushM P X i e ds cs h nx todo)
noncomputable def sreg (k : List SI) (ops : Array Oper) (l : List Oper) : Option SM := match l with
  | [] => mkS i e ds cs h nx k
  | o :: r => on1 (swanted ops e o.guard) (sreg2 P X i e ds cs h nx (.reg ops (o :: r) :: k) o)
noncomputable def scond (k : List SI) (x y : Code) (v : Value) : Option SM := match v with
  | .bool true => mkS i e ds cs h nx (.code x :: k)
  | .bool false => mkS i e ds cs h nx (.code y :: k)
  | _ => none
noncomputable def sexit (k : List SI) (id : Nat) : Option SM := match sexitTo id k with
  | some k' => mkS i e ds cs h nx k'
  | none => sleave i e ds cs h nx (some (.exit id))
noncomputable def drawn (k : List SI) (x : Tr Value × Tr SO × Nat) : Option SM := mkS i x.1 ds cs x.2.1 x.2.2 k
noncomputable def rf2 (k : List SI) (ps : Array Tmp) (as bd : Code) (mk : List Deferred) (l dfs : Nat) (h' : Tr SO) (r : SN) : Option SM := match r with
  | .enter g args => on1 (enterF P g args false) (topS (⟨i, e, .rf l :: k, mk ++ ds, false⟩ :: cs) (h'.put l (.loop .ready none i.fn i.n e ps as bd dfs)) (Nat.add l 1))
  | _ => none
noncomputable def rfIn (k : List SI) (ps : Array Tmp) (as bd : Code) (v : Value) (so : SO) : Option SM := match so with
  | .loop _ _ _ _ _ _ _ _ dfs => on1 (rcallF P X h nx v [.func (.yield nx) #[] #[]]) (rf2 P i e ds cs k ps as bd [] nx dfs h)
  | _ => none
noncomputable def srf (k : List SI) (ps : Array Tmp) (as bd : Code) (v : Value) : Option SM := match i.round with
  | none => on1 (rcallF P X h nx v [.func (.yield (Nat.add nx 1)) #[] #[]]) (rf2 P i e ds cs k ps as bd [{ target := .collected nx, args := #[] }] (Nat.add nx 1) nx (h.put nx (.dfd (some []))))
  | some l0 => on1 (h.get l0) (rfIn P X i e ds cs h nx k ps as bd v)
noncomputable def sbr2 (k : List SI) (l : Nat) (so : SO) : Option SM := match so with
  | .loop .ready pd fn n env ps as bd dfs => mkS i e ds cs (h.put l (.loop .busy pd fn n env ps as bd dfs)) nx k
  | _ => none
noncomputable def pendI : Option Code → List SI
  | some c => [.code c]
  | none => []
noncomputable def serf2 (k : List SI) (l : Nat) (so : SO) : Option SM := match so with
  | .loop .busy .. => none
  | .loop _ pd fn n env ps as bd dfs => mkS i e ds cs (h.put l (.loop .exhausted pd fn n env ps as bd dfs)) nx (pendI pd ++ k)
  | _ => none
variable (dr : SI0 → Tr Value → Tr SO → Nat → Array Oper → Option (Tr Value × Tr SO × Nat))
noncomputable def sdr (k : List SI) (ops : Array Oper) (d : Bool) : Option SM := match d with
  | true => on1 (dr i e h nx ops) (drawn i ds cs k)
  | false => mkS i e ds cs h nx (.reg ops ops.toList :: k)
noncomputable def scode (k : List SI) (c : Code) : Option SM := match c with
  | .skip => mkS i e ds cs h nx k
  | .region _ ops d => sdr i e ds cs h nx dr k ops d
  | .seq a b => mkS i e ds cs h nx (.code a :: .code b :: k)
  | .cond c x y => on1 (ev e c) (scond i e ds cs h nx k x y)
  | .block id b => mkS i e ds cs h nx (.code b :: .blk id :: k)
  | .loop b => mkS i e ds cs h nx (.code b :: .lp b :: k)
  | .rangeFunc f ps as bd => on1 (ev e f) (srf P X i e ds cs h nx k ps as bd)
  | .exit id => sexit i e ds cs h nx k id
  | .scope b => mkS i e ds cs h nx (.code b :: .sc b :: k)
  | .label _ => mkS i e ds cs h nx k
  | .ret => sleave i e ds cs h nx (some .ret)
  | _ => none
noncomputable def sitem (k : List SI) (it : SI) : Option SM := match it with
  | .code c => scode P X i e ds cs h nx dr k c
  | .blk _ => mkS i e ds cs h nx k
  | .lp b => mkS i e ds cs h nx (.code b :: .lp b :: k)
  | .sc _ => mkS i e ds cs h nx k
  | .reg ops l => sreg P X i e ds cs h nx k ops l
  | .rf _ => none
  | .erf l => on1 (h.get l) (serf2 i e ds cs h nx k l)
  | .br => on1 i.round fun l => on1 (h.get l) (sbr2 i e ds cs h nx k l)
noncomputable def stodo (todo : List SI) : Option SM := match todo with
  | [] => sleave i e ds cs h nx none
  | it :: k => sitem P X i e ds cs h nx dr k it
/-! Leaving. -/
noncomputable def sback2 (v : Value) : Option SM := match cs with
  | c :: cs => bif i.dfr then some ⟨c, cs, h, nx⟩ else on1 (sfin c v) (topS cs h nx)
  | [] => none
noncomputable def sback : Option SM := on1 P.funcs[i.fn]? fun fn => on1 (sres P e h fn.results.toList) fun vs => sback2 i cs h nx (sresult vs)
noncomputable def sdef2 (ds : List Deferred) (r : SN) : Option SM := match r with
  | .val _ h nx => some ⟨⟨i, e, [], ds, true⟩, cs, h, nx⟩
  | .enter f vs => on1 (enterF P f vs true) (topS (⟨i, e, [], ds, true⟩ :: cs) h nx)
  | _ => none
noncomputable def scol (ds : List Deferred) (r : Nat) (so : SO) : Option SM := match so with
  | .dfd (some calls) => some ⟨⟨i, e, [], calls ++ ds, true⟩, cs, h.put r (.dfd none), nx⟩
  | _ => none
noncomputable def sdef (ds : List Deferred) (t : Target) (args : Array Value) : Option SM := match t with
  | .collected r => on1 (h.get r) (scol i e cs h nx ds r)
  | .fn (.func g) cap => on1 (rcallF P X h nx (.func (.func g) #[] cap) args.toList) (sdef2 P i e cs h nx ds)
  | _ => none
noncomputable def sretS : Option SM := match ds with
  | [] => sback P i e cs h nx
  | d :: ds => sdef P X i e cs h nx ds d.target d.args
noncomputable def sstep3 (todo : List SI) (ret : Bool) : Option SM := match ret with
  | true => sretS P X i e ds cs h nx
  | false => stodo P X i e ds cs h nx dr todo
end
noncomputable def sstep2 (P : Program) (X : FuncId → Option XK) (dr : SI0 → Tr Value → Tr SO → Nat → Array Oper → Option (Tr Value × Tr SO × Nat)) (cs : List SF) (h : Tr SO) (nx : Nat) (f : SF) : Option SM := match f with
  | ⟨i, e, todo, ds, ret⟩ => sstep3 P X i e ds cs h nx dr todo ret
/-- One step; 'dr': a drawn region, whole. -/
noncomputable def sstep (P : Program) (X : FuncId → Option XK) (dr : SI0 → Tr Value → Tr SO → Nat → Array Oper → Option (Tr Value × Tr SO × Nat)) (s : SM) : Option SM := match s with
  | ⟨f, cs, h, nx⟩ => sstep2 P X dr cs h nx f
inductive Out where
  | done (g : FuncId) (v : Value) (h : Tr SO) (nx : Nat)
  | stuck (s : SM)
  | long
end Ex
end Go.Proofs.YtlcdaalalihaiaaGreat

/- Running code by calculation: drawn regions, and whole runs. -/
namespace Go.Proofs.YtlcdaalalihaiaaGreat
open Go Go.RowKit
set_option linter.unusedVariables false
set_option linter.unusedSectionVars false
set_option linter.unusedSimpArgs false
set_option maxRecDepth 100000
namespace Ex
variable [GN]
noncomputable def bitB (b j : Nat) : Bool := Nat.beq (Nat.mod (Nat.div b (Nat.pow 2 j)) 2) 1
noncomputable def veq1 : Value → Value → Bool
  | .bool a, .bool b => a == b
  | .int j a, .int k b => decide (j = k) && decide (a = b)
  | .pointer none, .pointer none => true
  | .pointer (some ⟨k, o, none⟩), .pointer (some ⟨k', o', none⟩) => Nat.beq k k' && Nat.beq o o'
  | .slice none a b, .slice none a' b' => Nat.beq a a' && Nat.beq b b'
  | .slice (some ⟨k, o, none⟩) a b, .slice (some ⟨k', o', none⟩) a' b' => Nat.beq k k' && Nat.beq o o' && Nat.beq a a' && Nat.beq b b'
  | .map none, .map none => true
  | .map (some a), .map (some b) => Nat.beq a b
  | .nilFunc, .nilFunc => true
  | .nilIface, .nilIface => true
  | .string a, .string b => decide (a = b)
  | .func (.func f) ⟨[]⟩ ⟨[]⟩, .func (.func g) ⟨[]⟩ ⟨[]⟩ => Nat.beq f g
  | .chan (some a), .chan (some b) => Nat.beq a b
  | _, _ => false
noncomputable def veqs (f : Value → Value → Bool) : List Value → List Value → Bool := List.rec (motive := fun _ => List Value → Bool) (fun l => l.isEmpty) fun a _ ih m => match m with
  | b :: m => f a b && ih m
  | [] => false
noncomputable def veq2 (f : Value → Value → Bool) : Value → Value → Bool
  | .agg a, .agg b => veqs f a.toList b.toList
  | .tuple a, .tuple b => veqs f a.toList b.toList
  | .func (.func k) a b, .func (.func k') a' b' => Nat.beq k k' && veqs f a.toList a'.toList && veqs f b.toList b'.toList
  | .iface t a, .iface t' b => Nat.beq t t' && f a b
  | a, b => veq1 a b
noncomputable def veq : Value → Value → Bool := veq2 (veq2 (veq2 veq1))
def rds : Op → Bool
  | .load .. | .lookup .. | .slice .. | .call _ | .entry .. | .convert .. => true
  | _ => false
/-! What is known of a region without running it. -/
noncomputable def tmpsOf : List Operand → List Nat := List.rec (motive := fun _ => List Nat) [] fun x _ ih => match x with
  | .tmp t => t :: ih
  | _ => ih
noncomputable def gdst (ops : Array Oper) (g : Option (Nat × Bool)) : List Nat := match g with
  | some (j, _) => ((ops[j]?).bind (·.dst)).toList
  | none => []
/-- The slots that an operation looks at. -/
noncomputable def names (ops : Array Oper) (o : Oper) : List Nat := gdst ops o.guard ++ tmpsOf o.op.operands.toList
structure Pn1 where
  o : Oper
  b : Nat
  ns : List Nat
noncomputable def bef1 (i : Nat) (bs : List Nat) (x : Edge) (b : Nat) : Option Nat := bif Region.binds .any x then (bif Nat.blt x.on i then on1 bs[Nat.sub (Nat.sub i 1) x.on]? fun c => some (Nat.lor b (Nat.lor (Nat.pow 2 x.on) c)) else none) else some b
/-- What stands ahead of an operation: those on its edges, and what stands ahead of these. -/
noncomputable def befOf (bs : List Nat) (i : Nat) : List Edge → Option Nat := List.rec (motive := fun _ => Option Nat) (some 0) fun x _ ih => on1 ih (bef1 i bs x)
def hitD (d : Option Tmp) (l : List Nat) : Bool := match d with
  | some d => l.any (Nat.beq d)
  | none => false
def sameD (d d' : Option Tmp) : Bool := match d, d' with
  | some a, some b => Nat.beq a b
  | _, _ => false
/-- Two operations that look at, or set, the same slot stand in an order. -/
noncomputable def apart (b : Nat) (o : Oper) (ns : List Nat) (i : Nat) (x : Pn1) : Bool := bitB b i || !(hitD o.dst x.ns || hitD x.o.dst ns || sameD o.dst x.o.dst)
noncomputable def apartAll (b : Nat) (o : Oper) (ns : List Nat) : List Pn1 → Nat → Bool := List.rec (motive := fun _ => Nat → Bool) (fun _ => true) fun x _ ih k => apart b o ns (Nat.sub k 1) x && ih (Nat.sub k 1)
noncomputable def plan1 (o : Oper) (i : Nat) (ps : List Pn1) (ns : List Nat) (b : Nat) : Option (List Pn1) := bif apartAll b o ns ps i then some (⟨o, b, ns⟩ :: ps) else none
/-- The operations, the last ahead. -/
noncomputable def planR (ops : Array Oper) : List Oper → Nat → List Pn1 → Option (List Pn1) := List.rec (motive := fun _ => Nat → List Pn1 → Option (List Pn1)) (fun _ ps => some ps) fun o _ ih i ps =>
  on1 (on1 (befOf (ps.map (·.b)) i o.after.toList) (plan1 o i ps (names ops o))) (ih (Nat.add i 1))
noncomputable def plan (ops : Array Oper) : Option (List Pn1) := on1 (planR ops ops.toList 0 []) fun l => some l.reverse
/-! Running it. -/
/-- What was read, to be asked again in other states of memory. -/
structure Rec where
  i : Nat
  o : Oper
  b : Nat
  e : Tr Value
  v : Value
/-- What a region has done: slots, reads, states of memory (the last ahead), numbers, effects (number, what stands ahead), new blocks that no effect has taken up. -/
structure DS where
  env : Tr Value
  recs : List Rec
  hs : List (Tr SO)
  nx : Nat
  effs : List (Nat × Nat)
  als : List (Nat × SO)
noncomputable def pick1 (t : Nat) (r : Tr Value) (o : Option Value) : Tr Value := Option.rec (motive := fun _ => Tr Value) r (r.put t) o
noncomputable def pickE (e : Tr Value) : List Nat → Tr Value := List.rec (motive := fun _ => Tr Value) .leaf fun t _ ih => pick1 t ih (e.get t)
noncomputable def popIs (P : Program) (e : Tr Value) (o : Oper) (v : Value) (h : Tr SO) : Bool := match pop P e h o with
  | some u => veq u v
  | none => false
noncomputable def putAls (nx0 b : Nat) (h : Tr SO) : List (Nat × SO) → Tr SO := List.rec (motive := fun _ => Tr SO) h fun x _ ih => bif bitB b x.1 then ih.put (Nat.add nx0 x.1) x.2 else ih
section
variable (P : Program) (X : FuncId → Option XK) (callF : FuncId → Array Value → Tr SO → Nat → Option (Value × Tr SO × Nat)) (n nx0 i : Nat) (o : Oper) (b : Nat)
noncomputable def dpure (s : DS) (e : Tr Value) (v : Value) : Option DS := on1 (sput n s.env v o.dst) fun e' => some ⟨e', bif rds o.op then ⟨i, o, b, e, v⟩ :: s.recs else s.recs, s.hs, s.nx, s.effs, s.als⟩
noncomputable def dall (s : DS) (x : SO × Sh) : Option DS := on1 (sput n s.env (x.2.mk (Nat.add nx0 i)) o.dst) fun e' => some ⟨e', s.recs, s.hs, s.nx, s.effs, (i, x.1) :: s.als⟩
noncomputable def dEff (T : Tr SO) (nx : Nat) (r : SN) : Option (Value × Tr SO × Nat) := match r with
  | .val v h' nx' => some (v, h', nx')
  | .enter f args => callF f args T nx
  | _ => none
noncomputable def deff (s : DS) (x : Value × Tr SO × Nat) : Option DS := on1 (sput n s.env x.1 o.dst) fun e' => some ⟨e', s.recs, x.2.1 :: s.hs, x.2.2, (i, b) :: s.effs, s.als.filter (fun y => !bitB b y.1)⟩
noncomputable def chained (b : Nat) : List (Nat × Nat) → Bool
  | [] => true
  | x :: _ => bitB b x.1
/-- The blocks that float beside an effect are not in its table. -/
noncomputable def floats (nx0 b : Nat) (T : Tr SO) (x : Nat × SO) : Bool := bitB b x.1 || (T.get (Nat.add nx0 x.1)).isNone
noncomputable def dopE (s : DS) (e : Tr Value) (T : Tr SO) : Option DS := bif chained b s.effs && s.als.all (floats nx0 b T) then on1 (on1 (eop P X e T s.nx o) (dEff callF T s.nx)) (deff n i o b s) else none
noncomputable def dop (s : DS) (e : Tr Value) (h : Tr SO) (k : OK) : Option DS := match k with
  | .p => on1 (pop P e h o) (dpure n i o b s e)
  | .a => on1 (aop P e o) (dall n nx0 i o s)
  | .e => dopE P X callF n nx0 i o b s e (putAls nx0 b h s.als)
noncomputable def dwant (s : DS) (e : Tr Value) (h : Tr SO) (w : Bool) : Option DS := match w with
  | false => on1 (sput n s.env undef o.dst) fun e' => some ⟨e', s.recs, s.hs, s.nx, s.effs, s.als⟩
  | true => dop P X callF n nx0 i o b s e h (opK o.op)
noncomputable def dheap (ops : Array Oper) (s : DS) (e : Tr Value) (l : List (Tr SO)) : Option DS := match l with
  | [] => none
  | h :: _ => on1 (swanted ops e o.guard) (dwant P X callF n nx0 i o b s e h)
end
noncomputable def dstep (P : Program) (X : FuncId → Option XK) (callF : FuncId → Array Value → Tr SO → Nat → Option (Value × Tr SO × Nat)) (n nx0 : Nat) (ops : Array Oper) (i : Nat) (x : Pn1) (s : DS) : Option DS := dheap P X callF n nx0 i x.o x.b ops s (pickE s.env x.ns) s.hs
noncomputable def dgo (P : Program) (X : FuncId → Option XK) (callF : FuncId → Array Value → Tr SO → Nat → Option (Value × Tr SO × Nat)) (n nx0 : Nat) (ops : Array Oper) : List Pn1 → Nat → DS → Option DS :=
  List.rec (motive := fun _ => Nat → DS → Option DS) (fun _ s => some s) fun x _ ih i s => on1 (dstep P X callF n nx0 ops i x s) (ih (Nat.add i 1))
/-- May the read i be in the state of memory behind the first k effects? effs: the last ahead, m of them. -/
noncomputable def may1 (i b k p : Nat) (x : Nat × Nat) : Bool := (!bitB b x.1 || Nat.blt p k) && (!bitB x.2 i || Nat.ble k p)
noncomputable def mayIn (i b k : Nat) : List (Nat × Nat) → Nat → Bool := List.rec (motive := fun _ => Nat → Bool) (fun _ => true) fun x _ ih m => may1 i b k (Nat.sub m 1) x && ih (Nat.sub m 1)
noncomputable def okRec (P : Program) (effs : List (Nat × Nat)) (r : Rec) : List (Tr SO) → Nat → Bool := List.rec (motive := fun _ => Nat → Bool) (fun _ => true) fun h _ ih k => (bif mayIn r.i r.b (Nat.sub k 1) effs effs.length then popIs P r.e r.o r.v h else true) && ih (Nat.sub k 1)
noncomputable def okRecs (P : Program) (s : DS) : Bool := match s.effs with
  | [] => true
  | _ => s.recs.all fun r => okRec P s.effs r s.hs s.hs.length
noncomputable def allA (nx0 : Nat) (h : Tr SO) : List (Nat × SO) → Tr SO := List.rec (motive := fun _ => Tr SO) h fun x _ ih => ih.put (Nat.add nx0 x.1) x.2
noncomputable def dend (nx0 : Nat) (d : DS) (l : List (Tr SO)) : Option (Tr Value × Tr SO × Nat) := match l with
  | h :: _ => some (d.env, allA nx0 h d.als, d.nx)
  | [] => none
noncomputable def dfin (P : Program) (nx0 : Nat) (d : DS) : Option (Tr Value × Tr SO × Nat) := bif okRecs P d then dend nx0 d d.hs else none
noncomputable def sdraw (P : Program) (X : FuncId → Option XK) (callF : FuncId → Array Value → Tr SO → Nat → Option (Value × Tr SO × Nat)) (i : SI0) (e : Tr Value) (h : Tr SO) (nx : Nat) (ops : Array Oper) : Option (Tr Value × Tr SO × Nat) :=
  on1 (plan ops) fun l => on1 (dgo P X callF i.n nx ops l 0 ⟨e, [], [h], Nat.add nx ops.size, [], []⟩) (dfin P nx)
noncomputable def sfinal2 (P : Program) (e : Tr Value) (h : Tr SO) (f : FuncId) : Option Value := on1 P.funcs[f]? fun fn => on1 (sres P e h fn.results.toList) fun vs => some (sresult vs)
noncomputable def sfinal (P : Program) (s : SM) : Option Value := match s with
  | ⟨⟨⟨f, _, false, _⟩, e, _, [], true⟩, [], h, _⟩ => sfinal2 P e h f
  | _ => none
noncomputable def outOf (f : FuncId) : Out → Option (Value × Tr SO × Nat)
  | .done g v h nx => bif Nat.beq g f then some (v, h, nx) else none
  | _ => none
noncomputable def srunF (P : Program) (go : SM → Out) (f : FuncId) (args : Array Value) (h : Tr SO) (nx : Nat) : Option (Value × Tr SO × Nat) := on1 (enterF P f args false) fun t => outOf f (go ⟨t, [], h, nx⟩)
noncomputable def srunX (P : Program) (X : FuncId → Option XK) (go : SM → Out) (f : FuncId) (args : Array Value) (h : Tr SO) (nx : Nat) : Option (Value × Tr SO × Nat) := match memoOf X f args h nx with
  | some r => some r
  | none => srunF P go f args h nx
noncomputable def srunL (P : Program) (s : SM) : Option Value → Out
  | some v => .done s.top.i.fn v s.h s.nx
  | none => .stuck s
noncomputable def srunK (P : Program) (go : SM → Out) (s : SM) : Option SM → Out
  | some s' => go s'
  | none => srunL P s (sfinal P s)
noncomputable def srun (P : Program) (X : FuncId → Option XK) : Nat → SM → Out := Nat.rec (motive := fun _ => SM → Out) (fun _ => .long) fun _ go s => srunK P go s (sstep P X (sdraw P X (srunX P X go)) s)
/-- A call, from nothing. -/
noncomputable def scall (P : Program) (X : FuncId → Option XK) (n : Nat) (f : FuncId) (args : Array Value) : Option (Value × Tr SO × Nat) := srunF P (srun P X n) f args .leaf 0
noncomputable def scallO (P : Program) (X : FuncId → Option XK) (n : Nat) (f : FuncId) (args : Array Value) : Out := match enterF P f args false with
  | some t => srun P X n ⟨t, [], .leaf, 0⟩
  | none => .long
end Ex
end Go.Proofs.YtlcdaalalihaiaaGreat
