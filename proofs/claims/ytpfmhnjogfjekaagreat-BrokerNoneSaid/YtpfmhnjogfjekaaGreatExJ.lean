/- Running code by calculation: one operation is sound. -/
import Derived.Test.YtpfmhnjogfjekaaGreatExI
namespace Go.Proofs.YtpfmhnjogfjekaaGreat
open Go Go.RowKit
set_option linter.unusedVariables false
set_option linter.unusedSectionVars false
set_option linter.unusedSimpArgs false
set_option maxRecDepth 100000
namespace Ex
section
variable {θ : Nat → Value} {ρ : Ren} {P : Program} {w0 : Fm} {w : World} {h : Tr SO} {nx : Nat}
theorem U_ok {o : Option (Tr SO)} {r : SN} (hs : U nx o = some r) : ∃ h', o = some h' ∧ r = .val undef h' nx := by
  cases o with
  | none => cases hs
  | some v => cases hs; exact ⟨v, rfl, rfl⟩
theorem orV_ok {a b : Option Value} {r : Value} (hs : orV a b = some r) : a = some r ∨ b = some r := by
  cases a with
  | none => exact .inr hs
  | some x => exact .inl hs
theorem map_toArray {α β : Type} {l : Array α} {f : α → β} : l.map f = (l.toList.map f).toArray := by apply Array.ext'; simp
variable {e : Tr Value} {f : Operand → Value}
theorem pop_ok (hh : HT θ w0 ρ h nx w) (he : REv θ ρ e f) {o : Oper} {v : Value} (hs : pop P e h o = some v) : Pn θ ρ w v ((execOp f o).run P w) := by
  obtain ⟨dst, op, ty, pos, aft, g⟩ := o
  have h0 : ∀ {v : Value}, r0 P e ⟨dst, op, ty, pos, aft, g⟩ = some v → Pn θ ρ w v ((execOp f ⟨dst, op, ty, pos, aft, g⟩).run P w) := fun hr => r0_ok he hr
  unfold pop at hs
  dsimp only at hs
  split at hs
  · exact ⟨_, he _ _ hs, rfl⟩
  · exact ⟨_, he _ _ hs, rfl⟩
  · rename_i c a b
    obtain ⟨u, hc, hs⟩ := on1_ok hs
    unfold ppick at hs
    split at hs
    · have hc := (he _ _ hc).toBool
      exact ⟨_, he _ _ hs, by simp [execOp, hc, asBool]⟩
    · have hc := (he _ _ hc).toBool
      exact ⟨_, he _ _ hs, by simp [execOp, hc, asBool]⟩
    · cases hs
  · rename_i t parts
    obtain ⟨ps, hp, hs⟩ := on1_ok hs
    refine (rbuild_ok (w := w) (he.parts hp) hs).next ?_
    simp only [execOp, map_toArray]
  · rename_i t x
    obtain ⟨u, hv, hs⟩ := on1_ok hs
    exact (rload_ok hh (he _ _ hv) hs).next rfl
  · rename_i x
    obtain ⟨u, ha, hs⟩ := on1_ok hs
    unfold pnil at hs
    split at hs
    · rename_i a
      cases hs
      have h1 := he _ _ ha
      obtain ⟨b, o, s⟩ := a
      cases s with
      | some s => cases h1
      | none =>
        obtain ⟨p, hp, e1⟩ := h1.toPtr
        exact ⟨_, h1, by simp only [execOp, e1]; rfl⟩
    · cases hs
      refine ⟨f x, he _ _ ha, ?_⟩
      have h2 := he _ _ ha
      simp only [execOp]
      generalize f x = y at h2 ⊢
      cases h2
      rfl
    · cases hs
  · rename_i op t x y u
    rcases orV_ok hs with hs | hs
    · obtain ⟨a, b, ha, hb, hs⟩ := on2_ok hs
      unfold pbinI at hs
      split at hs
      · rename_i m n
        have ha := (he _ _ ha).toInt
        have hb := (he _ _ hb).toInt
        have key : ∀ r : Value, pbinN m n op = some r → Rv θ ρ r r ∧ (binOp op t (.int .i64 (.ofNat m)) (.int .i64 (.ofNat n))).run P w = .ok r w := fun r hr => by
          unfold pbinN at hr
          split at hr
          · cases hc : Nat.blt (Nat.add m n) 9223372036854775808 with
            | false => rw [hc] at hr; cases hr
            | true =>
              rw [hc] at hr; cases hr
              have hc : m + n < 9223372036854775808 := by simpa [Nat.blt_eq] using hc
              refine ⟨.int _ _, ?_⟩
              have : IntKind.i64.wrap (Int.ofNat m + Int.ofNat n) = Int.ofNat (m + n) := by
                rw [IntKind.wrap_i64]; simp only [Int.ofNat_eq_natCast]; omega
              simp only [binOp, Op.intArith, ne_eq, not_true_eq_false, if_false, this]; rfl
          · cases hc : (Nat.ble n m && Nat.blt m 9223372036854775808) with
            | false => rw [hc] at hr; cases hr
            | true =>
              rw [hc] at hr; cases hr
              simp only [Bool.and_eq_true, Nat.ble_eq, Nat.blt_eq] at hc
              refine ⟨.int _ _, ?_⟩
              have : IntKind.i64.wrap (Int.ofNat m - Int.ofNat n) = Int.ofNat (m - n) := by
                rw [IntKind.wrap_i64]; simp only [Int.ofNat_eq_natCast]; omega
              simp only [binOp, Op.intArith, ne_eq, not_true_eq_false, if_false, this]; rfl
          · cases hr
            refine ⟨.bool _, ?_⟩
            have : (Int.ofNat m == Int.ofNat n) = Nat.beq m n := by
              rw [Bool.eq_iff_iff, beq_iff_eq, Nat.beq_eq]; simp only [Int.ofNat_eq_natCast]; omega
            simp only [binOp, Op.intCmp, ne_eq, not_true_eq_false, if_false, this]; rfl
          · cases hr
            refine ⟨.bool _, ?_⟩
            have : (Int.ofNat m != Int.ofNat n) = !Nat.beq m n := by
              have : (Int.ofNat m == Int.ofNat n) = Nat.beq m n := by
                rw [Bool.eq_iff_iff, beq_iff_eq, Nat.beq_eq]; simp only [Int.ofNat_eq_natCast]; omega
              rw [bne, this]
            simp only [binOp, Op.intCmp, ne_eq, not_true_eq_false, if_false, this]; rfl
          · cases hr
            refine ⟨.bool _, ?_⟩
            have : decide (Int.ofNat m < Int.ofNat n) = Nat.blt m n := by
              rw [Bool.eq_iff_iff, decide_eq_true_eq, Nat.blt_eq]; simp only [Int.ofNat_eq_natCast]; omega
            simp only [binOp, Op.intCmp, ne_eq, not_true_eq_false, if_false, this]; rfl
          · cases hr
            refine ⟨.bool _, ?_⟩
            have : decide (Int.ofNat m ≤ Int.ofNat n) = Nat.ble m n := by
              rw [Bool.eq_iff_iff, decide_eq_true_eq, Nat.ble_eq]; simp only [Int.ofNat_eq_natCast]; omega
            simp only [binOp, Op.intCmp, ne_eq, not_true_eq_false, if_false, this]; rfl
          · cases hr
            refine ⟨.bool _, ?_⟩
            have : decide (Int.ofNat m > Int.ofNat n) = Nat.blt n m := by
              rw [Bool.eq_iff_iff, decide_eq_true_eq, Nat.blt_eq]; simp only [Int.ofNat_eq_natCast]; omega
            simp only [binOp, Op.intCmp, ne_eq, not_true_eq_false, if_false, this]; rfl
          · cases hr
            refine ⟨.bool _, ?_⟩
            have : decide (Int.ofNat m ≥ Int.ofNat n) = Nat.ble n m := by
              rw [Bool.eq_iff_iff, decide_eq_true_eq, Nat.ble_eq]; simp only [Int.ofNat_eq_natCast]; omega
            simp only [binOp, Op.intCmp, ne_eq, not_true_eq_false, if_false, this]; rfl
          · cases hr
        obtain ⟨k1, k2⟩ := key _ hs
        refine ⟨_, k1, ?_⟩
        have hg : (eqGuard op t x y (.int .i64 (.ofNat m)) (.int .i64 (.ofNat n))).run P w = .ok () w := by
          unfold eqGuard; cases op <;> rfl
        simp only [execOp, ha, hb, Sem.run_bind, hg, k2, Result.andThen_ok, Sem.run_pure]
      · cases hs
    rcases orV_ok hs with hs | hs
    · exact h0 hs
    · unfold pbin2 at hs
      split at hs
      · obtain ⟨a, b, ha, hb, hs⟩ := on2_ok hs
        unfold pcmp at hs
        cases hc : rnil P t a b with
        | false => rw [hc] at hs; cases hs
        | true =>
          rw [hc] at hs; cases hs
          obtain ⟨g1, g2, g3, _⟩ := rnil_ok (w := w) (he _ _ ha) (he _ _ hb) hc
          exact ⟨_, .bool _, by simp only [execOp, g2, g3]; simp [g1]⟩
      · obtain ⟨a, b, ha, hb, hs⟩ := on2_ok hs
        unfold pcmp at hs
        cases hc : rnil P t a b with
        | false => rw [hc] at hs; cases hs
        | true =>
          rw [hc] at hs; cases hs
          obtain ⟨g1, g2, _, g3⟩ := rnil_ok (w := w) (he _ _ ha) (he _ _ hb) hc
          exact ⟨_, .bool _, by simp only [execOp, g2, g3]; simp [g1]⟩
      · cases hs
  · rename_i fn first cap
    unfold pfunc at hs
    split at hs
    · rename_i g
      obtain ⟨us, vs, hu, hv, hs⟩ := on2_ok hs
      cases hs
      have h1 := (he.list hu).arr
      have h2 := (he.list hv).arr
      refine ⟨.func (.func g) (first.toList.map f).toArray (cap.toList.map f).toArray, .fn h1.1 h1.2 h2.1 h2.2, ?_⟩
      simp [execOp, Instr.makeFunc, map_toArray]
    · cases hs
  · rename_i t x lo hi mx
    rcases orV_ok hs with hs | hs
    · obtain ⟨u, hv, hs⟩ := on1_ok hs
      exact (rslice_ok hh he (he _ _ hv) hs).next rfl
    · exact h0 hs
  · rename_i t x fd
    obtain ⟨u, hv, hs⟩ := on1_ok hs
    exact (rfieldAddr_ok (w := w) (he _ _ hv) hs).next rfl
  · rename_i t x fd
    obtain ⟨u, hv, hs⟩ := on1_ok hs
    exact (rfield_ok (w := w) (he _ _ hv) hs).next rfl
  · rename_i t x y
    obtain ⟨a, b, ha, hb, hs⟩ := on2_ok hs
    exact (rindexAddr_ok (w := w) (he _ _ ha) (he _ _ hb) hs).next rfl
  · rename_i t x y
    rcases orV_ok hs with hs | hs
    · obtain ⟨a, b, ha, hb, hs⟩ := on2_ok hs
      exact (rindex_ok (w := w) (he _ _ ha) (he _ _ hb) hs).next rfl
    · exact h0 hs
  · rename_i t x y ok
    obtain ⟨a, b, ha, hb, hs⟩ := on2_ok hs
    exact (rlookup_ok hh (he _ _ ha) (he _ _ hb) hs).next rfl
  · rename_i x i
    obtain ⟨u, hv, hs⟩ := on1_ok hs
    exact (rextract_ok (w := w) (he _ _ hv) hs).next rfl
  · rename_i c
    rcases orV_ok hs with hs | hs
    · obtain ⟨cal, args, tys⟩ := c
      unfold pcall at hs
      dsimp only at hs
      split at hs
      · rename_i b
        unfold pbuiltin at hs
        split at hs
        · obtain ⟨vs, hx, hs⟩ := on1_ok hs
          unfold plen2 at hs
          split at hs
          · rename_i x t ht
            obtain ⟨x', e1, hx'⟩ := (he.list hx).one1
            have e2 : tys = #[t] := by apply Array.ext'; simpa using ht
            refine (rlen_ok (ty := ty) hh (ts := tys) (by rw [e2]; rfl) hx' hs).next ?_
            have e1' : args.map f = #[x'] := by rw [map_toArray, e1]
            simp only [execOp, resolve, invoke, Sem.run_bind, Sem.run_pure, Result.andThen_ok, e1', builtin]
          · cases hs
        · cases hs
      · cases hs
    · exact h0 hs
  · rename_i x
    obtain ⟨u, hv, hs⟩ := on1_ok hs
    exact (rentry_ok hh (he _ _ hv) hs).next rfl
  · rename_i s d x
    rcases orV_ok hs with hs | hs
    · exact h0 hs
    · obtain ⟨u, hv, hs⟩ := on1_ok hs
      exact (rconv_ok hh (he _ _ hv) hs).next rfl
  · exact h0 hs
/-- .. of an operation. -/
structure An (θ : Nat → Value) (ρ : Ren) (w : World) (so : SO) (sh : Sh) (r : Result Next) : Prop where
  out : so.rw = true ∧ ∃ o' v', (∀ ρ', ρ.le ρ' → Ro θ ρ' ⟨w.heap.size, 0, none⟩ so o') ∧ (∀ ρ' k, ρ' k = some ⟨w.heap.size, 0, none⟩ → Rv θ ρ' (sh.mk k) v') ∧ r = .ok (.value v') (w.alloc o')
theorem Av.next {so : SO} {sh : Sh} {s : Sem Value} {r : Result Next} (h : Av θ ρ w so sh (s.run P w)) (ho : r = ((do pure (.value (← s)) : Sem Next)).run P w) : An θ ρ w so sh r := by
  obtain ⟨h0, o', v', h1, h2, h3⟩ := h
  exact ⟨h0, o', v', h1, h2, by rw [ho]; simp [h3]⟩
theorem aop_ok (he : REv θ ρ e f) {o : Oper} {x : SO × Sh} (hs : aop P e o = some x) : An θ ρ w x.1 x.2 ((execOp f o).run P w) := by
  obtain ⟨dst, op, ty, pos, aft, g⟩ := o
  unfold aop at hs
  dsimp only at hs
  split at hs
  · obtain ⟨z, hz, hs⟩ := on1_ok hs
    cases hs
    exact (ralloc_ok hz).next rfl
  · rename_i T x
    obtain ⟨v, hv, hs⟩ := on1_ok hs
    cases hs
    exact (rbox_ok T (he _ _ hv)).next rfl
  · rename_i t m parts
    obtain ⟨ps, hp, hs⟩ := on1_ok hs
    refine (rbuildSlice_ok (w := w) (he.parts hp) hs).next ?_
    simp only [execOp, map_toArray]
  · rename_i t l c
    obtain ⟨a, b, ha, hb, hs⟩ := on2_ok hs
    have h1 : f l = a := by
      unfold rmake at hs
      split at hs
      · exact (he _ _ ha).toInt
      · cases hs
    have h2 : f c = b := by
      unfold rmake at hs
      split at hs
      · exact (he _ _ hb).toInt
      · cases hs
    exact (rmake_ok (θ := θ) (ρ := ρ) (w := w) hs).next (by simp only [execOp, h1, h2])
  · rename_i t r
    unfold amap at hs
    split at hs
    · cases hs
      exact ⟨rfl, .map #[] 0, .map (some w.heap.size), fun _ _ => ⟨rfl, trivial⟩, fun ρ' k hk => .map hk, by simp [execOp, Instr.makeMap]⟩
    · rename_i r
      obtain ⟨d, u, hu, hr, hs⟩ := on2_ok hs
      split at hs
      · cases hs
        have h1 := (he _ _ hr).toInt
        exact ⟨rfl, .map #[] 0, .map (some w.heap.size), fun _ _ => ⟨rfl, trivial⟩, fun ρ' k hk => .map hk, by simp [execOp, Instr.makeMap, run_underlying hu, h1, asInt, asIntOf]⟩
      · cases hs
  · cases hs
theorem orE_ok {a b : Option SN} {r : SN} (hs : orE a b = some r) : a = some r ∨ b = some r := by
  cases a with
  | none => exact .inr hs
  | some x => exact .inl hs
theorem eop_ok (hh : HT θ w0 ρ h nx w) (he : REv θ ρ e f) {X : FuncId → Option XK} (hX : ∀ f k, X f = some k → XOK P f k) (hN : NoNG P) {o : Oper} {r : SN} (hs : eop P X e h nx o = some r) :
    SNok θ w0 ρ w ((execOp f o).run P w) r := by
  obtain ⟨dst, op, ty, pos, aft, g⟩ := o
  have h0 : ∀ {v : Value}, r0 P e ⟨dst, op, ty, pos, aft, g⟩ = some v → Pn θ ρ w v ((execOp f ⟨dst, op, ty, pos, aft, g⟩).run P w) := fun hr => r0_ok he hr
  unfold eop at hs
  dsimp only at hs
  split at hs
  · rename_i t x y
    obtain ⟨a, v, ha, hv, hs⟩ := on2_ok hs
    obtain ⟨h', hu, rfl⟩ := U_ok hs
    obtain ⟨w', g1, g2⟩ := rstore_ok (P := P) hh (he _ _ ha) (he _ _ hv) hu
    exact SNok.skip' g1 g2 rfl
  · rename_i t m k x
    obtain ⟨a, ha, hs⟩ := on1_ok hs
    obtain ⟨b, c, hb, hc, hs⟩ := on2_ok hs
    obtain ⟨h', hu, rfl⟩ := U_ok hs
    obtain ⟨w', g1, g2⟩ := rmapUpdate_ok (P := P) hh (he _ _ ha) (he _ _ hb) (he _ _ hc) hu
    exact SNok.skip' g1 g2 rfl
  · rename_i t m k
    obtain ⟨a, b, ha, hb, hs⟩ := on2_ok hs
    obtain ⟨v, h', nx', rfl, hv⟩ := rmapEntry_ok hh (he _ _ ha) (he _ _ hb) hs
    exact SNok.val' hv rfl
  · rename_i t m s x
    obtain ⟨a, ha, hs⟩ := on1_ok hs
    obtain ⟨b, c, hb, hc, hs⟩ := on2_ok hs
    obtain ⟨h', hu, rfl⟩ := U_ok hs
    obtain ⟨w', g1, g2⟩ := rentryStore_ok (P := P) (t := t) hh (he _ _ ha) (he _ _ hb) (he _ _ hc) hu
    exact SNok.skip' g1 g2 rfl
  · rename_i c
    obtain ⟨cal, args, tys⟩ := c
    unfold ecall at hs
    dsimp only at hs
    split at hs
    · rename_i fo
      obtain ⟨v1, vs1, h1, h2, hs⟩ := on2_ok hs
      have := rcallF_ok hh hX hN (he _ _ h1) (he.list h2) hs
      have e1 : execOp f ⟨dst, .call { callee := .value fo, args := args, argTypes := tys }, ty, pos, aft, g⟩ = (do let d ← Deferred.ofValue (f fo) (args.toList.map f).toArray; invoke d.target d.args : Sem Next) := by
        simp only [execOp, resolve, map_toArray]
      rw [e1]; exact this
    · rename_i b
      rcases orE_ok hs with hs | hs
      · obtain ⟨vs, hv, hs⟩ := on1_ok hs
        have := rbuiltin_ok (ty := ty) (cs := args.map fun | .const _ => true | _ => false) hh (he.list hv) hs
        have e1 : (execOp f ⟨dst, .call { callee := .builtin b, args := args, argTypes := tys }, ty, pos, aft, g⟩) = builtin b tys ty (args.map fun | .const _ => true | _ => false) (args.toList.map f).toArray := by
          simp only [execOp, resolve, map_toArray]; rfl
        rw [e1]; exact this
      · obtain ⟨v, hv, hs⟩ := on1_ok hs
        cases hs
        obtain ⟨v', g1, g2⟩ := h0 hv
        exact ⟨ρ, v', w, .refl ρ, g1, hh, .inl g2⟩
    · cases hs
  · rename_i c
    obtain ⟨cal, args, tys⟩ := c
    unfold edeferC at hs
    dsimp only at hs
    split at hs
    · rename_i fo
      obtain ⟨v1, vs, h1, h2, hs⟩ := on2_ok hs
      unfold edefer at hs
      split at hs
      · rename_i gg first cap
        cases hs
        have h3 := he _ _ h1
        have h4 := he.list h2
        have e1 : execOp f ⟨dst, .defer { callee := .value fo, args := args, argTypes := tys }, ty, pos, aft, g⟩ = (do pure (.defer (← Deferred.ofValue (f fo) (args.toList.map f).toArray)) : Sem Next) := by
          simp only [execOp, resolve, map_toArray]
        rw [e1]
        generalize f fo = y at h3 ⊢
        cases h3 with
        | fn a1 a2 a3 a4 =>
          rename_i xs' ys'
          refine ⟨{ target := .fn (.func gg) ys', args := xs' ++ (args.toList.map f).toArray }, ⟨⟨rfl, a3, a4⟩, ?_⟩, by simp [Deferred.ofValue]⟩
          have := (Rl.append (Ra.list.1 (⟨a1, a2⟩ : Ra θ ρ first xs')) h4).arr
          have e2 : xs' ++ (args.toList.map f).toArray = (xs'.toList ++ args.toList.map f).toArray := by apply Array.ext'; simp
          rw [e2]; exact this
      · cases hs
    · cases hs
  · rename_i t x
    obtain ⟨a, ha, hs⟩ := on1_ok hs
    obtain ⟨v, h', nx', rfl, hv⟩ := rrange_ok hh (he _ _ ha) hs
    exact SNok.val' hv rfl
  · rename_i x isStr
    obtain ⟨a, ha, hs⟩ := on1_ok hs
    obtain ⟨v, h', nx', rfl, hv⟩ := rnext_ok (ty := ty) hh (he _ _ ha) hs
    exact SNok.val' hv rfl
  · cases hs
theorem sop_ok (hh : HT θ w0 ρ h nx w) (he : REv θ ρ e f) {X : FuncId → Option XK} (hX : ∀ f k, X f = some k → XOK P f k) (hN : NoNG P) {o : Oper} {r : SN} (hs : sop P X e h nx o = some r) :
    SNok θ w0 ρ w ((execOp f o).run P w) r := by
  unfold sop at hs
  split at hs
  · obtain ⟨v, hv, hs⟩ := on1_ok hs
    cases hs
    obtain ⟨v', g1, g2⟩ := pop_ok hh he hv
    exact ⟨ρ, v', w, .refl ρ, g1, hh, .inl g2⟩
  · obtain ⟨x, ha, hs⟩ := on1_ok hs
    cases hs
    obtain ⟨h0, o', v', h1, h2, h3⟩ := aop_ok (w := w) he ha
    obtain ⟨ρ', k1, k2, k3⟩ := hh.alloc none h1 h0
    exact ⟨ρ', v', _, k1, h2 _ _ k2, k3, .inl h3⟩
  · exact eop_ok hh he hX hN hs
end
end Ex
end Go.Proofs.YtpfmhnjogfjekaaGreat
