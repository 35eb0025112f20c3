/- Running code by calculation: make, places, cuts, comparisons with nil. -/
import Derived.Test.YtpfmhnjogfjekaaGreatExC
namespace Go.Proofs.YtpfmhnjogfjekaaGreat
open Go Go.RowKit
set_option linter.unusedVariables false
set_option linter.unusedSectionVars false
set_option linter.unusedSimpArgs false
set_option maxRecDepth 100000
namespace Ex
section
variable {θ : Nat → Value} {ρ : Ren} {P : Program} {w0 : Fm} {w : World} {h : Tr SO} {nx : Nat}
/-- 'make([]T, l, c)'. -/
noncomputable def rmake (P : Program) (t : TypeId) : Value → Value → Option (SO × Sh)
  | .int kl (.ofNat l), .int kc (.ofNat c) => match P.underlying t with
    | some (.slice e) => match P.info? e, zeroOf P e with
      | some i, some z => bif Nat.ble l c && Nat.ble c 1048576 && Nat.ble i.bytes 1048576 && Nat.beq z.cells.size i.size && Nat.blt 0 i.size then
          some (.cells ⟨.leaf, Nat.mul c z.cells.size, z.cells.toList⟩ e true 0, .sl l c) else none
      | _, _ => none
    | _ => none
  | _, _ => none
theorem make_at {z : Value} (hk : okc z = true) (n : Nat) {i : Nat} {x : Value} (hx : (⟨.leaf, Nat.mul n z.cells.size, z.cells.toList⟩ : CL).get i = some x) : ∃ y, ((Array.range (n * z.cells.size)).map (z.cells[· % z.cells.size]!)).toList[i]? = some y ∧ Rv θ ρ x y := by
  have hlt := CL.get_lt hx
  rw [CL.get_eq, if_pos hlt] at hx
  have hlt : i < n * z.cells.size := hlt
  have e1 : (Tr.leaf : Tr Value).get i = none := rfl
  simp only [e1] at hx
  rw [Array.length_toList, Array.getElem?_toList] at hx
  have hrl : Rl θ ρ z.cells.toList z.cells.toList := Ra.list.1 (okc_rv hk).cells
  refine ⟨x, ?_, hrl.2 (i % z.cells.size) x x (by rw [Array.getElem?_toList]; exact hx) (by rw [Array.getElem?_toList]; exact hx)⟩
  simp only [Array.toList_map, Array.toList_range, List.getElem?_map, Option.map_eq_some_iff]
  refine ⟨i, by rw [List.getElem?_range hlt], ?_⟩
  rw [getElem!_def, hx]
theorem wrap_small {n : Nat} (h : n ≤ 1048576) : IntKind.i64.wrap (n : Int) = n := IntWalk.i64_in _ (by omega)
theorem rmake_ok {t : TypeId} {x y : Value} {so : SO} {sh : Sh} (hs : rmake P t x y = some (so, sh)) : Av θ ρ w so sh ((Instr.makeSlice t x y).run P w) := by
  unfold rmake at hs
  split at hs
  · rename_i kl l kc c
    split at hs
    · rename_i e hu
      split at hs
      · rename_i i z hi hz
        obtain ⟨⟨i', hi', hz⟩, hk⟩ := zeroOf_ok hz
        rw [hi] at hi'; cases hi'
        cases hc : (Nat.ble l c && Nat.ble c 1048576 && Nat.ble i.bytes 1048576 && Nat.beq z.cells.size i.size && Nat.blt 0 i.size) with
        | false => rw [hc] at hs; cases hs
        | true =>
          rw [hc] at hs
          simp only [Bool.and_eq_true, cond_true, Option.some.injEq, Prod.mk.injEq] at hc hs
          obtain ⟨rfl, rfl⟩ := hs
          obtain ⟨⟨⟨⟨h1, h2⟩, h3⟩, h4⟩, h5⟩ := hc
          have h5 : 0 < i.size := by simpa [Nat.blt_eq] using h5
          have h1 := Nat.le_of_ble_eq_true h1
          have h2 := Nat.le_of_ble_eq_true h2
          have h3 := Nat.le_of_ble_eq_true h3
          have h4 := Nat.eq_of_beq_eq_true h4
          refine .cells e (c' := ((Array.range (c * z.cells.size)).map (z.cells[· % z.cells.size]!)).toList) (by simp) (fun i x hx => make_at hk c hx) (v' := .slice (some ⟨w.heap.size, 0, none⟩) l c) (fun ρ' k hk => .sl hk h1 ⟨.inl rfl, .inr (by simp)⟩) ?_
          rw [Array.toArray_toList]
          have hmul : i.bytes * c ≤ 1048576 * 1048576 := Nat.mul_le_mul h3 h2
          have hb : ¬ (281474976710656 < (i.bytes : Int) * c) := by rw [← Int.natCast_mul]; omega
          have wl : IntKind.i64.wrap (l : Int) = l := wrap_small (by omega)
          have wc : IntKind.i64.wrap (c : Int) = c := wrap_small h2
          have hneg : ¬ ((c : Int) < 0 ∨ 281474976710656 < (i.bytes : Int) * c) := by omega
          have hlt : ¬ ((c : Int) < (l : Int)) := by omega
          by_cases hc0 : c = 0
          · subst hc0
            obtain rfl : l = 0 := by omega
            have e2 : ((Array.range (0 * z.cells.size)).map (z.cells[· % z.cells.size]!)) = #[] := by simp
            have e3 : Array.map (fun (x : Nat) => (default : Value)) (Array.range 0) = #[] := by simp
            have w0 : IntKind.i64.wrap 0 = 0 := by decide
            rw [e2]
            simp [Instr.makeSlice, run_underlying hu, asInt, asIntOf, w0, sizeOf, typeInfo, hi, newRow, e3]
          · have hs0 : ¬ i.size = 0 := by omega
            have hl0 : ¬ ((l : Int) < 0) := by omega
            simp [Instr.makeSlice, run_underlying hu, asInt, asIntOf, wl, wc, hneg, hlt, hl0, sizeOf, typeInfo, hi, hc0, hs0, zeroValue, hz, newRow, h4]
            intro e1; rcases Nat.mul_eq_zero.1 e1 with e1 | e1 <;> omega
      · cases hs
    · cases hs
  · cases hs
/-! ### Places -/
noncomputable def rfieldAddr (P : Program) (t : TypeId) (f : Nat) : Value → Option Value
  | .pointer (some ⟨k, o, none⟩) => match P.underlying t with
    | some (.struct fs) => match fs[f]? with
      | some fd => (match P.info? fd.type with
        | some i => bif Nat.beq i.size 0 then none else some (.pointer (some ⟨k, Nat.add o fd.offset, none⟩))
        | none => none)
      | none => none
    | _ => none
  | _ => none
theorem rfieldAddr_ok {t : TypeId} {f : Nat} {x x' v : Value} (hx : Rv θ ρ x x') (hs : rfieldAddr P t f x = some v) : Pv θ ρ w v ((Instr.fieldAt t x' f).run P w) := by
  unfold rfieldAddr at hs
  split at hs
  · rename_i k o
    obtain ⟨p, hp, rfl⟩ := hx.toPtr
    split at hs
    · rename_i fs hu
      split at hs
      · rename_i fd hf
        split at hs
        · rename_i i hi
          cases h0 : Nat.beq i.size 0 with
          | true => rw [h0] at hs; cases hs
          | false =>
            rw [h0] at hs; cases hs
            have hne : i.size ≠ 0 := fun e => by rw [e] at h0; cases h0
            refine ⟨_, .ptr hp, ?_⟩
            simp [Instr.fieldAt, run_underlying hu, hf, Instr.sureAddr, fieldPlace, sizeOf, typeInfo, hi, hne, addr_plus, Nat.add_assoc]
        · cases hs
      · cases hs
    · cases hs
  · cases hs
noncomputable def rindexAddr (P : Program) (t : TypeId) : Value → Value → Option Value
  | .pointer (some ⟨k, o, none⟩), .int _ (.ofNat i) => match P.underlying t with
    | some (.array len e) => (match P.info? e with
      | some ie => bif Nat.blt i len then some (.pointer (some ⟨k, Nat.add o (Nat.mul i ie.size), none⟩)) else none
      | none => none)
    | _ => none
  | .slice (some ⟨k, o, none⟩) n _, .int _ (.ofNat i) => match P.underlying t with
    | some (.slice e) => (match P.info? e with
      | some ie => bif Nat.blt i n then some (.pointer (some ⟨k, Nat.add o (Nat.mul i ie.size), none⟩)) else none
      | none => none)
    | _ => none
  | _, _ => none
theorem rindexAddr_ok {t : TypeId} {x x' y y' v : Value} (hx : Rv θ ρ x x') (hy : Rv θ ρ y y') (hs : rindexAddr P t x y = some v) : Pv θ ρ w v ((Instr.indexAt t x' y').run P w) := by
  unfold rindexAddr at hs
  split at hs
  · rename_i k o kk i
    obtain ⟨p, hp, rfl⟩ := hx.toPtr
    obtain rfl := hy.toInt
    split at hs
    · rename_i len e hu
      split at hs
      · rename_i ie hi
        cases hc : Nat.blt i len with
        | false => rw [hc] at hs; cases hs
        | true =>
          rw [hc] at hs; cases hs
          have hlt : i < len := by simpa [Nat.blt_eq] using hc
          refine ⟨_, .ptr hp, ?_⟩
          simp [Instr.indexAt, asIntOf, run_underlying hu, Instr.sureAddr, sizeOf, typeInfo, hi, hlt, addr_plus, Nat.add_assoc]
      · cases hs
    · cases hs
  · rename_i k o n c kk i
    obtain ⟨p, c', a, hp, hn, hcap, rfl⟩ := hx.toSl
    obtain rfl := hy.toInt
    split at hs
    · rename_i e hu
      split at hs
      · rename_i ie hi
        cases hc : Nat.blt i n with
        | false => rw [hc] at hs; cases hs
        | true =>
          rw [hc] at hs; cases hs
          have hlt : i < n := by simpa [Nat.blt_eq] using hc
          have ha : a = ⟨p.b, p.s + o, none⟩ := by
            rcases hcap.2 with h0 | h0
            · omega
            · exact h0
          subst ha
          refine ⟨_, .ptr hp, ?_⟩
          simp [Instr.indexAt, asIntOf, run_underlying hu, sizeOf, typeInfo, hi, hlt, addr_plus, Nat.add_assoc]
      · cases hs
    · cases hs
  · cases hs
/-! ### Parts of values -/
noncomputable def rextract (i : Nat) : Value → Option Value
  | .tuple vs => vs[i]?
  | _ => none
theorem rextract_ok {i : Nat} {x x' v : Value} (hx : Rv θ ρ x x') (hs : rextract i x = some v) : Pv θ ρ w v ((Instr.extract x' i).run P w) := by
  unfold rextract at hs
  split at hs
  · obtain ⟨xs', rfl, h1, h2⟩ := hx.toTup
    have hlt := (Array.getElem?_eq_some_iff.1 hs).1
    have hlt' : i < xs'.size := by omega
    refine ⟨_, h2 i _ _ hs (Array.getElem?_eq_getElem hlt'), ?_⟩
    simp [Instr.extract, hlt']
  · cases hs
theorem rpart_ok {t : TypeId} {cs cs' : Array Value} (hc : Ra θ ρ cs cs') {o : Nat} {v : Value} (hs : part1 P t cs.toList o = some v) : ∃ v', Rv θ ρ v v' ∧ (part t cs' o).run P w = .ok v' w := by
  unfold part1 at hs
  split at hs
  · rename_i i d hi hd
    cases ha : aggD d with
    | true =>
      rw [ha] at hs
      cases hl : Nat.ble (Nat.add o i.size) cs.toList.length with
      | false => rw [hl] at hs; cases hs
      | true =>
        rw [hl] at hs; cases hs
        refine ⟨.agg (cs'.extract o (o + i.size)), Rv.ofAgg (Ra.list.2 ?_), by simp [part, run_isAgg hd, ha, sizeOf, typeInfo, hi]⟩
        have := ((Ra.list.1 hc).drop o).take i.size
        simpa [Array.toList_extract, List.extract] using this
    | false =>
      rw [ha] at hs
      simp only [cond_false, nth_eq] at hs
      obtain ⟨y, h1, h2⟩ := (Ra.list.1 hc).at_ hs
      refine ⟨y, h2, ?_⟩
      rw [Array.getElem?_toList] at h1
      simp [part, run_isAgg hd, ha, h1]
  · cases hs
noncomputable def rfield (P : Program) (t : TypeId) (f : Nat) : Value → Option Value
  | .agg cs => match P.underlying t with
    | some (.struct fs) => match fs[f]? with
      | some fd => part1 P fd.type cs.toList fd.offset
      | none => none
    | _ => none
  | _ => none
theorem rfield_ok {t : TypeId} {f : Nat} {x x' v : Value} (hx : Rv θ ρ x x') (hs : rfield P t f x = some v) : Pv θ ρ w v ((Instr.field t x' f).run P w) := by
  unfold rfield at hs
  split at hs
  · rename_i cs
    obtain ⟨cs', rfl, hc⟩ := hx.toAgg
    split at hs
    · rename_i fs hu
      split at hs
      · rename_i fd hf
        obtain ⟨v', h1, h2⟩ := rpart_ok (w := w) hc hs
        exact ⟨_, h1, by simp [Instr.field, run_underlying hu, hf, asAgg, h2]⟩
      · cases hs
    · cases hs
  · cases hs
noncomputable def rindex (P : Program) (t : TypeId) : Value → Value → Option Value
  | .agg cs, .int _ (.ofNat i) => match P.underlying t with
    | some (.array len e) => (match P.info? e with
      | some ie => bif Nat.blt i len then part1 P e cs.toList (Nat.mul i ie.size) else none
      | none => none)
    | _ => none
  | _, _ => none
theorem rindex_ok {t : TypeId} {x x' y y' v : Value} (hx : Rv θ ρ x x') (hy : Rv θ ρ y y') (hs : rindex P t x y = some v) : Pv θ ρ w v ((Instr.index t x' y').run P w) := by
  unfold rindex at hs
  split at hs
  · rename_i cs kk i
    obtain ⟨cs', rfl, hc⟩ := hx.toAgg
    obtain rfl := hy.toInt
    split at hs
    · rename_i len e hu
      split at hs
      · rename_i ie hi
        cases hb : Nat.blt i len with
        | false => rw [hb] at hs; cases hs
        | true =>
          rw [hb] at hs
          have hlt : i < len := by simpa [Nat.blt_eq] using hb
          obtain ⟨v', h1, h2⟩ := rpart_ok (w := w) hc hs
          have h2 : (part e cs' (i * ie.size)).run P w = .ok v' w := h2
          exact ⟨_, h1, by simp [Instr.index, asIntOf, run_underlying hu, sizeOf, typeInfo, hi, hlt, h2]⟩
      · cases hs
    · cases hs
  · cases hs
/-! ### Cuts -/
noncomputable def bndE (e : Tr Value) (d : Nat) : Option Operand → Option Nat
  | none => some d
  | some x => match ev e x with
    | some (.int _ (.ofNat n)) => some n
    | _ => none
theorem run_bound {f : Operand → Value} {e : Tr Value} (he : REv θ ρ e f) {x : Operand} {d n y : Nat} (hn : bndE e d (some x) = some n) (hy : n ≤ y) (code : BoundsCode) : (Instr.sliceBound (f x) y code).run P w = .ok n w := by
  simp only [bndE] at hn
  split at hn
  · rename_i kk m hv
    cases hn
    rw [(he _ _ hv).toInt]
    simp [Instr.sliceBound, asIntOf, hy]
  · cases hn
/-- The bounds of a cut of what has n elements and room for c. -/
theorem run_bounds {f : Operand → Value} {e : Tr Value} (he : REv θ ρ e f) {lo hi mx : Option Operand} {b : Bool} {n c l' h' m' : Nat} (h1 : bndE e 0 lo = some l') (h2 : bndE e n hi = some h') (h3 : bndE e c mx = some m') (hl : l' ≤ h') (hm : h' ≤ m') (hc : m' ≤ c) (hx : mx.isSome = true → hi.isSome = true) :
    (Instr.sliceBounds b n c (lo.map f) (hi.map f) (mx.map f)).run P w = .ok (l', h', m') w := by
  unfold Instr.sliceBounds
  cases mx with
  | none =>
    cases h3
    cases hi with
    | none =>
      cases h2
      cases lo with
      | none => cases h1; simp
      | some x => simp [run_bound he h1 hl]
    | some y =>
      have hy := fun code => run_bound (P := P) (w := w) he h2 hm code
      cases lo with
      | none => cases h1; simp [hy]
      | some x => simp [hy, run_bound he h1 hl]
  | some z =>
    have hz := fun code => run_bound (P := P) (w := w) he h3 hc code
    cases hi with
    | none => cases hx rfl
    | some y =>
      have hy := fun code => run_bound (P := P) (w := w) he h2 hm code
      cases lo with
      | none => cases h1; simp [hy, hz]
      | some x => simp [hy, hz, run_bound he h1 hl]
noncomputable def rslice (P : Program) (h : Tr SO) (e : Tr Value) (t : TypeId) (lo hi mx : Option Operand) : Value → Option Value
  | .slice (some ⟨k, o, none⟩) n c => match P.underlying t, h.get k with
    | some (.slice el), some (.cells _ _ _ sz) => match P.info? el, bndE e 0 lo, bndE e n hi, bndE e c mx with
      | some i, some l', some h', some m' => bif Nat.ble l' h' && Nat.ble h' m' && Nat.ble m' c && (mx.isNone || hi.isSome) && (Nat.beq sz 0 || Nat.beq sz i.size) then some (.slice (some ⟨k, Nat.add o (Nat.mul l' i.size), none⟩) (Nat.sub h' l') (Nat.sub m' l')) else none
      | _, _, _, _ => none
    | _, _ => none
  | .pointer (some ⟨k, o, none⟩) => match P.underlying t with
    | some (.array n el) => match P.info? el, bndE e 0 lo, bndE e n hi, bndE e n mx with
      | some i, some l', some h', some m' => bif Nat.ble l' h' && Nat.ble h' m' && Nat.ble m' n && (mx.isNone || hi.isSome) then some (.slice (some ⟨k, Nat.add o (Nat.mul l' i.size), none⟩) (Nat.sub h' l') (Nat.sub m' l')) else none
      | _, _, _, _ => none
    | _ => none
  | _ => none
theorem rslice_ok (hh : HT θ w0 ρ h nx w) {e : Tr Value} {f : Operand → Value} (he : REv θ ρ e f) {t : TypeId} {lo hi mx : Option Operand} {x x' v : Value} (hx : Rv θ ρ x x') (hs : rslice P h e t lo hi mx x = some v) : Pv θ ρ w v ((Instr.sliceAt t x' (lo.map f) (hi.map f) (mx.map f)).run P w) := by
  unfold rslice at hs
  split at hs
  · rename_i k o n c
    obtain ⟨p, c', a, hp, hn, hcap, rfl⟩ := hx.toSl
    split at hs
    · rename_i el cc TT rr sz hu hk
      split at hs
      · rename_i i l' h' m' hi' g1 g2 g3
        cases hc : (Nat.ble l' h' && Nat.ble h' m' && Nat.ble m' c && (mx.isNone || hi.isSome) && (Nat.beq sz 0 || Nat.beq sz i.size)) with
        | false => rw [hc] at hs; cases hs
        | true =>
          rw [hc] at hs
          simp only [Bool.and_eq_true, cond_true, Option.some.injEq] at hc hs
          subst hs
          obtain ⟨⟨⟨⟨h1, h2⟩, h3⟩, h4⟩, h5⟩ := hc
          have h1 := Nat.le_of_ble_eq_true h1
          have h2 := Nat.le_of_ble_eq_true h2
          have h3 := Nat.le_of_ble_eq_true h3
          have hsome : mx.isSome = true → hi.isSome = true := fun e => by
            cases mx with
            | none => cases e
            | some z => simpa using h4
          have hcc : c ≤ c' := by rcases hcap.1 with e | ⟨_, _, _, e, _⟩ <;> omega
          obtain ⟨M, g3', hM1, hM2, hM3⟩ : ∃ M, bndE e c' mx = some M ∧ m' ≤ M ∧ M ≤ c' ∧ (c' = c → M = m') := by
            cases mx with
            | none => cases g3; exact ⟨c', rfl, hcc, Nat.le_refl _, fun e => e⟩
            | some z => exact ⟨m', g3, Nat.le_refl _, by omega, fun _ => rfl⟩
          have hr := run_bounds (P := P) (w := w) he (b := true) g1 g2 g3' h1 (by omega) hM2 hsome
          have hrun : (Instr.sliceAt t (.slice (some a) n c') (lo.map f) (hi.map f) (mx.map f)).run P w = .ok (.slice (some (if M = l' then a else a.add (l' * i.size))) (h' - l') (M - l')) w := by
            by_cases hml : M = l' <;> simp [Instr.sliceAt, Instr.slice, run_underlying hu, hr, sizeOf, typeInfo, hi', hml]
          refine ⟨_, .sl hp (by show h' - l' ≤ M - l'; omega) ⟨?_, ?_⟩, hrun⟩
          · rcases hcap.1 with e1 | ⟨sz', z, e1, e2, e3⟩
            · left; rw [hM3 e1]; rfl
            · right
              obtain ⟨p', o', j1, j2, j3, _⟩ := hh.obj k _ hk
              rw [hp] at j1; cases j1
              have hsz : sz' = sz ∧ 0 < sz := by
                cases o' with
                | cells cur T' fz => have := j3.2.2.1.2 sz' z e1; exact ⟨this.1, this.2.1⟩
                | _ => exact j3.elim
              have h6 : sz = i.size := by
                rcases (Bool.or_eq_true _ _).mp h5 with e | e
                · have := Nat.eq_of_beq_eq_true e; omega
                · exact Nat.eq_of_beq_eq_true e
              refine ⟨sz', z, e1, by show m' - l' ≤ M - l'; omega, ?_⟩
              show o + l' * i.size + (M - l') * sz' ≤ z
              rw [← h6, hsz.1, Nat.add_assoc, ← Nat.add_mul]
              rw [hsz.1] at e3
              have : (l' + (M - l')) * sz ≤ c' * sz := Nat.mul_le_mul_right _ (by omega)
              omega
          · by_cases hml : M = l'
            · left; omega
            · right
              rw [if_neg hml]
              rcases hcap.2 with e1 | e1
              · omega
              · rw [e1, addr_plus]; simp [Nat.add_assoc]
      · cases hs
    · cases hs
  · rename_i k o
    obtain ⟨p, hp, rfl⟩ := hx.toPtr
    split at hs
    · rename_i n el hu
      split at hs
      · rename_i i l' h' m' hi' g1 g2 g3
        cases hc : (Nat.ble l' h' && Nat.ble h' m' && Nat.ble m' n && (mx.isNone || hi.isSome)) with
        | false => rw [hc] at hs; cases hs
        | true =>
          rw [hc] at hs
          simp only [Bool.and_eq_true, cond_true, Option.some.injEq] at hc hs
          subst hs
          obtain ⟨⟨⟨h1, h2⟩, h3⟩, h4⟩ := hc
          have h1 := Nat.le_of_ble_eq_true h1
          have h2 := Nat.le_of_ble_eq_true h2
          have h3 := Nat.le_of_ble_eq_true h3
          have hsome : mx.isSome = true → hi.isSome = true := fun e => by
            cases mx with
            | none => cases e
            | some z => simpa using h4
          have hr := run_bounds (P := P) (w := w) he (b := false) g1 g2 g3 h1 h2 h3 hsome
          have hrun : (Instr.sliceAt t (.pointer (some ⟨p.b, p.s + o, none⟩)) (lo.map f) (hi.map f) (mx.map f)).run P w = .ok (.slice (some (if m' = l' then ⟨p.b, p.s + o, none⟩ else (⟨p.b, p.s + o, none⟩ : Addr).add (l' * i.size))) (h' - l') (m' - l')) w := by
            by_cases hml : m' = l' <;> simp [Instr.sliceAt, run_underlying hu, hr, sizeOf, typeInfo, hi', hml, Instr.sureAddr]
          refine ⟨_, .sl hp (by show h' - l' ≤ m' - l'; omega) ⟨.inl rfl, ?_⟩, hrun⟩
          by_cases hml : m' = l'
          · left; show m' - l' = 0; omega
          · right; rw [if_neg hml, addr_plus]; simp [Nat.add_assoc]
      · cases hs
    · cases hs
  · cases hs
end
end Ex
end Go.Proofs.YtpfmhnjogfjekaaGreat
