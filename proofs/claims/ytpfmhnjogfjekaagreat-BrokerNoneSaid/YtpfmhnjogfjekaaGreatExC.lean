/- Running code by calculation: new blocks, places in blocks, parts of values. -/
import Derived.Test.YtpfmhnjogfjekaaGreatExB
import Derived.Laws.OwnMore
namespace Go.Proofs.YtpfmhnjogfjekaaGreat
open Go Go.RowKit
set_option linter.unusedVariables false
set_option linter.unusedSectionVars false
set_option linter.unusedSimpArgs false
set_option maxRecDepth 100000
namespace Ex
section
variable {θ : Nat → Value} {ρ : Ren} {P : Program} {w0 : Fm} {w : World} {h : Tr SO} {nx : Nat}
/-! ### New blocks -/
theorem HR.newRow (hh : HT θ w0 ρ h nx w) (q : Option (Nat × Nat)) {c : CL} {cur : Array Value} (T : TypeId) (hl : c.len ≤ cur.size) (sz : Nat) (hq : ∀ sz' z, q = some (sz', z) → sz' = sz ∧ 0 < sz ∧ z ≤ cur.size) (hc : ∀ (i : Nat) x, c.get i = some x → ∃ y, cur[i]? = some y ∧ Rv θ ρ x y) :
    ∃ ρ', ρ.le ρ' ∧ ρ' nx = some ⟨w.heap.size, 0, q⟩ ∧ HT θ w0 ρ' (h.put nx (.cells c T true sz)) (nx + 1) (w.alloc (.cells cur T (0, 0))) :=
  hh.alloc q (fun ρ' hρ => ⟨rfl, rfl, ⟨by simpa using hl, fun sz' z hz => by simpa using hq sz' z hz⟩, fun i x hx => let ⟨y, h1, h2⟩ := hc i x hx; ⟨y, by simpa using h1, h2.mono hρ⟩⟩) rfl
noncomputable def ptrTo (k : Nat) : Value := .pointer (some ⟨k, 0, none⟩)
theorem Rv.at0 {k : Nat} {b : Nat} {q : Option (Nat × Nat)} (hk : ρ k = some ⟨b, 0, q⟩) : Rv θ ρ (ptrTo k) (.pointer (some ⟨b, 0, none⟩)) := .ptr hk
/-- What kind of value a new block gives. -/
inductive Sh where
  | ptr | sl (l c : Nat) | mp
noncomputable def Sh.mk : Sh → Nat → Value
  | .ptr, k => .pointer (some ⟨k, 0, none⟩)
  | .sl l c, k => .slice (some ⟨k, 0, none⟩) l c
  | .mp, k => .map (some k)
/-- A new block comes of it. -/
structure Av (θ : Nat → Value) (ρ : Ren) (w : World) (so : SO) (sh : Sh) (r : Result Value) : Prop where
  out : so.rw = true ∧ ∃ o' v', (∀ ρ', ρ.le ρ' → Ro θ ρ' ⟨w.heap.size, 0, none⟩ so o') ∧ (∀ ρ' k, ρ' k = some ⟨w.heap.size, 0, none⟩ → Rv θ ρ' (sh.mk k) v') ∧ r = .ok v' (w.alloc o')
theorem Av.cells {sh : Sh} {r : Result Value} {c : CL} {c' : List Value} (T : TypeId) (hl : c.len ≤ c'.length) (hc : ∀ (i : Nat) x, c.get i = some x → ∃ y, c'[i]? = some y ∧ Rv θ ρ x y) {v' : Value} (hv : ∀ ρ' k, ρ' k = some ⟨w.heap.size, 0, none⟩ → Rv θ ρ' (sh.mk k) v') (hr : r = .ok v' (w.alloc (.cells c'.toArray T (0, 0)))) : Av θ ρ w (.cells c T true 0) sh r :=
  ⟨rfl, .cells c'.toArray T (0, 0), v', fun ρ' hρ => ⟨rfl, rfl, ⟨by simpa using hl, fun _ _ e => by cases e⟩, fun i x hx => let ⟨y, h1, h2⟩ := hc i x hx; ⟨y, by simpa using h1, h2.mono hρ⟩⟩, hv, hr⟩
theorem Av.list {sh : Sh} {r : Result Value} {c c' : List Value} (T : TypeId) (hc : Rl θ ρ c c') {v' : Value} (hv : ∀ ρ' k, ρ' k = some ⟨w.heap.size, 0, none⟩ → Rv θ ρ' (sh.mk k) v') (hr : r = .ok v' (w.alloc (.cells c'.toArray T (0, 0)))) : Av θ ρ w (.cells (.of c) T true 0) sh r :=
  .cells T (by rw [← hc.1]; exact Nat.le_refl _) (fun i x hx => hc.at_ (CL.get_of hx)) hv hr
theorem rbox_ok (T : TypeId) {v v' : Value} (hv : Rv θ ρ v v') : Av θ ρ w (.cells (.of v.cells.toList) T true 0) .ptr ((Instr.box T v').run P w) :=
  .list T (Ra.list.1 hv.cells) (v' := .pointer (some ⟨w.heap.size, 0, none⟩)) (fun ρ' k hk => .ptr hk) (by simp [Instr.box, newVar, newRow])
noncomputable def zeroOf (P : Program) (T : TypeId) : Option Value := match P.info? T with
  | some i => match i.zero with
    | some z => bif okc z then some z else none
    | none => none
  | none => none
theorem zeroOf_ok {T : TypeId} {z : Value} (hs : zeroOf P T = some z) : (∃ i, P.info? T = some i ∧ i.zero = some z) ∧ okc z = true := by
  unfold zeroOf at hs
  split at hs
  · rename_i i hi
    split at hs
    · rename_i u hz
      cases hk : okc u with
      | false => rw [hk] at hs; cases hs
      | true => rw [hk] at hs; cases hs; exact ⟨⟨i, hi, hz⟩, hk⟩
    · cases hs
  · cases hs
theorem ralloc_ok {T : TypeId} {z : Value} (hs : zeroOf P T = some z) : Av θ ρ w (.cells (.of z.cells.toList) T true 0) .ptr ((Instr.alloc T true (.tuple #[])).run P w) := by
  obtain ⟨⟨i, hi, hz⟩, hk⟩ := zeroOf_ok hs
  exact .list T (Ra.list.1 (okc_rv (θ := θ) (ρ := ρ) hk).cells) (v' := .pointer (some ⟨w.heap.size, 0, none⟩)) (fun ρ' k hk => .ptr hk) (by simp [Instr.alloc, zeroValue, typeInfo, hi, hz, newVar, newRow])
/-! ### Literals -/
theorem fold_rel (off : Nat) : ∀ (l l' : List Value) (k : Nat) (cs cs' : Array Value), Rl θ ρ l l' → Ra θ ρ cs cs' →
    Ra θ ρ ((l.zipIdx k).foldl (fun (cs : Array Value) (p : Value × Nat) => cs.setIfInBounds (off + p.2) p.1) cs) ((l'.zipIdx k).foldl (fun (cs : Array Value) (p : Value × Nat) => cs.setIfInBounds (off + p.2) p.1) cs')
  | [], [], _, _, _, _, h => h
  | [], _ :: _, _, _, _, h, _ => by have := h.1; simp at this
  | _ :: _, [], _, _, _, h, _ => by have := h.1; simp at this
  | v :: l, v' :: l', k, cs, cs', hl, hc => by
    rw [List.zipIdx_cons, List.zipIdx_cons, List.foldl_cons, List.foldl_cons]
    refine fold_rel off l l' (k + 1) _ _ hl.tail ⟨by simp [hc.1], fun i x x' h1 h2 => ?_⟩
    simp only [Array.getElem?_setIfInBounds, hc.1] at h1 h2
    split at h1
    · rename_i e
      rw [if_pos e] at h2
      split at h1
      · rename_i e2; rw [if_pos e2] at h2; cases h1; cases h2; exact hl.head
      · cases h1
    · rename_i e; rw [if_neg e] at h2; exact hc.2 i x x' h1 h2
theorem fill_rel (place : Nat → Option (Nat × Nat)) : ∀ (ps ps' : List (Nat × Value)) (cs cs' r : Array Value), RPs θ ρ ps ps' → Ra θ ρ cs cs' → Instr.fill place cs ps = some r → ∃ r', Instr.fill place cs' ps' = some r' ∧ Ra θ ρ r r'
  | [], [], cs, cs', r, _, hc, h => by cases h; exact ⟨cs', rfl, hc⟩
  | [], _ :: _, _, _, _, h, _, _ => h.elim
  | _ :: _, [], _, _, _, h, _, _ => by cases h
  | (i, v) :: ps, (j, v') :: ps', cs, cs', r, ⟨e, hv, hp⟩, hc, h => by
    subst e
    unfold Instr.fill at h ⊢
    cases hpl : place j with
    | none => rw [hpl] at h; cases h
    | some q =>
      obtain ⟨off, size⟩ := q
      rw [hpl] at h
      have e1 := hv.cells.1
      have e2 := hc.1
      simp only [← e1, ← e2] at h ⊢
      split at h
      · cases h
      · rename_i hne
        rw [if_neg hne]
        refine fill_rel place ps ps' _ _ r hp ?_ h
        have := fold_rel (θ := θ) (ρ := ρ) off v.cells.toList v'.cells.toList 0 cs cs' (Ra.list.1 hv.cells) hc
        rw [← Array.foldl_toList, ← Array.foldl_toList, Array.toList_zipIdx, Array.toList_zipIdx]
        exact this
noncomputable def rbuild (P : Program) (t : TypeId) (ps : List (Nat × Value)) : Option Value := match zeroOf P t with
  | some _ => match P.built t ps with
    | some cs => some (.agg cs)
    | none => none
  | none => none
theorem rbuild_ok {t : TypeId} {ps ps' : List (Nat × Value)} (hp : RPs θ ρ ps ps') {v : Value} (hs : rbuild P t ps = some v) : Pv θ ρ w v ((Instr.build t ps'.toArray).run P w) := by
  unfold rbuild at hs
  split at hs
  · rename_i z hz
    obtain ⟨⟨i, hi, hz⟩, hk⟩ := zeroOf_ok hz
    have hzz : Ra θ ρ z.cells z.cells := (okc_rv hk).cells
    split at hs
    · rename_i cs hb
      cases hs
      have : ∃ cs', P.built t ps' = some cs' ∧ Ra θ ρ cs cs' := by
        unfold Program.built at hb ⊢
        rw [hi] at hb ⊢
        split at hb
        · rename_i it' _ e he hu
          cases he
          simp only [hz] at hb ⊢
          split at hb
          · rename_i z' ie e1 e2
            cases e1
            exact fill_rel _ _ _ _ _ _ hp hzz hb
          · cases hb
        · rename_i it' _ fs he hu
          cases he
          simp only [hz] at hb ⊢
          split at hb
          · rename_i z' pl e1 e2
            cases e1
            exact fill_rel _ _ _ _ _ _ hp hzz hb
          · cases hb
        · cases hb
      obtain ⟨cs', g1, g2⟩ := this
      exact ⟨_, Rv.ofAgg g2, run_build w t ps'.toArray cs' g1⟩
    · cases hs
  · cases hs
noncomputable def rep : Nat → List Value → List Value
  | 0, _ => []
  | n + 1, z => z ++ rep n z
theorem rep_length (z : List Value) : ∀ n, (rep n z).length = n * z.length
  | 0 => by simp [rep]
  | n + 1 => by rw [rep, List.length_append, rep_length z n, Nat.succ_mul, Nat.add_comm]
theorem rep_at (z : List Value) : ∀ (n i : Nat) (x : Value), (rep n z)[i]? = some x → z[i % z.length]? = some x
  | 0, i, x, h => by simp [rep] at h
  | n + 1, i, x, h => by
    rw [rep, List.getElem?_append] at h
    split at h
    · rename_i hi; rw [Nat.mod_eq_of_lt hi]; exact h
    · rename_i hi
      have := rep_at z n _ x h
      rwa [← Nat.mod_eq_sub_mod (by omega)] at this
/-- A row of zeros. -/
theorem rep_rel {z : Value} (hk : okc z = true) (n : Nat) : Rl θ ρ (rep n z.cells.toList) ((Array.range (n * z.cells.size)).map (z.cells[· % z.cells.size]!)).toList := by
  refine ⟨by rw [rep_length]; simp, fun i x x' h1 h2 => ?_⟩
  have h3 := rep_at _ _ _ _ h1
  simp only [Array.toList_map, Array.toList_range, List.getElem?_map, Option.map_eq_some_iff] at h2
  obtain ⟨j, h4, rfl⟩ := h2
  obtain ⟨_, h5⟩ := List.getElem?_eq_some_iff.1 h4
  simp at h5; subst h5
  rw [Array.length_toList, Array.getElem?_toList] at h3
  have : z.cells[i % z.cells.size]! = x := by rw [getElem!_def, h3]
  rw [this]
  have hrl : Rl θ ρ z.cells.toList z.cells.toList := Ra.list.1 (okc_rv hk).cells
  exact hrl.2 (i % z.cells.size) x x (by rw [Array.getElem?_toList]; exact h3) (by rw [Array.getElem?_toList]; exact h3)
noncomputable def rbuildSlice (P : Program) (t : TypeId) (m : Nat) (ps : List (Nat × Value)) : Option (SO × Sh) := match P.underlying t with
  | some (.slice e) => match P.info? e, zeroOf P e with
    | some i, some z => bif Nat.ble (Nat.mul m i.size) 16777216 && Nat.beq z.cells.size i.size && Nat.blt 0 i.size then
        (match Instr.fill (fun j => some (j * i.size, i.size)) (rep m z.cells.toList).toArray ps with
        | some r => some (.cells (.of r.toList) e true 0, .sl m m)
        | none => none) else none
    | _, _ => none
  | _ => none
theorem rbuildSlice_ok {t : TypeId} {m : Nat} {ps ps' : List (Nat × Value)} (hp : RPs θ ρ ps ps') {so : SO} {sh : Sh} (hs : rbuildSlice P t m ps = some (so, sh)) : Av θ ρ w so sh ((Instr.buildSlice t m ps'.toArray).run P w) := by
  unfold rbuildSlice at hs
  split at hs
  · rename_i e hu
    split at hs
    · rename_i i z hi hz
      obtain ⟨⟨i', hi', hz⟩, hk⟩ := zeroOf_ok hz
      rw [hi] at hi'; cases hi'
      cases hc : (Nat.ble (Nat.mul m i.size) 16777216 && Nat.beq z.cells.size i.size && Nat.blt 0 i.size) with
      | false => rw [hc] at hs; cases hs
      | true =>
        rw [hc] at hs
        simp only [Bool.and_eq_true, cond_true] at hc hs
        obtain ⟨⟨h1, h2⟩, h3⟩ := hc
        have h1 : m * i.size ≤ 16777216 := Nat.le_of_ble_eq_true h1
        have h2 := Nat.eq_of_beq_eq_true h2
        have h3 : 0 < i.size := by simpa [Nat.blt_eq] using h3
        split at hs
        · rename_i cs hf
          cases hs
          obtain ⟨cs', g1, g2⟩ := fill_rel (θ := θ) (ρ := ρ) _ ps ps' _ _ cs hp (rep_rel (θ := θ) (ρ := ρ) hk m).arr hf
          rw [Array.toArray_toList] at g1
          refine .list e (Ra.list.1 g2) (v' := .slice (some ⟨w.heap.size, 0, none⟩) m m) (fun ρ' k hk => .sl hk (Nat.le_refl _) ⟨.inl rfl, .inr (by simp)⟩) ?_
          rw [Array.toArray_toList]
          have hle : ¬ (m * i.size > 2 ^ 24) := by omega
          by_cases h0 : m * i.size = 0
          · have hm : m = 0 := by rcases Nat.mul_eq_zero.1 h0 with e | e <;> omega
            subst hm
            have e1 : (Array.range (0 * z.cells.size)).map (z.cells[· % z.cells.size]!) = #[] := by simp
            rw [e1] at g1
            have e2 : (Array.range (0 * i.size)).map ((#[] : Array Value)[· % (#[] : Array Value).size]!) = #[] := by simp
            simp only [Instr.buildSlice, Sem.run_bind, run_underlying hu, Result.andThen_ok, sizeOf, typeInfo, run_program, hi, Sem.run_pure]
            have e3 : Array.map (fun (x : Nat) => (default : Value)) (Array.range 0) = #[] := by simp
            simp [e3, g1, newRow]
          · rw [h2] at g1
            simp only [Instr.buildSlice, Sem.run_bind, run_underlying hu, Result.andThen_ok, sizeOf, typeInfo, run_program, hi, Sem.run_pure]
            have h1' : ¬ (16777216 < m * i.size) := by omega
            simp [h1', h0, zeroValue, typeInfo, hi, hz, h2, g1, newRow]
        · cases hs
    · cases hs
  · cases hs
end
end Ex
end Go.Proofs.YtpfmhnjogfjekaaGreat
