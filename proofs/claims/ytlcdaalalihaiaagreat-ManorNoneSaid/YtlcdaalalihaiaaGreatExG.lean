import Derived.Test.YtlcdaalalihaiaaGreatExE
import Derived.Lib.AppendZeros
/- Running code by calculation: maps, copy, len, comparisons with nil. -/
namespace Go.Proofs.YtlcdaalalihaiaaGreat
open Go Go.RowKit
set_option linter.unusedVariables false
set_option linter.unusedSectionVars false
set_option linter.unusedSimpArgs false
set_option maxRecDepth 100000
namespace Ex
variable [GN]
section
variable {θ : Nat → Value} {ρ : Ren} {P : Program} {w0 : Fm} {w : World} {h : Tr SO} {nx : Nat}
/-! ### Objects that are no cells -/
theorem HR.mapAt (hh : HT θ w0 ρ h nx w) {k : Nat} {p : Pl} {m : List MapEntry} {ck : Nat} (hk : h.get k = some (.map m ck)) (hp : ρ k = some p) : ∃ es, w.heap[p.b]? = some (.map es ck) ∧ REnts θ ρ m es.toList := by
  obtain ⟨p', o', g1, g2, g3, g4⟩ := hh.obj k _ hk
  rw [hp] at g1; cases g1
  cases o' with
  | map es ck' => exact ⟨es, by rw [g2, g3.1], g3.2⟩
  | _ => exact g3.elim
theorem run_getMap {b : Nat} {es : Array MapEntry} {ck : Nat} (hb : w.heap[b]? = some (.map es ck)) : (getObj b).run P w = .ok (.map es ck) w := by
  simp [getObj, Sem.run, hb]
theorem run_setMap {b : Nat} {es : Array MapEntry} {ck : Nat} {o : Obj} (hb : w.heap[b]? = some (.map es ck)) : (setObj b o).run P w = .ok () { w with heap := w.heap.setIfInBounds b o } := by
  simp [setObj, Sem.run, hb]
theorem HR.setMap (hh : HT θ w0 ρ h nx w) {k : Nat} {p : Pl} {m m' : List MapEntry} {ck ck' : Nat} (hk : h.get k = some (.map m ck)) (hp : ρ k = some p) {es' : Array MapEntry} (hm : REnts θ ρ m' es'.toList) : HT θ w0 ρ (h.put k (.map m' ck')) nx { w with heap := w.heap.setIfInBounds p.b (.map es' ck') } :=
  hh.turn hk rfl rfl hp (o1 := .map m' ck') (o1' := .map es' ck') ⟨rfl, hm⟩ rfl rfl rfl rfl
/-! ### Maps -/
noncomputable def plainK : TypeDesc → Bool
  | .int _ | .string => true
  | _ => false
theorem run_checkKey {kt : TypeId} {kd : TypeDesc} (hu : P.underlying kt = some kd) (hk : plainK kd = true) (b : Bool) (v : Value) : (Instr.checkKey b 10000 kt v).run P w = .ok () w := by
  show (Instr.checkKey b (9999 + 1) kt v).run P w = _
  rw [Instr.checkKey]
  cases kd <;> first | (cases hk; done) | (simp only [Sem.run_bind, run_underlying hu, Result.andThen_ok]; rfl)
noncomputable def keysOk (m : List MapEntry) : Bool := m.all fun e => ok1 e.key
noncomputable def RFind (θ : Nat → Value) (ρ : Ren) : Option (Nat × Value) → Option (Nat × Value) → Prop
  | none, none => True
  | some (j, v), some (j', v') => j' = j ∧ Rv θ ρ v v'
  | _, _ => False
theorem findNow_rel {kd : TypeDesc} {k : Value} : ∀ (m es : List MapEntry) (i : Nat) (r : Option (Nat × Value)), REnts θ ρ m es → keysOk m = true → Instr.findNow kd k m i = some r →
    ∃ r', Instr.findNow kd k es i = some r' ∧ RFind θ ρ r r'
  | [], [], _, r, _, _, h => by cases h; exact ⟨none, rfl, trivial⟩
  | [], _ :: _, _, _, h, _, _ => h.elim
  | _ :: _, [], _, _, h, _, _ => h.elim
  | e :: m, e' :: es, i, r, ⟨⟨h1, h2, h3⟩, h4⟩, hk, h => by
    unfold keysOk at hk
    simp only [List.all_cons, Bool.and_eq_true] at hk
    have he : e'.key = e.key := ok1_eq hk.1 h1
    unfold Instr.findNow at h ⊢
    rw [he]
    split at h
    · cases h; exact ⟨_, rfl, rfl, h2⟩
    · exact findNow_rel m es (i + 1) r h4 hk.2 h
    · cases h
theorem run_findKey {kt : TypeId} {kd : TypeDesc} (hu : P.underlying kt = some kd) {k : Value} {es : List MapEntry} {r : Option (Nat × Value)} (hf : Instr.findNow kd k es 0 = some r) : (Instr.findKey kt k es).run P w = .ok r w := by
  simp [Instr.findKey, run_underlying hu, hf]
/-- The entry of a key. -/
noncomputable def find (P : Program) (kt : TypeId) (k : Value) (m : List MapEntry) : Option (Option (Nat × Value)) := match P.underlying kt with
  | some kd => bif plainK kd && ok1 k && keysOk m then Instr.findNow kd k m 0 else none
  | none => none
theorem find_ok {kt : TypeId} {k k' : Value} {m es : List MapEntry} {r : Option (Nat × Value)} (hk : Rv θ ρ k k') (hm : REnts θ ρ m es) (hs : find P kt k m = some r) :
    k = k' ∧ ok1 k = true ∧ (∀ b v, (Instr.checkKey b 10000 kt v).run P w = .ok () w) ∧ ∃ r', (Instr.findKey kt k es).run P w = .ok r' w ∧ RFind θ ρ r r' := by
  unfold find at hs
  split at hs
  · rename_i kd hu
    cases hc : (plainK kd && ok1 k && keysOk m) with
    | false => rw [hc] at hs; cases hs
    | true =>
      rw [hc] at hs
      simp only [Bool.and_eq_true, cond_true] at hc hs
      obtain ⟨r', g1, g2⟩ := findNow_rel (θ := θ) (ρ := ρ) m es 0 r hm hc.2 hs
      exact ⟨(ok1_eq hc.1.2 hk).symm, hc.1.2, run_checkKey hu hc.1.1, r', run_findKey hu g1, g2⟩
  · cases hs
noncomputable def lookIn (P : Program) (et : TypeId) (ok : Bool) : Option (Option (Nat × Value)) → Option Value
  | some (some (_, v)) => some (bif ok then .tuple #[v, .bool true] else v)
  | some none => (match zeroOf P et with
      | some z => some (bif ok then .tuple #[z, .bool false] else z)
      | none => none)
  | none => none
noncomputable def rlookup (P : Program) (h : Tr SO) (t : TypeId) (ok : Bool) (x k : Value) : Option Value := match P.underlying t with
  | some (.map kt et) => (match x with
    | .map none => lookIn P et ok (find P kt k [])
    | .map (some r) => (match h.get r with
      | some (.map m _) => lookIn P et ok (find P kt k m)
      | _ => none)
    | _ => none)
  | _ => none
theorem rv_pair {v v' : Value} (hv : Rv θ ρ v v') (b : Bool) : Rv θ ρ (.tuple #[v, .bool b]) (.tuple #[v', .bool b]) := Rv.ofTup (Rl.arr (Rl.cons hv (Rl.cons (.bool b) Rl.nil)))
theorem lookIn_ok {kt et : TypeId} {ok : Bool} {k k' v : Value} {m : List MapEntry} {es : Array MapEntry} (hk : Rv θ ρ k k') (hm : REnts θ ρ m es.toList) (hs : lookIn P et ok (find P kt k m) = some v) :
    ∃ v', Rv θ ρ v v' ∧ (do
      Instr.checkKey es.isEmpty 10000 kt k'
      let (v, b) ← match ← Instr.findKey kt k' es.toList with
        | some (_, v) => pure (v, true)
        | none => pure (← zeroValue et, false)
      pure (if ok then .tuple #[v, .bool b] else v) : Sem Value).run P w = .ok v' w := by
  cases hf : find P kt k m with
  | none => rw [hf] at hs; cases hs
  | some r =>
    rw [hf] at hs
    obtain ⟨rfl, _, hck, r', hfk, hr⟩ := find_ok (w := w) hk hm hf
    cases r with
    | none =>
      cases r' with
      | some q => exact hr.elim
      | none =>
        simp only [lookIn] at hs
        split at hs
        · rename_i z hz
          obtain ⟨⟨i, hi, hz⟩, hkz⟩ := zeroOf_ok hz
          have hzz : Rv θ ρ z z := okc_rv hkz
          cases hs
          refine ⟨if ok then .tuple #[z, .bool false] else z, by cases ok; exact hzz; exact rv_pair hzz false, ?_⟩
          simp [hck, hfk, zeroValue, typeInfo, hi, hz]
        · cases hs
    | some q =>
      obtain ⟨j, u⟩ := q
      cases r' with
      | none => exact hr.elim
      | some q' =>
        obtain ⟨j', u'⟩ := q'
        obtain ⟨rfl, hu⟩ := hr
        cases hs
        refine ⟨if ok then .tuple #[u', .bool true] else u', by cases ok; exact hu; exact rv_pair hu true, ?_⟩
        simp [hck, hfk]
theorem rlookup_ok (hh : HT θ w0 ρ h nx w) {t : TypeId} {ok : Bool} {x x' k k' v : Value} (hx : Rv θ ρ x x') (hk : Rv θ ρ k k') (hs : rlookup P h t ok x k = some v) : Pv θ ρ w v ((Instr.lookup t x' k' ok).run P w) := by
  unfold rlookup at hs
  split at hs
  · rename_i kt et hu
    split at hs
    · obtain rfl := hx.toM0
      obtain ⟨v', h1, h2⟩ := lookIn_ok (w := w) (es := #[]) hk (show REnts θ ρ [] [] from trivial) hs
      refine ⟨_, h1, ?_⟩
      simp only [Instr.lookup, Sem.run_bind, run_underlying hu, Result.andThen_ok, Sem.run_pure] at h2 ⊢
      exact h2
    · rename_i r
      obtain ⟨p, hp, rfl⟩ := hx.toMap
      split at hs
      · rename_i m ck hr
        obtain ⟨es, g1, g2⟩ := hh.mapAt hr hp
        obtain ⟨v', h1, h2⟩ := lookIn_ok (w := w) hk g2 hs
        refine ⟨_, h1, ?_⟩
        simp only [Instr.lookup, Sem.run_bind, run_underlying hu, Result.andThen_ok, run_getMap g1, Sem.run_pure] at h2 ⊢
        exact h2
      · cases hs
    · cases hs
  · cases hs
/-- The entries with the i-th changed. -/
theorem REnts.at_ : ∀ {m es : List MapEntry}, REnts θ ρ m es → ∀ {i : Nat} {e : MapEntry}, m[i]? = some e → ∃ e', es[i]? = some e' ∧ REnt θ ρ e e'
  | [], [], _, i, e, h => by simp at h
  | [], _ :: _, h, _, _, _ => h.elim
  | _ :: _, [], h, _, _, _ => h.elim
  | e :: m, e' :: es, ⟨h1, h2⟩, i, u, h => by
    cases i with
    | zero => simp at h; subst h; exact ⟨e', rfl, h1⟩
    | succ i => simp at h; obtain ⟨u', g1, g2⟩ := h2.at_ h; exact ⟨u', by simpa using g1, g2⟩
theorem REnts.modify {f g : MapEntry → MapEntry} (hfg : ∀ e e', REnt θ ρ e e' → REnt θ ρ (f e) (g e')) : ∀ {m es : List MapEntry}, REnts θ ρ m es → ∀ (i : Nat), REnts θ ρ (m.modify i f) (es.modify i g)
  | [], [], _, i => by cases i <;> trivial
  | [], _ :: _, h, _ => h.elim
  | _ :: _, [], h, _ => h.elim
  | e :: m, e' :: es, ⟨h1, h2⟩, i => by
    cases i with
    | zero => exact ⟨hfg _ _ h1, h2⟩
    | succ i => exact ⟨h1, h2.modify hfg i⟩
theorem REnts.push : ∀ {m es : List MapEntry}, REnts θ ρ m es → ∀ {e e' : MapEntry}, REnt θ ρ e e' → REnts θ ρ (m ++ [e]) (es ++ [e'])
  | [], [], _, _, _, h => ⟨h, trivial⟩
  | [], _ :: _, h, _, _, _ => h.elim
  | _ :: _, [], h, _, _, _ => h.elim
  | _ :: _, _ :: _, ⟨h1, h2⟩, _, _, h => ⟨h1, h2.push h⟩
theorem REnts.erase : ∀ {m es : List MapEntry}, REnts θ ρ m es → ∀ (i : Nat), REnts θ ρ (m.eraseIdx i) (es.eraseIdx i)
  | [], [], _, i => trivial
  | [], _ :: _, h, _ => h.elim
  | _ :: _, [], h, _ => h.elim
  | e :: m, e' :: es, ⟨h1, h2⟩, i => by
    cases i with
    | zero => exact h2
    | succ i => exact ⟨h1, h2.erase i⟩
theorem REnts.length : ∀ {m es : List MapEntry}, REnts θ ρ m es → es.length = m.length
  | [], [], _ => rfl
  | [], _ :: _, h => h.elim
  | _ :: _, [], h => h.elim
  | _ :: _, _ :: _, ⟨_, h2⟩ => by simp [h2.length]
theorem REnts.findB (b : Int) : ∀ {m es : List MapEntry}, REnts θ ρ m es → es.findIdx? (fun e => (e.born : Int) == b) = m.findIdx? (fun e => (e.born : Int) == b)
  | [], [], _ => rfl
  | [], _ :: _, h => h.elim
  | _ :: _, [], h => h.elim
  | e :: m, e' :: es, ⟨⟨_, _, h3⟩, h2⟩ => by
    rw [List.findIdx?_cons, List.findIdx?_cons, h3, h2.findB b]
noncomputable def rmapUpdate (P : Program) (h : Tr SO) (t : TypeId) (k v : Value) : Value → Option (Tr SO)
  | .map (some r) => match P.underlying t, h.get r with
    | some (.map kt _), some (.map m ck) => (match find P kt k m with
      | some (some (i, _)) => (match m[i]? with
        | some e => bif Instr.sameBits 10000 e.key k && ok1 e.key then some (h.put r (.map (m.modify i fun e => { e with key := k, val := v }) ck)) else none
        | none => none)
      | some none => some (h.put r (.map (m ++ [{ key := k, val := v, born := ck }]) (ck + 1)))
      | none => none)
    | _, _ => none
  | _ => none
theorem rmapUpdate_ok (hh : HT θ w0 ρ h nx w) {t : TypeId} {x x' k k' v v' : Value} (hx : Rv θ ρ x x') (hk : Rv θ ρ k k') (hv : Rv θ ρ v v') {h' : Tr SO} (hs : rmapUpdate P h t k v x = some h') : ∃ w', (Instr.mapUpdate t x' k' v').run P w = .ok () w' ∧ HT θ w0 ρ h' nx w' := by
  unfold rmapUpdate at hs
  split at hs
  · rename_i r
    obtain ⟨p, hp, rfl⟩ := hx.toMap
    split at hs
    · rename_i kt et m ck hu hr
      obtain ⟨es, g1, g2⟩ := hh.mapAt hr hp
      split at hs
      · rename_i i u hf
        obtain ⟨rfl, ho, hck, r', hfk, hrr⟩ := find_ok (w := w) hk g2 hf
        split at hs
        · rename_i e he
          cases hc : (Instr.sameBits 10000 e.key k && ok1 e.key) with
          | false => rw [hc] at hs; cases hs
          | true =>
            rw [hc] at hs; cases hs
            simp only [Bool.and_eq_true] at hc
            cases r' with
            | none => exact hrr.elim
            | some q =>
              obtain ⟨j', u'⟩ := q
              obtain ⟨rfl, hu'⟩ := hrr
              obtain ⟨e', j1, j2⟩ := g2.at_ he
              have hke : e'.key = e.key := ok1_eq hc.2 j2.1
              have hes : es[j']? = some e' := by rw [← Array.getElem?_toList]; exact j1
              have hkeep : (Instr.keyThatStays (((es[j']?).map (·.key)).getD k) k).run P w = .ok k w := by
                simp [Instr.keyThatStays, hes, hke, hc.1]
              refine ⟨_, ?_, hh.setMap hr hp (es' := es.modify j' fun e => { e with key := k, val := v' }) (by rw [Array.toList_modify]; exact g2.modify (f := fun e => { e with key := k, val := v }) (g := fun e => { e with key := k, val := v' }) (fun a b hab => ⟨ok1_rv ho, hv, hab.2.2⟩) j')⟩
              simp only [Instr.mapUpdate, Sem.run_bind, run_underlying hu, Result.andThen_ok, run_getMap g1, hck, hfk, hkeep, run_setMap g1]
        · cases hs
      · rename_i hf
        obtain ⟨rfl, ho, hck, r', hfk, hrr⟩ := find_ok (w := w) hk g2 hf
        cases hs
        cases r' with
        | some q => exact hrr.elim
        | none =>
          refine ⟨_, ?_, hh.setMap hr hp (es' := es.push { key := k, val := v', born := ck }) (by rw [Array.toList_push]; exact g2.push ⟨ok1_rv ho, hv, rfl⟩)⟩
          simp only [Instr.mapUpdate, Sem.run_bind, run_underlying hu, Result.andThen_ok, run_getMap g1, hck, hfk, run_setMap g1]
      · cases hs
    · cases hs
  · cases hs
noncomputable def rmapEntry (P : Program) (h : Tr SO) (nx : Nat) (t : TypeId) (k : Value) : Value → Option SN
  | .map (some r) => match P.underlying t, h.get r with
    | some (.map kt et), some (.map m ck) => (match find P kt k m with
      | some (some (i, u)) => (match m[i]? with
        | some e => bif Instr.sameBits 10000 e.key k && ok1 e.key then some (.val (.tuple #[u, goInt e.born]) (h.put r (.map (m.modify i fun e => { e with key := k }) ck)) nx) else none
        | none => none)
      | some none => (match zeroOf P et with
        | some z => some (.val (.tuple #[z, goInt ck]) (h.put r (.map (m ++ [{ key := k, val := z, born := ck }]) (ck + 1))) nx)
        | none => none)
      | none => none)
    | _, _ => none
  | _ => none
theorem rv_pairI {v v' : Value} (hv : Rv θ ρ v v') (n : Int) : Rv θ ρ (.tuple #[v, goInt n]) (.tuple #[v', goInt n]) := Rv.ofTup (Rl.arr (Rl.cons hv (Rl.cons (.int _ n) Rl.nil)))
theorem rmapEntry_ok (hh : HT θ w0 ρ h nx w) {t : TypeId} {x x' k k' : Value} (hx : Rv θ ρ x x') (hk : Rv θ ρ k k') {r : SN} (hs : rmapEntry P h nx t k x = some r) : ∃ v h' nx', r = .val v h' nx' ∧ Val θ w0 ρ v h' nx' ((Instr.mapEntry t x' k').run P w) := by
  unfold rmapEntry at hs
  split at hs
  · rename_i r
    obtain ⟨p, hp, rfl⟩ := hx.toMap
    split at hs
    · rename_i kt et m ck hu hr
      obtain ⟨es, g1, g2⟩ := hh.mapAt hr hp
      split at hs
      · rename_i i u hf
        obtain ⟨rfl, ho, hck, r', hfk, hrr⟩ := find_ok (w := w) hk g2 hf
        split at hs
        · rename_i e he
          cases hc : (Instr.sameBits 10000 e.key k && ok1 e.key) with
          | false => rw [hc] at hs; cases hs
          | true =>
            rw [hc] at hs; cases hs
            simp only [Bool.and_eq_true] at hc
            cases r' with
            | none => exact hrr.elim
            | some q =>
              obtain ⟨j', u'⟩ := q
              obtain ⟨rfl, hu'⟩ := hrr
              obtain ⟨e', j1, j2⟩ := g2.at_ he
              have hke : e'.key = e.key := ok1_eq hc.2 j2.1
              have hes : es[j']? = some e' := by rw [← Array.getElem?_toList]; exact j1
              have hkeep : (Instr.keyThatStays (((es[j']?).map (·.key)).getD k) k).run P w = .ok k w := by
                simp [Instr.keyThatStays, hes, hke, hc.1]
              have hborn : (((es[j']?).map (fun x => (x.born : Int))).getD 0) = e.born := by simp [hes, j2.2.2]
              refine ⟨_, _, _, rfl, ρ, .tuple #[u', goInt e.born], _, .refl ρ, rv_pairI hu' _, hh.setMap hr hp (es' := es.modify j' fun e => { e with key := k }) (by rw [Array.toList_modify]; exact g2.modify (f := fun e => { e with key := k }) (g := fun e => { e with key := k }) (fun a b hab => ⟨ok1_rv ho, hab.2.1, hab.2.2⟩) j'), ?_⟩
              simp only [Instr.mapEntry, Sem.run_bind, run_underlying hu, Result.andThen_ok, run_getMap g1, hck, hfk, hkeep, run_setMap g1, hborn, Sem.run_pure]
        · cases hs
      · rename_i hf
        obtain ⟨rfl, ho, hck, r', hfk, hrr⟩ := find_ok (w := w) hk g2 hf
        split at hs
        · rename_i z hz
          obtain ⟨⟨i, hi, hz⟩, hkz⟩ := zeroOf_ok hz
          have hzz : Rv θ ρ z z := okc_rv hkz
          cases hs
          cases r' with
          | some q => exact hrr.elim
          | none =>
            refine ⟨_, _, _, rfl, ρ, .tuple #[z, goInt ck], _, .refl ρ, rv_pairI hzz _, hh.setMap hr hp (es' := es.push { key := k, val := z, born := ck }) (by rw [Array.toList_push]; exact g2.push ⟨ok1_rv ho, hzz, rfl⟩), ?_⟩
            simp only [Instr.mapEntry, Sem.run_bind, run_underlying hu, Result.andThen_ok, run_getMap g1, hck, hfk, run_setMap g1, zeroValue, typeInfo, run_program, hi, hz, Sem.run_pure]
        · cases hs
      · cases hs
    · cases hs
  · cases hs
noncomputable def rentryStore (h : Tr SO) (v : Value) : Value → Value → Option (Tr SO)
  | .map (some r), .int _ b => match h.get r with
    | some (.map m ck) => (match m.findIdx? (fun e => (e.born : Int) == b) with
      | some i => some (h.put r (.map (m.modify i fun e => { e with val := v }) ck))
      | none => none)
    | _ => none
  | _, _ => none
theorem rentryStore_ok (hh : HT θ w0 ρ h nx w) {t : TypeId} {x x' k k' v v' : Value} (hx : Rv θ ρ x x') (hk : Rv θ ρ k k') (hv : Rv θ ρ v v') {h' : Tr SO} (hs : rentryStore h v x k = some h') : ∃ w', (Instr.entryStore t x' k' v').run P w = .ok () w' ∧ HT θ w0 ρ h' nx w' := by
  unfold rentryStore at hs
  split at hs
  · rename_i r kk b
    obtain ⟨p, hp, rfl⟩ := hx.toMap
    obtain rfl := hk.toInt
    split at hs
    · rename_i m ck hr
      obtain ⟨es, g1, g2⟩ := hh.mapAt hr hp
      split at hs
      · rename_i i hi
        cases hs
        have hfi : es.findIdx? (fun e => (e.born : Int) == b) = some i := by have := List.findIdx?_toArray (fun (e : MapEntry) => (e.born : Int) == b) es.toList; rw [Array.toArray_toList] at this; rw [this, g2.findB b, hi]
        refine ⟨_, ?_, hh.setMap hr hp (es' := es.modify i fun e => { e with val := v' }) (by rw [Array.toList_modify]; exact g2.modify (f := fun e => { e with val := v }) (g := fun e => { e with val := v' }) (fun a b hab => ⟨hab.1, hv, hab.2.2⟩) i)⟩
        simp only [Instr.entryStore, Sem.run_bind, Result.andThen_ok, run_getMap g1, asInt, asIntOf, Sem.run_pure, hfi, run_setMap g1]
      · cases hs
    · cases hs
  · cases hs
noncomputable def rdelete (P : Program) (h : Tr SO) (t : TypeId) (k : Value) : Value → Option (Tr SO)
  | .map (some r) => match P.underlying t, h.get r with
    | some (.map kt _), some (.map m ck) => (match find P kt k m with
      | some (some (i, _)) => some (h.put r (.map (m.eraseIdx i) ck))
      | some none => some (h.put r (.map m ck))
      | none => none)
    | _, _ => none
  | _ => none
theorem rdelete_ok (hh : HT θ w0 ρ h nx w) {t t2 ty : TypeId} {x x' k k' : Value} (hx : Rv θ ρ x x') (hk : Rv θ ρ k k') {h' : Tr SO} (hs : rdelete P h t k x = some h') : ∃ w', (Builtin.delete_ #[t, t2] ty #[x', k']).run P w = .ok (.tuple #[]) w' ∧ HT θ w0 ρ h' nx w' := by
  unfold rdelete at hs
  split at hs
  · rename_i r
    obtain ⟨p, hp, rfl⟩ := hx.toMap
    split at hs
    · rename_i kt et m ck hu hr
      obtain ⟨es, g1, g2⟩ := hh.mapAt hr hp
      split at hs
      · rename_i i u hf
        obtain ⟨rfl, ho, hck, r', hfk, hrr⟩ := find_ok (w := w) hk g2 hf
        cases hs
        cases r' with
        | none => exact hrr.elim
        | some q =>
          obtain ⟨j', u'⟩ := q
          obtain ⟨rfl, hu'⟩ := hrr
          refine ⟨_, ?_, hh.setMap hr hp (es' := es.eraseIdxIfInBounds j') (by rw [Array.toList_eraseIdxIfInBounds]; exact g2.erase j')⟩
          simp [Builtin.delete_, run_underlying hu, run_getMap g1, hck, hfk, run_setMap g1]
      · rename_i hf
        obtain ⟨rfl, ho, hck, r', hfk, hrr⟩ := find_ok (w := w) hk g2 hf
        cases hs
        cases r' with
        | some q => exact hrr.elim
        | none =>
          refine ⟨_, ?_, hh.setMap hr hp (es' := es) g2⟩
          simp [Builtin.delete_, run_underlying hu, run_getMap g1, hck, hfk, run_setMap g1]
      · cases hs
    · cases hs
  · cases hs
/-! ### Iterators -/
noncomputable def rrange2 (h : Tr SO) (nx k : Nat) (so : SO) : Option SN := match so with
  | .map _ ck => some (.val (.pointer (some ⟨nx, 0, none⟩)) (h.put nx (.mit (some k) ck [] ck)) (Nat.add nx 1))
  | _ => none
noncomputable def rrangeD (h : Tr SO) (nx : Nat) (d : TypeDesc) (v : Value) : Option SN := match d, v with
  | .map _ _, .map none => some (.val (.pointer (some ⟨nx, 0, none⟩)) (h.put nx (.mit none 0 [] 0)) (Nat.add nx 1))
  | .map _ _, .map (some k) => on1 (h.get k) (rrange2 h nx k)
  | .string, .string s => some (.val (.pointer (some ⟨nx, 0, none⟩)) (h.put nx (.sit s 0)) (Nat.add nx 1))
  | _, _ => none
noncomputable def rrange (P : Program) (h : Tr SO) (nx : Nat) (t : TypeId) (v : Value) : Option SN := on1 (P.underlying t) fun d => rrangeD h nx d v
theorem rrange_ok (hh : HT θ w0 ρ h nx w) {t : TypeId} {x x' : Value} (hx : Rv θ ρ x x') {r : SN} (hs : rrange P h nx t x = some r) : ∃ v h' nx', r = .val v h' nx' ∧ Val θ w0 ρ v h' nx' ((Instr.range t x').run P w) := by
  obtain ⟨d, hu, hs⟩ := on1_ok hs
  unfold rrangeD at hs
  split at hs
  · cases hs
    obtain rfl := hx.toM0
    obtain ⟨ρ', k1, k2, k3⟩ := hh.alloc none (o := .mit none 0 [] 0) (o' := .mapIter none 0 #[] 0) (fun _ _ => ⟨rfl, rfl, rfl, rfl⟩) rfl
    exact ⟨_, _, _, rfl, ρ', _, _, k1, .ptr k2, k3, by simp [Instr.range, run_underlying hu]⟩
  · rename_i k _
    obtain ⟨p, hp, rfl⟩ := hx.toMap
    obtain ⟨so, hk, hs⟩ := on1_ok hs
    unfold rrange2 at hs
    split at hs
    · rename_i m ck
      cases hs
      obtain ⟨es, g1, g2⟩ := hh.mapAt hk hp
      obtain ⟨ρ', k1, k2, k3⟩ := hh.alloc none (o := .mit (some k) ck [] ck) (o' := .mapIter (some p.b) ck #[] ck) (fun ρ' hρ => ⟨⟨p, hρ _ _ hp, rfl⟩, rfl, rfl, rfl, rfl⟩) rfl
      exact ⟨_, _, _, rfl, ρ', _, _, k1, .ptr k2, k3, by simp [Instr.range, run_underlying hu, run_getMap g1]⟩
    · cases hs
  · rename_i s _
    cases hs
    obtain rfl := hx.toStr
    obtain ⟨ρ', k1, k2, k3⟩ := hh.alloc none (o := .sit s 0) (o' := .stringIter s 0) (fun _ _ => ⟨rfl, rfl, rfl⟩) rfl
    exact ⟨_, _, _, rfl, ρ', _, _, k1, .ptr k2, k3, by simp [Instr.range, run_underlying hu]⟩
  · cases hs
def overV : Value := .tuple #[.bool false]
/-- The entries that were not seen. -/
def leftOf (seen : List Nat) (m : List MapEntry) : List MapEntry := m.filter fun e => !seen.contains e.born
noncomputable def rnextL (h : Tr SO) (nx r k since : Nat) (seen : List Nat) (ck : Nat) (l : List MapEntry) : Option SN := match l with
  | [] => some (.val overV h nx)
  | [e] => bif Nat.blt e.born since then some (.val (.tuple #[.bool true, e.key, e.val]) (h.put r (.mit (some k) since (seen ++ [e.born]) ck)) nx) else none
  | _ => none
noncomputable def rnextM (h : Tr SO) (nx r k since last : Nat) (seen : List Nat) (so : SO) : Option SN := match so with
  | .map m ck => bif !seen.isEmpty && !m.isEmpty && m.all (fun e => Nat.ble last e.born) then none else rnextL h nx r k since seen ck (leftOf seen m)
  | _ => none
noncomputable def rnextO (h : Tr SO) (nx r : Nat) (isStr : Bool) (so : SO) : Option SN := match isStr, so with
  | false, .mit none _ _ _ => some (.val overV h nx)
  | false, .mit (some k) since seen last => on1 (h.get k) (rnextM h nx r k since last seen)
  | true, .sit s pos => bif Nat.blt pos s.size then some (.val (.tuple #[.bool true, goInt pos, .int .i32 (Utf8.decode s pos).1]) (h.put r (.sit s (Nat.add pos (Utf8.decode s pos).2))) nx) else some (.val overV h nx)
  | _, _ => none
noncomputable def rnext (h : Tr SO) (nx : Nat) (isStr : Bool) (v : Value) : Option SN := match v with
  | .pointer (some ⟨r, 0, none⟩) => on1 (h.get r) (rnextO h nx r isStr)
  | _ => none
theorem REnts.filter (q : Nat → Bool) : ∀ {m es : List MapEntry}, REnts θ ρ m es → REnts θ ρ (m.filter fun e => q e.born) (es.filter fun e => q e.born)
  | [], [], _ => trivial
  | [], _ :: _, h => h.elim
  | _ :: _, [], h => h.elim
  | e :: m, e' :: es, ⟨h1, h2⟩ => by
    have ih := h2.filter q
    rw [List.filter_cons, List.filter_cons, h1.2.2]
    cases q e.born with
    | true => exact ⟨h1, ih⟩
    | false => exact ih
theorem REnts.all (q : Nat → Bool) : ∀ {m es : List MapEntry}, REnts θ ρ m es → (es.all fun e => q e.born) = (m.all fun e => q e.born)
  | [], [], _ => rfl
  | [], _ :: _, h => h.elim
  | _ :: _, [], h => h.elim
  | e :: m, e' :: es, ⟨h1, h2⟩ => by rw [List.all_cons, List.all_cons, h1.2.2, h2.all q]
theorem run_getIt {b : Nat} {o : Obj} (hb : w.heap[b]? = some o) (hne : ∀ c T f, o ≠ .cells c T f) : (getObj b).run P w = .ok o w := by
  cases o <;> simp [getObj, Sem.run, hb] <;> exact absurd rfl (hne _ _ _)
theorem run_setIt {b : Nat} {o o' : Obj} (hb : w.heap[b]? = some o) (hne : ∀ c T f, o ≠ .cells c T f) : (setObj b o').run P w = .ok () { w with heap := w.heap.setIfInBounds b o' } := by
  cases o <;> simp [setObj, Sem.run, hb] <;> exact absurd rfl (hne _ _ _)
theorem Rv.over : Rv θ ρ overV overV := Rv.ofTup (Rl.arr (Rl.cons (.bool false) Rl.nil))
theorem rv_trip {a a' b b' : Value} (ha : Rv θ ρ a a') (hb : Rv θ ρ b b') : Rv θ ρ (.tuple #[.bool true, a, b]) (.tuple #[.bool true, a', b']) := Rv.ofTup (Rl.arr (Rl.cons (.bool true) (Rl.cons ha (Rl.cons hb Rl.nil))))
theorem rnext_ok (hh : HT θ w0 ρ h nx w) {isStr : Bool} {ty : TypeId} {x x' : Value} (hx : Rv θ ρ x x') {r : SN} (hs : rnext h nx isStr x = some r) : ∃ v h' nx', r = .val v h' nx' ∧ Val θ w0 ρ v h' nx' ((Instr.next x' isStr ty).run P w) := by
  unfold rnext at hs
  split at hs
  · rename_i rr
    obtain ⟨p, hp, rfl⟩ := hx.toPtr
    obtain ⟨so, hr, hs⟩ := on1_ok hs
    obtain ⟨p', o', g1, g2, g3, g4⟩ := hh.obj rr _ hr
    rw [hp] at g1; cases g1
    unfold rnextO at hs
    split at hs
    · rename_i a b c
      cases hs
      cases o' with
      | mapIter m since seen st =>
        cases m with
        | some m => exact g3.elim
        | none =>
          have hg := run_getIt (P := P) g2 (by intro _ _ _ h; cases h)
          refine ⟨_, _, _, rfl, .same hh Rv.over ?_⟩
          have h0 : p.s = 0 := g3.1
          simp [Instr.next, h0, hg]; rfl
      | _ => exact g3.elim
    · rename_i k since seen last _
      obtain ⟨so, hk, hs⟩ := on1_ok hs
      cases o' with
      | mapIter m since' seen' st =>
        cases m with
        | none => exact g3.elim
        | some m =>
          obtain ⟨⟨q, hq, rfl⟩, h0, rfl, rfl, rfl⟩ := g3
          have hg := run_getIt (P := P) g2 (by intro _ _ _ h; cases h)
          unfold rnextM at hs
          split at hs
          · rename_i mm ck
            obtain ⟨es, e1, e2⟩ := hh.mapAt hk hq
            have hgm := run_getMap (P := P) e1
            have hle := e2.length
            have hall := e2.all (fun n => Nat.ble st n)
            have hfl := e2.filter (fun n => !seen'.toList.contains n)
            cases hc : (!seen'.toList.isEmpty && !mm.isEmpty && mm.all (fun e => Nat.ble st e.born)) with
            | true => rw [hc] at hs; cases hs
            | false =>
              rw [hc] at hs
              simp only [cond_false] at hs
              unfold rnextL leftOf at hs
              have hcond : (!seen'.isEmpty && !es.isEmpty && es.all (fun x => decide (x.born ≥ st))) = false := by
                have a1 : seen'.isEmpty = seen'.toList.isEmpty := by simp
                have a2 : es.isEmpty = mm.isEmpty := by
                  have : es.toList.isEmpty = mm.isEmpty := by
                    cases hm : mm <;> cases he : es.toList <;> rw [hm, he] at hle <;> simp at hle ⊢
                  rw [← this]; simp
                have a3 : es.all (fun x => decide (x.born ≥ st)) = mm.all (fun e => Nat.ble st e.born) := by
                  rw [← hall, ← Array.all_toList]
                  congr 1
                  funext x
                  rw [Bool.eq_iff_iff, Nat.ble_eq, decide_eq_true_eq]
                rw [a1, a2, a3]; exact hc
              have hleft : (es.filter fun e => !seen'.contains e.born).toList = es.toList.filter fun e => !seen'.toList.contains e.born := by simp
              generalize hL : (es.filter fun e => !seen'.contains e.born) = left at hleft
              rw [← hleft] at hfl
              split at hs
              · rename_i hl
                cases hs
                rw [hl] at hfl
                have : left = #[] := by
                  cases hh2 : left.toList with
                  | nil => exact Array.ext' (by simpa using hh2)
                  | cons a b => rw [hh2] at hfl; exact hfl.elim
                refine ⟨_, _, _, rfl, .same hh Rv.over ?_⟩
                simp only [Instr.next, h0, Nat.zero_add, Sem.run_bind, hg, Result.andThen_ok, hgm, hcond, hL, this, Bool.false_eq_true, if_false]
                simp [Question.forced]; rfl
              · rename_i e hl
                rw [hl] at hfl
                cases hlt : Nat.blt e.born since' with
                | false => rw [hlt] at hs; cases hs
                | true =>
                  rw [hlt] at hs
                  cases hs
                  have hlt' : e.born < since' := by rw [Nat.blt_eq] at hlt; exact hlt
                  have : ∃ e', left = #[e'] ∧ REnt θ ρ e e' := by
                    cases hh2 : left.toList with
                    | nil => rw [hh2] at hfl; exact hfl.elim
                    | cons a b => cases b with
                      | nil => rw [hh2] at hfl; exact ⟨a, Array.ext' (by simpa using hh2), hfl.1⟩
                      | cons c d => rw [hh2] at hfl; exact hfl.2.elim
                  obtain ⟨e', this, r1, r2, r3⟩ := this
                  have hbo : e'.born < since' := by rw [r3]; exact hlt'
                  have hst := run_setIt (P := P) (o' := .mapIter (some q.b) since' (seen'.push e'.born) ck) g2 (by intro _ _ _ h; cases h)
                  have h3 := hh.turn (p := p) hr rfl rfl hp (o1 := .mit (some k) since' (seen'.toList ++ [e.born]) ck) (o1' := .mapIter (some q.b) since' (seen'.push e'.born) ck) ⟨⟨q, hq, rfl⟩, h0, rfl, by rw [r3]; simp, rfl⟩ (w' := { w with heap := w.heap.setIfInBounds p.b (.mapIter (some q.b) since' (seen'.push e'.born) ck) }) rfl rfl rfl rfl
                  refine ⟨_, _, _, rfl, ρ, _, _, .refl ρ, rv_trip r1 r2, h3, ?_⟩
                  simp only [Instr.next, h0, Nat.zero_add, Sem.run_bind, hg, Result.andThen_ok, hgm, hcond, hL, this, Bool.false_eq_true, if_false]
                  simp [Question.forced, hbo, hst, Nat.not_le.2 hbo]
              · cases hs
          · cases hs
      | _ => exact g3.elim
    · rename_i s pos
      cases o' with
      | stringIter s' n' =>
        obtain ⟨h0, rfl, rfl⟩ := g3
        have hg := run_getIt (P := P) g2 (by intro _ _ _ h; cases h)
        by_cases hlt : n' < s'.size
        · have hb : Nat.blt n' s'.size = true := by simp [Nat.blt_eq, hlt]
          rw [hb] at hs
          simp only [cond_true] at hs
          cases hs
          have hst := run_setIt (P := P) (o' := .stringIter s' (n' + (Utf8.decode s' n').2)) g2 (by intro _ _ _ h; cases h)
          have h3 := hh.turn (p := p) hr rfl rfl hp (o1 := .sit s' (n' + (Utf8.decode s' n').2)) (o1' := .stringIter s' (n' + (Utf8.decode s' n').2)) ⟨h0, rfl, rfl⟩ (w' := { w with heap := w.heap.setIfInBounds p.b (.stringIter s' (n' + (Utf8.decode s' n').2)) }) rfl rfl rfl rfl
          refine ⟨_, _, _, rfl, ρ, _, _, .refl ρ, rv_trip (.int _ _) (.int _ _), h3, ?_⟩
          simp [Instr.next, h0, hg, hlt, hst]; rfl
        · have hb : Nat.blt n' s'.size = false := by rw [Bool.eq_false_iff]; intro hh; rw [Nat.blt_eq] at hh; exact hlt hh
          rw [hb] at hs
          simp only [cond_false] at hs
          cases hs
          refine ⟨_, _, _, rfl, .same hh Rv.over ?_⟩
          simp [Instr.next, h0, hg, hlt]; rfl
      | _ => exact g3.elim
    · cases hs
  · cases hs
noncomputable def rentryF (e : MapEntry) : Option Value := some (.tuple #[e.key, e.val])
noncomputable def rentryM (stamp stepped : Nat) (so : SO) : Option Value := match so with
  | .map m ck => bif Nat.beq ck stepped then on1 (m.find? fun e => e.born == stamp) rentryF else none
  | _ => none
noncomputable def rentryO (h : Tr SO) (so : SO) : Option Value := match so with
  | .mit (some k) _ seen stepped => on1 seen.getLast? fun stamp => on1 (h.get k) (rentryM stamp stepped)
  | _ => none
noncomputable def rentry (h : Tr SO) (v : Value) : Option Value := match v with
  | .pointer (some ⟨r, 0, none⟩) => on1 (h.get r) (rentryO h)
  | _ => none
theorem REnts.find (q : Nat → Bool) : ∀ {m es : List MapEntry} {e : MapEntry}, REnts θ ρ m es → (m.find? fun e => q e.born) = some e → ∃ e', (es.find? fun e => q e.born) = some e' ∧ REnt θ ρ e e'
  | [], [], _, _, h => by cases h
  | [], _ :: _, _, h, _ => h.elim
  | _ :: _, [], _, h, _ => h.elim
  | d :: m, d' :: es, e, ⟨h1, h2⟩, hf => by
    rw [List.find?_cons] at hf
    rw [List.find?_cons, h1.2.2]
    cases hq : q d.born with
    | true => rw [hq] at hf; cases hf; exact ⟨d', rfl, h1⟩
    | false => rw [hq] at hf; exact REnts.find q h2 hf
theorem rentry_ok (hh : HT θ w0 ρ h nx w) {x x' v : Value} (hx : Rv θ ρ x x') (hs : rentry h x = some v) : Pv θ ρ w v ((Instr.entry x').run P w) := by
  unfold rentry at hs
  split at hs
  · rename_i rr
    obtain ⟨p, hp, rfl⟩ := hx.toPtr
    obtain ⟨so, hr, hs⟩ := on1_ok hs
    obtain ⟨p', o', g1, g2, g3, g4⟩ := hh.obj rr _ hr
    rw [hp] at g1; cases g1
    unfold rentryO at hs
    split at hs
    · rename_i k since seen stepped
      obtain ⟨stamp, hl, hs2⟩ := on1_ok hs
      obtain ⟨so, hk, hs3⟩ := on1_ok hs2
      clear hs hs2
      cases o' with
      | mapIter m since' seen' st =>
        cases m with
        | none => exact g3.elim
        | some m =>
          obtain ⟨⟨q, hq, rfl⟩, h0, rfl, rfl, rfl⟩ := g3
          have hg := run_getIt (P := P) g2 (by intro _ _ _ h; cases h)
          unfold rentryM at hs3
          split at hs3
          · rename_i mm ck
            obtain ⟨es, e1, e2⟩ := hh.mapAt hk hq
            have hgm := run_getMap (P := P) e1
            cases hc : Nat.beq ck st with
            | false => rw [hc] at hs3; cases hs3
            | true =>
              rw [hc] at hs3
              obtain rfl := Nat.eq_of_beq_eq_true hc
              simp only [cond_true] at hs3
              obtain ⟨e, hf, hs4⟩ := on1_ok hs3
              cases hs4
              obtain ⟨e', f1, f2⟩ := e2.find (fun n => n == stamp) hf
              have f3 : es.find? (fun e => e.born == stamp) = some e' := by rw [← Array.find?_toList]; exact f1
              have hb : seen'.back? = some stamp := by rw [← Array.getLast?_toList]; exact hl
              exact ⟨_, Rv.ofTup (Rl.arr (Rl.cons f2.1 (Rl.cons f2.2.1 Rl.nil))), by simp [Instr.entry, h0, hg, hgm, hb, f3]⟩
          · cases hs3
      | _ => exact g3.elim
    · cases hs
  · cases hs
noncomputable def rclear2 (h : Tr SO) (nx k : Nat) (so : SO) : Option SN := match so with
  | .map _ ck => some (.val (.tuple #[]) (h.put k (.map [] ck)) nx)
  | _ => none
noncomputable def reps (l : List Value) (n : Nat) : List Value := Nat.rec (motive := fun _ => List Value) [] (fun _ ih => l ++ ih) n
noncomputable def rclear3 (h : Tr SO) (nx k o n : Nat) (z : List Value) (so : SO) : Option SN := match so with
  | .cells c T true sz => bif z.all Value.oneCell' && Nat.ble (Nat.add o (Nat.mul n z.length)) c.len then some (.val (.tuple #[]) (h.put k (.cells (CL.write (reps z n) c o) T true sz)) nx) else none
  | _ => none
noncomputable def rclearS (P : Program) (h : Tr SO) (nx : Nat) (el : TypeId) (v : Value) : Option SN := match v with
  | .slice none _ _ => some (.val (.tuple #[]) h nx)
  | .slice (some ⟨k, o, none⟩) n _ => bif Nat.beq n 0 then some (.val (.tuple #[]) h nx) else on1 (zeroOf P el) fun z => on1 (h.get k) (rclear3 h nx k o n z.cells.toList)
  | _ => none
noncomputable def rclearM (h : Tr SO) (nx : Nat) (v : Value) : Option SN := match v with
  | .map none => some (.val (.tuple #[]) h nx)
  | .map (some k) => on1 (h.get k) (rclear2 h nx k)
  | _ => none
noncomputable def rclear (P : Program) (h : Tr SO) (nx : Nat) (t : TypeId) (v : Value) : Option SN := match P.underlying t with
  | some (.map _ _) => rclearM h nx v
  | some (.slice el) => rclearS P h nx el v
  | _ => none
theorem zeroCells_reps (z : Array Value) : ∀ n, (Builtin.zeroCells z n).toList = reps z.toList n
  | 0 => by
    have : reps z.toList 0 = [] := rfl
    rw [this]; simp [Builtin.zeroCells]
  | n + 1 => by
    have ih := zeroCells_reps z n
    have h1 : reps z.toList (n + 1) = z.toList ++ reps z.toList n := rfl
    rw [h1, ← ih]
    unfold Builtin.zeroCells
    rw [Array.toList_map, Array.toList_map, Array.toList_range, Array.toList_range, Nat.succ_mul, Nat.add_comm, List.range_add, List.map_append, List.map_map]
    congr 1
    · apply List.ext_getElem (by simp)
      intro i h1 h2
      have hi : i < z.size := by simpa using h2
      simp [Nat.mod_eq_of_lt hi, hi]
    · apply List.map_congr_left
      intro i _
      simp
theorem reps_mem {l : List Value} {v : Value} : ∀ {n : Nat}, v ∈ reps l n → v ∈ l
  | 0, h => by cases h
  | n + 1, h => by
    rcases List.mem_append.1 (show v ∈ l ++ reps l n from h) with h | h
    · exact h
    · exact reps_mem h
theorem reps_rl {l l' : List Value} (h : Rl θ ρ l l') : ∀ n, Rl θ ρ (reps l n) (reps l' n)
  | 0 => Rl.nil
  | n + 1 => Rl.append h (reps_rl h n)
theorem reps_len (l : List Value) : ∀ n, (reps l n).length = n * l.length
  | 0 => by
    have : reps l 0 = [] := rfl
    rw [this]; simp
  | n + 1 => by
    show (l ++ reps l n).length = _
    rw [List.length_append, reps_len l n, Nat.succ_mul, Nat.add_comm]
theorem rclear_ok (hh : HT θ w0 ρ h nx w) {t ty : TypeId} {x x' : Value} (hx : Rv θ ρ x x') {r : SN} (hs : rclear P h nx t x = some r) : ∃ v h' nx', r = .val v h' nx' ∧ Val θ w0 ρ v h' nx' ((Builtin.clear_ #[t] ty #[x']).run P w) := by
  unfold rclear at hs
  split at hs
  · rename_i a b hu
    unfold rclearM at hs
    split at hs
    · cases hs
      obtain rfl := hx.toM0
      exact ⟨_, _, _, rfl, .same hh Rv.undef (by simp [Builtin.clear_, run_underlying hu]; rfl)⟩
    · rename_i k
      obtain ⟨p, hp, rfl⟩ := hx.toMap
      obtain ⟨so, hk, hs⟩ := on1_ok hs
      unfold rclear2 at hs
      split at hs
      · rename_i m ck
        cases hs
        obtain ⟨es, g1, g2⟩ := hh.mapAt hk hp
        exact ⟨_, _, _, rfl, ρ, _, _, .refl ρ, Rv.undef, hh.setMap (m' := []) hk hp (es' := #[]) trivial, by simp [Builtin.clear_, run_underlying hu, run_getMap g1, run_setMap g1]; rfl⟩
      · cases hs
    · cases hs
  · rename_i el hu
    unfold rclearS at hs
    split at hs
    · cases hs
      cases hx
      exact ⟨_, _, _, rfl, .same hh Rv.undef (by simp [Builtin.clear_, run_underlying hu]; rfl)⟩
    · rename_i k o n c
      cases hx with
      | sl hp hn hcap =>
        rename_i c' p a
        cases hz : Nat.beq n 0 with
        | true =>
          rw [hz] at hs
          cases hs
          have := Nat.eq_of_beq_eq_true hz
          subst this
          exact ⟨_, _, _, rfl, .same hh Rv.undef (by simp [Builtin.clear_, run_underlying hu]; rfl)⟩
        | false =>
          rw [hz] at hs
          simp only [cond_false] at hs
          have hn0 : n ≠ 0 := fun e => by subst e; cases hz
          obtain ⟨z, hzo, hs⟩ := on1_ok hs
          obtain ⟨so, hk, hs⟩ := on1_ok hs
          obtain ⟨⟨i, hi, hz2⟩, hok⟩ := zeroOf_ok hzo
          unfold rclear3 at hs
          split at hs
          · rename_i cl T sz
            cases hcd : (z.cells.toList.all Value.oneCell' && Nat.ble (Nat.add o (Nat.mul n z.cells.toList.length)) cl.len) with
            | false => rw [hcd] at hs; cases hs
            | true =>
              rw [hcd] at hs
              cases hs
              rw [Bool.and_eq_true] at hcd
              have hle : o + n * z.cells.toList.length ≤ cl.len := Nat.le_of_ble_eq_true hcd.2
              have ha : a = ⟨p.b, p.s + o, none⟩ := by
                rcases hcap.2 with e | e
                · omega
                · exact e
              subst ha
              have hz1 : Rl θ ρ z.cells.toList z.cells.toList := Ra.list.1 (okc_rv hok).cells
              obtain ⟨w', g1, g2⟩ := hh.write (P := P) hk hp (o := o) (reps_rl hz1 n) (fun v hv => List.all_eq_true.1 hcd.1 v (reps_mem hv)) (by rw [reps_len]; exact hle)
              refine ⟨_, _, _, rfl, ρ, _, _, .refl ρ, Rv.undef, g2, ?_⟩
              cases n with
              | zero => exact absurd rfl hn0
              | succ n =>
                simp [Builtin.clear_, run_underlying hu, zeroValue, typeInfo, hi, hz2, zeroCells_reps, g1]
                rfl
          · cases hs
    · cases hs
  · cases hs
/-- Cells of zeros behind an empty slice. -/
noncomputable def rapZ3 (h : Tr SO) (nx m : Nat) (el : TypeId) (i : TypeInfo) (z : Value) : Option SN := bif Nat.blt 0 i.size && Nat.ble i.bytes 1048576 && Nat.blt 0 m && Nat.ble m 1048576 && Nat.beq z.cells.size i.size then
  some (.val (.slice (some ⟨nx, 0, none⟩) m m) (h.put nx (.cells (.of (reps z.cells.toList m)) el true i.size)) (Nat.add nx 1)) else none
noncomputable def rapZ2 (P : Program) (h : Tr SO) (nx m : Nat) (d dn : TypeDesc) : Option SN := match d, dn with
  | .slice el, .int _ => on2 (P.info? el) (zeroOf P el) (rapZ3 h nx m el)
  | _, _ => none
noncomputable def rapZ (P : Program) (h : Tr SO) (nx : Nat) (t tn : TypeId) (x y : Value) : Option SN := match x, y with
  | .slice none _ _, .int _ (.ofNat m) => on2 (P.underlying t) (P.underlying tn) (rapZ2 P h nx m)
  | _, _ => none
theorem rapZ_ok (hh : HT θ w0 ρ h nx w) {t tn ty : TypeId} {x x' y y' : Value} (hx : Rv θ ρ x x') (hy : Rv θ ρ y y') {r : SN} (hs : rapZ P h nx t tn x y = some r) : ∃ v h' nx', r = .val v h' nx' ∧ Val θ w0 ρ v h' nx' ((Builtin.append_ #[t, tn] ty #[x', y']).run P w) := by
  unfold rapZ at hs
  split at hs
  · rename_i kk m
    obtain ⟨d, dn, hu, hun, hs⟩ := on2_ok hs
    unfold rapZ2 at hs
    split at hs
    · rename_i el kn
      obtain ⟨i, z, hi, hz0, hs⟩ := on2_ok hs
      obtain ⟨⟨i', hi', hz⟩, hkz⟩ := zeroOf_ok hz0
      rw [hi] at hi'; cases hi'
      unfold rapZ3 at hs
      cases hc : (Nat.blt 0 i.size && Nat.ble i.bytes 1048576 && Nat.blt 0 m && Nat.ble m 1048576 && Nat.beq z.cells.size i.size) with
      | false => rw [hc] at hs; cases hs
      | true =>
        rw [hc] at hs
        cases hs
        simp only [Bool.and_eq_true] at hc
        obtain ⟨⟨⟨⟨a1, a2⟩, a4⟩, a5⟩, a6⟩ := hc
        have a1 : 0 < i.size := by simpa [Nat.blt_eq] using a1
        have a2 := Nat.le_of_ble_eq_true a2
        have a4 : 0 < m := by simpa [Nat.blt_eq] using a4
        have a5 := Nat.le_of_ble_eq_true a5
        have a6 := Nat.eq_of_beq_eq_true a6
        obtain ⟨rfl, rfl, rfl⟩ := hx.toS0
        obtain rfl := hy.toInt
        have hz1 : Rl θ ρ z.cells.toList z.cells.toList := Ra.list.1 (okc_rv hkz).cells
        have hrun := Go.Lib.run_append_nil_zeros (P := P) w t tn ty el i z kk kn hu hun hi hz m a4 a1 (by omega) (by have := small_bytes (a := m) (by omega) a2; omega)
        obtain ⟨ρ', v', k1, k2, k3, rfl⟩ := grow_ok (w := w) hh (el := el) a6 a1 (reps_rl hz1 m) (by rw [reps_len, Array.length_toList, a6]) (grownCap w m 0 el) (grownCap_ge w m 0 el) (h1 := h) (fun _ _ e => e)
        have harr : (reps z.cells.toList m).toArray = Builtin.zeroCells z.cells m := by rw [← zeroCells_reps]
        rw [harr] at k3
        exact ⟨_, _, _, rfl, ρ', _, _, k1, k2, k3, hrun⟩
    · cases hs
  · cases hs
end
end Ex
end Go.Proofs.YtlcdaalalihaiaaGreat
