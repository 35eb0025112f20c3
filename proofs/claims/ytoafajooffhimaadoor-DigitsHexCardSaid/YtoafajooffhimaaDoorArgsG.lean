/- A law's arguments of any make: structs of structs, slices inside of structs; read off the first world. -/
import Derived.Test.YtoafajooffhimaaDoorArgs
import Derived.Test.YtoafajooffhimaaDoorGoLH
namespace Go.Proofs.YtoafajooffhimaaDoor
open Go Go.RowKit Go.MapKept Go.ChangeShapes Go.WideShapes Go.Deep Go.Joins
set_option linter.unusedVariables false
set_option maxRecDepth 100000

/-- What a cell may be. -/
inductive CK where
  | int (k : IntKind)
  | bool
  | str
  | slice (t : TypeId)
section
variable {H : Type} (enc0 : TypeId × Value → H) (P : Program) (W : World) (sp : Nat → Bool) (held : Bool)
def okCell : CK → Value → Prop
  | .int k, v => ∃ a, v = .int k a ∧ (Lit.int k a).wf = true
  | .bool, v => ∃ b, v = .bool b
  | .str, v => ∃ s : ByteArray, v = .string s ∧ s.size ≤ maxLen
  | .slice t, v => ∃ n x, DataW.trod enc0 P W 0 sp held n t [v] = some x
def okCells : List CK → List Value → Prop
  | [], cs => cs = []
  | k :: ks, cs => ∃ v cs', cs = v :: cs' ∧ okCell enc0 P W sp held k v ∧ okCells ks cs'
end
def ckF (P : Program) (g : TypeId → Option (List CK)) : List Field → Nat → Option (List CK)
  | [], _ => some []
  | f :: fs, off => if f.offset = off then match g f.type with
    | none => none
    | some ks => if P.cellsOf f.type = ks.length then (ckF P g fs (off + ks.length)).map (ks ++ ·) else none
    else none
def ckind (P : Program) : Nat → TypeId → Option (List CK)
  | 0, _ => none
  | k + 1, t => match P.underlying t with
    | some (.int kk) => some [.int kk]
    | some .bool => some [.bool]
    | some .string => some [.str]
    | some (.slice _) => some [.slice t]
    | some (.struct fs) => match ckF P (ckind P k) fs.toList 0 with
      | none => none
      | some ks => if P.cellsOf t = ks.length then some ks else none
    | some (.array n e) => match ckind P k e with
      | none => none
      | some ks => if P.cellsOf e = ks.length ∧ P.cellsOf t = n * ks.length then some (List.replicate n ks).flatten else none
    | _ => none
section
variable {H : Type} {enc0 : TypeId × Value → H} {P : Program} {W : World} {sp : Nat → Bool} {held : Bool}
theorem okCells_len : ∀ {ks : List CK} {cs : List Value}, okCells enc0 P W sp held ks cs → cs.length = ks.length
  | [], cs, h => by cases h; rfl
  | k :: ks, cs, ⟨v, cs', e, _, h⟩ => by subst e; simp [okCells_len h]
theorem okCells_app : ∀ {ks js : List CK} {cs ds : List Value}, okCells enc0 P W sp held ks cs → okCells enc0 P W sp held js ds → okCells enc0 P W sp held (ks ++ js) (cs ++ ds)
  | [], js, cs, ds, h, g => by cases h; exact g
  | k :: ks, js, cs, ds, ⟨v, cs', e, hv, h⟩, g => by subst e; exact ⟨v, cs' ++ ds, rfl, hv, okCells_app h g⟩
theorem ckF_ok {g : TypeId → Option (List CK)} {cs : List Value} {n : Nat} (hg : ∀ t ks, g t = some ks → ∀ cs x, DataW.trod enc0 P W 0 sp held n t cs = some x → okCells enc0 P W sp held ks cs) :
    ∀ (fs : List Field) (off : Nat) (ks : List CK), ckF P g fs off = some ks → off + ks.length ≤ cs.length → (∀ (i : Nat) (f : Field), fs[i]? = some f → ∃ x, DataW.trod enc0 P W 0 sp held n f.type ((cs.drop f.offset).take (P.cellsOf f.type)) = some x) →
      okCells enc0 P W sp held ks ((cs.drop off).take ks.length)
  | [], off, ks, h, hl, _ => by
    unfold ckF at h
    cases h
    simp [okCells]
  | f :: fs, off, ks, h, hl, hf => by
    unfold ckF at h
    split at h
    · rename_i ho
      split at h
      · cases h
      · rename_i k0 hk
        split at h
        · rename_i hc
          simp only [Option.map_eq_some_iff] at h
          obtain ⟨k1, hk1, rfl⟩ := h
          rw [List.length_append] at hl
          have ih := ckF_ok hg fs (off + k0.length) k1 hk1 (by omega) (fun i f hi => hf (i + 1) f (by simpa using hi))
          obtain ⟨x, hx⟩ := hf 0 f rfl
          rw [ho, hc] at hx
          have h0 := hg _ _ hk _ _ hx
          have e : (cs.drop off).take (k0 ++ k1).length = (cs.drop off).take k0.length ++ (cs.drop (off + k0.length)).take k1.length := by
            rw [List.length_append, List.take_add, List.drop_drop]
          rw [e]
          exact okCells_app h0 ih
        · cases h
    · cases h
theorem ckind_ok : ∀ (k : Nat) (t : TypeId) (ks : List CK), ckind P k t = some ks → ∀ (n : Nat) (cs : List Value) (x : DataW H × List MemPlace), DataW.trod enc0 P W 0 sp held n t cs = some x → okCells enc0 P W sp held ks cs
  | 0, t, ks, h, _, _, _, _ => by cases h
  | k + 1, t, ks, h, n, cs, x, hx => by
    unfold ckind at h
    split at h
    · rename_i kk hu
      cases h
      obtain ⟨a, rfl, _, hw⟩ := DataW.trod_int hu hx
      exact ⟨_, _, rfl, ⟨a, rfl, hw⟩, rfl⟩
    · rename_i hu
      cases h
      obtain ⟨b, rfl, _⟩ := DataW.trod_bool hu hx
      exact ⟨_, _, rfl, ⟨b, rfl⟩, rfl⟩
    · rename_i hu
      cases h
      obtain ⟨s, rfl, _, hs⟩ := DataW.trod_string hu hx
      exact ⟨_, _, rfl, ⟨s, rfl, hs⟩, rfl⟩
    · rename_i e hu
      cases h
      have hx' := hx
      rcases DataW.trod_slice hu hx with ⟨rfl, _⟩ | ⟨a, len, cap, _, _, _, _, rfl, _⟩
      · exact ⟨_, _, rfl, ⟨n, x, hx'⟩, rfl⟩
      · exact ⟨_, _, rfl, ⟨n, x, hx'⟩, rfl⟩
    · rename_i fs hu
      split at h
      · cases h
      · rename_i ks0 hk
        split at h
        · rename_i hc
          cases h
          obtain ⟨xs, m, rfl, _, hl, hxl, hf⟩ := DataW.trod_struct hu hx
          have := ckF_ok (cs := cs) (n := m) (fun t ks hks cs x hx => ckind_ok k t ks hks m cs x hx) fs.toList 0 ks hk (by omega) (fun i f hi => by
            have hi' : fs[i]? = some f := by simpa using hi
            have h1 := hf i f hi'
            have hil : i < xs.length := by rw [hxl]; exact (Array.getElem?_eq_some_iff.1 hi').1
            rw [List.getElem?_eq_getElem hil] at h1
            exact ⟨_, h1⟩)
          rw [List.drop_zero, List.take_of_length_le (by omega)] at this
          exact this
        · cases h
    · rename_i len e hu
      split at h
      · cases h
      · rename_i ks0 hk
        split at h
        · rename_i hc
          cases h
          obtain ⟨hc1, hc2⟩ := hc
          obtain ⟨xs, m, rfl, _, hl, hxl, hf⟩ := DataW.trod_array hu hx
          rw [hc1] at hf
          have key : ∀ q, q ≤ len → okCells enc0 P W sp held (List.replicate q ks0).flatten (cs.take (q * ks0.length)) := by
            intro q
            induction q with
            | zero => intro _; simp [okCells]
            | succ q ih =>
              intro hq
              have h1 := ih (by omega)
              have h2 := hf q (by omega)
              have hql : q < xs.length := by omega
              rw [List.getElem?_eq_getElem hql] at h2
              have h3 := ckind_ok k e ks0 hk m _ _ h2
              have e1 : cs.take ((q + 1) * ks0.length) = cs.take (q * ks0.length) ++ (cs.drop (q * ks0.length)).take ks0.length := by
                rw [Nat.succ_mul, List.take_add]
              have e2 : (List.replicate (q + 1) ks0).flatten = (List.replicate q ks0).flatten ++ ks0 := by
                rw [List.replicate_succ', List.flatten_append]; simp
              rw [e1, e2]
              exact okCells_app h1 h3
          have := key len (Nat.le_refl _)
          rw [List.take_of_length_le (by omega)] at this
          exact this
        · cases h
    · cases h
end

/-- All of the first world is there, for reading. -/
class SeesAll (W : World) (F : List HProp) : Prop where
  at_ : ∀ w, holds w F → holds w [allOf W]
instance {W : World} {F : List HProp} : SeesAll W (allOf W :: F) := ⟨fun w h => (show holds w ([allOf W] ++ F) from h).perm_drop (.refl _)⟩
instance (priority := 500) {W : World} {F : List HProp} {X : HProp} [h : SeesAll W F] : SeesAll W (X :: F) := ⟨fun w hw => h.at_ w hw.tail⟩
section
variable {H : Type} {enc0 : TypeId × Value → H} {P : Program} {W : World} {sp : Nat → Bool} {held : Bool}
/-- A slice, read off the first world. -/
theorem arg_row {t e : TypeId} {v : Value} {n : Nat} {x : DataW H × List MemPlace} {α : Type} {enc : α → List Value} {size : Nat} [he : Enc enc size] (Good : α → Prop)
    (ht : P.underlying t = some (.slice e)) (hC : P.cellsOf e = size) (h : DataW.trod enc0 P W 0 sp held n t [v] = some x)
    (hel : ∀ n cs x, DataW.trod enc0 P W 0 sp held n e cs = some x → ∃ a, Good a ∧ cs = enc a) :
    ∃ l : List α, (∀ a ∈ l, Good a) ∧ l.length ≤ maxLen ∧ ∀ (F : List HProp) [SeesAll W F], Reads F v enc size l := by
  have h0 : 0 < size := he.pos
  have hs := he.len
  rcases open_slice ht h with ⟨hcs, _⟩ | ⟨a, len, cap, m, n, D, Pl, hcs, _, hl, hm, hmm, _, hi⟩
  · cases hcs
    exact ⟨[], by simp, Nat.zero_le _, fun F hF => ⟨fun w hw => holds.roReads (holds_roRow_nil hw size)⟩⟩
  · cases hcs
    rw [hC] at hi
    have hlm : len ≤ m := by rw [hmm]; split <;> omega
    have build : ∀ k, k ≤ len → ∃ l : List α, l.length = k ∧ (∀ x ∈ l, Good x) ∧ ∀ i (hil : i < l.length) j, j < size → W.cell? ((a.add (i * size)).add j) = (enc l[i])[j]? := by
      intro k
      induction k with
      | zero => exact fun _ => ⟨[], rfl, by simp, fun i hil => by simp at hil⟩
      | succ k ih =>
        intro hk
        obtain ⟨l, h1, h2, h3⟩ := ih (by omega)
        obtain ⟨cs', hc, ht'⟩ := hi k (by omega)
        obtain ⟨x, hx, hcx⟩ := hel _ _ _ ht'
        subst hcx
        obtain ⟨_, _, hat⟩ := World.cells?_some hc
        refine ⟨l ++ [x], by simp [h1], fun y hy => ?_, fun i hil j hj => ?_⟩
        · rcases List.mem_append.1 hy with hy | hy
          · exact h2 y hy
          · simp at hy; rw [hy]; exact hx
        · by_cases hik : i < l.length
          · rw [List.getElem_append_left hik]; exact h3 i hik j hj
          · have : i = k := by simp at hil; omega
            subst this
            rw [List.getElem_append_right (by omega)]
            simp only [h1, Nat.sub_self, List.getElem_cons_zero]
            exact hat j hj
    obtain ⟨l, h1, h2, h3⟩ := build len (Nat.le_refl _)
    subst h1
    by_cases hz : l.length = 0
    · have : l = [] := List.eq_nil_of_length_eq_zero hz
      subst this
      exact ⟨[], by simp, Nat.zero_le _, fun F hF => ⟨fun w hw => holds.roReads (hw.mkRo0 size 0 (some a) cap (Nat.zero_le _) (by simp))⟩⟩
    · obtain ⟨b, off, spot⟩ := a
      have hc := h3 0 (by omega) 0 h0
      simp only [Nat.zero_mul, Addr.add, if_true] at hc
      rw [List.getElem?_eq_getElem (by rw [hs]; exact h0)] at hc
      have hspot : spot = none := by simpa using World.cell?_spot hc
      subst hspot
      refine ⟨l, h2, by omega, fun F hF => ⟨fun w hw => holds.roReads ((hF.at_ w hw).argRow (flatA_len enc size hs l) hl fun i hil => ?_)⟩⟩
      have hq : i / size < l.length := (Nat.div_lt_iff_lt_mul h0).2 hil
      have hr : i % size < size := Nat.mod_lt _ h0
      have he : i / size * size + i % size = i := Nat.div_add_mod' i size
      have h4 := h3 (i / size) hq (i % size) hr
      rw [spotless, spotless, Nat.add_assoc, he, ← flatA_at enc size hs l _ _ hq hr, he] at h4
      exact h4
/-- A slice that is a parameter. -/
theorem arg_slice1 {t e : TypeId} {r : Reach} {b0 : Nat} {v : Value} {d : DataW H} {p : List MemPlace} (ht : P.underlying t = some (.slice e)) (hv : Value.okWide P W r b0 t v) (h : DataW.Trod enc0 P W 0 sp held t v d p) : ∃ n x, DataW.trod enc0 P W 0 sp held n t [v] = some x := by
  obtain ⟨a0, len0, cap0, rfl⟩ := okWide_slice ht hv
  obtain ⟨fuel, hf⟩ := h
  exact ⟨fuel, _, hf⟩
/-- A struct that is a parameter. -/
theorem arg_struct {t : TypeId} {fs : Array Field} {r : Reach} {b0 : Nat} {v : Value} {d : DataW H} {p : List MemPlace} (ht : P.underlying t = some (.struct fs)) {k : Nat} {ks : List CK} (hk : ckind P k t = some ks) (hv : Value.okWide P W r b0 t v) (h : DataW.Trod enc0 P W 0 sp held t v d p) :
    ∃ cs : List Value, v = .agg cs.toArray ∧ okCells enc0 P W sp held ks cs := by
  obtain ⟨cs, rfl, hsz⟩ := okWide_struct ht hv
  obtain ⟨fuel, hf⟩ := h
  exact ⟨cs.toList, by simp, ckind_ok k t ks hk _ _ _ hf⟩
theorem okWide_array {t e : TypeId} {n : Nat} {r : Reach} {b0 : Nat} {v : Value} (ht : P.underlying t = some (.array n e)) (h : Value.okWide P W r b0 t v) : ∃ cs, v = .agg cs := by
  simp only [Value.okWide, ht] at h
  obtain ⟨cs, h1, _⟩ := h
  exact ⟨cs, h1⟩
theorem arg_array {t e : TypeId} {n : Nat} {r : Reach} {b0 : Nat} {v : Value} {d : DataW H} {p : List MemPlace} (ht : P.underlying t = some (.array n e)) {k : Nat} {ks : List CK} (hk : ckind P k t = some ks) (hv : Value.okWide P W r b0 t v) (h : DataW.Trod enc0 P W 0 sp held t v d p) :
    ∃ cs : List Value, v = .agg cs.toArray ∧ okCells enc0 P W sp held ks cs := by
  obtain ⟨cs, rfl⟩ := okWide_array ht hv
  obtain ⟨fuel, hf⟩ := h
  exact ⟨cs.toList, by simp, ckind_ok k t ks hk _ _ _ hf⟩
end
theorem wf_i64 {a : Int} (h : (Lit.int .i64 a).wf = true) : -9223372036854775808 ≤ a ∧ a < 9223372036854775808 := by
  simp [Lit.wf, IntKind.min, IntKind.max, IntKind.signed, IntKind.bits] at h; omega
end Go.Proofs.YtoafajooffhimaaDoor
