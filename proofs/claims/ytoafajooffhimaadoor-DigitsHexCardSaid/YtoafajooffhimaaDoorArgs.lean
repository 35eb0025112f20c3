/- A law's arguments as they come in, read as pieces of the first world. -/
import Derived.Test.YtoafajooffhimaaDoorSepD
import Derived.Deep.Slices
import Derived.Deep.Fields
import Derived.ChangeSame
import Derived.OpenShut
import Derived.Lib.SmallJoins
namespace Go.Proofs.YtoafajooffhimaaDoor
open Go Go.RowKit Go.MapKept Go.ChangeShapes Go.WideShapes Go.Deep Go.Joins

theorem flatA_at {α : Type} (enc : α → List Value) (size : Nat) (hs : ∀ a, (enc a).length = size) : ∀ (l : List α) (i j : Nat) (hi : i < l.length), j < size → (l.flatMap enc)[i * size + j]? = (enc l[i])[j]?
  | [], i, j, hi, _ => by simp at hi
  | a :: l, 0, j, _, hj => by
    simp only [List.flatMap_cons, Nat.zero_mul, Nat.zero_add, List.getElem_cons_zero]
    rw [List.getElem?_append_left (by rw [hs]; exact hj)]
  | a :: l, i + 1, j, hi, hj => by
    have ih := flatA_at enc size hs l i j (by simpa using hi) hj
    simp only [List.flatMap_cons, List.getElem_cons_succ]
    rw [List.getElem?_append_right (by rw [hs, Nat.add_mul]; omega), hs, ← ih]
    congr 1
    rw [Nat.add_mul]
    omega

theorem flatA_len {α : Type} (enc : α → List Value) (size : Nat) (hs : ∀ a, (enc a).length = size) : ∀ (l : List α), (l.flatMap enc).length = l.length * size
  | [] => by simp
  | a :: l => by simp only [List.flatMap_cons, List.length_append, hs, flatA_len enc size hs l, List.length_cons, Nat.add_mul]; omega

theorem spotless {b off k : Nat} : (⟨b, off, none⟩ : Addr).add k = ⟨b, off + k, none⟩ := by unfold Addr.add; split <;> simp_all

section
variable {H : Type} {enc0 : TypeId × Value → H} {P : Program} {W : World} {r : Reach} {b0 : Nat} {sp : Nat → Bool} {held : Bool}

/-- A slice of whatever reads plainly. -/
theorem arg_slice {t e : TypeId} {v : Value} {d : DataW H} {p : List MemPlace} {α : Type} (enc : α → List Value) (size : Nat) (Good : α → Prop) (h0 : 0 < size) (hs : ∀ a, (enc a).length = size)
    (ht : P.underlying t = some (.slice e)) (hC : P.cellsOf e = size) (hv : Value.okWide P W r b0 t v) (h : DataW.Trod enc0 P W 0 sp held t v d p)
    (hel : ∀ n cs x, DataW.trod enc0 P W 0 sp held n e cs = some x → ∃ a, Good a ∧ cs = enc a) :
    ∃ l : List α, (∀ a ∈ l, Good a) ∧ l.length ≤ maxLen ∧ ∀ (w : World) (F : List HProp), holds w (allOf W :: F) → holds w (roRow size v l.length (l.flatMap enc) :: allOf W :: F) := by
  obtain ⟨a0, len0, cap0, rfl⟩ := okWide_slice ht hv
  obtain ⟨fuel, hf⟩ := h
  rcases open_slice ht hf with ⟨hcs, _⟩ | ⟨a, len, cap, m, n, D, Pl, hcs, _, hl, hm, hmm, _, hi⟩
  · simp [Value.cells] at hcs
    obtain ⟨rfl, rfl, rfl⟩ := hcs
    exact ⟨[], by simp, Nat.zero_le _, fun w F hw => holds_roRow_nil hw size⟩
  · simp [Value.cells] at hcs
    obtain ⟨rfl, rfl, rfl⟩ := hcs
    rw [hC] at hi
    have hlm : len0 ≤ m := by rw [hmm]; split <;> omega
    have build : ∀ k, k ≤ len0 → ∃ l : List α, l.length = k ∧ (∀ x ∈ l, Good x) ∧ ∀ i (hil : i < l.length) j, j < size → W.cell? ((a.add (i * size)).add j) = (enc l[i])[j]? := by
      intro k
      induction k with
      | zero => exact fun _ => ⟨[], rfl, by simp, fun i hil => by simp at hil⟩
      | succ k ih =>
        intro hk
        obtain ⟨l, h1, h2, h3⟩ := ih (by omega)
        obtain ⟨cs', hc, ht'⟩ := hi k (by omega)
        obtain ⟨x, hx, hcx⟩ := hel _ _ _ ht'
        subst hcx
        obtain ⟨_, _, hat⟩ := World.cells?_some hc
        refine ⟨l ++ [x], by simp [h1], fun y hy => ?_, fun i hil j hj => ?_⟩
        · rcases List.mem_append.1 hy with hy | hy
          · exact h2 y hy
          · simp at hy; rw [hy]; exact hx
        · by_cases hik : i < l.length
          · rw [List.getElem_append_left hik]; exact h3 i hik j hj
          · have : i = k := by simp at hil; omega
            subst this
            rw [List.getElem_append_right (by omega)]
            simp only [h1, Nat.sub_self, List.getElem_cons_zero]
            exact hat j hj
    obtain ⟨l, h1, h2, h3⟩ := build len0 (Nat.le_refl _)
    subst h1
    by_cases hz : l.length = 0
    · have : l = [] := List.eq_nil_of_length_eq_zero hz
      subst this
      exact ⟨[], by simp, Nat.zero_le _, fun w F hw => hw.mkRo0 size 0 (some a) cap0 (Nat.zero_le _) (by simp)⟩
    · obtain ⟨b, off, spot⟩ := a
      have hc := h3 0 (by omega) 0 h0
      simp only [Nat.zero_mul, Addr.add, if_true] at hc
      rw [List.getElem?_eq_getElem (by rw [hs]; exact h0)] at hc
      have hspot : spot = none := by simpa using World.cell?_spot hc
      subst hspot
      refine ⟨l, h2, by omega, fun w F hw => hw.argRow (flatA_len enc size hs l) hl fun i hil => ?_⟩
      have hq : i / size < l.length := (Nat.div_lt_iff_lt_mul h0).2 hil
      have hr : i % size < size := Nat.mod_lt _ h0
      have he : i / size * size + i % size = i := Nat.div_add_mod' i size
      have h4 := h3 (i / size) hq (i % size) hr
      rw [spotless, spotless, Nat.add_assoc, he, ← flatA_at enc size hs l _ _ hq hr, he] at h4
      exact h4

theorem arg_ints {t e : TypeId} {k : IntKind} {v : Value} {d : DataW H} {p : List MemPlace} (ht : P.underlying t = some (.slice e)) (he : P.underlying e = some (.int k)) (hC : P.cellsOf e = 1) (hv : Value.okWide P W r b0 t v) (h : DataW.Trod enc0 P W 0 sp held t v d p) :
    ∃ l : List Int, (∀ a ∈ l, (Lit.int k a).wf = true) ∧ l.length ≤ maxLen ∧ ∀ (w : World) (F : List HProp), holds w (allOf W :: F) → holds w (roRow 1 v l.length (l.map (.int k)) :: allOf W :: F) := by
  obtain ⟨l, h1, h2, h3⟩ := arg_slice (fun a => [.int k a]) 1 (fun a => (Lit.int k a).wf = true) (by omega) (fun _ => rfl) ht hC hv h (fun n cs x hx => by
    obtain ⟨a, rfl, _, hw⟩ := DataW.trod_int he hx
    exact ⟨a, hw, rfl⟩)
  have : l.flatMap (fun a => [Value.int k a]) = l.map (.int k) := by
    clear h1 h2 h3
    induction l with
    | nil => rfl
    | cons a l ih => simp [List.flatMap_cons, ih]
  rw [this] at h3
  exact ⟨l, h1, h2, h3⟩

/-- The cells of a struct, field by field. -/
theorem trod_fields {t : TypeId} {fs : Array Field} {fuel : Nat} {cs : List Value} {x : DataW H × List MemPlace} (ht : P.underlying t = some (.struct fs)) (hone : oneCellFields P fs = true) (hC : P.cellsOf t = fs.size)
    (h : DataW.trod enc0 P W 0 sp held fuel t cs = some x) : cs.length = fs.size ∧ ∀ (j : Nat) (f : Field), fs[j]? = some f → ∃ n u y, cs[j]? = some u ∧ DataW.trod enc0 P W 0 sp held n f.type [u] = some y := by
  obtain ⟨ys, n, _, _, hlen, hyl, hf⟩ := DataW.trod_struct ht h
  rw [hC] at hlen
  refine ⟨hlen, fun j f hj => ?_⟩
  obtain ⟨ho, hk⟩ := hone_of hone j f hj
  have hjl : j < fs.size := (Array.getElem?_eq_some_iff.1 hj).1
  have h1 := hf j f hj
  rw [ho, hk, List.drop_eq_getElem_cons (by omega)] at h1
  have hys : ys[j]? = some (ys[j]'(by omega)) := List.getElem?_eq_getElem (by omega)
  exact ⟨n, _, _, List.getElem?_eq_getElem (by omega), h1.trans hys⟩

end
end Go.Proofs.YtoafajooffhimaaDoor
