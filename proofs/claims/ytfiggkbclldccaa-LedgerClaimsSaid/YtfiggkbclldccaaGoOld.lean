/- Contracts of the older road in the new one: what only reads is done over all of the world that is there, and nothing of it has turned. -/
import Derived.Test.YtfiggkbclldccaaGoLH
import Derived.Test.YtfiggkbclldccaaSepD
namespace Go.Proofs.Ytfiggkbclldccaa
open Go Go.RowKit Go.MapKept
set_option linter.unusedVariables false
set_option linter.unusedSectionVars false

/-- A piece that tells of blocks of its own alone. -/
class OwnP (X : HProp) : Prop where
  mono : ∀ f f' : Frag, (∀ k o, f.get k = some (o, true) → f'.get k = some (o, true)) → X f → X f'
instance {b : Nat} {o : Obj} : OwnP (blk b o) := ⟨fun f f' h hx => h b o hx⟩
instance {e : TypeId} {size n : Nat} {v : Value} {xs : List Value} : OwnP (ownRow e size v n xs) := ⟨fun f f' h hx => by
  obtain ⟨h1, h2⟩ := hx
  refine ⟨h1, ?_⟩
  rcases h2 with h2 | ⟨g, cap, cur, e1, e2, e3⟩
  · exact .inl h2
  · exact .inr ⟨g, cap, cur, e1, h g _ e2, e3⟩⟩
instance {α : Type} {T : TypeId} {enc : α → List Value} {n : Nat} {v : Value} {l : List α} : OwnP (owns T enc n v l) := inferInstanceAs (OwnP (ownRow _ _ _ _ _))
instance {v : Value} {l : List Int} : OwnP (ownInts v l) := inferInstanceAs (OwnP (ownRow _ _ _ _ _))
instance {β : Type} {enc : β → Value} {b : Nat} {m : List (Int × β)} : OwnP (imap enc b m) := ⟨fun f f' h hx => by
  obtain ⟨es, clock, h1, h2⟩ := hx
  exact ⟨es, clock, h1, h b _ h2⟩⟩
theorem holds.back0 {w w' : World} {F : List HProp} (hF : holds w F) (h : holds w' [allOf w]) : holds w' F := hF.below h.below_all
theorem holds.back1 {w w' : World} {F : List HProp} {X : HProp} [hX : OwnP X] (hF : holds w F) (h : holds w' [X, allOf w]) : holds w' (X :: F) := by
  have hb : Below w.heap.size w w' := (h.pick 1).below_all
  obtain ⟨f', hf', f1, f2, hx, ⟨g1, g2, hg1, _, j2⟩, j⟩ := h
  obtain ⟨f, hf, hs⟩ := hF
  let fx : Frag := ⟨f.os, f.tape, f.output, fun k => match f1.get k with | some (o, true) => some (o, true) | _ => none⟩
  have hfx : ∀ k o p, fx.get k = some (o, p) → p = true ∧ f1.get k = some (o, true) := fun k o p h => by
    have h : (match f1.get k with | some (o, true) => some (o, true) | _ => none) = some (o, p) := h
    split at h
    · rename_i o' he; cases h; exact ⟨rfl, he⟩
    · cases h
  have hnew : ∀ k o, f1.get k = some (o, true) → f.get k = none := fun k o hk => by
    cases hfk : f.get k with
    | none => rfl
    | some y =>
      exfalso
      have h1 := hf.2.2.2 k y.1 y.2 hfk
      have h2 := hg1.2.2.2 k y.1 h1
      have h3 : f2.get k ≠ none := by
        rcases j2.at_ k with ⟨a, b⟩ | ⟨a, b⟩ | ⟨o', a, b, c⟩
        · rw [h2] at a; cases a
        · rw [← b, h2]; simp
        · rw [c]; simp
      rcases j.at_ k with ⟨a, b⟩ | ⟨a, b⟩ | ⟨o', a, b, c⟩
      · rw [hk] at a; cases a
      · exact h3 a
      · rw [hk] at a; cases a
  refine ⟨⟨f.os, f.tape, f.output, fun k => (fx.get k).or (f.get k)⟩, ⟨hf.1.trans hb.os.symm, hf.2.1.trans hb.tape.symm, hf.2.2.1.trans hb.output.symm, fun k o p hk => ?_⟩, fx, f, hX.mono f1 fx (fun k o hk => by show (match f1.get k with | some (o, true) => some (o, true) | _ => none) = _; rw [hk]) hx, hs, ⟨rfl, rfl, rfl, rfl, rfl, rfl, fun k => ?_⟩⟩
  · have hk : (fx.get k).or (f.get k) = some (o, p) := hk
    cases hfk : fx.get k with
    | some y =>
      rw [hfk] at hk
      obtain ⟨o1, p1⟩ := y
      cases hk
      obtain ⟨rfl, h1⟩ := hfx k o p hfk
      have h2 : f'.get k = some (o, true) := by
        rcases j.at_ k with ⟨a, b⟩ | ⟨a, b⟩ | ⟨o', a, b, c⟩
        · rw [h1] at a; cases a
        · rw [← b, h1]
        · rw [h1] at a; cases a
      exact hf'.2.2.2 k o true h2
    | none =>
      rw [hfk] at hk
      have hk : f.get k = some (o, p) := by simpa using hk
      have hh := hf.2.2.2 k o p hk
      rw [hb.block k (Array.getElem?_eq_some_iff.1 hh).1]; exact hh
  · cases hfk : fx.get k with
    | none => exact .inl ⟨rfl, by simp [hfk]⟩
    | some y =>
      obtain ⟨o1, p1⟩ := y
      obtain ⟨rfl, h1⟩ := hfx k o1 p1 hfk
      exact .inr (.inl ⟨hnew k o1 h1, by simp [hfk]⟩)
/-- What is read may be had for reading. -/
theorem reads.held {w : World} {size n : Nat} {v : Value} {xs : List Value} (h : reads w size v n xs) {L : List HProp} (hL : holds w (allOf w :: L)) : holds w (roRow size v n xs :: allOf w :: L) := by
  obtain ⟨hl, a, cap, rfl, hcap, h2⟩ := h
  rcases h2 with h0 | ⟨b, off, rfl, hc⟩
  · obtain ⟨f, hf, hs⟩ := hL
    exact ⟨f, hf, ⟨f.os, f.tape, f.output, fun _ => none⟩, f, ⟨hl, a, cap, rfl, hcap, .inl h0⟩, hs, ⟨rfl, rfl, rfl, rfl, rfl, rfl, fun k => .inl ⟨rfl, rfl⟩⟩⟩
  · by_cases h0 : n * size = 0
    · obtain ⟨f, hf, hs⟩ := hL
      exact ⟨f, hf, ⟨f.os, f.tape, f.output, fun _ => none⟩, f, ⟨hl, _, cap, rfl, hcap, .inl h0⟩, hs, ⟨rfl, rfl, rfl, rfl, rfl, rfl, fun k => .inl ⟨rfl, rfl⟩⟩⟩
    · have hpos : 0 < n * size := by omega
      have hcell := hc 0 hpos
      obtain ⟨cur, e, fz, hb⟩ : ∃ cur e fz, w.heap[b]? = some (.cells cur e fz) := by
        have hx : xs[0]? = some (xs[0]'(by omega)) := List.getElem?_eq_getElem (by omega)
        rw [hx] at hcell
        unfold World.cell? at hcell
        cases hh : w.heap[b]? with
        | none => simp [hh] at hcell
        | some o => cases o <;> simp [hh] at hcell; exact ⟨_, _, _, rfl⟩
      have hci : ∀ i, i < n * size → cur[off + i]? = xs[i]? := fun i hi => by
        rw [← hc i hi, cell_of_row w b (off + i) cur e fz hb]
      have hsz : off + n * size ≤ cur.size := by
        have h1 := hci (n * size - 1) (by omega)
        rw [List.getElem?_eq_getElem (by omega)] at h1
        have := (Array.getElem?_eq_some_iff.1 h1).1
        omega
      have h4 := hL.all_ro hb
      obtain ⟨f, hf, f1, f2, h5, h6, j⟩ := h4
      refine ⟨f, hf, f1, f2, ⟨hl, _, cap, rfl, hcap, .inr ⟨b, off, cur, e, fz, rfl, h5, hsz, ?_⟩⟩, h6, j⟩
      apply List.ext_getElem?
      intro i
      by_cases hi : i < n * size
      · rw [List.getElem?_take, if_pos hi, List.getElem?_drop, Array.getElem?_toList, hci i hi]
      · rw [List.getElem?_take, if_neg hi, List.getElem?_eq_none (by omega)]
theorem Reads.held {α : Type} {F : List HProp} {v : Value} {enc : α → List Value} {n : Nat} {l : List α} [h : Reads F v enc n l] {w : World} (hw : holds w F) {L : List HProp} (hL : holds w (allOf w :: L)) : holds w (rows enc n v l :: allOf w :: L) := (h.at_ w hw).held hL
end Go.Proofs.Ytfiggkbclldccaa
