/- Contracts of the older road in the new one: what only reads is done over all of the world that is there, and nothing of it has turned. -/
import Derived.Test.YtfiggkbclldccaaGreatGoLH
import Derived.Test.YtfiggkbclldccaaGreatSepD
namespace Go.Proofs.YtfiggkbclldccaaGreat
open Go Go.RowKit Go.MapKept
set_option linter.unusedVariables false
set_option linter.unusedSectionVars false

/-- A piece that tells of blocks of its own alone. -/
class OwnP (X : HProp) : Prop where
  mono : ∀ f f' : Frag, (∀ k o, f.get k = some (o, true) → f'.get k = some (o, true)) → X f → X f'
instance {b : Nat} {o : Obj} : OwnP (blk b o) := ⟨fun f f' h hx => h b o hx⟩
instance {e : TypeId} {size n : Nat} {v : Value} {xs : List Value} : OwnP (ownRow e size v n xs) := ⟨fun f f' h hx => by
  obtain ⟨h1, h2⟩ := hx
  refine ⟨h1, ?_⟩
  rcases h2 with h2 | ⟨g, cap, cur, e1, e2, e3⟩
  · exact .inl h2
  · exact .inr ⟨g, cap, cur, e1, h g _ e2, e3⟩⟩
instance {α : Type} {T : TypeId} {enc : α → List Value} {n : Nat} {v : Value} {l : List α} : OwnP (owns T enc n v l) := inferInstanceAs (OwnP (ownRow _ _ _ _ _))
instance {v : Value} {l : List Int} : OwnP (ownInts v l) := inferInstanceAs (OwnP (ownRow _ _ _ _ _))
instance {β : Type} {enc : β → Value} {b : Nat} {m : List (Int × β)} : OwnP (imap enc b m) := ⟨fun f f' h hx => by
  obtain ⟨es, clock, h1, h2⟩ := hx
  exact ⟨es, clock, h1, h b _ h2⟩⟩
/-- What is read may be had for reading. -/
theorem reads.held {w : World} {size n : Nat} {v : Value} {xs : List Value} (h : reads w size v n xs) {L : List HProp} (hL : holds w (allOf w :: L)) : holds w (roRow size v n xs :: allOf w :: L) := by
  obtain ⟨hl, a, cap, rfl, hcap, h2⟩ := h
  rcases h2 with h0 | ⟨b, off, rfl, hc⟩
  · obtain ⟨f, hf, hs⟩ := hL
    exact ⟨f, hf, ⟨f.os, f.tape, f.output, fun _ => none⟩, f, ⟨hl, a, cap, rfl, hcap, .inl h0⟩, hs, ⟨rfl, rfl, rfl, rfl, rfl, rfl, fun k => .inl ⟨rfl, rfl⟩⟩⟩
  · by_cases h0 : n * size = 0
    · obtain ⟨f, hf, hs⟩ := hL
      exact ⟨f, hf, ⟨f.os, f.tape, f.output, fun _ => none⟩, f, ⟨hl, _, cap, rfl, hcap, .inl h0⟩, hs, ⟨rfl, rfl, rfl, rfl, rfl, rfl, fun k => .inl ⟨rfl, rfl⟩⟩⟩
    · have hpos : 0 < n * size := by omega
      have hcell := hc 0 hpos
      obtain ⟨cur, e, fz, hb⟩ : ∃ cur e fz, w.heap[b]? = some (.cells cur e fz) := by
        have hx : xs[0]? = some (xs[0]'(by omega)) := List.getElem?_eq_getElem (by omega)
        rw [hx] at hcell
        unfold World.cell? at hcell
        cases hh : w.heap[b]? with
        | none => simp [hh] at hcell
        | some o => cases o <;> simp [hh] at hcell; exact ⟨_, _, _, rfl⟩
      have hci : ∀ i, i < n * size → cur[off + i]? = xs[i]? := fun i hi => by
        rw [← hc i hi, cell_of_row w b (off + i) cur e fz hb]
      have hsz : off + n * size ≤ cur.size := by
        have h1 := hci (n * size - 1) (by omega)
        rw [List.getElem?_eq_getElem (by omega)] at h1
        have := (Array.getElem?_eq_some_iff.1 h1).1
        omega
      have h4 := hL.all_ro hb
      obtain ⟨f, hf, f1, f2, h5, h6, j⟩ := h4
      refine ⟨f, hf, f1, f2, ⟨hl, _, cap, rfl, hcap, .inr ⟨b, off, cur, e, fz, rfl, h5, hsz, ?_⟩⟩, h6, j⟩
      apply List.ext_getElem?
      intro i
      by_cases hi : i < n * size
      · rw [List.getElem?_take, if_pos hi, List.getElem?_drop, Array.getElem?_toList, hci i hi]
      · rw [List.getElem?_take, if_neg hi, List.getElem?_eq_none (by omega)]
theorem Reads.held {α : Type} {F : List HProp} {v : Value} {enc : α → List Value} {n : Nat} {l : List α} [h : Reads F v enc n l] {w : World} (hw : holds w F) {L : List HProp} (hL : holds w (allOf w :: L)) : holds w (rows enc n v l :: allOf w :: L) := (h.at_ w hw).held hL
end Go.Proofs.YtfiggkbclldccaaGreat
