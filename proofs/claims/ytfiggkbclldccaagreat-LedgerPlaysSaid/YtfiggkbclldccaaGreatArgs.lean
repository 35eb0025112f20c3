/- A law's arguments as they come in, read as pieces of the first world. -/
import Derived.Test.YtfiggkbclldccaaGreatSepD
import Derived.Deep.Slices
import Derived.Deep.Fields
import Derived.ChangeSame
import Derived.OpenShut
import Derived.Lib.SmallJoins
namespace Go.Proofs.YtfiggkbclldccaaGreat
open Go Go.RowKit Go.MapKept Go.ChangeShapes Go.WideShapes Go.Deep Go.Joins

theorem flatA_at {α : Type} (enc : α → List Value) (size : Nat) (hs : ∀ a, (enc a).length = size) : ∀ (l : List α) (i j : Nat) (hi : i < l.length), j < size → (l.flatMap enc)[i * size + j]? = (enc l[i])[j]?
  | [], i, j, hi, _ => by simp at hi
  | a :: l, 0, j, _, hj => by
    simp only [List.flatMap_cons, Nat.zero_mul, Nat.zero_add, List.getElem_cons_zero]
    rw [List.getElem?_append_left (by rw [hs]; exact hj)]
  | a :: l, i + 1, j, hi, hj => by
    have ih := flatA_at enc size hs l i j (by simpa using hi) hj
    simp only [List.flatMap_cons, List.getElem_cons_succ]
    rw [List.getElem?_append_right (by rw [hs, Nat.add_mul]; omega), hs, ← ih]
    congr 1
    rw [Nat.add_mul]
    omega

theorem flatA_len {α : Type} (enc : α → List Value) (size : Nat) (hs : ∀ a, (enc a).length = size) : ∀ (l : List α), (l.flatMap enc).length = l.length * size
  | [] => by simp
  | a :: l => by simp only [List.flatMap_cons, List.length_append, hs, flatA_len enc size hs l, List.length_cons, Nat.add_mul]; omega

theorem spotless {b off k : Nat} : (⟨b, off, none⟩ : Addr).add k = ⟨b, off + k, none⟩ := by unfold Addr.add; split <;> simp_all

section
variable {H : Type} {enc0 : TypeId × Value → H} {P : Program} {W : World} {r : Reach} {b0 : Nat} {sp : Nat → Bool} {held : Bool}

end
end Go.Proofs.YtfiggkbclldccaaGreat
