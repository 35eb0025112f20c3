/- Long literals of strings; places in lists of words. -/
import Derived.Test.YtpkohkkkbnfigaaDoorDgL
import Derived.Test.YtpkohkkkbnfigaaDoorRpPl
namespace Go.Proofs.YtpkohkkkbnfigaaDoor
open Go Go.RowKit Go.MapKept
set_option linter.unusedVariables false
set_option linter.unusedSimpArgs false
set_option maxRecDepth 100000
set_option maxHeartbeats 1000000
theorem getD_at {α : Type} (l : List α) (d : α) {k : Nat} (h : k < l.length) : l.getD k d = l[k] := by rw [List.getD, List.getElem?_eq_getElem h]; rfl
def enV : Nat → List Value → List (Nat × Value)
  | _, [] => []
  | k, v :: l => (k, v) :: enV (k + 1) l
def enS : Nat → List (List UInt8) → List (Nat × Operand)
  | _, [] => []
  | k, x :: l => (k, .const (.string (bs x))) :: enS (k + 1) l
theorem partsOf_enS (env : Env) : ∀ (l : List (List UInt8)) (k : Nat), partsOf env (enS k l) = some (enV k (l.map fun x => .string (bs x)))
  | [], _ => rfl
  | x :: l, k => by
    rw [enS, partsOf, partsOf_enS env l (k + 1)]
    rfl
theorem fillL_all (m : Nat) : ∀ (vs : List Value) (pre suf : List Value), (∀ v ∈ vs, v.cells = #[v]) → suf.length = vs.length → pre.length + vs.length ≤ m → fillL ((List.range m).map fun i => (i * 1, 1)) (pre ++ suf) (enV pre.length vs) = some (pre ++ vs)
  | [], pre, suf, _, hs, _ => by
    have : suf = [] := List.eq_nil_of_length_eq_zero (by simpa using hs)
    subst this; rfl
  | v :: vs, pre, [], _, hs, _ => by simp at hs
  | v :: vs, pre, s :: suf, hv, hs, hm => by
    have h1 := hv v (by simp)
    simp only [List.length_cons] at hs hm
    have hp : ((List.range m).map fun i => (i * 1, 1))[pre.length]? = some (pre.length * 1, 1) := by
      rw [List.getElem?_map, List.getElem?_range (by omega)]; rfl
    rw [enV, fillL, hp]
    simp only
    rw [h1, if_pos (by simp)]
    have e1 : putAt (pre ++ s :: suf) (pre.length * 1) (#[v] : Array Value).toList = (pre ++ [v]) ++ suf := by
      unfold putAt
      rw [Nat.mul_one]
      simp
    have ih := fillL_all m vs (pre ++ [v]) suf (fun x hx => hv x (by simp [hx])) (by omega) (by simp; omega)
    rw [List.length_append, List.length_singleton] at ih
    rw [e1, ih]
    simp
theorem flat_encS : ∀ l : List (List UInt8), l.flatMap encS = l.map fun x => Value.string (bs x)
  | [] => rfl
  | x :: l => by rw [List.flatMap_cons, flat_encS l]; rfl
section
variable {P : Program} {n : Nat} {Q : Exit → Act → World → Prop} {env : Env} {F : List HProp} {ops : Array Oper} {rest : List Oper} {ty : TypeId} {pos : String} {aft : Array Edge}
theorem GL.buildStrs {t e : TypeId} {bytes : Nat} {z : Value} {d : Tmp} (L : List (List UInt8)) [ht : SliceT P t e 1] [hz : ZeroT P e z 1 bytes] (h0 : 0 < L.length) (hm : L.length ≤ 16777216) (hd : Nat.blt d n = true)
    (h : ∀ g, GL P n ops Q rest ((d, .slice (some ⟨g, 0, none⟩) L.length L.length) :: env) (owns e encS 1 (.slice (some ⟨g, 0, none⟩) L.length L.length) L :: F)) :
    GL P n ops Q (⟨some d, .buildSlice t L.length (enS 0 L).toArray, ty, pos, aft, none⟩ :: rest) env F := by
  have hall : ∀ l' : List Value, l'.length = L.length * 1 → fillL ((List.range L.length).map fun i => (i * 1, 1)) l' (enV 0 (L.map fun x => .string (bs x))) = some (L.map fun x => .string (bs x)) := fun l' hl => by
    have := fillL_all L.length (L.map fun x => .string (bs x)) [] l' (fun v hv => by obtain ⟨x, _, rfl⟩ := List.mem_map.1 hv; rfl) (by rw [List.length_map]; omega) (by simp)
    simpa using this
  refine GL.buildSlice (partsOf_enS env L 0) (by simp [Nat.blt_eq]; omega) (by rw [Nat.ble_eq]; omega) (hall _ (by simp)) hall hd fun g => GL.imp (h g) fun w hw => ?_
  rw [← flat_encS] at hw
  exact holds.rowS L rfl (by unfold maxLen; omega) hw
end
theorem splitB_partsD (d : UInt8) (s : List UInt8) : (Lib.splitB (bs [d]) 0 (Lib.countB (bs s) (bs [d])) (bs s)).map Value.string = (Dg.parts d s).flatMap encS ∧ (Dg.parts d s).length = Lib.countB (bs s) (bs [d]) + 1 := by
  have h1 := Lib.splitB_data (bs [d]) 0 (Lib.countB (bs s) (bs [d])) (bs s)
  have h2 := Lib.splitB_all (bs [d]) (by rw [bs_size]; simp) 0 _ (bs s) rfl
  have h3 : Lib.splitK [d] 0 (Lib.countB (bs s) (bs [d])) s = Dg.parts d s := by
    rw [← Dg.split_parts]; unfold Lib.split Lib.countB; rw [bs_data, bs_data]
  rw [bs_data, bs_data, h3] at h1
  constructor
  · rw [← h1]
    generalize Lib.splitB _ _ _ _ = L
    induction L with
    | nil => rfl
    | cons x L ih => rw [List.map_cons, List.map_cons, List.flatMap_cons, ← ih]; unfold encS; rw [bs_back]; rfl
  · rw [← h1, List.length_map, h2]
namespace Rp
theorem place_at {s : List UInt8} : ∀ {l : List (List UInt8)} {k : Nat} (hk : k < l.length), l[k] = s → (∀ i (hi : i < l.length), i < k → l[i] ≠ s) → place s l = some k
  | [], k, hk, _, _ => by simp at hk
  | x :: l, 0, hk, h, _ => by rw [place, if_pos (by simpa using h)]
  | x :: l, k + 1, hk, h, hn => by
    rw [place, if_neg (by have := hn 0 (by simp) (by omega); simpa using this)]
    rw [place_at (l := l) (k := k) (by simpa using hk) (by simpa using h) (fun i hi h1 => by have := hn (i + 1) (by simpa using hi) (by omega); simpa using this)]
    rfl
theorem place_no {s : List UInt8} : ∀ {l : List (List UInt8)}, (∀ i (hi : i < l.length), l[i] ≠ s) → place s l = none
  | [], _ => rfl
  | x :: l, hn => by
    rw [place, if_neg (by have := hn 0 (by simp); simpa using this)]
    rw [place_no (l := l) (fun i hi => by have := hn (i + 1) (by simpa using hi); simpa using this)]
    rfl
theorem wordL_len : wordL.length = 21 := by decide
end Rp
theorem quoted_ge (t : List UInt8) : t.length ≤ (quoted t).length := by
  have h1 : ∀ c : UInt8, 1 ≤ (one c).length := fun c => by unfold one; repeat' split
                                                           all_goals simp
  have h2 : ∀ l : List UInt8, l.length ≤ (l.flatMap one).length := fun l => by
    induction l with
    | nil => simp
    | cons c l ih => rw [List.flatMap_cons, List.length_append, List.length_cons]; have := h1 c; omega
  have := h2 t
  unfold quoted
  simp only [List.length_cons, List.length_append]
  omega
end Go.Proofs.YtpkohkkkbnfigaaDoor
