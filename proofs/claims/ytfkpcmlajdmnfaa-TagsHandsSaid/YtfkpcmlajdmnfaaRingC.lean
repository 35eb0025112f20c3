/- What is collected from the ring's iterator: the place of a number, and all numbers. -/
import Derived.Test.YtfkpcmlajdmnfaaRingB
namespace Go.Proofs.Ytfkpcmlajdmnfaa
open Go Go.RowKit Go.MapKept Go.Shelf
set_option maxRecDepth 100000
set_option linter.unusedVariables false
attribute [local go_sem] Oper.semAt_some

theorem cell_new_l (W : World) (v : Value) (t : TypeId) : (W.alloc (.cells #[v] t)).cell? ⟨W.heap.size, 0, none⟩ = some v ∧ (W.alloc (.cells #[v] t)).frozen? ⟨W.heap.size, 0, none⟩ = false := ⟨(Boxed.new W t v).cell, (Boxed.new W t v).frozen⟩
theorem cell_alloc_l {W : World} {a : Addr} {v : Value} (o : Obj) (h : W.cell? a = some v) : (W.alloc o).cell? a = some v := cell_kept h (World.grownBy_alloc W o none) (fun r e => by cases e)
theorem frozen_alloc_l {W : World} {a : Addr} {v : Value} (o : Obj) (h : W.cell? a = some v) (hf : W.frozen? a = false) : (W.alloc o).frozen? a = false := (frozen_kept h (World.grownBy_alloc W o none) (fun r e => by cases e)).trans hf

/-- The first place of a number; or -1. -/
def placeOf (l : List Int) (x : Int) : Int := if x ∈ l then (l.idxOf x : Nat) else -1
theorem placeOf_some {l : List Int} {x : Int} {k : Nat} (hk : k < l.length) (hx : l[k] = x) (hlt : ∀ j (h : j < k), l[j]'(by omega) ≠ x) : placeOf l x = k := by
  have hm : x ∈ l := hx ▸ List.getElem_mem hk
  have : l.idxOf x = k := by
    have h1 := List.idxOf_lt_length_of_mem hm
    have h2 : l[l.idxOf x] = x := List.getElem_idxOf h1
    rcases Nat.lt_trichotomy (l.idxOf x) k with h | h | h
    · exact absurd h2 (hlt _ h)
    · exact h
    · exact absurd hx (by
        have h3 : k < l.findIdx (· == x) := h
        have := List.not_of_lt_findIdx h3
        simpa using this)
  unfold placeOf
  rw [if_pos hm, this]

set_option maxHeartbeats 2000000 in
theorem ringQ_Place (w : World) (p : Option Addr) (zs : List Int) (x : Int) (hI : RingIn w.heap.size w (.pointer p) zs) :
    Calls Try.prog 32 #[.pointer p, .int .i64 x] w fun e W' => e = .returned (.int .i64 (placeOf zs x)) ∧ Below w.heap.size w W' := by
  refine (callsIn_wide (n := 4)).1 ?_
  have HAll := Lib.hid (fun w => ring_all 3 w p)
  refine callsIn_of_wp_marks Try.func32 rfl trivial ?_ rfl
  simp only [Try.ntmps32, List.size_toArray, List.length_cons, List.length_nil, Nat.reduceAdd, Nat.reduceSub, Array.replicate_succ, Array.replicate_zero, List.push_toArray, List.append_toArray, List.nil_append, List.cons_append]
  gi_wp2_with (refine ⟨trivial, ?_⟩; gi_at_call 85; refine (HAll.out _).mono ?_; rintro e w' ⟨rfl, rfl⟩)
  have c0 := cell_new_l w (.int .i64 x) 3
  have c1 := cell_new_l (w.alloc (.cells #[.int .i64 x] 3)) (.int .i64 0) 3
  have c2 := cell_new_l ((w.alloc (.cells #[.int .i64 x] 3)).alloc (.cells #[.int .i64 0] 3)) (.pointer p) 28
  simp only [World.size_alloc] at c1 c2
  have hB0 : Below w.heap.size w (((w.alloc (.cells #[.int .i64 x] 3)).alloc (.cells #[.int .i64 0] 3)).alloc (.cells #[.pointer p] 28)) := (((Below.refl _ w).alloc (Nat.le_refl _) _).alloc (by simp) _).alloc (by simp; omega) _
  refine wpIn_rangeFunc_ownF rfl (by omega) (gf := 102) (lb := #[.pointer (some ⟨w.heap.size + 1 + 1, 0, none⟩)]) rfl trivial (enters_of Try.func102 (by kernel_rfl) rfl)
    (ring_stops 3 (by omega) (w.heap.size + 1 + 1) w.heap.size (.pointer p) zs _ (by simp) (by simp; omega) c2.1 (hI.below hB0)) RingKp.trans (ringKp_b (by simp; omega) (by simp)) (Below.refl _ _) (fun _ => rfl)
    (fun pre W => ((∀ q ∈ pre, q.2 ≠ x) ∧ W.cell? ⟨w.heap.size, 0, none⟩ = some (.int .i64 x) ∧ W.cell? ⟨w.heap.size + 1, 0, none⟩ = some (.int .i64 0) ∧ W.frozen? ⟨w.heap.size + 1, 0, none⟩ = false) ∧ Below w.heap.size w W)
    (fun c pre W => (c = .ret ∧ ∃ (ini : List (Nat × Int)) (last : Nat × Int), pre = ini ++ [last] ∧ (∀ q ∈ ini, q.2 ≠ x) ∧ last.2 = x ∧ W.cell? ⟨w.heap.size + 1, 0, none⟩ = some (.int .i64 (last.1 : Int))) ∧ Below w.heap.size w W)
    (OwnFrom.and (Own.from (fun s A B row hs hg hr => ⟨hs.1, cell_kept hs.2.1 hg hr, cell_kept hs.2.2.1 hg hr, (frozen_kept hs.2.2.1 hg hr).trans hs.2.2.2⟩) _) (ownFrom_below (Nat.le_refl _) (by simp; omega)))
    (fun c => OwnFrom.and (Own.from (fun s A B row hs hg hr => by obtain ⟨hc, ini, last, e1, e2, e3, e4⟩ := hs; exact ⟨hc, ini, last, e1, e2, e3, cell_kept e4 hg hr⟩) _) (ownFrom_below (Nat.le_refl _) (by simp; omega)))
    ⟨⟨by simp, cell_alloc_l _ (cell_alloc_l _ c0.1), cell_alloc_l _ c1.1, frozen_alloc_l _ c1.1 c1.2⟩, hB0⟩
    (fun q => { tmps := #[.pointer p, .int .i64 x, undef, .pointer (some ⟨w.heap.size, 0, none⟩), .pointer (some ⟨w.heap.size + 1, 0, none⟩), .int .i64 (q.1 : Int), .int .i64 q.2, .pointer p, .func (.func 102) #[] #[.pointer (some ⟨w.heap.size + 1 + 1, 0, none⟩)], .int .i64 (q.1 : Int), .int .i64 q.2, undef, undef, undef, undef], defers := [] }) ?assign ?body ?done ?stop
  case assign =>
    intro l q W K hK
    gi_wp2
    exact hK
  case body =>
    rintro l pre q W ⟨⟨hp, hcw, hcr, hfr⟩, hB⟩ _
    by_cases hx : x = q.2
    · have hx' : (x == q.2) = true := by simp [hx]
      gi_wp2
      exact ⟨KeepsOthers.setCell _ _ _, ⟨rfl, pre, q, rfl, hp, hx.symm, World.cell?_setCell_same' _ _ _ (by rw [hcr]; rfl)⟩, hB.setCell (p := ⟨w.heap.size + 1, 0, none⟩) (by simp) _⟩
    · have hx' : (x == q.2) = false := by simp [hx]
      gi_wp2
      exact ⟨KeepsOthers.refl _, RingKp.refl _ _ _, ⟨fun y hy => (List.mem_append.1 hy).elim (hp y) (fun e => by simp at e; subst e; exact fun h => hx h.symm), hcw, hcr, hfr⟩, hB⟩
  case done =>
    rintro D ys W hD rfl ⟨⟨hne, _, hcr, hfr⟩, hB⟩ hK
    gi_wp2
    have hK' := (KeepsOthers.setCell W ⟨w.heap.size + 1, 0, none⟩ (.int .i64 (-1))).same D _ hK rfl
    refine ⟨by simp, .inl ⟨_, _, rfl, run_takeDeferred hK', ?_⟩⟩
    have hc5 := cell_kept (World.cell?_setCell_same' W ⟨w.heap.size + 1, 0, none⟩ (.int .i64 (-1)) (by rw [hcr]; rfl)) (grownBy_putObj' _ D (.deferred none)) (fun r e => by cases e; exact ⟨_, hK', rfl⟩)
    have hz : placeOf zs x = -1 := by
      unfold placeOf
      refine if_neg fun hm => ?_
      obtain ⟨j, hj, hjx⟩ := List.getElem_of_mem hm
      exact hne (pairAt zs j) (by simp only [upto, List.mem_map, List.mem_range]; exact ⟨j, hj, rfl⟩) (by simpa [pairAt, hj] using hjx)
    refine ⟨.int .i64 (-1), ?_, by rw [hz], (hB.setCell (p := ⟨w.heap.size + 1, 0, none⟩) (by simp) _).trans (belowK_b (w := w) (Nat.le_refl _) _ D _ _ (by simp at hD; omega) hK' rfl rfl)⟩
    simp [results, Try.f32, go_sem, hc5]
  case stop =>
    rintro D c pre W hD ⟨k, hk, rfl⟩ ⟨⟨rfl, ini, last, e1, e2, e3, hcr⟩, hB⟩ hK
    gi_wp2
    refine ⟨by simp, .inl ⟨_, _, rfl, run_takeDeferred hK, ?_⟩⟩
    have hc5 := cell_kept hcr (grownBy_putObj' _ D (.deferred none)) (fun r e => by cases e; exact ⟨_, hK, rfl⟩)
    obtain ⟨k', rfl⟩ : ∃ k', k = k' + 1 := by
      cases k with
      | zero => simp [upto] at e1
      | succ k' => exact ⟨k', rfl⟩
    rw [upto_succ] at e1
    obtain ⟨rfl, e5⟩ := List.append_inj' e1 rfl
    obtain rfl : pairAt zs k' = last := by simpa using e5
    have hz : placeOf zs x = k' := placeOf_some (by omega) (by simpa [pairAt, show k' < zs.length by omega] using e3) fun j hj => by
      have := e2 (pairAt zs j) (by simp only [upto, List.mem_map, List.mem_range]; exact ⟨j, hj, rfl⟩)
      simpa [pairAt, show j < zs.length by omega] using this
    refine ⟨.int .i64 (k' : Int), ?_, by rw [hz], hB.trans (belowK_b (w := w) (Nat.le_refl _) W D _ _ (by simp at hD; omega) hK rfl rfl)⟩
    simp [results, Try.f32, go_sem, hc5, pairAt]
end Go.Proofs.Ytfkpcmlajdmnfaa
