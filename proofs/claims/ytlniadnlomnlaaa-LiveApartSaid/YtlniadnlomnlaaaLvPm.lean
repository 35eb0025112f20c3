/- The plain law of chapter 41, more: what was added is found; pieces lie apart. -/
import Derived.Test.YtlniadnlomnlaaaLvPl
namespace Go.Proofs.Ytlniadnlomnlaaa
open Go Go.RowKit Go.MapKept
set_option linter.unusedVariables false
set_option maxRecDepth 100000

theorem Live.IsPlace.ex (l : List LaidM) (x : LaidM) : ∀ n, n ≤ l.length → ∃ a, Live.IsPlace l x n a
  | 0, _ => ⟨0, .zero l x⟩
  | n + 1, h => by
    obtain ⟨a, ha⟩ := Live.IsPlace.ex l x n (by omega)
    by_cases hc : Live.Less x l[n]
    · exact ⟨n + 1, ha.yes (by omega) hc⟩
    · exact ⟨a, ha.no (by omega) hc⟩
theorem Hdl.get_put {c g o : Int} (hc : 0 ≤ c ∧ c ≤ 1048575) (hg : 0 ≤ g ∧ g ≤ 1048575) (ho : 0 ≤ o ∧ o ≤ 1048575) : Hdl.get (Hdl.put 3 c g o).1 = ⟨3, c, g, o, true⟩ := by
  rw [Hdl.put_y (by omega) (by unfold Hdl.Beyond; omega)]
  simp only
  rw [Hdl.get_y (by omega)]
  congr 1 <;> omega
namespace Lv
theorem Inv.findIt {M : LvM} {l : List LaidM} (h : Inv M l) {x : LaidM} (hg : Good x) (hx : x ∈ l) : Live.find l (Hdl.put 3 x.chunk x.gen x.pos).1 = (x, 0) := by
  unfold Live.find
  rw [Hdl.get_put hg.c0 hg.g0 hg.p0]
  simp only [not_true, or_self, if_false]
  obtain ⟨i, hi, rfl⟩ := List.getElem_of_mem hx
  have : l.find? (fun y => decide (Live.Is l[i].chunk l[i].gen l[i].pos y)) = some l[i] := by
    rw [List.find?_eq_some_iff_getElem]
    refine ⟨by simp, i, hi, rfl, fun j hj => ?_⟩
    have := pair_of h.sorted hj hi
    unfold LtL at this
    simp only [decide_eq_true_eq, Bool.not_eq_true', decide_eq_false_iff_not, Live.Is]
    omega
  rw [this]
theorem Inv.isAdd {M : LvM} {l : List LaidM} (h : Inv M l) {x : LaidM} {r : LvM × Int × Int} (hr : IsAdd M x r) :
    ∃ l', Inv r.1 l' ∧ r.2.1 < 4611686018427387904 ∧ (r.2.2 = 0 → l'.length = l.length + 1 ∧ Live.find l' r.2.1 = (x, 0)) ∧ (¬ r.2.2 = 0 → l' = l) := by
  cases hr with
  | bad _ => exact ⟨l, h, by simp, by simp, by simp⟩
  | old _ _ _ _ => exact ⟨l, h, by simp, by simp, by simp⟩
  | twice _ _ _ _ _ _ _ => exact ⟨l, h, by simp, by simp, by simp⟩
  | yes hn M' hA =>
    obtain ⟨a, ha⟩ := Live.IsPlace.ex l x l.length (Nat.le_refl _)
    have hg := good_of_not_bad hn
    have h2 := h.add hg hA ha
    have hlt : (Hdl.put 3 x.chunk x.gen x.pos).1 < 4611686018427387904 := by
      rw [Hdl.put_y (by omega) (by have := hg.c0; have := hg.g0; have := hg.p0; unfold Hdl.Beyond; omega)]
      have := hg.c0; have := hg.g0; have := hg.p0
      simp only; omega
    exact ⟨_, h2, hlt, fun _ => ⟨by have := ha.le; simp; omega, h2.findIt hg (by simp)⟩, fun hc => absurd rfl hc⟩
theorem Inv.apart {M : LvM} {l : List LaidM} (h : Inv M l) {k i : Nat} (hki : k < i) (hi : i < l.length) (hc : l[i].chunk = (l[k]'(by omega)).chunk) :
    l[i].gen = (l[k]'(by omega)).gen ∧ ¬ Spn.Meet ⟨l[i].pos, l[i].len⟩ ⟨(l[k]'(by omega)).pos, (l[k]'(by omega)).len⟩ := by
  have hlt := pair_of h.sorted hki hi
  obtain ⟨q, hq, s, hs, he⟩ := h.mem (List.getElem_mem (show k < l.length by omega))
  obtain ⟨q', hq', t, ht, he'⟩ := h.mem (List.getElem_mem hi)
  rw [hc, hq] at hq'
  cases hq'
  have hR := h.ok.right _ _ hq
  generalize l[k] = y at *
  generalize l[i] = z at *
  obtain ⟨a, ha, rfl⟩ := List.getElem_of_mem hs
  obtain ⟨b, hb, rfl⟩ := List.getElem_of_mem ht
  have e1 : y.pos = q.2.sp[a].pos := by rw [he]; rfl
  have e2 : y.len = q.2.sp[a].len := by rw [he]; rfl
  have e3 : z.pos = q.2.sp[b].pos := by rw [he']; rfl
  have e4 : z.len = q.2.sp[b].len := by rw [he']; rfl
  have e5 : y.gen = q.2.gen := by rw [he]; rfl
  have e6 : z.gen = q.2.gen := by rw [he']; rfl
  refine ⟨by rw [e5, e6], ?_⟩
  unfold LtL at hlt
  have hpos : q.2.sp[a].pos < q.2.sp[b].pos := by rw [← e1, ← e3]; omega
  unfold Spn.Meet
  simp only [e1, e2, e3, e4]
  have h1 := (hR.ok a ha).l0
  have h2 := (hR.ok b hb).l0
  rcases Nat.lt_trichotomy a b with hab | hab | hab
  · have := hR.ord a b hab hb; omega
  · subst hab; omega
  · have := hR.ord b a hab ha; omega
end Lv
end Go.Proofs.Ytlniadnlomnlaaa
