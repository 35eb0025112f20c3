/- Contracts of package waits. -/
import Derived.Test.YtfkpcmlajdmnfaaLaw04
namespace Go.Proofs.Ytfkpcmlajdmnfaa
open Go Go.RowKit Go.MapKept
set_option maxRecDepth 100000
set_option linter.unusedVariables false
attribute [local go_sem] exactUpon looseUpon

theorem nodup_le : ∀ (n : Nat) (l : List Int), l.Nodup → (∀ x ∈ l, 0 ≤ x ∧ x < n) → l.length ≤ n
  | 0, l, _, h => by
    cases l with
    | nil => simp
    | cons x l => have := h x List.mem_cons_self; omega
  | n + 1, l, hn, h => by
    by_cases hm : (n : Int) ∈ l
    · have h1 := nodup_le n (l.erase n) (hn.erase _) fun x hx => by
        have hx' := (hn.mem_erase_iff).1 hx
        have := h x hx'.2
        have := hx'.1
        omega
      rw [List.length_erase_of_mem hm] at h1
      omega
    · have := nodup_le n l hn fun x hx => by
        have h2 := h x hx
        have : x ≠ n := fun e => hm (e ▸ hx)
        omega
      omega

/-- Who waits; each one's turn. -/
structure WaitsOk (n : Nat) (tn : List Int) (fs c : Int) (l : List Int) : Prop where
  len : tn.length = n
  big : n ≤ 1048576
  nodup : l.Nodup
  rng : ∀ x ∈ l, 0 ≤ x ∧ x < n
  fs0 : 0 ≤ fs
  cnt : c = fs + l.length
  at_ : ∀ j (hj : j < l.length), tn[(l[j]).toNat]? = some (fs + j)
  no : ∀ i : Nat, i < n → (i : Int) ∉ l → tn[i]? = some (-1)

def waitsAt (v : Value) (n : Nat) (l : List Int) (c : Int) : HProp := fun f => ∃ b rb vt tn fs, (v = .pointer (some ⟨b, 0, none⟩) ∧ WaitsOk n tn fs c l) ∧
  sep [blk b (.cells #[.pointer (some ⟨rb, 0, none⟩), vt, .int .i64 c, .int .i64 fs] 83 (0, 0)), ringAt (.pointer (some ⟨rb, 0, none⟩)) n l, ownInts vt tn] f

theorem open_waits {w : World} {F : List HProp} {v : Value} {n : Nat} {l : List Int} {c : Int} (h : holds w (waitsAt v n l c :: F)) : ∃ b rb a cp tn fs, v = .pointer (some ⟨b, 0, none⟩) ∧ WaitsOk n tn fs c l ∧
    holds w (blk b (.cells #[.pointer (some ⟨rb, 0, none⟩), .slice a n cp, .int .i64 c, .int .i64 fs] 83 (0, 0)) :: ringAt (.pointer (some ⟨rb, 0, none⟩)) n l :: ownInts (.slice a n cp) tn :: F) := by
  obtain ⟨b, h⟩ := h.open_ex
  obtain ⟨rb, h⟩ := h.open_ex
  obtain ⟨vt, h⟩ := h.open_ex
  obtain ⟨tn, h⟩ := h.open_ex
  obtain ⟨fs, h⟩ := h.open_ex
  obtain ⟨⟨h1, h2⟩, h⟩ := h.open_pure
  have h := holds_sep.1 h
  obtain ⟨a, cp, rfl⟩ := ownInts_form (h.pick 2)
  rw [h2.len] at h
  exact ⟨b, rb, a, cp, tn, fs, h1, h2, h⟩
theorem shut_waits {w : World} {F : List HProp} {b rb n : Nat} {vt : Value} {tn l : List Int} {fs c : Int} (hm : WaitsOk n tn fs c l)
    (h : holds w (blk b (.cells #[.pointer (some ⟨rb, 0, none⟩), vt, .int .i64 c, .int .i64 fs] 83 (0, 0)) :: ringAt (.pointer (some ⟨rb, 0, none⟩)) n l :: ownInts vt tn :: F)) :
    holds w (waitsAt (.pointer (some ⟨b, 0, none⟩)) n l c :: F) :=
  (holds_sep (l := [_, _, _]).2 h).mono fun _ hf => ⟨b, rb, vt, tn, fs, ⟨rfl, hm⟩, hf⟩

theorem waits_is (w : World) (b rb : Nat) (c0 : w.cell? ⟨b, 0, none⟩ = some (.pointer (some ⟨rb, 0, none⟩))) :
    Calls Try.prog 90 #[.pointer (some ⟨b, 0, none⟩)] w fun e w' => e = .returned (.bool true) ∧ w' = w := by
  go_enter Try.func90, Try.ntmps90
  go_wp2
  go_ret
  exact ⟨rfl, rfl⟩

theorem waits_Count (w : World) (v : Value) (n : Nat) (l : List Int) (c : Int) (F : List HProp) (hw : holds w (waitsAt v n l c :: F)) :
    Calls Try.prog 57 #[v] w fun e w' => e = .returned (.int .i64 c) ∧ holds w' (waitsAt v n l c :: F) := by
  obtain ⟨b, rb, a, cp, tn, fs, rfl, hm, h⟩ := open_waits hw
  have c2 := cellAt h.get_blk 2
  simp at c2
  go_enter Try.func57, Try.ntmps57
  go_wp2
  go_ret
  exact ⟨rfl, hw⟩
theorem waits_Len (w : World) (v : Value) (n : Nat) (l : List Int) (c : Int) (F : List HProp) (hw : holds w (waitsAt v n l c :: F)) :
    Calls Try.prog 54 #[v] w fun e w' => e = .returned (.int .i64 (l.length : Nat)) ∧ holds w' (waitsAt v n l c :: F) := by
  obtain ⟨b, rb, a, cp, tn, fs, rfl, hm, h⟩ := open_waits hw
  have c0 := cellAt h.get_blk 0
  simp at c0
  have h1 : holds w (_ :: _ :: _ :: F) := h.sel 3 [1, 0, 2]
  go_enter Try.func54, Try.ntmps54
  go_wp2_with fail
  refine (waits_is _ _ _ c0).mono ?_
  rintro e w1 ⟨rfl, rfl⟩
  go_wp2_with fail
  refine (ring_Len _ _ _ _ _ h1).mono ?_
  rintro e w2 ⟨rfl, h2⟩
  go_wp2_with fail
  go_ret
  exact ⟨rfl, shut_waits hm (h2.sel 3 [1, 0, 2])⟩
theorem waits_List (w : World) (v : Value) (n : Nat) (l : List Int) (c : Int) (F : List HProp) (hw : holds w (waitsAt v n l c :: F)) :
    Calls Try.prog 56 #[v] w fun e w' => ∃ a, e = .returned (.slice a l.length l.length) ∧ holds w' (roInts (.slice a l.length l.length) l :: waitsAt v n l c :: F) := by
  obtain ⟨b, rb, a, cp, tn, fs, rfl, hm, h⟩ := open_waits hw
  have c0 := cellAt h.get_blk 0
  simp at c0
  have h1 : holds w (_ :: _ :: _ :: F) := h.sel 3 [1, 0, 2]
  go_enter Try.func56, Try.ntmps56
  go_wp2_with fail
  refine (waits_is _ _ _ c0).mono ?_
  rintro e w1 ⟨rfl, rfl⟩
  go_wp2_with fail
  refine (ring_List _ _ _ _ _ h1).mono ?_
  rintro e w2 ⟨a2, rfl, h2⟩
  go_wp2_with fail
  go_ret
  have h3 := shut_waits hm (F := roInts (.slice a2 l.length l.length) l :: F) (h2.sel 4 [2, 1, 3, 0])
  exact ⟨_, rfl, h3.sel 2 [1, 0]⟩

theorem WaitsOk.ahead_in {n : Nat} {tn l : List Int} {fs c : Int} (h : WaitsOk n tn fs c l) {i : Nat} (hi : (i : Int) ∈ l) : ∃ j : Nat, placeOf l i = j ∧ j < l.length ∧ tn[i]? = some (fs + j) := by
  obtain ⟨j, hj, hji⟩ := List.getElem_of_mem hi
  refine ⟨j, placeOf_some hj hji fun k hk e => List.pairwise_iff_getElem.1 h.nodup k j (by omega) hj hk (e.trans hji.symm), hj, ?_⟩
  · have := h.at_ j hj
    rw [hji] at this
    simpa using this
theorem waits_Ahead (w : World) (v : Value) (n : Nat) (l : List Int) (c : Int) (i : Int) (F : List HProp) (hcb : c ≤ 1000000000000) (hw : holds w (waitsAt v n l c :: F)) :
    Calls Try.prog 55 #[v, .int .i64 i] w fun e w' => e = .returned (.int .i64 (placeOf l i)) ∧ holds w' (waitsAt v n l c :: F) := by
  obtain ⟨b, rb, a, cp, tn, fs, rfl, hm, h⟩ := open_waits hw
  have c0 := cellAt h.get_blk 0
  have c1 := cellAt h.get_blk 1
  have c3 := cellAt h.get_blk 3
  simp at c0 c1 c3
  have hbig := hm.big
  by_cases h0 : 0 ≤ i ∧ i < n
  · obtain ⟨i, rfl⟩ := Int.eq_ofNat_of_zero_le h0.1
    have hi : i < n := by omega
    have h00 : (0 : Int) ≤ i := by omega
    have h01 : (i : Int) < n := h0.2
    have hlen := hm.len
    obtain ⟨g, cap, hv, _, _, ct, _⟩ := (h.pick 2).intAt i (by omega)
    cases hv
    by_cases hin : (i : Int) ∈ l
    · obtain ⟨j, hp, hjl, ht⟩ := hm.ahead_in hin
      rw [hp]
      have hti : tn[i]'(by omega) = fs + j := by
        have := List.getElem?_eq_getElem (l := tn) (i := i) (by omega)
        rw [this] at ht; injection ht
      rw [hti] at ct
      have hfs := hm.fs0
      have hc := hm.cnt
      have e1 : IntKind.i64.wrap (fs + (j : Int) - fs) = (j : Int) := by rw [show fs + (j : Int) - fs = j by omega]; exact IntWalk.i64_in _ (by omega)
      have hge : ¬ (fs + (j : Int)) < 0 := by omega
      generalize hT : fs + (j : Int) = T at ct e1 hge
      clear hti ht hp hT hc hin hm h
      go_enter Try.func55, Try.ntmps55
      go_wp2_with fail
      refine (waits_is _ _ _ c0).mono ?_
      rintro e w1 ⟨rfl, rfl⟩
      go_wp2_with fail
      go_quiet (fail)
      go_wp2_with fail
      go_ret
      exact ⟨rfl, hw.drewN _⟩
    · have ht := hm.no i hi hin
      have hp : placeOf l i = -1 := by unfold placeOf; exact if_neg hin
      rw [hp]
      have hti : tn[i]'(by omega) = -1 := by
        have := List.getElem?_eq_getElem (l := tn) (i := i) (by omega)
        rw [this] at ht; injection ht
      rw [hti] at ct
      clear hti ht hp hin hm h
      go_enter Try.func55, Try.ntmps55
      go_wp2_with fail
      refine (waits_is _ _ _ c0).mono ?_
      rintro e w1 ⟨rfl, rfl⟩
      go_wp2_with fail
      go_ret
      exact ⟨rfl, hw⟩
  · have hp : placeOf l i = -1 := by unfold placeOf; exact if_neg fun hm' => h0 (hm.rng i hm')
    rw [hp]
    clear hp hm h
    by_cases hneg : i < 0
    · go_enter Try.func55, Try.ntmps55
      go_wp2_with fail
      refine (waits_is _ _ _ c0).mono ?_
      rintro e w1 ⟨rfl, rfl⟩
      go_wp2_with fail
      go_ret
      exact ⟨rfl, hw⟩
    · have h00 : (n : Int) ≤ i := by omega
      go_enter Try.func55, Try.ntmps55
      go_wp2_with fail
      refine (waits_is _ _ _ c0).mono ?_
      rintro e w1 ⟨rfl, rfl⟩
      go_wp2_with fail
      go_ret
      exact ⟨rfl, hw⟩
end Go.Proofs.Ytfkpcmlajdmnfaa
