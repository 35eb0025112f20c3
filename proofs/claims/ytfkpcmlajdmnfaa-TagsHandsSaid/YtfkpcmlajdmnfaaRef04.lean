/- Contracts of the reference of chapter 4. -/
import Derived.Test.YtfkpcmlajdmnfaaAppend
import Derived.Test.YtfkpcmlajdmnfaaRingD
import Derived.Test.YtfkpcmlajdmnfaaBase
namespace Go.Proofs.Ytfkpcmlajdmnfaa
open Go Go.RowKit Go.MapKept
set_option maxRecDepth 100000
set_option linter.unusedVariables false

theorem ref04_Put (w : World) (v : Value) (l : List Int) (room x : Int) (F : List HProp) (hl : l.length ≤ 1000000000) (h1 : l.length < room) (hw : holds w (roInts v l :: F)) :
    Calls Try.prog 21 #[v, .int .i64 room, .int .i64 x] w fun e w' => ∃ v', e = .returned (.tuple #[v', .bool true]) ∧ holds w' (roInts v' (l ++ [x]) :: roInts v l :: F) := by
  obtain ⟨a, cap, rfl, hcap⟩ := roInts_form hw
  have h2 := hw.emptyInts
  have hr := holds.roReads (h2.pick 1)
  go_enter Try.func21, Try.ntmps21
  go_wp2_with (first
    | (at_builtin; refine wpList_appendInts (l := []) (m := l) rfl _ _ rfl rfl h2 rfl hr (by simp; omega) ?_; clear hr; intro v3 w3 h3)
    | (at_builtin; refine wpList_appendInt (nb := w3.heap.size) rfl _ _ rfl rfl ((h3.alloc (.cells #[.int .i64 x] 3)).order [1, 0]) rfl (cellAt (h3.alloc (.cells #[.int .i64 x] 3)).get_blk 0) (by simp; omega) ?_; intro v4 w4 h4))
  go_ret2
  have h5 : holds w4 (ownInts v4 (l ++ [x]) :: blk w3.heap.size (.cells #[.int .i64 x] 3) :: roInts (.slice a l.length cap) l :: F) := h4
  exact ⟨_, rfl, ((holds.shareInts h5).order [1, 0, 2]).tail⟩
theorem ref04_Put_full (w : World) (v : Value) (l : List Int) (room x : Int) (F : List HProp) (hl : l.length ≤ 1000000000) (h1 : room ≤ l.length) (hw : holds w (roInts v l :: F)) :
    Calls Try.prog 21 #[v, .int .i64 room, .int .i64 x] w fun e w' => e = .returned (.tuple #[v, .bool false]) ∧ holds w' (roInts v l :: F) := by
  obtain ⟨a, cap, rfl, hcap⟩ := roInts_form hw
  go_enter Try.func21, Try.ntmps21
  go_wp2_with fail
  go_ret2
  exact ⟨rfl, hw⟩

theorem ref04_At (w : World) (v : Value) (l : List Int) (i : Int) (F : List HProp) (hl : l.length ≤ 1000000000) (hw : holds w (roInts v l :: F)) :
    Calls Try.prog 25 #[v, .int .i64 i] w fun e w' => e = .returned (.tuple #[.int .i64 (ringGet l i).1, .bool (ringGet l i).2]) ∧ holds w' (roInts v l :: F) := by
  obtain ⟨a, cap, rfl, hcap⟩ := roInts_form hw
  by_cases h0 : 0 ≤ i
  · by_cases h1 : i < l.length
    · obtain ⟨k, rfl⟩ := Int.eq_ofNat_of_zero_le h0
      have hk : k < l.length := by omega
      have e : ringGet l (k : Int) = (l[k], true) := by unfold ringGet; rw [if_pos ⟨h0, h1⟩]; simp [hk]
      rw [e]
      dsimp only
      obtain ⟨g, off, cap', hv, _, hcs⟩ := hw.roIntAt (by omega)
      cases hv
      have c1 := hcs k hk
      generalize l[k] = x at c1 ⊢
      clear hcs e
      go_enter Try.func25, Try.ntmps25
      go_wp2_with fail
      go_ret2
      exact ⟨rfl, hw⟩
    · have e : ringGet l i = (0, false) := by unfold ringGet; rw [if_neg (fun h => h1 h.2)]
      rw [e]
      clear e
      dsimp only
      go_enter Try.func25, Try.ntmps25
      go_wp2_with fail
      go_ret2
      exact ⟨rfl, hw⟩
  · have e : ringGet l i = (0, false) := by unfold ringGet; rw [if_neg (fun h => h0 h.1)]
    rw [e]
    clear e
    dsimp only
    have hneg : i < 0 := by omega
    go_enter Try.func25, Try.ntmps25
    go_wp2_with fail
    go_ret2
    exact ⟨rfl, hw⟩

theorem holds.dropInts {w : World} {F : List HProp} {g off c : Nat} {x : Int} {l : List Int} (h : holds w (roInts (.slice (some ⟨g, off, none⟩) (l.length + 1) c) (x :: l) :: F)) :
    holds w (roInts (.slice (some ⟨g, off + 1, none⟩) l.length (c - 1)) l :: F) := by
  refine h.mono fun f ⟨hl, a, cap, e, hc, hx⟩ => ?_
  cases e
  refine ⟨by simp [ints], _, _, rfl, by simp at hc; omega, ?_⟩
  rcases hx with h0 | ⟨g', off', cur, et, fz, e, hget, hsz, hcur⟩
  · simp at h0
  · cases e
    by_cases h0 : l.length = 0
    · exact .inl (by omega)
    · refine .inr ⟨g, off + 1, cur, et, fz, rfl, hget, by simp at hsz; omega, ?_⟩
      have := congrArg (List.drop 1) hcur
      rw [List.drop_take, List.drop_drop] at this
      simpa [ints] using this
theorem ref04_Take (w : World) (v : Value) (l : List Int) (F : List HProp) (hl : l.length ≤ 1000000000) (hw : holds w (roInts v l :: F)) :
    Calls Try.prog 23 #[v] w fun e w' => ∃ v', e = .returned (.tuple #[v', .int .i64 (ringGet l 0).1, .bool (ringGet l 0).2]) ∧ holds w' (roInts v' (l.drop 1) :: F) := by
  obtain ⟨a, cap, rfl, hcap⟩ := roInts_form hw
  cases l with
  | nil =>
    have e : ringGet [] 0 = (0, false) := by simp [ringGet]
    rw [e]
    clear e
    dsimp only
    go_enter Try.func23, Try.ntmps23
    go_wp2_with fail
    go_ret3
    exact ⟨_, rfl, hw⟩
  | cons x l =>
    have e : ringGet (x :: l) 0 = (x, true) := by simp [ringGet]
    rw [e]
    clear e
    dsimp only
    obtain ⟨g, off, cap', hv, _, hcs⟩ := hw.roIntAt (by simp)
    cases hv
    have c1 := hcs 0 (by simp)
    clear hcs
    have hD := holds.dropInts hw
    simp only [List.length_cons, List.getElem_cons_zero, Nat.add_zero] at c1 hcap ⊢
    have hb : (((l.length + 1 : Nat) : Int) == 0) = false := by simp; omega
    by_cases hcap1 : cap = 1
    · subst hcap1
      have hl0 : l = [] := List.eq_nil_of_length_eq_zero (by omega)
      subst hl0
      have hN := (hw.tail.mkRo0 1 0 (some ⟨g, off, none⟩) 0 (Nat.le_refl _) (by simp))
      go_enter Try.func23, Try.ntmps23
      go_wp2_with fail
      go_quiet (fail)
      go_wp2_with fail
      go_ret3
      exact ⟨_, rfl, hN.drewN _⟩
    · have hc2 : (cap - 1 == 0) = false := by simp; omega
      have hc3 : ¬ cap - 1 = 0 := by omega
      have hc4 : ¬ cap ≤ 1 := by omega
      go_enter Try.func23, Try.ntmps23
      go_wp2_with fail
      go_quiet (fail)
      go_wp2_with fail
      go_ret3
      exact ⟨_, rfl, hD.drewN _⟩

theorem ref04_Place (w : World) (v : Value) (l : List Int) (x : Int) (F : List HProp) (hl : l.length ≤ 1000000000) (hw : holds w (roInts v l :: F)) :
    Calls Try.prog 33 #[v, .int .i64 x] w fun e w' => e = .returned (.int .i64 (placeOf l x)) ∧ holds w' (roInts v l :: F) := by
  obtain ⟨r, hr⟩ : ∃ r, placeOf l x = r := ⟨_, rfl⟩
  rw [hr]
  have HR := Lib.hid hr
  clear hr
  obtain ⟨a, cap, rfl, hcap⟩ := roInts_form hw
  go_enter Try.func33, Try.ntmps33
  go_wp2_with fail
  go_loopw [5] (fun i wr => ∃ k : Nat, k ≤ l.length ∧ i = .int .i64 k ∧ (∀ j (h : j < k) (h1 : j < l.length), l[j] ≠ x) ∧ holds wr (roInts (.slice a l.length cap) l :: F)) (fun i _ => l.length - (intOf i).toNat)
  case atStart => exact ⟨0, Nat.zero_le _, rfl, fun j h => by omega, hw⟩
  case round =>
    obtain ⟨k, hk, rfl, hall, h2⟩ := hrel
    have HA := Lib.hid hall
    clear hall
    by_cases hlt : k < l.length
    · obtain ⟨g, off, c1, hv, _, hcs⟩ := h2.roIntAt (by omega)
      cases hv
      have x1 := hcs k hlt
      clear hcs
      by_cases hx : l[k] = x
      · have hr : r = (k : Int) := HR.out.symm.trans (placeOf_some hlt hx fun j h => HA.out j h (by omega))
        rw [hx] at x1
        clear hx HR
        subst hr
        go_wp2_with fail
        go_ret
        exact ⟨rfl, h2⟩
      · obtain ⟨y, hy⟩ : ∃ y, l[k] = y := ⟨_, rfl⟩
        have hyx : (y == x) = false := by rw [← hy]; simpa using hx
        have HX := Lib.hid hx
        rw [hy] at x1
        clear hx hy
        go_wp2_with fail
        go_roundw
        case rel =>
          refine ⟨k + 1, by omega, by go_num, fun j h h1 => ?_, h2⟩
          by_cases hjk : j = k
          · subst hjk; exact HX.out
          · exact HA.out j (by omega) h1
        case measure => simp [intOf]; omega
    · have hkl : k = l.length := by omega
      subst hkl
      have hr : r = -1 := HR.out.symm.trans (by
        unfold placeOf
        refine if_neg fun hm => ?_
        obtain ⟨j, hj, hjx⟩ := List.getElem_of_mem hm
        exact HA.out j hj hj hjx)
      clear HR
      subst hr
      go_wp2_with fail
      go_ret
      exact ⟨rfl, h2⟩
end Go.Proofs.Ytfkpcmlajdmnfaa
