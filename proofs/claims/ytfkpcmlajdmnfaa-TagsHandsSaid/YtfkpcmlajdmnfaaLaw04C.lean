/- The law RingOrder. -/
import Derived.Test.YtfkpcmlajdmnfaaLaw04
namespace Go.Proofs.Ytfkpcmlajdmnfaa
open Go Go.RowKit Go.MapKept
set_option maxRecDepth 100000
set_option linter.unusedVariables false

theorem ring_Put_nil (w : World) (x : Int) (F : List HProp) (hw : holds w F) :
    Calls Try.prog 22 #[.pointer none, .int .i64 x] w fun e w' => e = .returned (.bool false) ∧ holds w' F := by
  go_enter Try.func22, Try.ntmps22
  go_wp2_with fail
  go_quiet (fail)
  go_wp2_with fail
  go_ret
  exact ⟨rfl, hw.drewN _⟩
theorem ring_At_nil (w : World) (i : Int) (F : List HProp) (hw : holds w F) :
    Calls Try.prog 27 #[.pointer none, .int .i64 i] w fun e w' => e = .returned (.tuple #[.int .i64 0, .bool false]) ∧ holds w' F := by
  go_enter Try.func27, Try.ntmps27
  go_wp2_with fail
  go_ret2
  exact ⟨rfl, hw⟩
theorem ring_First_nil (w : World) (F : List HProp) (hw : holds w F) :
    Calls Try.prog 26 #[.pointer none] w fun e w' => e = .returned (.tuple #[.int .i64 0, .bool false]) ∧ holds w' F := by
  go_enter Try.func26, Try.ntmps26
  go_wp2_with fail
  refine (ring_At_nil _ 0 _ hw).mono ?_
  rintro e w1 ⟨rfl, h1⟩
  go_wp2_with fail
  go_ret2
  exact ⟨rfl, h1⟩
theorem ring_Take_nil (w : World) (F : List HProp) (hw : holds w F) :
    Calls Try.prog 24 #[.pointer none] w fun e w' => e = .returned (.tuple #[.int .i64 0, .bool false]) ∧ holds w' F := by
  go_enter Try.func24, Try.ntmps24
  go_wp2_with fail
  refine (ring_First_nil _ _ hw).mono ?_
  rintro e w1 ⟨rfl, h1⟩
  go_wp2_with fail
  go_ret2
  exact ⟨rfl, h1⟩
theorem ring_Len_nil (w : World) (F : List HProp) (hw : holds w F) :
    Calls Try.prog 28 #[.pointer none] w fun e w' => e = .returned (.int .i64 0) ∧ holds w' F := by
  go_enter Try.func28, Try.ntmps28
  go_wp2_with fail
  go_ret
  exact ⟨rfl, hw⟩
theorem ring_Room_nil (w : World) (F : List HProp) (hw : holds w F) :
    Calls Try.prog 29 #[.pointer none] w fun e w' => e = .returned (.int .i64 0) ∧ holds w' F := by
  go_enter Try.func29, Try.ntmps29
  go_wp2_with fail
  go_ret
  exact ⟨rfl, hw⟩
theorem ring_List_nil (w : World) (F : List HProp) (hw : holds w F) :
    Calls Try.prog 31 #[.pointer none] w fun e W' => ∃ a, e = .returned (.slice a 0 0) ∧ holds W' F :=
  (ringQ_List w none [] F (.inl ⟨rfl, rfl⟩) hw).mono fun e w' ⟨a, he, hh⟩ => ⟨a, he, hh.tail⟩
theorem ring_Place_nil (w : World) (x : Int) (F : List HProp) (hw : holds w F) :
    Calls Try.prog 32 #[.pointer none, .int .i64 x] w fun e W' => e = .returned (.int .i64 (-1)) ∧ holds W' F :=
  (ringQ_Place w none [] x (.inl ⟨rfl, rfl⟩)).mono fun e w' ⟨he, hb⟩ => ⟨he, hw.below hb⟩
theorem ring_zero (w : World) (F : List HProp) (hw : holds w F) : holds (w.alloc (.cells #[.slice none 0 0, .int .i64 0, .int .i64 0] 49 (0, 0))) (ringAt (.pointer (some ⟨w.heap.size, 0, none⟩)) 0 [] :: F) := by
  have h1 := hw.alloc (.cells #[.slice none 0 0, .int .i64 (0 : Nat), .int .i64 (([] : List Int).length : Nat)] 49 (0, 0))
  have h2 : holds _ (_ :: _ :: F) := (holds_ownRow_nil h1 3 1).sel 2 [1, 0]
  exact shut_ring (RingOk.new 0 (by omega)) h2

theorem ringGet_cons (y : Int) (m : List Int) : ringGet (y :: m) 0 = (y, true) := by simp [ringGet]
theorem dropTake_cons {l : List Int} {k x : Nat} (hx : x < k) (hk : k ≤ l.length) : (l.take k).drop x = l[x]'(by omega) :: (l.take k).drop (x + 1) := by
  rw [List.drop_eq_getElem_cons (by simp; omega), List.getElem_take]
theorem dropTake_snoc {l : List Int} {k x : Nat} (hx : x ≤ k) (hk : k < l.length) : (l.take (k + 1)).drop x = (l.take k).drop x ++ [l[k]] := by
  rw [List.take_succ_eq_append_getElem hk, List.drop_append_of_le_length (by simp; omega)]

set_option maxHeartbeats 8000000 in
theorem law_RingOrder (r : Int) (r0 : 0 ≤ r) (r1 : r ≤ 255) (va : Value) (l : List Int) (hwf : ∀ a ∈ l, (Lit.int .i64 a).wf = true) (m0 : l.length ≤ maxLen) (w : World) (F : List HProp) (hw : holds w (roInts va l :: F)) :
    Calls Try.prog 5 #[.int .u8 r, va] w fun e w' => e = .returned (.bool true) ∧ holds w' F := by
  obtain ⟨a, cap, rfl, hcap⟩ := roInts_form hw
  unfold maxLen at m0
  clear hwf
  by_cases h200 : l.length ≤ 200
  · by_cases hz : r = 0
    · subst hz
      have hd : decide ((200 : Int) < l.length) = false := by simp; omega
      go_enter Try.func5, Try.ntmps5
      go_wp2_with fail
      refine (law04_works _ _ hw.tail).mono ?_
      rintro e w2 ⟨rfl, h2⟩
      go_wp2_with fail
      go_ret
      exact ⟨rfl, h2⟩
    · obtain ⟨n, rfl⟩ := Int.eq_ofNat_of_zero_le r0
      have hn0 : 0 < n := by omega
      have hn1 : n ≤ 255 := by omega
      have hz2 : ((n : Int) == 0) = false := by simp; omega
      have hd : decide ((200 : Int) < l.length) = false := by simp; omega
      have hconv : IntKind.i64.wrap (n : Int) = (n : Int) := IntWalk.i64_in _ (by omega)
      clear hz r0 r1
      have G1 := Lib.hid (ring_New w n _ (by omega) (by omega) hw)
      go_enter Try.func5, Try.ntmps5
      go_wp2_with fail
      refine G1.out.mono ?_
      rintro e w1 ⟨v, rfl, h1⟩
      rw [Int.toNat_natCast] at h1
      obtain ⟨b, rfl⟩ : ∃ b, v = .pointer (some ⟨b, 0, none⟩) := by obtain ⟨b, _, _, _, _, e, _⟩ := open_ring h1; exact ⟨b, e⟩
      go_wp2_with fail
      go_loopw [6, 7] (fun nx i wr => ∃ (k x : Nat), k ≤ l.length ∧ i = .int .i64 k ∧ nx = .int .i64 x ∧ x ≤ k ∧ k - x ≤ n ∧ holds wr (ringAt (.pointer (some ⟨b, 0, none⟩)) n ((l.take k).drop x) :: roInts (.slice a l.length cap) l :: F)) (fun _ i _ => l.length - (intOf i).toNat)
      case atStart => exact ⟨0, 0, Nat.zero_le _, rfl, rfl, Nat.le_refl _, Nat.zero_le _, by simpa using h1⟩
      case round =>
        obtain ⟨k, x, hk, rfl, rfl, hxk, hkx, h3⟩ := hrel
        clear h1 G1
        have hql : ((l.take k).drop x).length = k - x := by simp; omega
        by_cases hlt : k < l.length
        · obtain ⟨ga, offa, capa, hva, _, hcs⟩ := (h3.pick 1).roIntAt (by omega)
          cases hva
          have ck := fun w (h : holds w (roInts (.slice (some ⟨ga, offa, none⟩) l.length cap) l :: F)) (i : Nat) (hi : i < l.length) => (show w.cell? ⟨ga, offa + i, none⟩ = some (.int .i64 l[i]) from by
            obtain ⟨_, _, _, hva, _, hcs⟩ := h.roIntAt (by omega)
            cases hva
            exact hcs i hi)
          have CK := Lib.hid ck
          clear ck hcs
          by_cases hfull : k - x = n
          · have hxk2 : x < k := by omega
            have hlen : (((k - x : Nat) : Int) == (n : Int)) = true := by simp; omega
            have hqc := Lib.hid (dropTake_cons hxk2 hk)
            have hsn := Lib.hid (dropTake_snoc (l := l) (k := k) (x := x + 1) (by omega) hlt)
            have L1 := Lib.hid (ring_Len _ _ _ _ _ h3)
            rw [hql] at L1
            go_wp2_with fail
            refine L1.out.mono ?_
            rintro e w4 ⟨rfl, h4⟩
            rw [hqc.out] at h4
            go_wp2_with fail
            refine (ring_Take _ _ _ _ _ h4).mono ?_
            rintro e w5 ⟨rfl, h5⟩
            have cx := CK.out _ h5.tail x (by omega)
            have ck := CK.out _ h5.tail k (by omega)
            rw [ringGet_cons]
            have hx200 : x < 200 := by omega
            go_wp2_with fail
            refine (ring_Put _ _ _ _ _ _ (by simp; omega) h5).mono ?_
            rintro e w6 ⟨rfl, h6⟩
            go_wp2_with fail
            go_roundw
            case rel =>
              refine ⟨k + 1, x + 1, by omega, by go_num, by go_num, by omega, by omega, ?_⟩
              rw [hsn.out]
              exact h6
            case measure => simp [intOf]; omega
          · have hlen : (((k - x : Nat) : Int) == (n : Int)) = false := by simp; omega
            have hsn := Lib.hid (dropTake_snoc (l := l) (k := k) (x := x) hxk hlt)
            have L1 := Lib.hid (ring_Len _ _ _ _ _ h3)
            rw [hql] at L1
            go_wp2_with fail
            refine L1.out.mono ?_
            rintro e w4 ⟨rfl, h4⟩
            have ck := CK.out _ h4.tail k (by omega)
            go_wp2_with fail
            refine (ring_Put _ _ _ _ _ _ (by omega) h4).mono ?_
            rintro e w6 ⟨rfl, h6⟩
            go_wp2_with fail
            go_roundw
            case rel =>
              refine ⟨k + 1, x, by omega, by go_num, rfl, by omega, by omega, ?_⟩
              rw [hsn.out]
              exact h6
            case measure => simp [intOf]; omega
        · have hkl : k = l.length := by omega
          subst hkl
          rw [List.take_length] at h3 hql
          clear hlt hk hkx
          go_wp2_with fail
          go_loopw [6] (fun nx wr => ∃ (x : Nat), x ≤ l.length ∧ nx = .int .i64 x ∧ holds wr (ringAt (.pointer (some ⟨b, 0, none⟩)) n (l.drop x) :: roInts (.slice a l.length cap) l :: F)) (fun nx _ => l.length - (intOf nx).toNat)
          case atStart => exact ⟨x, hxk, rfl, h3⟩
          case round =>
            obtain ⟨x, hx, rfl, h4⟩ := hrel
            clear h3 hql hxk
            by_cases hlt : x < l.length
            · obtain ⟨ga, offa, capa, hva, _, hcs⟩ := (h4.pick 1).roIntAt (by omega)
              cases hva
              clear hcs
              have hqc := Lib.hid (List.drop_eq_getElem_cons hlt)
              rw [hqc.out] at h4
              go_wp2_with fail
              refine (ring_Take _ _ _ _ _ h4).mono ?_
              rintro e w5 ⟨rfl, h5⟩
              obtain ⟨_, _, _, hva, _, hcs⟩ := (h5.pick 1).roIntAt (by omega)
              cases hva
              have cx := hcs x hlt
              clear hcs
              rw [ringGet_cons]
              go_wp2_with fail
              go_roundw
              case rel => exact ⟨x + 1, by omega, by go_num, h5⟩
              case measure => simp [intOf]; omega
            · have hxl : x = l.length := by omega
              subst hxl
              rw [List.drop_length] at h4
              clear hlt
              go_wp2_with fail
              refine (ring_Take_nil _ _ (ring_zero _ _ h4)).mono ?_
              rintro e w5 ⟨rfl, h5⟩
              go_wp2_with fail
              refine (ring_First _ _ _ _ _ h5).mono ?_
              rintro e w6 ⟨rfl, h6⟩
              rw [show ringGet [] 0 = (0, false) from rfl]
              go_wp2_with fail
              refine (ring_At_nil _ 0 _ h6).mono ?_
              rintro e w7 ⟨rfl, h7⟩
              go_wp2_with fail
              refine (ring_Len _ _ _ _ _ (h7.pick 1)).mono ?_
              rintro e w8 ⟨rfl, h8⟩
              have h8 : holds w8 (ringAt (.pointer (some ⟨wr.heap.size, 0, none⟩)) 0 [] :: F) := h8.sel 3 [1]
              go_wp2_with fail
              refine (ring_Put_nil _ 1 _ h8).mono ?_
              rintro e w9 ⟨rfl, h9⟩
              go_wp2_with fail
              refine (ring_Put_full _ _ 0 [] 1 _ rfl h9).mono ?_
              rintro e w10 ⟨rfl, h10⟩
              go_wp2_with fail
              refine (ring_Len_nil _ _ h10).mono ?_
              rintro e w11 ⟨rfl, h11⟩
              go_wp2_with fail
              refine (ring_Len _ _ _ _ _ h11).mono ?_
              rintro e w12 ⟨rfl, h12⟩
              go_wp2_with fail
              refine (ring_Room_nil _ _ h12).mono ?_
              rintro e w13 ⟨rfl, h13⟩
              go_wp2_with fail
              refine (ring_Room _ _ _ _ _ h13).mono ?_
              rintro e w14 ⟨rfl, h14⟩
              go_wp2_with fail
              refine (ring_Place_nil _ 0 _ h14).mono ?_
              rintro e w15 ⟨rfl, h15⟩
              go_wp2_with fail
              refine (ring_Place _ _ _ _ 0 _ h15).mono ?_
              rintro e w16 ⟨rfl, h16⟩
              rw [show placeOf [] 0 = -1 from rfl]
              go_wp2_with fail
              refine (ring_List_nil _ _ h16).mono ?_
              rintro e w17 ⟨a17, rfl, h17⟩
              go_wp2_with fail
              refine (ring_List _ _ _ _ _ h17).mono ?_
              rintro e w18 ⟨a18, rfl, h18⟩
              have h19 : holds w18 F := h18.sel 2 []
              go_wp2_with fail
              refine (law04_works _ _ h19).mono ?_
              rintro e w19 ⟨rfl, h20⟩
              go_wp2_with fail
              go_ret
              exact ⟨rfl, h20⟩
  · have h201 : decide ((200 : Int) < l.length) = true := by simp; omega
    go_enter Try.func5, Try.ntmps5
    go_wp2_with fail
    refine (law04_works _ _ hw.tail).mono ?_
    rintro e w2 ⟨rfl, h2⟩
    go_wp2_with fail
    go_ret
    exact ⟨rfl, h2⟩
end Go.Proofs.Ytfkpcmlajdmnfaa
