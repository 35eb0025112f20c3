/- The law WaitsOrder. -/
import Derived.Test.YtfkpcmlajdmnfaaLaw21C
namespace Go.Proofs.Ytfkpcmlajdmnfaa
open Go Go.RowKit Go.MapKept
set_option maxRecDepth 100000
set_option linter.unusedVariables false

theorem placeOf_drop {l : List Int} (hn : l.Nodup) (i j : Nat) (hj : j < l.length) : placeOf (l.drop i) l[j] = if i ≤ j then ((j - i : Nat) : Int) else -1 := by
  have hnd : (l.drop i).Nodup := hn.sublist (List.drop_sublist _ _)
  split
  · rename_i h
    have hjl : j - i < (l.drop i).length := by simp; omega
    have e : (l.drop i)[j - i] = l[j] := by simp [show i + (j - i) = j by omega]
    rw [← e]
    exact placeOf_at hnd _ hjl
  · rename_i h
    unfold placeOf
    refine if_neg fun hm => ?_
    obtain ⟨m, hm, he⟩ := List.getElem_of_mem hm
    rw [List.getElem_drop] at he
    exact List.pairwise_iff_getElem.1 hn j (i + m) hj (by simp at hm; omega) (by omega) he.symm

set_option maxHeartbeats 8000000 in
theorem law_WaitsOrder (va : Value) (l : List Int) (hwf : ∀ a ∈ l, (Lit.int .u8 a).wf = true) (m0 : l.length ≤ maxLen) (t : Int) (t0 : 0 ≤ t) (t1 : t ≤ 255) (w : World) (F : List HProp) (hw : holds w (roU8s va l :: F)) :
    Calls Try.prog 9 #[va, .int .u8 t] w fun e w' => e = .returned (.bool true) ∧ holds w' F := by
  obtain ⟨a, cap, rfl, hcap⟩ := roU8s_form hw
  unfold maxLen at m0
  have hu : u8Ok l := fun a ha => bounds_u8 (hwf a ha)
  have HU := Lib.hid hu
  clear hwf hu
  by_cases h100 : l.length ≤ 100
  · have hd : decide ((100 : Int) < l.length) = false := by simp; omega
    have G1 := Lib.hid (waits_New w 256 _ (by omega) hw)
    go_enter Try.func9, Try.ntmps9
    go_wp2_with fail
    refine G1.out.mono ?_
    rintro e w1 ⟨b, rfl, h1⟩
    have h2 : holds w1 (_ :: _ :: _ :: F) := (holds_ownRow_nil h1 3 1).sel 2 [1, 0]
    go_wp2_with fail
    go_loopw [6, 7] (fun s6 i wr => ∃ (k : Nat) (q : List Int) (c : Int), k ≤ l.length ∧ i = .int .i64 k ∧ c ≤ k ∧ q.length ≤ k ∧ holds wr (waitsAt (.pointer (some ⟨b, 0, none⟩)) 256 q c :: ownInts s6 q :: roU8s (.slice a l.length cap) l :: F)) (fun _ i _ => l.length - (intOf i).toNat)
    case atStart => exact ⟨0, [], 0, Nat.zero_le _, rfl, Int.le_refl _, Nat.le_refl _, h2⟩
    case round =>
      obtain ⟨k, q, c, hk, rfl, hc, hq, h3⟩ := hrel
      clear h1 h2 G1
      obtain ⟨a6, c6, rfl⟩ := ownInts_form (h3.pick 1)
      by_cases hlt : k < l.length
      · obtain ⟨ga, offa, capa, hva, _, hcs⟩ := (h3.pick 2).u8At (by omega)
        cases hva
        have c1 := hcs k hlt
        have hx := HU.out _ (List.getElem_mem hlt)
        have CK := Lib.hid (fun (w : World) (G : List HProp) (h : holds w (roU8s (.slice (some ⟨ga, offa, none⟩) l.length cap) l :: G)) => (show w.cell? ⟨ga, offa + k, none⟩ = some (.int .u8 l[k]) from by
          obtain ⟨_, _, _, hva, _, hcs⟩ := h.u8At (by omega)
          cases hva
          exact hcs k hlt))
        clear hcs
        generalize l[k] = x at c1 hx CK
        have hconv : IntKind.i64.wrap x = x := IntWalk.i64_in _ (by omega)
        have o := waits_Put wr _ 256 q c x _ (by omega) h3
        by_cases hp : (Waits.put 256 q x).1 = 0
        · have h2 : (Waits.put 256 q x).2 = q ++ [x] := by
            unfold Waits.put at hp ⊢
            split
            · rename_i h; rw [if_pos h] at hp; simp at hp
            · rename_i h
              rw [if_neg h] at hp
              split
              · rename_i h'; rw [if_pos h'] at hp; simp at hp
              · rfl
          rw [hp, h2, if_pos rfl] at o
          have O := Lib.hid o
          clear o hp h2
          go_wp2_with fail
          refine O.out.mono ?_
          rintro e w4 ⟨rfl, h4⟩
          have c2 := CK.out w4 _ (h4.sel 3 [2])
          have h5 : holds w4 (ownInts (.slice a6 q.length c6) q :: waitsAt (.pointer (some ⟨b, 0, none⟩)) 256 (q ++ [x]) (c + 1) :: roU8s (.slice (some ⟨ga, offa, none⟩) l.length cap) l :: F) := h4.sel 3 [1, 0, 2]
          clear c1 O CK
          go_wp2_with (at_builtin; refine wpList_appendInt (nb := w4.heap.size) rfl _ _ rfl rfl ((h5.alloc (.cells #[.int .i64 x] 3)).order [1, 0]) rfl (cellAt (h5.alloc (.cells #[.int .i64 x] 3)).get_blk 0) (by omega) ?_; intro v6 w6 h6)
          have h7 : holds w6 (ownInts v6 (q ++ [x]) :: blk w4.heap.size (.cells #[.int .i64 x] 3) :: waitsAt (.pointer (some ⟨b, 0, none⟩)) 256 (q ++ [x]) (c + 1) :: roU8s (.slice (some ⟨ga, offa, none⟩) l.length cap) l :: F) := h6
          go_roundw
          case rel => exact ⟨k + 1, _, _, by omega, by go_num, by omega, by simp; omega, h7.sel 4 [2, 0, 3]⟩
          case measure => simp [intOf]; omega
        · have h2 : (Waits.put 256 q x).2 = q := by
            unfold Waits.put at hp ⊢
            split
            · rfl
            · rename_i h
              rw [if_neg h] at hp
              split
              · rfl
              · rename_i h'; rw [if_neg h'] at hp; simp at hp
          rw [h2, if_neg hp] at o
          have hb : ((Waits.put 256 q x).1 == 0) = false := by simpa using hp
          generalize (Waits.put 256 q x).1 = er at o hb
          have O := Lib.hid o
          clear o hp h2
          go_wp2_with fail
          refine O.out.mono ?_
          rintro e w4 ⟨rfl, h4⟩
          go_wp2_with fail
          go_roundw
          case rel => exact ⟨k + 1, _, _, by omega, by go_num, by omega, by omega, h4⟩
          case measure => simp [intOf]; omega
      · have hkl : k = l.length := by omega
        subst hkl
        clear HU hlt hk
        obtain ⟨hnd, hq256⟩ := waits_nodup h3
        have HND := Lib.hid hnd
        have h4 : holds wr (waitsAt (.pointer (some ⟨b, 0, none⟩)) 256 q c :: ownInts (.slice a6 q.length c6) q :: F) := h3.sel 3 [0, 1]
        clear h3 hnd
        by_cases hq0 : q.length = 0
        · have hq1 : q = [] := List.eq_nil_of_length_eq_zero hq0
          subst hq1
          go_wp2_with fail
          refine (waits_Len _ _ _ _ _ _ h4).mono ?_
          rintro e w5 ⟨rfl, h5⟩
          have h6 : holds w5 F := h5.sel 2 []
          go_wp2_with fail
          refine (law21_works _ _ h6).mono ?_
          rintro e w6 ⟨rfl, h7⟩
          go_wp2_with fail
          go_ret
          exact ⟨rfl, h7⟩
        · have h5 : holds wr (waitsAt (.pointer (some ⟨b, 0, none⟩)) 256 q c :: roInts (.slice a6 q.length c6) q :: F) := (h4.sel 2 [1, 0] |> holds.shareInts).sel 2 [1, 0]
          clear h4
          have hjm : t.toNat % q.length < q.length := Nat.mod_lt _ (by omega)
          have hmod : Int.tmod t q.length = ((t.toNat % q.length : Nat) : Int) := by
            rw [Int.natCast_emod, Int.toNat_of_nonneg t0]; exact Int.tmod_eq_emod_of_nonneg t0
          generalize t.toNat % q.length = j at hmod hjm
          have hconv : IntKind.i64.wrap t = t := IntWalk.i64_in _ (by omega)
          have hconv2 : IntKind.i64.wrap (j : Int) = (j : Int) := IntWalk.i64_in _ (by omega)
          have hqz : ((q.length : Int) == 0) = false := beq_false_of_ne (by omega)
          obtain ⟨gq, offq, capq, hva, _, hcs⟩ := (h5.pick 1).roIntAt (by omega)
          cases hva
          have c1 := hcs j hjm
          clear hcs
          obtain ⟨x, hx⟩ : ∃ x, q[j] = x := ⟨_, rfl⟩
          rw [hx] at c1
          have HX := Lib.hid hx
          clear hx
          go_wp2_with fail
          clear c1 hmod hconv2
          go_loopw [9] (fun i wr => ∃ (k : Nat), k ≤ q.length ∧ i = .int .i64 k ∧ holds wr (waitsAt (.pointer (some ⟨b, 0, none⟩)) 256 (q.drop k) c :: roInts (.slice (some ⟨gq, offq, none⟩) q.length c6) q :: F)) (fun i _ => q.length - (intOf i).toNat)
          case atStart => exact ⟨0, Nat.zero_le _, rfl, h5⟩
          case round =>
            obtain ⟨k, hk, rfl, h6⟩ := hrel
            clear h5
            by_cases hlt : k < q.length
            · have CK := Lib.hid (fun (w : World) (G : List HProp) (h : holds w (roInts (.slice (some ⟨gq, offq, none⟩) q.length c6) q :: G)) => (show w.cell? ⟨gq, offq + k, none⟩ = some (.int .i64 q[k]) from by
                obtain ⟨_, _, _, hva, _, hcs⟩ := h.roIntAt (by omega)
                cases hva
                exact hcs k hlt))
              have hqc := List.drop_eq_getElem_cons hlt
              have p1 := placeOf_drop HND.out k j hjm
              have p2 := placeOf_drop HND.out (k + 1) j hjm
              rw [HX.out] at p1 p2
              have hxy : (q[k] = x) ↔ k = j := by
                rw [← HX.out]
                constructor
                · intro e
                  rcases Nat.lt_trichotomy k j with h | h | h
                  · exact absurd e (List.pairwise_iff_getElem.1 HND.out k j hlt hjm h)
                  · exact h
                  · exact absurd e.symm (List.pairwise_iff_getElem.1 HND.out j k hjm hlt h)
                · intro e; subst e; rfl
              obtain ⟨y, hy⟩ : ∃ y, q[k] = y := ⟨_, rfl⟩
              have o1 := fun w h => waits_Ahead w (.pointer (some ⟨b, 0, none⟩)) 256 (q.drop k) c x (roInts (.slice (some ⟨gq, offq, none⟩) q.length c6) q :: F) (by omega) h
              have o2 : ∀ w, holds w (waitsAt (.pointer (some ⟨b, 0, none⟩)) 256 (q.drop k) c :: roInts (.slice (some ⟨gq, offq, none⟩) q.length c6) q :: F) → Calls Try.prog 51 #[.pointer (some ⟨b, 0, none⟩)] w fun e w' => e = .returned (.tuple #[.int .i64 y, .int .i64 0]) ∧ holds w' (waitsAt (.pointer (some ⟨b, 0, none⟩)) 256 (q.drop (k + 1)) c :: roInts (.slice (some ⟨gq, offq, none⟩) q.length c6) q :: F) := fun w h => by
                have := waits_Take w (.pointer (some ⟨b, 0, none⟩)) 256 (q.drop k) c (roInts (.slice (some ⟨gq, offq, none⟩) q.length c6) q :: F) (by omega) h
                rw [List.drop_drop, hqc, ringGet_cons, hy] at this
                exact this
              have o3 := fun w h => waits_Ahead w (.pointer (some ⟨b, 0, none⟩)) 256 (q.drop (k + 1)) c x (roInts (.slice (some ⟨gq, offq, none⟩) q.length c6) q :: F) (by omega) h
              have HY := Lib.hid hy
              rw [hy] at hxy
              rw [p1] at o1
              rw [p2] at o3
              clear hy hqc
              rcases Nat.lt_trichotomy k j with hkj | hkj | hkj
              · rw [if_pos (show k ≤ j by omega)] at o1
                rw [if_pos (show k + 1 ≤ j by omega)] at o3
                have O1 := Lib.hid o1
                have O2 := Lib.hid o2
                have O3 := Lib.hid o3
                have hb : (x == y) = false := beq_false_of_ne fun e => by have := hxy.1 e.symm; omega
                clear o1 o2 o3 p1 p2 hxy
                have hgt : (0 : Int) < ((j - k : Nat) : Int) := by omega
                have hsub : IntKind.i64.wrap (((j - k : Nat) : Int) - 1) = ((j - (k + 1) : Nat) : Int) := by rw [show ((j - k : Nat) : Int) - 1 = ((j - (k + 1) : Nat) : Int) by omega]; exact IntWalk.i64_in _ (by omega)
                generalize ((j - k : Nat) : Int) = ah at O1 hgt hsub
                generalize ((j - (k + 1) : Nat) : Int) = ah2 at O3 hsub
                go_wp2_with fail
                refine (O1.out _ h6).mono ?_
                rintro e w7 ⟨rfl, h7⟩
                go_wp2_with fail
                refine (O2.out _ h7).mono ?_
                rintro e w8 ⟨rfl, h8⟩
                have cy := CK.out w8 _ h8.tail
                rw [HY.out] at cy
                go_wp2_with fail
                refine (O3.out _ h8).mono ?_
                rintro e w9 ⟨rfl, h9⟩
                go_wp2_with fail
                go_roundw
                case rel => exact ⟨k + 1, by omega, by go_num, h9⟩
                case measure => simp [intOf]; omega
              · subst hkj
                rw [if_pos (Nat.le_refl _)] at o1
                rw [if_neg (show ¬ k + 1 ≤ k by omega)] at o3
                have O1 := Lib.hid o1
                have O2 := Lib.hid o2
                have O3 := Lib.hid o3
                have hb : (x == y) = true := by have := hxy.2 rfl; simp [this]
                clear o1 o2 o3 p1 p2 hxy
                rw [Nat.sub_self] at O1
                go_wp2_with fail
                refine (O1.out _ h6).mono ?_
                rintro e w7 ⟨rfl, h7⟩
                go_wp2_with fail
                refine (O2.out _ h7).mono ?_
                rintro e w8 ⟨rfl, h8⟩
                have cy := CK.out w8 _ h8.tail
                rw [HY.out] at cy
                go_wp2_with fail
                go_roundw
                case rel => exact ⟨k + 1, by omega, by go_num, h8⟩
                case measure => simp [intOf]; omega
              · rw [if_neg (show ¬ k ≤ j by omega)] at o1
                rw [if_neg (show ¬ k + 1 ≤ j by omega)] at o3
                have O1 := Lib.hid o1
                have O2 := Lib.hid o2
                have O3 := Lib.hid o3
                have hb : (x == y) = false := beq_false_of_ne fun e => by have := hxy.1 e.symm; omega
                clear o1 o2 o3 p1 p2 hxy
                go_wp2_with fail
                refine (O1.out _ h6).mono ?_
                rintro e w7 ⟨rfl, h7⟩
                go_wp2_with fail
                refine (O2.out _ h7).mono ?_
                rintro e w8 ⟨rfl, h8⟩
                have cy := CK.out w8 _ h8.tail
                rw [HY.out] at cy
                go_wp2_with fail
                go_roundw
                case rel => exact ⟨k + 1, by omega, by go_num, h8⟩
                case measure => simp [intOf]; omega
            · have hkl : k = q.length := by omega
              subst hkl
              rw [List.drop_length] at h6
              have h7 : holds wr (waitsAt (.pointer (some ⟨b, 0, none⟩)) 256 [] c :: F) := h6.sel 2 [0]
              clear h6 hlt
              have hz := fun (w : World) (h : holds w (waitsAt (.pointer (some ⟨b, 0, none⟩)) 256 [] c :: F)) => h.alloc (.cells #[.pointer none, .slice none 0 0, .int .i64 0, .int .i64 0] 83 (0, 0))
              have h8 := hz _ h7
              have zn : ∀ (w : World) (G : List HProp), holds w (blk wr.heap.size (.cells #[.pointer none, .slice none 0 0, .int .i64 0, .int .i64 0] 83 (0, 0)) :: G) → noLine w (.pointer (some ⟨wr.heap.size, 0, none⟩)) := fun w G h => .inr ⟨_, rfl, cellAt h.get_blk 0, cellAt h.get_blk 2⟩
              have ZN := Lib.hid zn
              clear hz zn
              go_wp2_with fail
              refine (no_Take _ _ (.inl rfl)).mono ?_
              rintro e w1 ⟨rfl, rfl⟩
              go_wp2_with fail
              refine (no_Take _ _ (ZN.out _ _ h8)).mono ?_
              rintro e w1 ⟨rfl, rfl⟩
              go_wp2_with fail
              refine (waits_Len _ _ _ _ _ _ (h8.sel 2 [1, 0])).mono ?_
              rintro e w2 ⟨rfl, h9⟩
              have h10 : holds w2 (blk wr.heap.size (.cells #[.pointer none, .slice none 0 0, .int .i64 0, .int .i64 0] 83 (0, 0)) :: F) := h9.sel 2 [1]
              have hz := Lib.hid (ZN.out _ _ h10)
              have h11 : holds w2 F := h10.tail
              clear h7 h8 h9 h10
              go_wp2_with fail
              refine (no_Put _ _ 0 (.inl rfl)).mono ?_
              rintro e w1 ⟨rfl, rfl⟩
              go_wp2_with fail
              refine (no_Put _ _ 0 hz.out).mono ?_
              rintro e w1 ⟨rfl, rfl⟩
              go_wp2_with fail
              refine (no_Ahead _ _ 0 (.inl rfl)).mono ?_
              rintro e w1 ⟨rfl, rfl⟩
              go_wp2_with fail
              refine (no_Ahead _ _ 0 hz.out).mono ?_
              rintro e w1 ⟨rfl, rfl⟩
              go_wp2_with fail
              refine (no_Len _ _ (.inl rfl)).mono ?_
              rintro e w1 ⟨rfl, rfl⟩
              go_wp2_with fail
              refine (no_Len _ _ hz.out).mono ?_
              rintro e w1 ⟨rfl, rfl⟩
              go_wp2_with fail
              refine (no_Count _ _ (.inl rfl)).mono ?_
              rintro e w1 ⟨rfl, rfl⟩
              go_wp2_with fail
              refine (no_Count _ _ hz.out).mono ?_
              rintro e w1 ⟨rfl, rfl⟩
              go_wp2_with fail
              refine (no_List _ _ (.inl rfl)).mono ?_
              rintro e w1 ⟨rfl, rfl⟩
              go_wp2_with fail
              refine (no_List _ _ hz.out).mono ?_
              rintro e w1 ⟨rfl, rfl⟩
              go_wp2_with fail
              refine (law21_works _ _ h11).mono ?_
              rintro e w3 ⟨rfl, h12⟩
              go_wp2_with fail
              go_ret
              exact ⟨rfl, h12⟩
  · have h101 : decide ((100 : Int) < l.length) = true := by simp; omega
    go_enter Try.func9, Try.ntmps9
    go_wp2_with fail
    refine (law21_works _ _ hw.tail).mono ?_
    rintro e w2 ⟨rfl, h2⟩
    go_wp2_with fail
    go_ret
    exact ⟨rfl, h2⟩
end Go.Proofs.Ytfkpcmlajdmnfaa
