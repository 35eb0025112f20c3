/- The law WaitsAhead. -/
import Derived.Test.YtfkpcmlajdmnfaaLaw21
namespace Go.Proofs.Ytfkpcmlajdmnfaa
open Go Go.RowKit Go.MapKept
set_option maxRecDepth 100000
set_option linter.unusedVariables false

def roU8s (v : Value) (l : List Int) : HProp := roRow 1 v l.length (l.map (.int .u8))
theorem roU8s_form {w : World} {F : List HProp} {v : Value} {l : List Int} (h : holds w (roU8s v l :: F)) : ∃ a cap, v = .slice a l.length cap ∧ l.length ≤ cap := (holds.roReads h).form
theorem holds.u8At {w : World} {F : List HProp} {v : Value} {l : List Int} (h : holds w (roU8s v l :: F)) (h0 : 0 < l.length) :
    ∃ g off cap, v = .slice (some ⟨g, off, none⟩) l.length cap ∧ l.length ≤ cap ∧ ∀ (i : Nat) (hi : i < l.length), w.cell? ⟨g, off + i, none⟩ = some (.int .u8 l[i]) := by
  obtain ⟨b, off, cap, h1, h2, h3⟩ := (holds.roReads h).cells (by omega)
  refine ⟨b, off, cap, h1, h2, fun i hi => ?_⟩
  rw [h3 i (by omega)]
  simp [hi]
def u8Ok (l : List Int) : Prop := ∀ a ∈ l, 0 ≤ a ∧ a ≤ 255

theorem placeOf_at {l : List Int} (hn : l.Nodup) (i : Nat) (hi : i < l.length) : placeOf l l[i] = i :=
  placeOf_some hi rfl fun j hj e => List.pairwise_iff_getElem.1 hn j i (by omega) hi hj e
theorem waits_nodup {w : World} {v : Value} {n : Nat} {l : List Int} {c : Int} {F : List HProp} (h : holds w (waitsAt v n l c :: F)) : l.Nodup ∧ l.length ≤ n := by
  obtain ⟨_, _, _, _, _, _, _, hm, _⟩ := open_waits h
  exact ⟨hm.nodup, nodup_le n l hm.nodup hm.rng⟩

set_option maxHeartbeats 8000000 in
theorem law_WaitsAhead (va : Value) (l : List Int) (hwf : ∀ a ∈ l, (Lit.int .u8 a).wf = true) (m0 : l.length ≤ maxLen) (t : Int) (t0 : 0 ≤ t) (t1 : t ≤ 255) (w : World) (F : List HProp) (hw : holds w (roU8s va l :: F)) :
    Calls Try.prog 10 #[va, .int .u8 t] w fun e w' => e = .returned (.bool true) ∧ holds w' F := by
  obtain ⟨a, cap, rfl, hcap⟩ := roU8s_form hw
  unfold maxLen at m0
  have hu : u8Ok l := fun a ha => bounds_u8 (hwf a ha)
  have HU := Lib.hid hu
  clear hwf hu
  by_cases h100 : l.length ≤ 100
  · have hd : decide ((100 : Int) < l.length) = false := by simp; omega
    have G1 := Lib.hid (waits_New w 256 _ (by omega) hw)
    go_enter Try.func10, Try.ntmps10
    go_wp2_with fail
    refine G1.out.mono ?_
    rintro e w1 ⟨b, rfl, h1⟩
    go_wp2_with fail
    go_loopw [6] (fun i wr => ∃ (k : Nat) (q : List Int) (c : Int), k ≤ l.length ∧ i = .int .i64 k ∧ c ≤ k ∧ holds wr (waitsAt (.pointer (some ⟨b, 0, none⟩)) 256 q c :: roU8s (.slice a l.length cap) l :: F)) (fun i _ => l.length - (intOf i).toNat)
    case atStart => exact ⟨0, [], 0, Nat.zero_le _, rfl, Int.le_refl _, h1⟩
    case round =>
      obtain ⟨k, q, c, hk, rfl, hc, h3⟩ := hrel
      clear h1 G1
      by_cases hlt : k < l.length
      · obtain ⟨ga, offa, capa, hva, _, hcs⟩ := (h3.pick 1).u8At (by omega)
        cases hva
        have c1 := hcs k hlt
        have hx := HU.out _ (List.getElem_mem hlt)
        clear hcs
        generalize l[k] = x at c1 hx
        have hconv : IntKind.i64.wrap x = x := IntWalk.i64_in _ (by omega)
        go_wp2_with fail
        refine (waits_Put _ _ _ _ _ x _ (by omega) h3).mono ?_
        rintro e w4 ⟨rfl, h4⟩
        go_wp2_with fail
        go_roundw
        case rel => exact ⟨k + 1, _, _, by omega, by go_num, by split <;> omega, h4⟩
        case measure => simp [intOf]; omega
      · have hkl : k = l.length := by omega
        subst hkl
        have hmod : Int.tmod t 9 = ((t.toNat % 9 : Nat) : Int) := by
          rw [Int.natCast_emod, Int.toNat_of_nonneg t0]; exact Int.tmod_eq_emod_of_nonneg t0
        have hm9 : t.toNat % 9 < 9 := Nat.mod_lt _ (by omega)
        generalize t.toNat % 9 = m at hmod hm9
        have hconv : IntKind.i64.wrap t = t := IntWalk.i64_in _ (by omega)
        have hconv2 : IntKind.i64.wrap (m : Int) = (m : Int) := IntWalk.i64_in _ (by omega)
        clear hlt hk HU
        go_wp2_with fail
        go_loopw [7] (fun i wr => ∃ (k : Nat) (q : List Int), k ≤ m ∧ i = .int .i64 k ∧ holds wr (waitsAt (.pointer (some ⟨b, 0, none⟩)) 256 q c :: F)) (fun i _ => m - (intOf i).toNat)
        case atStart => exact ⟨0, q, Nat.zero_le _, rfl, h3.sel 2 [0]⟩
        case round =>
          obtain ⟨k, q, hk, rfl, h4⟩ := hrel
          clear h3
          by_cases hlt : k < m
          · go_wp2_with fail
            refine (waits_Take _ _ _ _ _ _ (by omega) h4).mono ?_
            rintro e w5 ⟨rfl, h5⟩
            go_wp2_with fail
            go_roundw
            case rel => exact ⟨k + 1, _, by omega, by go_num, h5⟩
            case measure => simp [intOf]; omega
          · have hkm : ¬ (k : Int) < m := by omega
            obtain ⟨hnd, hq256⟩ := waits_nodup h4
            have HND := Lib.hid hnd
            clear hlt hnd
            go_wp2_with fail
            refine (waits_List _ _ _ _ _ _ h4).mono ?_
            rintro e w5 ⟨a5, rfl, h5⟩
            go_wp2_with fail
            go_loopw [9] (fun i wr => ∃ (j : Nat), j ≤ q.length ∧ i = .int .i64 j ∧ holds wr (roInts (.slice a5 q.length q.length) q :: waitsAt (.pointer (some ⟨b, 0, none⟩)) 256 q c :: F)) (fun i _ => q.length - (intOf i).toNat)
            case atStart => exact ⟨0, Nat.zero_le _, rfl, h5⟩
            case round =>
              obtain ⟨j, hj, rfl, h6⟩ := hrel
              clear h5 h4
              by_cases hlt : j < q.length
              · obtain ⟨gq, offq, capq, hva, _, hcs⟩ := h6.roIntAt (by omega)
                cases hva
                have c1 := hcs j hlt
                clear hcs
                have hp := placeOf_at HND.out j hlt
                have o := fun w h => waits_Ahead w (.pointer (some ⟨b, 0, none⟩)) 256 q c q[j] (roInts (.slice (some ⟨gq, offq, none⟩) q.length q.length) q :: F) (by omega) h
                rw [hp] at o
                have O := Lib.hid o
                clear o hp
                generalize q[j] = y at c1 O
                go_wp2_with fail
                refine (O.out _ (h6.sel 2 [1, 0])).mono ?_
                rintro e w7 ⟨rfl, h7⟩
                go_wp2_with fail
                go_roundw
                case rel => exact ⟨j + 1, by omega, by go_num, h7.sel 2 [1, 0]⟩
                case measure => simp [intOf]; omega
              · have hjl : j = q.length := by omega
                subst hjl
                go_wp2_with fail
                refine (waits_Len _ _ _ _ _ _ h6.tail).mono ?_
                rintro e w7 ⟨rfl, h7⟩
                have h8 : holds w7 F := h7.tail
                go_wp2_with fail
                refine (law21_works _ _ h8).mono ?_
                rintro e w8 ⟨rfl, h9⟩
                go_wp2_with fail
                go_ret
                exact ⟨rfl, h9⟩
  · have h101 : decide ((100 : Int) < l.length) = true := by simp; omega
    go_enter Try.func10, Try.ntmps10
    go_wp2_with fail
    refine (law21_works _ _ hw.tail).mono ?_
    rintro e w2 ⟨rfl, h2⟩
    go_wp2_with fail
    go_ret
    exact ⟨rfl, h2⟩
end Go.Proofs.Ytfkpcmlajdmnfaa
