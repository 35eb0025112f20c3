/- Held of both, Members and New of the reference. -/
import Derived.Test.YtdcekeclemgkcaaMemb
namespace Go.Proofs.Ytdcekeclemgkcaa
open Go Go.RowKit Go.MapKept
set_option maxRecDepth 100000
set_option linter.unusedVariables false
set_option maxHeartbeats 1000000
attribute [local go_sem] exactUpon looseUpon

theorem sum_bd : ∀ (l : List Int), (∀ x ∈ l, 0 ≤ x ∧ x ≤ 1048576) → 0 ≤ l.sum ∧ l.sum ≤ l.length * 1048576
  | [], _ => by simp
  | x :: l, h => by
    have := sum_bd l fun y hy => h y (List.mem_cons_of_mem _ hy)
    have hx := h x List.mem_cons_self
    rw [List.sum_cons, List.length_cons]
    push_cast
    omega
theorem sum_take {l : List Int} {j : Nat} (hj : j < l.length) : (l.take (j + 1)).sum = (l.take j).sum + l[j] := by
  rw [List.take_succ_eq_append_getElem hj, List.sum_append]
  simp
theorem AccsM.Ok.held {t : AccsM} {k : Nat} (h : t.Ok k) : ∀ a ∈ t.A, 0 ≤ a.held ∧ a.held ≤ 1048576 := fun a ha => by
  rcases h.right a ha with h1 | h1
  · have := (Acct.right_iff a).1 h1; omega
  · rw [h1]; simp [ac0]

theorem accs_Held (w : World) (v : Value) (t : AccsM) (k : Nat) (F : List HProp) (ho : t.Ok k) (hl : t.s.gens.length ≤ 1000) (hw : holds w (accsAt v t :: F)) :
    Calls Try.prog 51 #[v] w fun e w' => e = .returned (.int .i64 (acSum t.A)) ∧ holds w' (accsAt v t :: F) := by
  have H := Lib.hid (accs_Members w v t k F ho hl hw)
  have hbd : ∀ x ∈ t.members.map (fun x => x.2.held), 0 ≤ x ∧ x ≤ 1048576 := fun x hx => by
    obtain ⟨y, hy, rfl⟩ := List.mem_map.1 hx
    obtain ⟨p, hp, rfl⟩ := List.mem_map.1 hy
    have h1 := keys_lt ho.good.ok p (AccsM.mem_ids.1 hp)
    have h0 := keys_pos ho.good.ok p (AccsM.mem_ids.1 hp)
    have hq : p.toNat < t.A.length := by rw [ho.len]; omega
    simp only [List.getD_eq_getElem?_getD, List.getElem?_eq_getElem hq, Option.getD_some]
    exact ho.held _ (List.getElem_mem hq)
  have hlen : t.members.length ≤ 1000 := by
    have := ho.opn_le
    have h2 := AccsM.ids_len t
    unfold AccsM.members
    rw [List.length_map]; omega
  rw [← ho.sum]
  unfold mbSum
  clear ho hl hw
  generalize t.members = M at H hbd hlen ⊢
  have hsum := fun j => sum_bd ((M.map (fun x => x.2.held)).take j) (fun x hx => hbd x (List.mem_of_mem_take hx))
  have hlt2 := fun j => List.length_take_le j (M.map (fun x => x.2.held))
  have HT := Lib.hid (fun j (hj : j < M.length) => sum_take (l := M.map (fun x => x.2.held)) (j := j) (by simpa using hj))
  have HB := Lib.hid hbd
  clear hbd
  go_enter Try.func51, Try.ntmps51
  go_wp2_with fail
  refine H.out.mono ?_
  rintro e1 w1 ⟨a, c, rfl, h1⟩
  go_wp2_with fail
  go_loopw [3, 9] (fun n i wr => ∃ j : Nat, j ≤ M.length ∧ i = .int .i64 j ∧ n = .int .i64 ((M.map (fun x => x.2.held)).take j).sum ∧ holds wr (roMb (.slice a M.length c) M :: accsAt v t :: F)) (fun _ i _ => M.length - (intOf i).toNat)
  case atStart => exact ⟨0, Nat.zero_le _, rfl, by simp, h1⟩
  case round =>
    obtain ⟨j, hj, rfl, rfl, h2⟩ := hrel
    clear h1
    by_cases hlt : j < M.length
    · obtain ⟨g1, o1, cp, hv, _, hc⟩ := h2.roMbAt (by omega)
      cases hv
      obtain ⟨k0, k1, k2, k3⟩ := hc j hlt
      clear hc
      have ht := HT.out j hlt
      rw [List.getElem_map] at ht
      have b0 := hsum j
      have b1 := hsum (j + 1)
      have b2 := hlt2 j
      have b3 := hlt2 (j + 1)
      have hbx := HB.out M[j].2.held (List.mem_map.2 ⟨_, List.getElem_mem hlt, rfl⟩)
      generalize hs1 : ((M.map (fun x => x.2.held)).take (j + 1)).sum = s1 at ht b1
      generalize ((M.map (fun x => x.2.held)).take j).sum = s0 at ht b0 ⊢
      generalize M[j] = x at k0 k1 k2 k3 ht hbx
      obtain ⟨p, cl, hh, cr⟩ := x
      simp only at k0 k1 k2 k3 ht hbx
      have wr1 : IntKind.i64.wrap (s0 + hh) = s1 := by rw [ht]; exact IntWalk.i64_in _ (by omega)
      have HS := Lib.hid hs1
      clear ht b0 b1 b2 b3 hbx hs1
      go_wp2_with fail
      go_roundw
      case rel => exact ⟨j + 1, by omega, by go_num, by rw [HS.out], (h2.alloc _).tail⟩
      case measure => simp [intOf]; omega
    · have hjl : j = M.length := by omega
      subst hjl
      rw [List.take_of_length_le (by simp)]
      go_wp2_with fail
      go_ret
      exact ⟨rfl, h2.tail⟩

theorem ref27_Held (w : World) (vo vg vc vA : Value) (t : AccsM) (k : Nat) (F : List HProp) (ho : t.Ok k) (hl : t.s.gens.length ≤ 1000) (hw : holds w (roBools vo (openBools t.s) :: roInts vg t.s.gens :: roInts vc t.s.closed :: roAc vA t.A :: F)) :
    Calls Try.prog 52 #[tV vo vg vc t.s.fresh vA] w fun e w' => e = .returned (.int .i64 (acSum t.A)) ∧ holds w' (roBools vo (openBools t.s) :: roInts vg t.s.gens :: roInts vc t.s.closed :: roAc vA t.A :: F) := by
  obtain ⟨a1, c1, rfl, _⟩ := roBools_form hw
  obtain ⟨a2, c2, rfl, _⟩ := roInts_form (hw.pick 1)
  obtain ⟨a3, c3, rfl, _⟩ := roInts_form (hw.pick 2)
  obtain ⟨a4, c4, rfl, _⟩ := roAc_form (hw.pick 3)
  have h1 : holds _ (roAc (.slice a4 t.A.length c4) t.A :: blk w.heap.size (.cells #[.slice a1 (openBools t.s).length c1, .slice a2 t.s.gens.length c2, .slice a3 t.s.closed.length c3, .int .i64 t.s.fresh, .slice a4 t.A.length c4] 72 (0, 0)) :: roBools (.slice a1 (openBools t.s).length c1) (openBools t.s) :: roInts (.slice a2 t.s.gens.length c2) t.s.gens :: roInts (.slice a3 t.s.closed.length c3) t.s.closed :: F) := (hw.alloc (.cells #[.slice a1 (openBools t.s).length c1, .slice a2 t.s.gens.length c2, .slice a3 t.s.closed.length c3, .int .i64 t.s.fresh, .slice a4 t.A.length c4] 72 (0, 0))).order [4, 0, 1, 2, 3]
  have hbd : ∀ x ∈ t.A.map (·.held), 0 ≤ x ∧ x ≤ 1048576 := fun x hx => by
    obtain ⟨y, hy, rfl⟩ := List.mem_map.1 hx
    exact ho.held y hy
  have hlen : t.A.length ≤ 1000 := by rw [ho.len]; exact hl
  unfold acSum
  clear ho hl hw
  have hsum := fun j => sum_bd ((t.A.map (·.held)).take j) (fun x hx => hbd x (List.mem_of_mem_take hx))
  have hlt2 := fun j => List.length_take_le j (t.A.map (·.held))
  have HT := Lib.hid (fun j (hj : j < t.A.length) => sum_take (l := t.A.map (·.held)) (j := j) (by simpa using hj))
  have HB := Lib.hid hbd
  clear hbd
  unfold tV
  go_enter Try.func52, Try.ntmps52
  go_wp2_with fail
  go_loopw [3, 4] (fun n i wr => ∃ j : Nat, j ≤ t.A.length ∧ i = .int .i64 j ∧ n = .int .i64 ((t.A.map (·.held)).take j).sum ∧ holds wr (roAc (.slice a4 t.A.length c4) t.A :: blk w.heap.size (.cells #[.slice a1 (openBools t.s).length c1, .slice a2 t.s.gens.length c2, .slice a3 t.s.closed.length c3, .int .i64 t.s.fresh, .slice a4 t.A.length c4] 72 (0, 0)) :: roBools (.slice a1 (openBools t.s).length c1) (openBools t.s) :: roInts (.slice a2 t.s.gens.length c2) t.s.gens :: roInts (.slice a3 t.s.closed.length c3) t.s.closed :: F)) (fun _ i _ => t.A.length - (intOf i).toNat)
  case atStart => exact ⟨0, Nat.zero_le _, rfl, by simp, h1⟩
  case round =>
    obtain ⟨j, hj, rfl, rfl, h2⟩ := hrel
    clear h1
    obtain ⟨t0, t1, t2, t3, t4, -⟩ := cells5 (h2.pick 1)
    by_cases hlt : j < t.A.length
    · obtain ⟨g1, o1, cp, hv, _, hc⟩ := h2.roAcAt (by omega)
      cases hv
      obtain ⟨k0, k1, k2⟩ := hc j hlt
      clear hc
      have ht := HT.out j hlt
      rw [List.getElem_map] at ht
      have b0 := hsum j
      have b1 := hsum (j + 1)
      have b2 := hlt2 j
      have b3 := hlt2 (j + 1)
      have hbx := HB.out t.A[j].held (List.mem_map.2 ⟨_, List.getElem_mem hlt, rfl⟩)
      generalize hs1 : ((t.A.map (·.held)).take (j + 1)).sum = s1 at ht b1
      generalize ((t.A.map (·.held)).take j).sum = s0 at ht b0 ⊢
      generalize t.A[j].held = hh at k1 ht hbx
      have wr1 : IntKind.i64.wrap (s0 + hh) = s1 := by rw [ht]; exact IntWalk.i64_in _ (by omega)
      have HS := Lib.hid hs1
      clear ht b0 b1 b2 b3 hbx hs1
      go_wp2_with fail
      go_roundw
      case rel => exact ⟨j + 1, by omega, by go_num, by rw [HS.out], h2⟩
      case measure => simp [intOf]; omega
    · have hjl : j = t.A.length := by omega
      subst hjl
      rw [List.take_of_length_le (by simp)]
      go_wp2_with fail
      go_ret
      exact ⟨rfl, h2.sel 5 [2, 3, 4, 0]⟩
end Go.Proofs.Ytdcekeclemgkcaa
