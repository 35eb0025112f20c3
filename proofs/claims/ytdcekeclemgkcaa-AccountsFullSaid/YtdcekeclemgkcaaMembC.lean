/- Members and New of the reference. -/
import Derived.Test.YtdcekeclemgkcaaMembB
namespace Go.Proofs.Ytdcekeclemgkcaa
open Go Go.RowKit Go.MapKept
set_option maxRecDepth 100000
set_option linter.unusedVariables false
set_option maxHeartbeats 2000000
attribute [local go_sem] exactUpon looseUpon

theorem ref27_Members (w : World) (vo vg vc vA : Value) (t : AccsM) (k : Nat) (F : List HProp) (ho : t.Ok k) (hl : t.s.gens.length ≤ 1000) (hw : holds w (roBools vo (openBools t.s) :: roInts vg t.s.gens :: roInts vc t.s.closed :: roAc vA t.A :: F)) :
    Calls Try.prog 55 #[tV vo vg vc t.s.fresh vA] w fun e w' => ∃ a c, e = .returned (.slice a t.members.length c) ∧ holds w' (roMb (.slice a t.members.length c) t.members :: roBools vo (openBools t.s) :: roInts vg t.s.gens :: roInts vc t.s.closed :: roAc vA t.A :: F) := by
  obtain ⟨a1, c1, rfl, _⟩ := roBools_form hw
  obtain ⟨a2, c2, rfl, _⟩ := roInts_form (hw.pick 1)
  obtain ⟨a3, c3, rfl, _⟩ := roInts_form (hw.pick 2)
  obtain ⟨a4, c4, rfl, _⟩ := roAc_form (hw.pick 3)
  have h1 : holds _ (roBools (.slice a1 (openBools t.s).length c1) (openBools t.s) :: roInts (.slice a2 t.s.gens.length c2) t.s.gens :: roInts (.slice a3 t.s.closed.length c3) t.s.closed :: roAc (.slice a4 t.A.length c4) t.A :: blk w.heap.size (.cells #[.slice a1 (openBools t.s).length c1, .slice a2 t.s.gens.length c2, .slice a3 t.s.closed.length c3, .int .i64 t.s.fresh, .slice a4 t.A.length c4] 72 (0, 0)) :: F) := (hw.alloc (.cells #[.slice a1 (openBools t.s).length c1, .slice a2 t.s.gens.length c2, .slice a3 t.s.closed.length c3, .int .i64 t.s.fresh, .slice a4 t.A.length c4] 72 (0, 0))).order [1, 2, 3, 4, 0]
  have hPl : t.ids.length ≤ 1000 := by have := ho.opn_le; rw [AccsM.ids_len]; omega
  have hkp := fun p (hp : p ∈ t.ids) => keys_pos ho.good.ok p (AccsM.mem_ids.1 hp)
  have hkl := fun p (hp : p ∈ t.ids) => keys_lt ho.good.ok p (AccsM.mem_ids.1 hp)
  rw [← ho.len] at hkl
  have hAl : t.A.length ≤ 1000 := by rw [ho.len]; exact hl
  have HP := Lib.hid (rs_Places _ _ _ _ t.s k _ ho.good h1)
  have hil := AccsM.ids_len t
  rw [← hil] at HP
  clear ho hl hw hil
  change Calls _ _ _ _ fun e w' => ∃ a c, e = .returned (.slice a (t.ids.map fun p => (p, t.A.getD p.toNat ac0)).length c) ∧ holds w' (roMb (.slice a (t.ids.map fun p => (p, t.A.getD p.toNat ac0)).length c) (t.ids.map fun p => (p, t.A.getD p.toNat ac0)) :: roBools (.slice a1 (openBools t.s).length c1) (openBools t.s) :: roInts (.slice a2 t.s.gens.length c2) t.s.gens :: roInts (.slice a3 t.s.closed.length c3) t.s.closed :: roAc (.slice a4 t.A.length c4) t.A :: F)
  change Hid (Calls _ _ _ _ fun e w' => ∃ a c, e = .returned (.slice a t.ids.length c) ∧ holds w' (roInts (.slice a t.ids.length c) t.ids :: roBools (.slice a1 (openBools t.s).length c1) (openBools t.s) :: roInts (.slice a2 t.s.gens.length c2) t.s.gens :: roInts (.slice a3 t.s.closed.length c3) t.s.closed :: roAc (.slice a4 t.A.length c4) t.A :: blk w.heap.size (.cells #[.slice a1 (openBools t.s).length c1, .slice a2 t.s.gens.length c2, .slice a3 t.s.closed.length c3, .int .i64 t.s.fresh, .slice a4 t.A.length c4] 72 (0, 0)) :: F)) at HP
  obtain ⟨t0, t1, t2, t3, t4, -⟩ := cells5 (h1.pick 4)
  generalize t.ids = P at HP hkp hkl hPl ⊢
  rw [List.length_map]
  have HKP := Lib.hid hkp
  have HKL := Lib.hid hkl
  clear hkp hkl
  unfold tV
  go_enter Try.func55, Try.ntmps55
  go_wp2_with fail
  refine HP.out.mono ?_
  rintro e1 w1 ⟨a, c, rfl, h2⟩
  have h3 : holds w1 (roInts (.slice a P.length c) P :: roAc (.slice a4 t.A.length c4) t.A :: blk w.heap.size (.cells #[.slice a1 (openBools t.s).length c1, .slice a2 t.s.gens.length c2, .slice a3 t.s.closed.length c3, .int .i64 t.s.fresh, .slice a4 t.A.length c4] 72 (0, 0)) :: roBools (.slice a1 (openBools t.s).length c1) (openBools t.s) :: roInts (.slice a2 t.s.gens.length c2) t.s.gens :: roInts (.slice a3 t.s.closed.length c3) t.s.closed :: F) := h2.order [0, 4, 5, 1, 2, 3]
  clear h1 h2 HP t0 t1 t2 t3 t4
  go_wp2_with fail
  go_loopw [3, 5] (fun out i wr => ∃ (j : Nat) (ao : Option Addr) (co : Nat), j ≤ P.length ∧ i = .int .i64 j ∧ out = .slice ao j co ∧ holds wr (ownMb (.slice ao j co) ((P.take j).map fun p => (p, t.A.getD p.toNat ac0)) :: roInts (.slice a P.length c) P :: roAc (.slice a4 t.A.length c4) t.A :: blk w.heap.size (.cells #[.slice a1 (openBools t.s).length c1, .slice a2 t.s.gens.length c2, .slice a3 t.s.closed.length c3, .int .i64 t.s.fresh, .slice a4 t.A.length c4] 72 (0, 0)) :: roBools (.slice a1 (openBools t.s).length c1) (openBools t.s) :: roInts (.slice a2 t.s.gens.length c2) t.s.gens :: roInts (.slice a3 t.s.closed.length c3) t.s.closed :: F)) (fun _ i _ => P.length - (intOf i).toNat)
  case atStart => exact ⟨0, none, 0, Nat.zero_le _, rfl, rfl, holds_ownRow_nil h3 _ _⟩
  case round =>
    obtain ⟨j, ao, co, hj, rfl, rfl, h4⟩ := hrel
    clear h3
    by_cases hlt : j < P.length
    · obtain ⟨g1, o1, cp, hv, _, hc⟩ := (h4.pick 1).roIntAt (by omega)
      cases hv
      have hp0 := HKP.out P[j] (List.getElem_mem hlt)
      have hp1 := HKL.out P[j] (List.getElem_mem hlt)
      obtain ⟨q, hq⟩ := Int.eq_ofNat_of_zero_le hp0
      have hqA : q < t.A.length := by omega
      obtain ⟨g4, o4, cp4, hv, _, hc4⟩ := (h4.pick 2).roAcAt (by omega)
      cases hv
      have hs : (P.take (j + 1)).map (fun p => (p, t.A.getD p.toNat ac0)) = (P.take j).map (fun p => (p, t.A.getD p.toNat ac0)) ++ [((q : Int), t.A[q])] := by
        rw [List.take_succ_eq_append_getElem hlt, List.map_append, hq]
        simp [hqA]
      have HSE := Lib.hid (show ∀ z, holds z (roInts (.slice (some ⟨g1, o1, none⟩) P.length c) P :: roAc (.slice (some ⟨g4, o4, none⟩) t.A.length c4) t.A :: blk w.heap.size (.cells #[.slice a1 (openBools t.s).length c1, .slice a2 t.s.gens.length c2, .slice a3 t.s.closed.length c3, .int .i64 t.s.fresh, .slice (some ⟨g4, o4, none⟩) t.A.length c4] 72 (0, 0)) :: roBools (.slice a1 (openBools t.s).length c1) (openBools t.s) :: roInts (.slice a2 t.s.gens.length c2) t.s.gens :: roInts (.slice a3 t.s.closed.length c3) t.s.closed :: F) → z.cell? ⟨g1, o1 + j, none⟩ = some (.int .i64 q) ∧ z.cell? ⟨w.heap.size, 4, none⟩ = some (.slice (some ⟨g4, o4, none⟩) t.A.length c4) ∧ z.cell? ⟨g4, o4 + q * 3, none⟩ = some (.int .i64 t.A[q].claim) ∧ z.cell? ⟨g4, o4 + q * 3 + 1, none⟩ = some (.int .i64 t.A[q].held) ∧ z.cell? ⟨g4, o4 + q * 3 + 2, none⟩ = some (.int .i64 t.A[q].credits) from fun z h => by
        obtain ⟨_, _, _, hv, _, hc⟩ := h.roIntAt (by omega)
        cases hv
        obtain ⟨_, _, _, hv, _, hc4⟩ := (h.pick 1).roAcAt (by omega)
        cases hv
        refine ⟨?_, cellAt (h.pick 2).get_blk 4, hc4 q hqA⟩
        rw [hc j hlt, hq])
      have hql : ((P.take j).map (fun p => (p, t.A.getD p.toNat ac0))).length = j := by simp; omega
      generalize (P.take j).map (fun p => (p, t.A.getD p.toNat ac0)) = qs at h4 hs hql
      generalize t.A[q] = x at hs HSE
      have HS := Lib.hid hs
      have hjl : qs.length + 1 ≤ 100000000 := by omega
      clear hs hc hc4 hq hp0 hp1
      subst hql
      go_wp2_with fail
      refine wp_region_tok [⟨none, some 15, [], fun _ => ownMb (.slice ao qs.length co) qs⟩, ⟨some 15, none, [30], fun vs => ownMb (vs.getD 0 undef) (qs ++ [((q : Int), x)])⟩, ⟨some 14, none, [29], fun vs => blk (sliceBlk (vs.getD 0 undef)) (.cells (mbCells ((q : Int), x)) 95 (0, 0))⟩] (fun k => match k with | 14 => ⟨some (fun u => ∃ n : Nat, u = .slice (some ⟨n, 0, none⟩) 1 1), [], [], [2]⟩ | 15 => ⟨some (fun u => ∃ (a : Option Addr) (cap : Nat), u = .slice a (qs.length + 1) cap), [0], [2], [1]⟩ | _ => ⟨none, [], [], []⟩) (roInts (.slice (some ⟨g1, o1, none⟩) P.length c) P :: roAc (.slice (some ⟨g4, o4, none⟩) t.A.length c4) t.A :: blk w.heap.size (.cells #[.slice a1 (openBools t.s).length c1, .slice a2 t.s.gens.length c2, .slice a3 t.s.closed.length c3, .int .i64 t.s.fresh, .slice (some ⟨g4, o4, none⟩) t.A.length c4] 72 (0, 0)) :: roBools (.slice a1 (openBools t.s).length c1) (openBools t.s) :: roInts (.slice a2 t.s.gens.length c2) t.s.gens :: roInts (.slice a3 t.s.closed.length c3) t.s.closed :: F) [0] [1, 2] (by kernel_rfl) (by kernel_rfl) h4 ?_
      iterate 14
        refine tok_exact rfl (fun K hK => ?_)
        go_simp
        first
          | (intro w hw
             obtain ⟨c0, c1, c2, c3, c4⟩ := HSE.out _ hw
             go_simp
             refine hK _ ?_
             clear hK K c0 c1 c2 c3 c4 hw w)
          | (intro w hw
             refine hK _ ?_
             clear hK K hw w)
          | (refine hK _ ?_; clear hK K)
      refine tok_op (k := 14) ([]) ([]) (fun v => [blk (sliceBlk v) (.cells (mbCells ((q : Int), x)) 95 (0, 0))]) (by rfl) (by rfl) rfl (by go_simp) (fun u hu => ?_) (fun w F hw => ?_) (fun u hu => ?_)
      · obtain ⟨nb, rfl⟩ := hu
        rfl
      · go_simp
        exact (show holds w (_) from hw).alloc _
      obtain ⟨nb, rfl⟩ := hu
      refine tok_op (k := 15) ([ownMb (.slice ao qs.length co) qs]) ([blk nb (.cells (mbCells ((q : Int), x)) 95 (0, 0))]) (fun v => [ownMb v (qs ++ [((q : Int), x)])]) (by rfl) (by rfl) rfl (by go_simp) (fun u hu => ?_) (fun w F hw => ?_) (fun u hu => ?_)
      · obtain ⟨av, cv, rfl⟩ := hu
        rfl
      · exact tok_appMb (t := ((q : Int), x)) (.tmp 15) (.tmp 29) rfl rfl rfl (by omega) hw hjl
      obtain ⟨av, cv, rfl⟩ := hu
      iterate 1
        refine tok_exact rfl (fun K hK => ?_)
        go_simp
        first
          | (intro w hw
             obtain ⟨c0, c1, c2, c3, c4⟩ := HSE.out _ hw
             go_simp
             refine hK _ ?_
             clear hK K c0 c1 c2 c3 c4 hw w)
          | (intro w hw
             refine hK _ ?_
             clear hK K hw w)
          | (refine hK _ ?_; clear hK K)
      refine tok_nil ?_
      clear h4
      intro wq h4
      have h5 : holds wq (ownMb (.slice av (qs.length + 1) cv) (qs ++ [((q : Int), x)]) :: blk nb _ :: roInts (.slice (some ⟨g1, o1, none⟩) P.length c) P :: roAc (.slice (some ⟨g4, o4, none⟩) t.A.length c4) t.A :: blk w.heap.size (.cells #[.slice a1 (openBools t.s).length c1, .slice a2 t.s.gens.length c2, .slice a3 t.s.closed.length c3, .int .i64 t.s.fresh, .slice (some ⟨g4, o4, none⟩) t.A.length c4] 72 (0, 0)) :: roBools (.slice a1 (openBools t.s).length c1) (openBools t.s) :: roInts (.slice a2 t.s.gens.length c2) t.s.gens :: roInts (.slice a3 t.s.closed.length c3) t.s.closed :: F) := h4
      have h6 := h5.sel 2 [0]
      clear h5 h4
      go_wp2_with fail
      go_roundw
      case rel => exact ⟨qs.length + 1, av, cv, by omega, by go_num, rfl, by rw [HS.out]; exact h6⟩
      case measure => simp [intOf]; omega
    · have hjl : j = P.length := by omega
      subst hjl
      rw [List.take_length] at h4
      go_wp2_with fail
      go_ret
      exact ⟨_, _, rfl, (holds.shareMb h4).sel 7 [0, 4, 5, 6, 2]⟩
end Go.Proofs.Ytdcekeclemgkcaa
