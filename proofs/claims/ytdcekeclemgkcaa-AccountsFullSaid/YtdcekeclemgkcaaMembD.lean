/- New of the reference; whether two accounts, two rows of members are the same. -/
import Derived.Test.YtdcekeclemgkcaaMembC
namespace Go.Proofs.Ytdcekeclemgkcaa
open Go Go.RowKit Go.MapKept
set_option maxRecDepth 100000
set_option linter.unusedVariables false
set_option maxHeartbeats 2000000
attribute [local go_sem] exactUpon looseUpon

def cellOf (v : Value) (i : Nat) : Value := match v with
  | .agg cs => cs.getD i undef
  | _ => undef
def cellsOf : Value → Array Value
  | .agg cs => cs
  | _ => #[]
theorem zeros64 : (madeCells (acV ac0).cells (64 * 3)).toList.take (64 * 3) = (List.replicate 64 ac0).flatMap acL := by kernel_rfl
theorem ref27_New (w : World) (F : List HProp) (hw : holds w F) :
    Calls Try.prog 42 #[] w fun e w' => ∃ vo vg vA, e = .returned (tV vo vg (.slice none 0 0) 0 vA) ∧ holds w' (roBools vo (List.replicate 64 false) :: roInts vg (List.replicate 64 0) :: roAc vA (List.replicate 64 ac0) :: F) := by
  have h1 : holds _ (blk w.heap.size (.cells #[.slice none 0 0, .slice none 0 0, .slice none 0 0, .int .i64 0, .slice none 0 0] 72 (0, 0)) :: F) := hw.alloc _
  go_enter Try.func42, Try.ntmps42
  go_wp2_with fail
  refine wp_region_tok [⟨none, some 3, [], fun _ => blk w.heap.size (.cells #[.slice none 0 0, .slice none 0 0, .slice none 0 0, .int .i64 0, .slice none 0 0] 72 (0, 0))⟩, ⟨some 3, none, [3], fun vs => blk w.heap.size (.cells (cellsOf (vs.getD 0 undef)) 72 (0, 0))⟩, ⟨some 0, none, [1], fun vs => roBools (cellOf (vs.getD 0 undef) 0) (List.replicate 64 false)⟩, ⟨some 0, none, [1], fun vs => roInts (cellOf (vs.getD 0 undef) 1) (List.replicate 64 0)⟩, ⟨some 1, none, [2], fun vs => ownAc (vs.getD 0 undef) (List.replicate 64 ac0)⟩] (fun k => match k with | 0 => ⟨some (fun u => ∃ (a1 : Option Addr) (c1 : Nat) (a2 : Option Addr) (c2 : Nat), u = .agg #[.slice a1 64 c1, .slice a2 64 c2, .slice none 0 0, .int .i64 0]), [], [], [2, 3]⟩ | 1 => ⟨some (fun u => ∃ n : Nat, u = .slice (some ⟨n, 0, none⟩) 64 64), [], [], [4]⟩ | 3 => ⟨some (fun u => u = undef), [0], [], [1]⟩ | _ => ⟨none, [], [], []⟩) F [0] [1, 2, 3, 4] (by kernel_rfl) (by kernel_rfl) h1 ?_
  refine tok_op (k := 0) ([]) ([]) (fun u => [roBools (cellOf u 0) (List.replicate 64 false), roInts (cellOf u 1) (List.replicate 64 0)]) (by rfl) (by rfl) rfl (by go_simp) (fun u hu => ?_) (fun w F hw => ?_) (fun u hu => ?_)
  · obtain ⟨a1, c1, a2, c2, rfl⟩ := hu
    rfl
  · go_simp
    go_at_call 101
    refine (ref06_New _ 64 _ (by omega) hw).mono ?_
    rintro e w2 ⟨vo, vg, rfl, h2⟩
    obtain ⟨a1, c1, rfl, _⟩ := roBools_form h2
    obtain ⟨a2, c2, rfl, _⟩ := roInts_form (h2.pick 1)
    exact ⟨_, rfl, ⟨a1, c1, a2, c2, rfl⟩, h2⟩
  obtain ⟨a1, c1, a2, c2, rfl⟩ := hu
  refine tok_op (k := 1) ([]) ([]) (fun u => [ownAc u (List.replicate 64 ac0)]) (by rfl) (by rfl) rfl (by go_simp) (fun u hu => ?_) (fun w F hw => ?_) (fun u hu => ?_)
  · obtain ⟨n3, rfl⟩ := hu
    rfl
  · obtain ⟨i0, hi, hz0, hz1, hz2⟩ := info_parts Try.infoAc
    obtain ⟨hmk, h3⟩ := run_make_sl (P := Try.prog) (t := 70) Try.underlying70 hi hz0 hz1 hw .i64 .i64 (x := 64) (c := 64) (by omega) (by omega) (by rw [hz2]; omega) (by omega)
    have e64 : (64 : Int).toNat = 64 := rfl
    rw [e64, zeros64] at h3
    rw [e64] at hmk
    go_simp
    exact h3
  obtain ⟨n3, rfl⟩ := hu
  iterate 1
    refine tok_exact rfl (fun K hK => ?_)
    go_simp
    first
      | (intro w hw
         refine hK _ ?_
         clear hK K hw w)
      | (refine hK _ ?_; clear hK K)
  refine tok_op (k := 3) ([blk w.heap.size (.cells #[.slice none 0 0, .slice none 0 0, .slice none 0 0, .int .i64 0, .slice none 0 0] 72 (0, 0))]) ([]) (fun _ => [blk w.heap.size (.cells #[.slice a1 64 c1, .slice a2 64 c2, .slice none 0 0, .int .i64 0, .slice (some ⟨n3, 0, none⟩) 64 64] 72 (0, 0))]) (by rfl) (by rfl) rfl (by go_simp) (fun u hu => ?_) (fun w F hw => ?_) (fun u hu => ?_)
  · obtain rfl := hu
    rfl
  · have hw : holds w (blk _ _ :: _) := hw
    obtain ⟨r0, r1, r2, r3, r4, f0, f1, f2, f3, f4⟩ := cells5 hw
    go_simp
    exact storeT5 hw _ _ _ _ _
  obtain rfl := hu
  refine tok_nil ?_
  clear h1
  intro wq h1
  have h2 : holds wq (blk w.heap.size (.cells #[.slice a1 64 c1, .slice a2 64 c2, .slice none 0 0, .int .i64 0, .slice (some ⟨n3, 0, none⟩) 64 64] 72 (0, 0)) :: roBools (.slice a1 64 c1) (List.replicate 64 false) :: roInts (.slice a2 64 c2) (List.replicate 64 0) :: ownAc (.slice (some ⟨n3, 0, none⟩) 64 64) (List.replicate 64 ac0) :: F) := h1
  go_wp2_with fail
  refine bodyPost_ret (v := tV (.slice a1 64 c1) (.slice a2 64 c2) (.slice none 0 0) 0 (.slice (some ⟨n3, 0, none⟩) 64 64)) ?_ rfl ⟨_, _, _, rfl, ?_⟩
  · exact results_row Try.results42 _ _ w.heap.size _ _ _ _ rfl h2.get_blk Try.underlying72 rfl Try.sizeT27
  · have h3 : holds wq (ownAc (.slice (some ⟨n3, 0, none⟩) 64 64) (List.replicate 64 ac0) :: roBools (.slice a1 64 c1) (List.replicate 64 false) :: roInts (.slice a2 64 c2) (List.replicate 64 0) :: F) := h2.sel 4 [3, 1, 2]
    exact (holds.shareAc h3).order [1, 2, 0]

theorem eqAc_run (x : AcM) (w : World) : (Op.equalIn 10000 86 (acV x) (acV x)).run Try.prog w = .ok true w := by
  obtain ⟨i0, hi, hz0, hz1, hz2⟩ := info_parts Try.infoInt
  have hs : (sizeOf 3).run Try.prog w = .ok 1 w := by simp [sizeOf, typeInfo, hi, hz1]
  have he := fun (x : Int) => run_equalIn_int (P := Try.prog) w 9998 3 .i64 .i64 x x Try.underlying3
  show (Op.equalIn (9999 + 1) _ _ _).run _ w = _
  unfold Op.equalIn
  simp only [Sem.run_bind, run_underlying Try.underlying86, Result.andThen_ok, hs]
  simp [part, isAgg, acV, acCells, hs, run_underlying Try.underlying3, he, Result.andThen]
theorem eqMb_run (p : Int) (x : AcM) (w : World) : (Op.equalIn 10000 95 (.agg (mbCells (p, x))) (.agg (mbCells (p, x)))).run Try.prog w = .ok true w := by
  obtain ⟨i0, hi, hz0, hz1, hz2⟩ := info_parts Try.infoInt
  obtain ⟨j0, ji, jz0, jz1, jz2⟩ := info_parts Try.infoAc
  have hs : (sizeOf 3).run Try.prog w = .ok 1 w := by simp [sizeOf, typeInfo, hi, hz1]
  have hs2 : (sizeOf 86).run Try.prog w = .ok 3 w := by simp [sizeOf, typeInfo, ji, jz1]
  have he := fun (x : Int) => run_equalIn_int (P := Try.prog) w 9998 3 .i64 .i64 x x Try.underlying3
  have he2 := fun (x : Int) => run_equalIn_int (P := Try.prog) w 9997 3 .i64 .i64 x x Try.underlying3
  have hac : (Op.equalIn 9999 86 (acV x) (acV x)).run Try.prog w = .ok true w := by
    show (Op.equalIn (9998 + 1) _ _ _).run _ w = _
    unfold Op.equalIn
    simp only [Sem.run_bind, run_underlying Try.underlying86, Result.andThen_ok, hs]
    simp [part, isAgg, acV, acCells, hs, run_underlying Try.underlying3, he2, Result.andThen]
  unfold acV acCells at hac
  show (Op.equalIn (9999 + 1) _ _ _).run _ w = _
  unfold Op.equalIn
  simp only [Sem.run_bind, run_underlying Try.underlying95, Result.andThen_ok, hs]
  simp [part, isAgg, mbCells, hs, hs2, run_underlying Try.underlying3, run_underlying Try.underlying86, he, Result.andThen]
  rw [hac]
  simp

theorem base_SameMembers (w : World) (va vb : Value) (l : List (Int × AcM)) (F : List HProp) (hl : l.length ≤ 1000000000) (hw : holds w (roMb va l :: roMb vb l :: F)) :
    Calls Try.prog 53 #[va, vb] w fun e w' => e = .returned (.bool true) ∧ holds w' F := by
  obtain ⟨pa, ca, rfl, hca⟩ := roMb_form hw
  obtain ⟨pb, cb, rfl, hcb⟩ := roMb_form (hw.pick 1)
  go_enter Try.func53, Try.ntmps53
  go_wp2_with fail
  go_loopw [5] (fun i wr => ∃ k : Nat, k ≤ l.length ∧ i = .int .i64 k ∧ holds wr (roMb (.slice pa l.length ca) l :: roMb (.slice pb l.length cb) l :: F)) (fun i _ => l.length - (intOf i).toNat)
  case atStart => exact ⟨0, Nat.zero_le _, rfl, hw⟩
  case round =>
    obtain ⟨k, hk, rfl, h2⟩ := hrel
    clear hw
    by_cases hlt : k < l.length
    · obtain ⟨ga, oa, c1, hv, _, ca1⟩ := h2.roMbAt (by omega)
      cases hv
      obtain ⟨gb, ob, c2, hv, _, cb1⟩ := (h2.pick 1).roMbAt (by omega)
      cases hv
      obtain ⟨k0, k1, k2, k3⟩ := ca1 k hlt
      obtain ⟨j0, j1, j2, j3⟩ := cb1 k hlt
      clear ca1 cb1
      generalize l[k] = t at k0 k1 k2 k3 j0 j1 j2 j3
      obtain ⟨p, x⟩ := t
      have hq := eqMb_run p x
      unfold mbCells at hq
      simp only at k0 k1 k2 k3 j0 j1 j2 j3 hq
      go_wp2_with fail
      go_quiet (fail)
      go_wp2_with fail
      go_roundw
      case rel => exact ⟨k + 1, by omega, by go_num, h2.drewN _⟩
      case measure => simp [intOf]; omega
    · have hkk : k = l.length := by omega
      subst hkk
      go_wp2_with fail
      go_ret
      exact ⟨rfl, h2.tail.tail⟩
end Go.Proofs.Ytdcekeclemgkcaa
