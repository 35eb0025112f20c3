/- Contracts of package audit: Many, counts, Held, Sound. -/
import Derived.Test.YtfiggkbclldccaaAuditB
namespace Go.Proofs.Ytfiggkbclldccaa
open Go Go.RowKit Go.MapKept
set_option maxRecDepth 100000

def manyCells (l : List ChunkM) : Array Value := #[.int .i64 (Audit.many l 0), .int .i64 (Audit.many l 1), .int .i64 (Audit.many l 2), .int .i64 (Audit.many l 3)]

theorem set4 (z0 z1 z2 z3 a b c d : Value) : (((#[z0, z1, z2, z3].setIfInBounds 0 a).setIfInBounds 1 b).setIfInBounds 2 c).setIfInBounds 3 d = #[a, b, c, d] := rfl
theorem Try.info4 : (Try.prog.info? 73).map (·.size) = some 4 := by kernel_rfl

theorem audit_Many (v : Value) (l : List ChunkM) (w : World) (F : List HProp) (hl : l.length ≤ 1000000) (hw : holds w (roChunks v l :: F)) :
    Calls Try.prog 109 #[v] w fun e w' => e = .returned (.agg (manyCells l)) ∧ holds w' (roChunks v l :: F) := by
  obtain ⟨a, cap, rfl, hcap⟩ := roChunks_form hw
  have h1 := (hw.alloc (.cells #[.int .i64 0, .int .i64 0, .int .i64 0, .int .i64 0] 73 (0, 0))).alloc (.cells #[.int .i64 0, .int .i64 0, .int .i64 0, .int .i64 0] 73 (0, 0))
  simp only [World.size_alloc] at h1
  go_enter Try.func109, Try.ntmps109
  go_wp2_with fail
  go_loopw [8] (fun i wr => ∃ k : Nat, k ≤ l.length ∧ i = .int .i64 k ∧ holds wr (blk (w.heap.size + 1) (.cells (manyCells (l.take k)) 73 (0, 0)) :: blk w.heap.size (.cells #[.int .i64 0, .int .i64 0, .int .i64 0, .int .i64 0] 73 (0, 0)) :: roChunks (.slice a l.length cap) l :: F)) (fun i _ => l.length - (intOf i).toNat)
  case atStart => exact ⟨0, Nat.zero_le _, rfl, h1⟩
  case round =>
    obtain ⟨k, hk, rfl, h2⟩ := hrel
    clear h1
    by_cases hlt : k < l.length
    · obtain ⟨g, off, cap', hv, _, hcs⟩ := (h2.pick 2).chunkAt (by omega)
      cases hv
      obtain ⟨c0, c1, c2⟩ := hcs k hlt
      clear hcs
      have hms := many_snoc l k hlt
      generalize hp : l[k].phase = p at c0 hms
      have HP := Lib.hid hp
      have HM := Lib.hid hms
      clear hp hms
      cases hr : Audit.is p with
      | false =>
        have HR := Lib.hid hr
        clear hr
        go_wp2_with (go_at_call 79; refine (audit_is _ _).mono ?_; rw [HR.out]; rintro e w1 ⟨rfl, rfl⟩)
        go_roundw
        case rel =>
          refine ⟨k + 1, by omega, by go_num, ?_⟩
          have hm : manyCells (l.take (k + 1)) = manyCells (l.take k) := by
            have h0 := HM.out
            have hnp : ¬ (0 ≤ p ∧ p ≤ 3) := by have := HR.out; simpa [Audit.is] using this
            simp [manyCells, h0 0, h0 1, h0 2, h0 3, show ¬ p = 0 by omega, show ¬ p = 1 by omega, show ¬ p = 2 by omega, show ¬ p = 3 by omega]
          rw [hm]
          exact (h2.alloc _).tail
        case measure => simp [intOf]; omega
      | true =>
        have HR := Lib.hid hr
        have hb : 0 ≤ p ∧ p ≤ 3 := by simpa [Audit.is] using hr
        obtain ⟨n, rfl⟩ := Int.eq_ofNat_of_zero_le hb.1
        have hn : n < 4 := by omega
        have hcell : wr.cell? ⟨w.heap.size + 1, n, none⟩ = some (.int .i64 (Audit.many (l.take k) n)) := by
          rw [cellAt h2.get_blk]
          match n, hn with
          | 0, _ => rfl
          | 1, _ => rfl
          | 2, _ => rfl
          | 3, _ => rfl
        have hfz := frozen_of_row wr (w.heap.size + 1) n _ _ h2.get_blk
        have hlt2 := h2.lt
        have hmany : Audit.many (l.take k) n ≤ 1000000 := by
          have := List.length_filter_le (fun c : ChunkM => c.phase == (n : Int)) (l.take k)
          have h3 := List.length_take_le k l
          unfold Audit.many
          omega
        clear hr
        go_wp2_with (go_at_call 79; refine (audit_is _ _).mono ?_; rw [HR.out]; rintro e w1 ⟨rfl, rfl⟩)
        go_roundw
        case rel =>
          refine ⟨k + 1, by omega, by go_num, ?_⟩
          have hm : manyCells (l.take (k + 1)) = (manyCells (l.take k)).setIfInBounds n (.int .i64 (Audit.many (l.take k) n + 1)) := by
            have h0 := HM.out
            match n, hn with
            | 0, _ => simp [manyCells, h0 0, h0 1, h0 2, h0 3]
            | 1, _ => simp [manyCells, h0 0, h0 1, h0 2, h0 3]
            | 2, _ => simp [manyCells, h0 0, h0 1, h0 2, h0 3]
            | 3, _ => simp [manyCells, h0 0, h0 1, h0 2, h0 3]
          rw [hm]
          exact ((h2.setCell n _).alloc _).tail
        case measure => simp [intOf]; omega
    · have hkl : l.take k = l := List.take_of_length_le (by omega)
      rw [hkl] at h2
      have g1 := h2.get_blk
      have g0 := (h2.pick 1).get_blk
      have k10 := cellAt g1 0
      have k11 := cellAt g1 1
      have k12 := cellAt g1 2
      have k13 := cellAt g1 3
      have k00 := cellAt g0 0
      have k01 := cellAt g0 1
      have k02 := cellAt g0 2
      have k03 := cellAt g0 3
      have f00 := frozen_of_row wr w.heap.size 0 _ _ g0
      have f01 := frozen_of_row wr w.heap.size 1 _ _ g0
      have f02 := frozen_of_row wr w.heap.size 2 _ _ g0
      have f03 := frozen_of_row wr w.heap.size 3 _ _ g0
      simp [manyCells] at k10 k11 k12 k13 k00 k01 k02 k03
      clear g0 g1
      go_wp2_with fail
      have h3 := (((((h2.pick 1).setCell 0 (.int .i64 (Audit.many l 0))).setCell 1 (.int .i64 (Audit.many l 1))).setCell 2 (.int .i64 (Audit.many l 2))).setCell 3 (.int .i64 (Audit.many l 3)))
      rw [set4] at h3
      refine bodyPost_ret (v := .agg (manyCells l)) ?_ rfl ⟨rfl, h3.tail.tail⟩
      exact results_cell_row Try.results109 _ _ w.heap.size _ _ _ _ rfl h3.get_blk Try.underlying73 rfl Try.info4

/-! ### counts, Held -/
/-- How many chunks an owner has. -/
def Audit.held (l : List ChunkM) (o : Int) : Nat := if 0 < o then (l.filter fun c => c.owner == o).length else 0
/-- The map, as it grows. -/
def Audit.countsTo : List ChunkM → List (Int × Int) → List (Int × Int)
  | [], m => m
  | c :: l, m => Audit.countsTo l (if 0 < c.owner then alSet m c.owner ((alGet m c.owner).getD 0 + 1) else m)
def Audit.counts (l : List ChunkM) : List (Int × Int) := Audit.countsTo l []

theorem Audit.countsTo_snoc (c : ChunkM) : ∀ (l : List ChunkM) (m : List (Int × Int)), Audit.countsTo (l ++ [c]) m =
    (if 0 < c.owner then alSet (Audit.countsTo l m) c.owner ((alGet (Audit.countsTo l m) c.owner).getD 0 + 1) else Audit.countsTo l m)
  | [], m => rfl
  | d :: l, m => by simp only [List.cons_append, Audit.countsTo]; exact Audit.countsTo_snoc c l _

theorem Audit.counts_take (l : List ChunkM) (k : Nat) (hk : k < l.length) : Audit.counts (l.take (k + 1)) =
    (if 0 < l[k].owner then alSet (Audit.counts (l.take k)) l[k].owner ((alGet (Audit.counts (l.take k)) l[k].owner).getD 0 + 1) else Audit.counts (l.take k)) := by
  unfold Audit.counts
  rw [List.take_succ_eq_append_getElem hk, Audit.countsTo_snoc]

theorem Audit.held_snoc (l : List ChunkM) (k : Nat) (hk : k < l.length) (o : Int) : Audit.held (l.take (k + 1)) o = Audit.held (l.take k) o + (if 0 < o ∧ l[k].owner = o then 1 else 0) := by
  unfold Audit.held
  rw [List.take_succ_eq_append_getElem hk, List.filter_append, List.length_append]
  by_cases h : 0 < o
  · by_cases h2 : l[k].owner = o <;> simp [h, h2]
  · simp [h]

theorem Audit.held_le (l : List ChunkM) (o : Int) : Audit.held l o ≤ l.length := by
  unfold Audit.held
  split
  · exact List.length_filter_le _ _
  · omega

/-- What the map tells is how many each has. -/
theorem Audit.counts_get (l : List ChunkM) : ∀ k, k ≤ l.length → ∀ o, alGet (Audit.counts (l.take k)) o = if Audit.held (l.take k) o = 0 then none else some ((Audit.held (l.take k) o : Nat) : Int)
  | 0, _, o => by simp [Audit.counts, Audit.countsTo, alGet_nil, Audit.held]
  | k + 1, hk, o => by
    have ih := Audit.counts_get l k (by omega)
    have hlt : k < l.length := by omega
    rw [Audit.counts_take l k hlt, Audit.held_snoc l k hlt]
    by_cases hp : 0 < l[k].owner
    · rw [if_pos hp, alGet_set]
      by_cases ho : o = l[k].owner
      · subst ho
        rw [if_pos rfl, ih]
        simp only [hp, and_self, if_true]
        by_cases hz : Audit.held (l.take k) l[k].owner = 0 <;> simp [hz]
      · rw [if_neg ho, ih]
        have : ¬ (0 < o ∧ l[k].owner = o) := fun h => ho h.2.symm
        simp [this]
    · rw [if_neg hp, ih]
      have : ¬ (0 < o ∧ l[k].owner = o) := fun h => hp (h.2 ▸ h.1)
      simp [this]

theorem audit_counts (v : Value) (l : List ChunkM) (w : World) (F : List HProp) (hl : l.length ≤ 1000000) (hw : holds w (roChunks v l :: F)) :
    Calls Try.prog 124 #[v] w fun e w' => ∃ b, e = .returned (.map (some b)) ∧ holds w' (imap (.int .i64) b (Audit.counts l) :: roChunks v l :: F) := by
  obtain ⟨a, cap, rfl, hcap⟩ := roChunks_form hw
  have hmm := @run_makeMap Try.prog
  have h1 := (hw.alloc (.map #[] 0)).mkMap (enc := Value.int .i64) (m := []) rfl (stamped_empty 0)
  go_enter Try.func124, Try.ntmps124
  go_wp2_with fail
  clear hmm
  go_loopw [9] (fun i wr => ∃ k : Nat, k ≤ l.length ∧ i = .int .i64 k ∧ holds wr (imap (.int .i64) w.heap.size (Audit.counts (l.take k)) :: roChunks (.slice a l.length cap) l :: F)) (fun i _ => l.length - (intOf i).toNat)
  case atStart => exact ⟨0, Nat.zero_le _, rfl, h1⟩
  case round =>
    obtain ⟨k, hk, rfl, h2⟩ := hrel
    clear h1
    by_cases hlt : k < l.length
    · obtain ⟨g, off, cap', hv, _, hcs⟩ := (h2.pick 1).chunkAt (by omega)
      cases hv
      obtain ⟨c0, c1, c2⟩ := hcs k hlt
      clear hcs
      have hct := Audit.counts_take l k hlt
      have hg := Audit.counts_get l k (by omega) l[k].owner
      have hle := Audit.held_le (l.take k) l[k].owner
      have hln := List.length_take_le k l
      have hgb : 0 ≤ (alGet (Audit.counts (l.take k)) l[k].owner).getD 0 ∧ (alGet (Audit.counts (l.take k)) l[k].owner).getD 0 ≤ 1000000 := by
        rw [hg]
        by_cases hz : Audit.held (l.take k) l[k].owner = 0
        · simp [hz]
        · simp [hz]; omega
      have hlk := run_lookup_sl (P := Try.prog) (t := 151) (z := (0 : Int)) Try.underlying151 Try.underlying3 (by kernel_rfl) (h2.alloc (.cells #[.int .i64 l[k].phase, .int .i64 l[k].owner, .int .i64 l[k].gen] 69 (0, 0))).tail l[k].owner false
      simp only [Bool.false_eq_true, if_false] at hlk
      generalize (alGet (Audit.counts (l.take k)) l[k].owner).getD 0 = c at hct hgb hlk
      have HC := Lib.hid hct
      clear hct hg hle hln
      by_cases hp : 0 < l[k].owner
      · go_wp2_with (at_mapUpdate; refine wpList_mapUpdate_sl rfl rfl _ _ _ _ rfl Try.underlying151 Try.underlying3 rfl _ (c + 1) rfl rfl (h2.alloc _).tail ?_; clear hlk; intro w3 h3)
        go_roundw
        case rel => exact ⟨k + 1, by omega, by go_num, by rw [HC.out, if_pos hp]; exact h3⟩
        case measure => simp [intOf]; omega
      · go_wp2_with fail
        go_roundw
        case rel => exact ⟨k + 1, by omega, by go_num, by rw [HC.out, if_neg hp]; exact (h2.alloc _).tail⟩
        case measure => simp [intOf]; omega
    · have hkl : l.take k = l := List.take_of_length_le (by omega)
      rw [hkl] at h2
      go_wp2_with fail
      go_ret
      exact ⟨_, rfl, h2⟩

theorem audit_Held (v : Value) (l : List ChunkM) (o : Int) (w : World) (F : List HProp) (hl : l.length ≤ 1000000) (hw : holds w (roChunks v l :: F)) :
    Calls Try.prog 101 #[v, .int .i64 o] w fun e w' => e = .returned (.int .i64 (Audit.held l o)) ∧ holds w' (roChunks v l :: F) := by
  go_enter Try.func101, Try.ntmps101
  go_wp2_with fail
  refine (audit_counts v l _ F hl hw).mono ?_
  rintro e w1 ⟨b, rfl, h1⟩
  have hlk := run_lookup_sl (P := Try.prog) (t := 151) (z := (0 : Int)) Try.underlying151 Try.underlying3 (by kernel_rfl) h1 o false
  have hg := Audit.counts_get l l.length (Nat.le_refl _) o
  rw [List.take_length] at hg
  rw [hg] at hlk
  have hv : ((if Audit.held l o = 0 then none else some ((Audit.held l o : Nat) : Int)).getD 0) = (Audit.held l o : Int) := by
    by_cases hz : Audit.held l o = 0 <;> simp [hz]
  simp only [Bool.false_eq_true, if_false, hv] at hlk
  clear hg hv
  go_wp2_with fail
  go_ret
  exact ⟨rfl, h1.tail⟩

end Go.Proofs.Ytfiggkbclldccaa
