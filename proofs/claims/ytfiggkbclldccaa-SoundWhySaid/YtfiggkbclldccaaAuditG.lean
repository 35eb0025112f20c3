/- Contracts of chapter 20: Owners, and the reference's Many and Owners. -/
import Derived.Test.YtfiggkbclldccaaAuditF
import Derived.Test.YtfiggkbclldccaaAscend
namespace Go.Proofs.Ytfiggkbclldccaa
open Go Go.RowKit Go.MapKept
set_option maxRecDepth 100000

def owners (l : List ChunkM) : List Int := l.map (·.owner)
theorem mem_counts (l : List ChunkM) (x : Int) : x ∈ alKeys (Audit.counts l) ↔ x ∈ owners l ∧ 0 < x := by
  have h := Audit.counts_get l l.length (Nat.le_refl _) x
  rw [List.take_length] at h
  have h2 := alGet_none x (Audit.counts l)
  have h3 : Audit.held l x = 0 ↔ ¬ (x ∈ owners l ∧ 0 < x) := by
    unfold Audit.held
    by_cases hx : 0 < x
    · simp only [hx, if_true, List.length_eq_zero_iff, List.filter_eq_nil_iff, owners, List.mem_map, and_true, not_exists, not_and]
      simp
    · simp [hx]
  by_cases hz : Audit.held l x = 0
  · rw [if_pos hz] at h
    have h4 := h2.1 h
    constructor
    · intro h5; exact absurd h5 h4
    · intro h5; exact absurd h5 (h3.1 hz)
  · rw [if_neg hz] at h
    have h4 : x ∈ alKeys (Audit.counts l) := by
      apply Classical.byContradiction
      intro hc
      rw [h2.2 hc] at h
      cases h
    constructor
    · intro _
      apply Classical.byContradiction
      intro hc
      exact hz (h3.2 hc)
    · intro _; exact h4
theorem counts_nodup (l : List ChunkM) : (alKeys (Audit.counts l)).Nodup := by
  have : ∀ (l : List ChunkM) (m : List (Int × Int)), (alKeys m).Nodup → (alKeys (Audit.countsTo l m)).Nodup := by
    intro l
    induction l with
    | nil => exact fun m h => h
    | cons c l ih =>
      intro m h
      simp only [Audit.countsTo]
      split
      · exact ih _ (alKeys_set_nodup _ _ _ h)
      · exact ih _ h
  exact this l [] (by simp [alKeys])
theorem counts_length (l : List ChunkM) : (Audit.counts l).length ≤ l.length := by
  have : ∀ (l : List ChunkM) (m : List (Int × Int)), (Audit.countsTo l m).length ≤ m.length + l.length := by
    intro l
    induction l with
    | nil => exact fun m => by simp [Audit.countsTo]
    | cons c l ih =>
      intro m
      simp only [Audit.countsTo]
      have hs : ∀ (m : List (Int × Int)) (a b : Int), (alSet m a b).length ≤ m.length + 1 := by
        intro m a b
        have := congrArg List.length (alKeys_set a b m)
        simp only [alKeys, List.length_map] at this
        rw [this]
        by_cases hm : a ∈ List.map (fun x => x.fst) m <;> simp [hm]
      split
      · have h1 := ih (alSet m c.owner ((alGet m c.owner).getD 0 + 1))
        have h2 := hs m c.owner ((alGet m c.owner).getD 0 + 1)
        simp; omega
      · have h1 := ih m
        simp; omega
  have := this l []
  simpa [Audit.counts] using this

theorem audit_OwnersO (v : Value) (l : List ChunkM) (w : World) (F : List HProp) (hl : l.length ≤ 1000000) (hwf : ∀ c ∈ l, (Lit.int .i64 c.owner).wf = true) (hw : holds w (roChunks v l :: F)) :
    Calls Try.prog 105 #[v] w fun e w' => ∃ v', e = .returned v' ∧ holds w' (ownInts v' (sortInts (alKeys (Audit.counts l))) :: roChunks v l :: F) := by
  have hk : ∀ x ∈ alKeys (Audit.counts l), (Lit.int .i64 x).wf = true := fun x hx => by
    obtain ⟨c, hc, rfl⟩ := List.mem_map.1 ((mem_counts l x).1 hx).1
    exact hwf c hc
  have hcl := counts_length l
  have HK := Lib.hid hk
  clear hk hwf
  go_enter Try.func105, Try.ntmps105
  go_wp2_with fail
  refine (audit_counts v l _ F hl hw).mono ?_
  rintro e w1 ⟨b, rfl, h1⟩
  go_wp2_with fail
  refine (Try.keysII_call _ b _ h1).mono ?_
  rintro e w2 ⟨rfl, h2⟩
  go_wp2_with fail
  refine (Try.sortedII_call (.int .i64) _ b _ _ _ h2 HK.out (by omega)).mono ?_
  rintro e w3 ⟨v', rfl, h3⟩
  go_wp2_with fail
  go_ret
  exact ⟨_, rfl, (h3.pick 1).tail⟩
theorem audit_Owners (v : Value) (l : List ChunkM) (w : World) (F : List HProp) (hl : l.length ≤ 1000000) (hwf : ∀ c ∈ l, (Lit.int .i64 c.owner).wf = true) (hw : holds w (roChunks v l :: F)) :
    Calls Try.prog 105 #[v] w fun e w' => ∃ v', e = .returned v' ∧ holds w' (roInts v' (sortInts (alKeys (Audit.counts l))) :: roChunks v l :: F) :=
  (audit_OwnersO v l w F hl hwf hw).mono fun e w' ⟨v', he, h⟩ => ⟨v', he, holds.shareInts h⟩

def truth : Value → Nat
  | .bool true => 1
  | _ => 0

theorem ref20_OwnersO (v : Value) (l : List ChunkM) (w : World) (F : List HProp) (hl : l.length ≤ 1000000) (hw : holds w (roChunks v l :: F)) :
    Calls Try.prog 67 #[v] w fun e w' => ∃ v', e = .returned v' ∧ ∃ o : List Int, (o.Pairwise (· < ·) ∧ ∀ x, x ∈ o ↔ x ∈ owners l ∧ 0 < x) ∧ holds w' (ownInts v' o :: roChunks v l :: F) := by
  obtain ⟨a, cap, rfl, hcap⟩ := roChunks_form hw
  have hlen : (owners l).length = l.length := by simp [owners]
  have hrow := holds_ownRow_nil hw 3 1
  go_enter Try.func67, Try.ntmps67
  go_wp2_with fail
  go_loopw [3, 4, 5] (fun vo la mo wr => ∃ (o : List Int) (last : Int) (more : Bool), la = .int .i64 last ∧ mo = .bool more ∧ Told (owners l) last o ∧ o.length + leftN (owners l) last ≤ 1000000 ∧ (more = false → ¬ 0 < leastAbove last (owners l)) ∧ holds wr (ownInts vo o :: roChunks (.slice a l.length cap) l :: F)) (fun _ la mo _ => 2 * leftN (owners l) (intOf la) + truth mo)
  case atStart => exact ⟨[], 0, true, rfl, rfl, Told.start _, by have := leftN_le (owners l) 0; simp; omega, by simp, hrow⟩
  case round =>
    obtain ⟨o, last, more, rfl, rfl, htold, holen, hmore, h2⟩ := hrel
    have HT := Lib.hid htold
    have HM := Lib.hid hmore
    have hpos := htold.pos
    clear htold hmore hrow
    cases more with
    | false =>
      have hm : ¬ 0 < leastAbove last (owners l) := HM.out rfl
      have HM2 := Lib.hid hm
      clear hm
      go_wp2_with fail
      go_ret
      exact ⟨_, rfl, o, HT.out.last (by have := HM2.out; omega), h2⟩
    | true =>
      go_wp2_with fail
      go_loopw [6, 7] (fun ne i wr2 => ∃ k : Nat, k ≤ l.length ∧ i = .int .i64 k ∧ ne = .int .i64 (leastAbove last ((owners l).take k)) ∧ holds wr2 (ownInts u3 o :: roChunks (.slice a l.length cap) l :: F)) (fun _ i _ => l.length - (intOf i).toNat)
      case atStart => exact ⟨0, Nat.zero_le _, rfl, rfl, h2⟩
      case round =>
        obtain ⟨k, hk, rfl, rfl, h3⟩ := hrel
        by_cases hlt : k < l.length
        · obtain ⟨g, off, cap2, hv, _, hcs⟩ := (h3.pick 1).chunkAt (by omega)
          cases hv
          obtain ⟨_, c0, _⟩ := hcs k hlt
          have hst := leastAbove_snoc last (owners l) k (by omega)
          have hok : (owners l)[k]'(by omega) = l[k].owner := by simp [owners]
          rw [hok] at hst
          generalize l[k].owner = y at c0 hst
          generalize leastAbove last ((owners l).take k) = n at hst
          have HS := Lib.hid hst
          clear hst hcs hok
          by_cases hy : last < y
          · by_cases hn : n = 0
            · subst hn
              go_wp2_with fail
              go_roundw
              case rel => exact ⟨k + 1, by omega, by go_num, by rw [HS.out, leastStep, if_pos ⟨hy, .inl rfl⟩], h3⟩
              case measure => simp [intOf]; omega
            · have hnb : (n == 0) = false := by simpa using hn
              by_cases hyn : y < n
              · go_wp2_with fail
                go_roundw
                case rel => exact ⟨k + 1, by omega, by go_num, by rw [HS.out, leastStep, if_pos ⟨hy, .inr hyn⟩], h3⟩
                case measure => simp [intOf]; omega
              · go_wp2_with fail
                go_roundw
                case rel => exact ⟨k + 1, by omega, by go_num, by rw [HS.out, leastStep, if_neg (fun h => by rcases h.2 with h | h <;> omega)], h3⟩
                case measure => simp [intOf]; omega
          · go_wp2_with fail
            go_roundw
            case rel => exact ⟨k + 1, by omega, by go_num, by rw [HS.out, leastStep, if_neg (fun h => hy h.1)], h3⟩
            case measure => simp [intOf]; omega
        · have hkl : (owners l).take k = owners l := List.take_of_length_le (by omega)
          rw [hkl]
          have hnx := HT.out.next
          have hfalls := leftN_falls (owners l) last (leastAbove last (owners l))
          generalize hnn : leastAbove last (owners l) = n at hnx hfalls
          have HNN := Lib.hid hnn
          clear hnn
          have HN := Lib.hid hnx
          have HF := Lib.hid hfalls
          clear hnx hkl hfalls
          by_cases hn : 0 < n
          · go_wp2_with (at_builtin; (refine wpList_appendInt (y := n) rfl _ _ rfl rfl (h3.alloc _).tail rfl (by simp) (by omega) ?_); intro v4 w4 h4)
            obtain ⟨t1, t2, t3⟩ := HN.out hn
            have hf := HF.out t2 t3
            go_roundw
            case rel => exact ⟨o ++ [n], n, true, rfl, rfl, t1, by simp; omega, by simp, h4⟩
            case measure => simp [intOf, truth]; omega
          · go_wp2_with fail
            go_roundw
            case rel => exact ⟨o, last, false, rfl, rfl, HT.out, holen, fun _ => by rw [HNN.out]; exact hn, h3⟩
            case measure => simp [intOf, truth]
theorem ref20_Owners (v : Value) (l : List ChunkM) (w : World) (F : List HProp) (hl : l.length ≤ 1000000) (hw : holds w (roChunks v l :: F)) :
    Calls Try.prog 67 #[v] w fun e w' => ∃ v', e = .returned v' ∧ ∃ o : List Int, (o.Pairwise (· < ·) ∧ ∀ x, x ∈ o ↔ x ∈ owners l ∧ 0 < x) ∧ holds w' (roInts v' o :: roChunks v l :: F) :=
  (ref20_OwnersO v l w F hl hw).mono fun e w' ⟨v', he, o, ho, h⟩ => ⟨v', he, o, ho, holds.shareInts h⟩

/-! ### The reference's Many -/
def Audit.manyTo (l : List ChunkM) (p k : Nat) (q : Nat) : Nat := if q < p then Audit.many l q else if q = p then Audit.many (l.take k) q else 0
def manyToCells (l : List ChunkM) (p k : Nat) : Array Value := #[.int .i64 (Audit.manyTo l p k 0 : Nat), .int .i64 (Audit.manyTo l p k 1 : Nat), .int .i64 (Audit.manyTo l p k 2 : Nat), .int .i64 (Audit.manyTo l p k 3 : Nat)]
theorem manyTo_next (l : List ChunkM) (p q : Nat) : Audit.manyTo l p l.length q = Audit.manyTo l (p + 1) 0 q := by
  unfold Audit.manyTo
  rw [List.take_length]
  by_cases h1 : q < p
  · rw [if_pos h1, if_pos (by omega)]
  · by_cases h2 : q = p
    · rw [if_neg h1, if_pos h2, if_pos (by omega)]
    · rw [if_neg h1, if_neg h2, if_neg (by omega)]
      split <;> simp [Audit.many]
theorem manyTo_step (l : List ChunkM) (p k : Nat) (hk : k < l.length) (q : Nat) : Audit.manyTo l p (k + 1) q = Audit.manyTo l p k q + (if q = p ∧ l[k].phase = p then 1 else 0) := by
  unfold Audit.manyTo
  by_cases h1 : q < p
  · rw [if_pos h1, if_pos h1, if_neg (fun h => by omega)]; rfl
  · by_cases h2 : q = p
    · subst h2
      rw [if_neg h1, if_neg h1, if_pos rfl, if_pos rfl, many_snoc l k hk]
      simp
    · rw [if_neg h1, if_neg h1, if_neg h2, if_neg h2, if_neg (fun h => h2 h.1)]
theorem manyTo_le (l : List ChunkM) (p k q : Nat) : Audit.manyTo l p k q ≤ l.length := by
  unfold Audit.manyTo Audit.many
  split
  · exact List.length_filter_le _ _
  · split
    · exact Nat.le_trans (List.length_filter_le _ _) (List.length_take_le' _ _)
    · omega

theorem ref20_Many (v : Value) (l : List ChunkM) (w : World) (F : List HProp) (hl : l.length ≤ 1000000) (hw : holds w (roChunks v l :: F)) :
    Calls Try.prog 38 #[v] w fun e w' => e = .returned (.agg (manyCells l)) ∧ holds w' (roChunks v l :: F) := by
  obtain ⟨a, cap, rfl, hcap⟩ := roChunks_form hw
  have h1 := (hw.alloc (.cells #[.int .i64 0, .int .i64 0, .int .i64 0, .int .i64 0] 73 (0, 0))).alloc (.cells #[.int .i64 0, .int .i64 0, .int .i64 0, .int .i64 0] 73 (0, 0))
  simp only [World.size_alloc] at h1
  have hz : manyToCells l 0 0 = #[.int .i64 0, .int .i64 0, .int .i64 0, .int .i64 0] := by simp [manyToCells, Audit.manyTo, Audit.many]
  have HZ := Lib.hid hz
  clear hz
  go_enter Try.func38, Try.ntmps38
  go_wp2_with fail
  go_loopw [4] (fun i wr => ∃ p : Nat, p ≤ 4 ∧ i = .int .i64 p ∧ holds wr (blk (w.heap.size + 1) (.cells (manyToCells l p 0) 73 (0, 0)) :: blk w.heap.size (.cells #[.int .i64 0, .int .i64 0, .int .i64 0, .int .i64 0] 73 (0, 0)) :: roChunks (.slice a l.length cap) l :: F)) (fun i _ => 4 - (intOf i).toNat)
  case atStart => exact ⟨0, by omega, rfl, by rw [HZ.out]; exact h1⟩
  case round =>
    obtain ⟨p, hp, rfl, h2⟩ := hrel
    clear h1
    by_cases hlp : p < 4
    · go_wp2_with fail
      go_loopw [5] (fun i wr2 => ∃ k : Nat, k ≤ l.length ∧ i = .int .i64 k ∧ holds wr2 (blk (w.heap.size + 1) (.cells (manyToCells l p k) 73 (0, 0)) :: blk w.heap.size (.cells #[.int .i64 0, .int .i64 0, .int .i64 0, .int .i64 0] 73 (0, 0)) :: roChunks (.slice a l.length cap) l :: F)) (fun i _ => l.length - (intOf i).toNat)
      case atStart => exact ⟨0, by omega, rfl, h2⟩
      case round =>
        obtain ⟨k, hk, rfl, h3⟩ := hrel
        clear h2
        by_cases hlt : k < l.length
        · obtain ⟨g, off, cap2, hv, _, hcs⟩ := (h3.pick 2).chunkAt (by omega)
          cases hv
          obtain ⟨c0, _, _⟩ := hcs k hlt
          have hst := fun q => manyTo_step l p k hlt q
          have hle := manyTo_le l p k p
          generalize l[k].phase = y at c0 hst
          have hcell : wr.cell? ⟨w.heap.size + 1, p, none⟩ = some (.int .i64 (Audit.manyTo l p k p : Nat)) := by
            rw [cellAt h3.get_blk]
            match p, hlp with
            | 0, _ => rfl
            | 1, _ => rfl
            | 2, _ => rfl
            | 3, _ => rfl
          have hfz := frozen_of_row wr (w.heap.size + 1) p _ _ h3.get_blk
          have HS := Lib.hid hst
          clear hst hcs
          by_cases hy : y = p
          · subst hy
            go_wp2_with fail
            go_roundw
            case rel =>
              refine ⟨k + 1, by omega, by go_num, ?_⟩
              have hm : manyToCells l p (k + 1) = (manyToCells l p k).setIfInBounds p (.int .i64 (Audit.manyTo l p k p + 1)) := by
                have h0 := HS.out
                match p, hlp with
                | 0, _ => simp [manyToCells, h0 0, h0 1, h0 2, h0 3]
                | 1, _ => simp [manyToCells, h0 0, h0 1, h0 2, h0 3]
                | 2, _ => simp [manyToCells, h0 0, h0 1, h0 2, h0 3]
                | 3, _ => simp [manyToCells, h0 0, h0 1, h0 2, h0 3]
              rw [hm]
              exact h3.setCell p _
            case measure => simp [intOf]; omega
          · have hyb : (y == (p : Int)) = false := by simpa using hy
            go_wp2_with fail
            go_roundw
            case rel =>
              refine ⟨k + 1, by omega, by go_num, ?_⟩
              have hm : manyToCells l p (k + 1) = manyToCells l p k := by
                have h0 := HS.out
                simp [manyToCells, h0 0, h0 1, h0 2, h0 3, hy]
              rw [hm]
              exact h3
            case measure => simp [intOf]; omega
        · have hkl : k = l.length := by omega
          subst hkl
          have hm : manyToCells l p l.length = manyToCells l (p + 1) 0 := by
            simp only [manyToCells, manyTo_next]
          rw [hm] at h3
          go_wp2_with fail
          go_roundw
          case rel => exact ⟨p + 1, by omega, by go_num, h3⟩
          case measure => simp [intOf]; omega
    · have hp4 : p = 4 := by omega
      subst hp4
      have hm : manyToCells l 4 0 = manyCells l := rfl
      rw [hm] at h2
      have g1 := h2.get_blk
      have g0 := (h2.pick 1).get_blk
      have k10 := cellAt g1 0
      have k11 := cellAt g1 1
      have k12 := cellAt g1 2
      have k13 := cellAt g1 3
      have k00 := cellAt g0 0
      have k01 := cellAt g0 1
      have k02 := cellAt g0 2
      have k03 := cellAt g0 3
      have f00 := frozen_of_row wr w.heap.size 0 _ _ g0
      have f01 := frozen_of_row wr w.heap.size 1 _ _ g0
      have f02 := frozen_of_row wr w.heap.size 2 _ _ g0
      have f03 := frozen_of_row wr w.heap.size 3 _ _ g0
      simp [manyCells] at k10 k11 k12 k13 k00 k01 k02 k03
      clear g0 g1
      go_wp2_with fail
      have h3 := (((((h2.pick 1).setCell 0 (.int .i64 (Audit.many l 0))).setCell 1 (.int .i64 (Audit.many l 1))).setCell 2 (.int .i64 (Audit.many l 2))).setCell 3 (.int .i64 (Audit.many l 3)))
      rw [set4] at h3
      refine bodyPost_ret (v := .agg (manyCells l)) ?_ rfl ⟨rfl, h3.tail.tail⟩
      exact results_cell_row Try.results38 _ _ w.heap.size _ _ _ _ rfl h3.get_blk Try.underlying73 rfl Try.info4

end Go.Proofs.Ytfiggkbclldccaa
