/- The law AuditSums. -/
import Derived.Test.YtfkpcmlajdmnfaaLaw20
import Derived.Test.YtfkpcmlajdmnfaaAuditG
import Derived.Test.YtfkpcmlajdmnfaaArgsChunk
namespace Go.Proofs.Ytfkpcmlajdmnfaa
open Go Go.RowKit Go.MapKept
set_option maxRecDepth 100000
set_option linter.unusedVariables false

/-- How many all together have. -/
def heldSum (l : List ChunkM) (o : List Int) : Nat := (o.map (Audit.held l)).sum

theorem heldSum_take (l : List ChunkM) (o : List Int) (k : Nat) (hk : k < o.length) : heldSum l (o.take (k + 1)) = heldSum l (o.take k) + Audit.held l o[k] := by
  unfold heldSum
  rw [List.take_succ_eq_append_getElem hk, List.map_append, List.sum_append]
  simp

theorem sum_le (l : List ChunkM) : ∀ (o : List Int), (o.map (Audit.held l)).sum ≤ o.length * l.length
  | [] => by simp
  | x :: o => by
    have h1 := sum_le l o
    have h2 := Audit.held_le l x
    simp only [List.map_cons, List.sum_cons, List.length_cons, Nat.add_mul]
    omega

/-- The sum over rising owners is the number of chunks that are owned. -/
theorem heldSum_all : ∀ (l : List ChunkM) (o : List Int), o.Nodup → (∀ x, x ∈ owners l ∧ 0 < x → x ∈ o) → (∀ x ∈ o, 0 < x) → heldSum l o = (l.filter fun c => decide (0 < c.owner)).length
  | [], o, _, _, hp => by
    have : ∀ o : List Int, heldSum [] o = 0 := by
      intro o
      induction o with
      | nil => rfl
      | cons x o ih =>
        unfold heldSum at ih ⊢
        simp only [List.map_cons, List.sum_cons, ih]
        simp [Audit.held]
    simp [this]
  | c :: l, o, hn, hm, hp => by
    have ih := heldSum_all l o hn (fun x hx => hm x ⟨by simp only [owners, List.map_cons, List.mem_cons]; exact .inr hx.1, hx.2⟩) hp
    have step : ∀ o : List Int, o.Nodup → (∀ x ∈ o, 0 < x) → heldSum (c :: l) o = heldSum l o + (if c.owner ∈ o then 1 else 0) := by
      intro o
      induction o with
      | nil => intro _ _; simp [heldSum]
      | cons x o ih2 =>
        intro hn2 hp2
        have h1 := ih2 (List.nodup_cons.1 hn2).2 fun y hy => hp2 y (by simp [hy])
        have hx := hp2 x (by simp)
        unfold heldSum at h1 ⊢
        simp only [List.map_cons, List.sum_cons, h1]
        have h2 : Audit.held (c :: l) x = Audit.held l x + (if c.owner = x then 1 else 0) := by
          unfold Audit.held
          rw [if_pos hx, if_pos hx, List.filter_cons]
          by_cases e : c.owner = x <;> simp [e]
        rw [h2]
        by_cases e : c.owner = x
        · have : c.owner ∉ o := e ▸ (List.nodup_cons.1 hn2).1
          simp [e, this]
          have : x ∉ o := (List.nodup_cons.1 hn2).1
          simp [this]
          omega
        · by_cases e2 : c.owner ∈ o <;> simp [e, e2] <;> omega
    rw [step o hn hp, ih, List.filter_cons]
    by_cases hc : 0 < c.owner
    · have : c.owner ∈ o := hm _ ⟨by simp [owners], hc⟩
      simp [hc, this]
    · have : c.owner ∉ o := fun h => hc (hp _ h)
      simp [hc, this]

theorem owned_many : ∀ (l : List ChunkM), (l.all Audit.right = true) → (l.filter fun c => decide (0 < c.owner)).length = Audit.many l 1
  | [], _ => rfl
  | c :: l, h => by
    simp only [List.all_cons, Bool.and_eq_true] at h
    have ih := owned_many l h.2
    have hr := h.1
    simp only [Audit.right, Bool.and_eq_true, beq_iff_eq] at hr
    have he : decide (0 < c.owner) = (c.phase == 1) := hr.1.1.2
    unfold Audit.many at ih ⊢
    simp only [List.filter_cons, he]
    split <;> simp [ih]

theorem many_all : ∀ (l : List ChunkM), (l.all Audit.right = true) → Audit.many l 0 + Audit.many l 1 + Audit.many l 2 + Audit.many l 3 = l.length
  | [], _ => rfl
  | c :: l, h => by
    simp only [List.all_cons, Bool.and_eq_true] at h
    have ih := many_all l h.2
    have hr := h.1
    simp only [Audit.right, Audit.is, Bool.and_eq_true, decide_eq_true_eq] at hr
    have hp : c.phase = 0 ∨ c.phase = 1 ∨ c.phase = 2 ∨ c.phase = 3 := by omega
    have e : ∀ p : Int, Audit.many (c :: l) p = Audit.many l p + (if c.phase = p then 1 else 0) := fun p => by
      unfold Audit.many
      rw [List.filter_cons]
      by_cases hq : c.phase = p <;> simp [hq]
    rw [e, e, e, e, List.length_cons]
    rcases hp with hp | hp | hp | hp <;> simp [hp] <;> omega

theorem law_AuditSums (v0 : Value) (l : List ChunkM) (hwf : ∀ c ∈ l, chunkWf c) (m0 : l.length ≤ maxLen) (v1 : Value) (q : List Int) (hwq : ∀ x ∈ q, (Lit.int .i64 x).wf = true) (m1 : q.length ≤ maxLen) (w : World) (F : List HProp) (hw : holds w (roChunks v0 l :: roInts v1 q :: F)) :
    Calls Try.prog 12 #[v0, v1] w fun e w' => e = .returned (.bool true) ∧ holds w' F := by
  obtain ⟨a, cap, rfl, hcap⟩ := roChunks_form hw
  obtain ⟨a', cap', rfl, hcap'⟩ := roInts_form (hw.pick 1)
  unfold maxLen at m0 m1
  by_cases h60 : l.length ≤ 60
  · by_cases h80 : q.length ≤ 80
    · have g1 := fun w F hw => audit_Sound (.slice a l.length cap) (.slice a' q.length cap') l q w F (by omega) (by omega) hw
      cases hs : Audit.sound l q with
      | false =>
        rw [hs] at g1
        have G1 := Lib.hid g1
        clear g1 hs hwf hwq
        go_enter Try.func12, Try.ntmps12
        go_wp2_with fail
        refine (G1.out _ _ hw).mono ?_
        rintro e w1 ⟨rfl, h1⟩
        go_wp2_with (go_at_call 18; refine (law20_works _ _ h1.tail.tail).mono ?_; rintro e w1 ⟨rfl, h1⟩)
        go_ret
        exact ⟨rfl, h1⟩
      | true =>
        rw [hs] at g1
        simp only [Audit.sound, Bool.and_eq_true, beq_iff_eq, decide_eq_true_eq] at hs
        have hall := many_all l hs.1.1.1
        have how := owned_many l hs.1.1.1
        have hq2 := hs.1.1.2
        have hsum := heldSum_all l (sortInts (alKeys (Audit.counts l))) ((List.mergeSort_perm _ _).nodup_iff.2 (counts_nodup l)) (fun x hx => (mem_sortInts _ _).2 ((mem_counts l x).2 hx)) (fun x hx => ((mem_counts l x).1 ((mem_sortInts _ _).1 hx)).2)
        rw [how] at hsum
        have hw2 : ∀ c ∈ l, (Lit.int .i64 c.owner).wf = true := fun c hc => (hwf c hc).2.1
        have hlen : (sortInts (alKeys (Audit.counts l))).length ≤ 60 := by
          have h1 := counts_length l
          have h2 : (sortInts (alKeys (Audit.counts l))).length = (alKeys (Audit.counts l)).length := (List.mergeSort_perm _ _).length_eq
          rw [h2]
          simp only [alKeys, List.length_map]
          omega
        have go1 := fun w F hw => audit_Owners (.slice a l.length cap) l w F (by omega) hw2 hw
        have gm := fun w F hw => audit_Many (.slice a l.length cap) l w F (by omega) hw
        generalize sortInts (alKeys (Audit.counts l)) = o at hsum hlen go1
        unfold manyCells at gm
        have c0 : Audit.many l 0 ≤ 60 := by omega
        have c1 : Audit.many l 1 ≤ 60 := by omega
        have c2 : Audit.many l 2 ≤ 60 := by omega
        have c3 : Audit.many l 3 ≤ 60 := by omega
        generalize Audit.many l 0 = n0 at *
        generalize Audit.many l 1 = n1 at *
        generalize Audit.many l 2 = n2 at *
        generalize Audit.many l 3 = n3 at *
        have G1 := Lib.hid g1
        have GO := Lib.hid go1
        have GM := Lib.hid gm
        have HS := Lib.hid hsum
        have HL := Lib.hid hall
        have HQ := Lib.hid hq2
        clear g1 go1 gm hsum hall hq2 hs how hwf hwq hw2
        go_enter Try.func12, Try.ntmps12
        go_wp2_with fail
        refine (G1.out _ _ hw).mono ?_
        rintro e w1 ⟨rfl, h1⟩
        go_wp2_with fail
        refine (GM.out _ _ h1).mono ?_
        rintro e w2 ⟨rfl, h2⟩
        go_wp2_with fail
        have h3 := h2.alloc (.cells #[.int .i64 n0, .int .i64 n1, .int .i64 n2, .int .i64 n3] 87 (0, 0))
        refine (GO.out _ _ (h3.pick 1)).mono ?_
        rintro e w3 ⟨vo, rfl, h4⟩
        go_wp2_with fail
        obtain ⟨po, co, rfl, hco⟩ := roInts_form h4
        clear h2 h3 h1
        go_loopw [6, 8] (fun al i wr => ∃ k : Nat, k ≤ o.length ∧ i = .int .i64 k ∧ al = .int .i64 (heldSum l (o.take k) : Nat) ∧ holds wr (roInts (.slice po o.length co) o :: roChunks (.slice a l.length cap) l :: blk w2.heap.size (.cells #[.int .i64 n0, .int .i64 n1, .int .i64 n2, .int .i64 n3] 87 (0, 0)) :: roInts (.slice a' q.length cap') q :: F)) (fun _ i _ => o.length - (intOf i).toNat)
        case atStart => exact ⟨0, Nat.zero_le _, rfl, rfl, h4⟩
        case round =>
          obtain ⟨k, hk, rfl, rfl, h5⟩ := hrel
          clear h4
          by_cases hlt : k < o.length
          · obtain ⟨g, off, cap2, hv, _, hcs⟩ := h5.roIntAt (by omega)
            cases hv
            have c0 := hcs k hlt
            have hst := heldSum_take l o k hlt
            have hle : heldSum l (o.take k) ≤ 3600 := by
              have h1 := sum_le l (o.take k)
              have h2 : (o.take k).length ≤ 60 := Nat.le_trans (List.length_take_le' _ _) hlen
              have h3 : (o.take k).length * l.length ≤ 60 * 60 := Nat.mul_le_mul h2 h60
              unfold heldSum
              omega
            have hhl := Audit.held_le l o[k]
            have gh := fun w F hw => audit_Held (.slice a l.length cap) l o[k] w F (by omega) hw
            generalize heldSum l (o.take k) = sm at hst hle
            generalize Audit.held l o[k] = hh at hst hhl gh
            generalize o[k] = y at c0 gh
            have HST := Lib.hid hst
            have GH := Lib.hid gh
            clear hst gh hcs
            go_wp2_with fail
            refine (GH.out _ _ (h5.pick 1)).mono ?_
            rintro e w4 ⟨rfl, h6⟩
            go_wp2_with fail
            go_roundw
            case rel => exact ⟨k + 1, by omega, by go_num, by rw [HST.out]; go_num, h6.order [1, 0, 2, 3]⟩
            case measure => simp [intOf]; omega
          · have hkl : o.take k = o := List.take_of_length_le (by omega)
            rw [hkl, HS.out]
            have k0 := cellAt (h5.pick 2).get_blk 0
            have k1 := cellAt (h5.pick 2).get_blk 1
            have k2 := cellAt (h5.pick 2).get_blk 2
            have k3 := cellAt (h5.pick 2).get_blk 3
            simp at k0 k1 k2 k3
            have hb1 : ((n0 : Int) + n1 + n2 + n3 == (l.length : Int)) = true := by have := HL.out; simp; omega
            have hb3 : ((n2 : Int) == (q.length : Int)) = true := by have := HQ.out; simp; omega
            go_wp2_with fail
            refine (law20_works _ _ h5.tail.tail.tail.tail).mono ?_
            rintro e w5 ⟨rfl, h6⟩
            go_wp2_with fail
            go_ret
            exact ⟨rfl, h6⟩
    · go_enter Try.func12, Try.ntmps12
      go_wp2_with (go_at_call 18; refine (law20_works _ _ hw.tail.tail).mono ?_; rintro e w1 ⟨rfl, h1⟩)
      go_ret
      exact ⟨rfl, h1⟩
  · go_enter Try.func12, Try.ntmps12
    go_wp2_with (go_at_call 18; refine (law20_works _ _ hw.tail.tail).mono ?_; rintro e w1 ⟨rfl, h1⟩)
    go_ret
    exact ⟨rfl, h1⟩

end Go.Proofs.Ytfkpcmlajdmnfaa
