/- The laws of chapter 20. -/
import Derived.Test.YtfkpcmlajdmnfaaAuditD
namespace Go.Proofs.Ytfkpcmlajdmnfaa
open Go Go.RowKit Go.MapKept
set_option maxRecDepth 100000

theorem Audit.follows_ref (a b : ChunkM) : Audit.refFollows a b = Audit.follows a b := by
  rw [Bool.eq_iff_iff]
  simp only [Audit.refFollows, Audit.follows, Audit.is]
  by_cases h1 : a.phase = 1 <;> by_cases h2 : b.phase = 1 <;> by_cases h3 : a.owner = b.owner <;> by_cases h4 : b.gen = a.gen <;> simp [h1, h2, h3, h4] <;> omega
theorem Audit.follows_iff (a b : ChunkM) : Audit.follows a b = true ↔ (0 ≤ a.phase ∧ a.phase ≤ 3 ∧ 0 ≤ b.phase ∧ b.phase ≤ 3 ∧ 0 ≤ a.gen ∧ a.gen ≤ b.gen) ∧ (a.gen < b.gen ∨ (a.phase ≤ b.phase ∧ (a.phase ≠ 1 ∨ b.phase ≠ 1 ∨ a.owner = b.owner))) := by
  simp only [Audit.follows, Audit.is]
  by_cases h1 : a.phase = 1 <;> by_cases h2 : b.phase = 1 <;> by_cases h3 : a.owner = b.owner <;> simp [h1, h2, h3] <;> omega
theorem Audit.follows_trans (a b c : ChunkM) (h1 : Audit.follows a b = true) (h2 : Audit.follows b c = true) : Audit.follows a c = true := by
  rw [Audit.follows_iff] at *
  omega
theorem Audit.follows_refl (a : ChunkM) : Audit.follows a a = (decide (0 ≤ a.phase) && decide (a.phase ≤ 3) && decide (0 ≤ a.gen)) := by
  rw [Bool.eq_iff_iff, Audit.follows_iff]
  simp
  omega

theorem holds.newChunks {w : World} {F : List HProp} {n : Nat} {cur : Array Value} (l : List ChunkM) (h : holds w (blk n (.cells cur 23 (0, 0)) :: F)) (hc : cur.toList = l.flatMap chunkCells) (hl : cur.size = l.length * 3) :
    holds w (roChunks (.slice (some ⟨n, 0, none⟩) l.length l.length) l :: F) := by
  have h2 := h.share.mkRo (size := 3) (off := 0) (n := l.length) (cap := l.length) (Nat.le_refl _) (by omega)
  rw [List.drop_zero, List.take_of_length_le (by simp; omega), hc] at h2
  exact h2
theorem holds.newInts {w : World} {F : List HProp} {n : Nat} {cur : Array Value} (l : List Int) (h : holds w (blk n (.cells cur 3 (0, 0)) :: F)) (hc : cur.toList = ints l) (hl : cur.size = l.length) :
    holds w (roInts (.slice (some ⟨n, 0, none⟩) l.length l.length) l :: F) := by
  have h2 := h.share.mkRo (size := 1) (off := 0) (n := l.length) (cap := l.length) (Nat.le_refl _) (by omega)
  rw [List.drop_zero, List.take_of_length_le (by simp; omega), hc] at h2
  exact h2

theorem law20_works (w : World) (F : List HProp) (hw : holds w F) :
    Calls Try.prog 18 #[] w fun e w' => e = .returned (.bool true) ∧ holds w' F := by
  go_enter Try.func18, Try.ntmps18
  go_wp2_with fail
  have h1 := holds.newChunks [⟨0, 0, 0⟩, ⟨1, 3, 0⟩, ⟨2, 0, 0⟩] (hw.alloc (.cells #[.int .i64 0, .int .i64 0, .int .i64 0, .int .i64 1, .int .i64 3, .int .i64 0, .int .i64 2, .int .i64 0, .int .i64 0] 23 (0, 0))) rfl rfl
  have h2 := (holds.newInts [2] (h1.alloc (.cells #[.int .i64 2] 3 (0, 0))) rfl rfl).order [1, 0]
  simp only [World.size_alloc] at h2
  refine (audit_Sound _ _ _ _ _ _ (by simp) (by simp) h2).mono ?_
  rw [show Audit.sound [⟨0, 0, 0⟩, ⟨1, 3, 0⟩, ⟨2, 0, 0⟩] [2] = true from rfl]
  rintro e w1 ⟨rfl, h3⟩
  clear h1 h2
  go_wp2_with fail
  have h4 := (holds_roRow_nil (holds.newChunks [⟨1, 0, 0⟩] (h3.tail.tail.alloc (.cells #[.int .i64 1, .int .i64 0, .int .i64 0] 23 (0, 0))) rfl rfl) 1).order [1, 0]
  refine (audit_Sound _ _ _ [] _ _ (by simp) (by simp) h4).mono ?_
  rw [show Audit.sound [⟨1, 0, 0⟩] [] = false from rfl]
  rintro e w2 ⟨rfl, h5⟩
  clear h4
  go_wp2_with fail
  have h6 := (holds_roRow_nil (holds.newChunks [⟨2, 0, 0⟩] (h5.tail.tail.alloc (.cells #[.int .i64 2, .int .i64 0, .int .i64 0] 23 (0, 0))) rfl rfl) 1).order [1, 0]
  refine (audit_Sound _ _ _ [] _ _ (by simp) (by simp) h6).mono ?_
  rw [show Audit.sound [⟨2, 0, 0⟩] [] = false from rfl]
  rintro e w3 ⟨rfl, h7⟩
  clear h6
  go_wp2_with fail
  have h8 := holds.newChunks [⟨0, 3, 0⟩] (h7.tail.tail.alloc (.cells #[.int .i64 0, .int .i64 3, .int .i64 0] 23 (0, 0))) rfl rfl
  refine (audit_Held _ _ _ _ _ (by simp) h8).mono ?_
  rw [show Audit.held [⟨0, 3, 0⟩] 3 = 1 from rfl]
  rintro e w4 ⟨rfl, h9⟩
  go_wp2_with fail
  go_ret
  exact ⟨rfl, h9.tail⟩

def boxes3 (n : Nat) (a b c : ChunkM) (F : List HProp) : List HProp :=
  blk (n + 1 + 1) (.cells #[.int .i64 c.phase, .int .i64 c.owner, .int .i64 c.gen] 23 (0, 0)) :: blk (n + 1) (.cells #[.int .i64 b.phase, .int .i64 b.owner, .int .i64 b.gen] 23 (0, 0)) :: blk n (.cells #[.int .i64 a.phase, .int .i64 a.owner, .int .i64 a.gen] 23 (0, 0)) :: F
def boxAt (F : List HProp) (n : Nat) (a : ChunkM) : Prop := (∀ p : Hold F, p.w.cell? ⟨n, 0, none⟩ = some (.int .i64 a.phase)) ∧ (∀ p : Hold F, p.w.cell? ⟨n, 1, none⟩ = some (.int .i64 a.owner)) ∧ (∀ p : Hold F, p.w.cell? ⟨n, 2, none⟩ = some (.int .i64 a.gen))
theorem boxes3_at {n : Nat} {a b c : ChunkM} {F F1 : List HProp} (h : F1 = boxes3 n a b c F) : boxAt F1 n a ∧ boxAt F1 (n + 1) b ∧ boxAt F1 (n + 1 + 1) c := by
  subst h
  have q : ∀ p : Hold (boxes3 n a b c F), holds p.w (blk (n + 1 + 1) (.cells #[.int .i64 c.phase, .int .i64 c.owner, .int .i64 c.gen] 23 (0, 0)) :: blk (n + 1) (.cells #[.int .i64 b.phase, .int .i64 b.owner, .int .i64 b.gen] 23 (0, 0)) :: blk n (.cells #[.int .i64 a.phase, .int .i64 a.owner, .int .i64 a.gen] 23 (0, 0)) :: F) := fun p => p.h
  exact ⟨⟨fun p => cellAt ((q p).pick 2).get_blk 0, fun p => cellAt ((q p).pick 2).get_blk 1, fun p => cellAt ((q p).pick 2).get_blk 2⟩, ⟨fun p => cellAt ((q p).pick 1).get_blk 0, fun p => cellAt ((q p).pick 1).get_blk 1, fun p => cellAt ((q p).pick 1).get_blk 2⟩, ⟨fun p => cellAt (q p).get_blk 0, fun p => cellAt (q p).get_blk 1, fun p => cellAt (q p).get_blk 2⟩⟩

theorem boxes3_tail {n : Nat} {a b c : ChunkM} {F F1 : List HProp} {w : World} (h : F1 = boxes3 n a b c F) (hw : holds w F1) : holds w F := by
  rw [h] at hw
  exact hw.tail.tail.tail

set_option maxHeartbeats 4000000 in
theorem law_AuditFollows (a b c : ChunkM) (w : World) (F : List HProp) (hw : holds w F) :
    Calls Try.prog 3 #[chunkV a, chunkV b, chunkV c] w fun e w' => e = .returned (.bool true) ∧ holds w' F := by
  have hab := Audit.follows_ref a b
  have htr := Audit.follows_trans a b c
  have hrf := Audit.follows_refl a
  obtain ⟨fab, hfab⟩ : ∃ r, Audit.follows a b = r := ⟨_, rfl⟩
  obtain ⟨fbc, hfbc⟩ : ∃ r, Audit.follows b c = r := ⟨_, rfl⟩
  obtain ⟨fac, hfac⟩ : ∃ r, Audit.follows a c = r := ⟨_, rfl⟩
  rw [hfab] at hab
  rw [hfab, hfbc, hfac] at htr
  have Hab := Lib.hid hab
  have Htr := Lib.hid htr
  have Hrf := Lib.hid hrf
  have Hfab := Lib.hid hfab
  have Hfbc := Lib.hid hfbc
  have Hfac := Lib.hid hfac
  clear hab htr hrf hfab hfbc hfac
  have g1 : ∀ w F, holds w F → Calls Try.prog 16 #[chunkV a, chunkV b] w fun e w' => e = .returned (.bool fab) ∧ holds w' F := fun w F hw => by have := audit_Follows a b w F hw; rwa [Hfab.out] at this
  have g2 : ∀ w F, holds w F → Calls Try.prog 17 #[chunkV a, chunkV b] w fun e w' => e = .returned (.bool fab) ∧ holds w' F := fun w F hw => by have := ref_Follows a b w F hw; rwa [Hab.out] at this
  have g3 : ∀ w F, holds w F → Calls Try.prog 16 #[chunkV b, chunkV c] w fun e w' => e = .returned (.bool fbc) ∧ holds w' F := fun w F hw => by have := audit_Follows b c w F hw; rwa [Hfbc.out] at this
  have g4 : ∀ w F, holds w F → Calls Try.prog 16 #[chunkV a, chunkV c] w fun e w' => e = .returned (.bool fac) ∧ holds w' F := fun w F hw => by have := audit_Follows a c w F hw; rwa [Hfac.out] at this
  have g5 : ∀ w F, holds w F → Calls Try.prog 16 #[chunkV a, chunkV a] w fun e w' => e = .returned (.bool (decide (0 ≤ a.phase) && decide (a.phase ≤ 3) && decide (0 ≤ a.gen))) ∧ holds w' F := fun w F hw => by have := audit_Follows a a w F hw; rwa [Hrf.out] at this
  have G1 := Lib.hid g1
  have G2 := Lib.hid g2
  have G3 := Lib.hid g3
  have G4 := Lib.hid g4
  have G5 := Lib.hid g5
  clear g1 g2 g3 g4 g5
  have h1 := ((hw.alloc (.cells #[.int .i64 a.phase, .int .i64 a.owner, .int .i64 a.gen] 23 (0, 0))).alloc (.cells #[.int .i64 b.phase, .int .i64 b.owner, .int .i64 b.gen] 23 (0, 0))).alloc (.cells #[.int .i64 c.phase, .int .i64 c.owner, .int .i64 c.gen] 23 (0, 0))
  simp only [World.size_alloc] at h1
  have ha : chunkV a = .agg #[.int .i64 a.phase, .int .i64 a.owner, .int .i64 a.gen] := rfl
  have hb : chunkV b = .agg #[.int .i64 b.phase, .int .i64 b.owner, .int .i64 b.gen] := rfl
  have hc : chunkV c = .agg #[.int .i64 c.phase, .int .i64 c.owner, .int .i64 c.gen] := rfl
  rw [ha, hb, hc]
  clear ha hb hc
  go_enter Try.func3, Try.ntmps3
  go_wp2_with fail
  obtain ⟨F1, hF1⟩ : ∃ F1, F1 = boxes3 w.heap.size a b c F := ⟨_, rfl⟩
  replace h1 : holds _ (boxes3 w.heap.size a b c F) := h1
  rw [← hF1] at h1
  have hne : Nonempty (Hold F1) := ⟨⟨_, h1⟩⟩
  obtain ⟨⟨pa0, pa1, pa2⟩, ⟨pb0, pb1, pb2⟩, ⟨pc0, pc1, pc2⟩⟩ := boxes3_at hF1
  have HF1 := Lib.hid hF1
  clear hF1
  refine wp_region_quiet_holds (by kernel_rfl) (by kernel_rfl) h1 ?_
  repeat (go_big_quiet_step (first | exact Calls.quiet_hold (G1.out _ _ (Hold.h _)) | exact Calls.quiet_hold (G2.out _ _ (Hold.h _))))
  refine wpQuiet_nil ?_
  rintro _ ⟨p, rfl⟩
  clear h1
  have hcase : (fab = false) ∨ (fab = true ∧ fbc = false) ∨ (fab = true ∧ fbc = true ∧ fac = true) := by
    have := Htr.out
    revert this
    cases fab <;> cases fbc <;> cases fac <;> simp
  clear Htr
  have h0 := p.h
  have e1 : ∀ x : ChunkM, x = x := fun _ => rfl
  clear e1
  rcases hcase with rfl | ⟨rfl, rfl⟩ | ⟨rfl, rfl, rfl⟩
  all_goals
    go_wp2_with fail
    try (refine (Calls.hold (G1.out _ _ (Hold.h _))).mono ?_; rintro e w' ⟨q, rfl, rfl⟩; go_wp2_with fail)
    try (refine (Calls.hold (G3.out _ _ (Hold.h _))).mono ?_; rintro e w' ⟨q2, rfl, rfl⟩; go_wp2_with fail)
    try (refine (Calls.hold (G4.out _ _ (Hold.h _))).mono ?_; rintro e w' ⟨q3, rfl, rfl⟩; go_wp2_with fail)
  all_goals
    clear h0
    rcases Bool.eq_false_or_eq_true (decide (0 ≤ a.phase)) with p0 | p0 <;> rcases Bool.eq_false_or_eq_true (decide (a.phase ≤ 3)) with p3 | p3 <;> rcases Bool.eq_false_or_eq_true (decide (0 ≤ a.gen)) with pg | pg
    all_goals
      refine wp_region_quiet_holds (by kernel_rfl) (by kernel_rfl) (Hold.h _) ?_
      repeat (go_big_quiet_step (first | exact Calls.quiet_hold (G5.out _ _ (Hold.h _)) | exact Calls.quiet_hold (law20_works _ _ (Hold.h _))))
      refine wpQuiet_nil ?_
      rintro _ ⟨p5, rfl⟩
      go_wp2_with fail
      go_ret
      refine ⟨?_, ?_⟩
      · first | rfl | simp [p0, p3, pg]
      · exact boxes3_tail HF1.out p5.h

end Go.Proofs.Ytfkpcmlajdmnfaa
