/- The law AuditSound. -/
import Derived.Test.YtfkpcmlajdmnfaaLaw20
import Derived.Test.YtfkpcmlajdmnfaaAuditG
import Derived.Test.YtfkpcmlajdmnfaaEq4
import Derived.Test.YtfkpcmlajdmnfaaArgsChunk
namespace Go.Proofs.Ytfkpcmlajdmnfaa
open Go Go.RowKit Go.MapKept
set_option maxRecDepth 100000
set_option linter.unusedVariables false

theorem owners_same (l : List ChunkM) (o : List Int) (h : o.Pairwise (· < ·) ∧ ∀ x, x ∈ o ↔ x ∈ owners l ∧ 0 < x) : sortInts (alKeys (Audit.counts l)) = o :=
  rising_eq _ _ (sortInts_rises (counts_nodup l)) h.1 fun x => by rw [mem_sortInts, mem_counts, h.2]

theorem law_AuditSound (v0 : Value) (l : List ChunkM) (hwf : ∀ c ∈ l, chunkWf c) (m0 : l.length ≤ maxLen) (v1 : Value) (q : List Int) (hwq : ∀ x ∈ q, (Lit.int .i64 x).wf = true) (m1 : q.length ≤ maxLen) (o : Int) (ho0 : -9223372036854775808 ≤ o) (ho1 : o ≤ 9223372036854775807) (w : World) (F : List HProp) (hw : holds w (roChunks v0 l :: roInts v1 q :: F)) :
    Calls Try.prog 11 #[v0, v1, .int .i64 o] w fun e w' => e = .returned (.bool true) ∧ holds w' F := by
  obtain ⟨a, cap, rfl, hcap⟩ := roChunks_form hw
  obtain ⟨a', cap', rfl, hcap'⟩ := roInts_form (hw.pick 1)
  unfold maxLen at m0 m1
  by_cases h60 : l.length ≤ 60
  · by_cases h80 : q.length ≤ 80
    · have hs := Audit.sound_eq l q
      have g1 := fun w F hw => audit_Sound (.slice a l.length cap) (.slice a' q.length cap') l q w F (by omega) (by omega) hw
      have g2 := fun w F hw => ref20_Sound (.slice a l.length cap) (.slice a' q.length cap') l q w F (by omega) (by omega) hw
      rw [← hs] at g2
      generalize Audit.sound l q = s at g1 g2
      have G1 := Lib.hid g1
      have G2 := Lib.hid g2
      have hw2 : ∀ c ∈ l, (Lit.int .i64 c.owner).wf = true := fun c hc => (hwf c hc).2.1
      have HW := Lib.hid hw2
      have hlen : (sortInts (alKeys (Audit.counts l))).length ≤ 60 := by
        have h1 := counts_length l
        have h2 : (sortInts (alKeys (Audit.counts l))).length = (alKeys (Audit.counts l)).length := (List.mergeSort_perm _ _).length_eq
        rw [h2]
        simp only [alKeys, List.length_map]
        omega
      clear g1 g2 hs hwf hwq hw2
      go_enter Try.func11, Try.ntmps11
      go_wp2_with fail
      refine (G1.out _ _ hw).mono ?_
      rintro e w1 ⟨rfl, h1⟩
      go_wp2_with fail
      refine (G2.out _ _ h1).mono ?_
      rintro e w2 ⟨rfl, h2⟩
      go_wp2_with fail
      refine (audit_Many _ l _ _ (by omega) h2).mono ?_
      rintro e w3 ⟨rfl, h3⟩
      go_wp2_with fail
      refine (ref20_Many _ l _ _ (by omega) h3).mono ?_
      rintro e w4 ⟨rfl, h4⟩
      have he4 : ∀ w, (Op.equalIn 10000 87 (.agg (manyCells l)) (.agg (manyCells l))).run Try.prog w = .ok true w := fun w => eq4_run _ _ _ _ w
      go_wp2_with fail
      clear he4
      refine (audit_Held _ l o _ _ (by omega) h4).mono ?_
      rintro e w5 ⟨rfl, h5⟩
      go_wp2_with fail
      refine (ref20_Held _ l o _ _ (by omega) h5).mono ?_
      rintro e w6 ⟨rfl, h6⟩
      go_wp2_with fail
      refine (audit_Owners _ l _ _ (by omega) HW.out h6).mono ?_
      rintro e w7 ⟨v7, rfl, h7⟩
      go_wp2_with fail
      refine (ref20_Owners _ l _ _ (by omega) (h7.pick 1)).mono ?_
      rintro e w8 ⟨v8, rfl, o8, ho8, h8⟩
      have hsame := owners_same l o8 ho8
      replace h8 := h8.order [2, 0, 1, 3]
      rw [← hsame] at h8
      go_wp2_with fail
      refine (base_SameInts _ _ _ _ _ _ (by omega) h8).mono ?_
      rw [show decide (sortInts (alKeys (Audit.counts l)) = sortInts (alKeys (Audit.counts l))) = true from by simp]
      rintro e w9 ⟨rfl, h9⟩
      clear hsame ho8
      go_wp2_with fail
      refine (law20_works _ _ h9.tail.tail.tail.tail).mono ?_
      rintro e w10 ⟨rfl, h10⟩
      go_wp2_with fail
      go_ret
      exact ⟨rfl, h10⟩
    · go_enter Try.func11, Try.ntmps11
      go_wp2_with (go_at_call 18; refine (law20_works _ _ hw.tail.tail).mono ?_; rintro e w1 ⟨rfl, h1⟩)
      go_ret
      exact ⟨rfl, h1⟩
  · go_enter Try.func11, Try.ntmps11
    go_wp2_with (go_at_call 18; refine (law20_works _ _ hw.tail.tail).mono ?_; rintro e w1 ⟨rfl, h1⟩)
    go_ret
    exact ⟨rfl, h1⟩

end Go.Proofs.Ytfkpcmlajdmnfaa
