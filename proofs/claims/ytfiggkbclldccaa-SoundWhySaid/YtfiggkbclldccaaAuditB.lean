/- Contracts of package audit: Sound and what it calls. -/
import Derived.Test.YtfiggkbclldccaaAudit
namespace Go.Proofs.Ytfiggkbclldccaa
open Go Go.RowKit Go.MapKept
set_option maxRecDepth 100000

def chunkCells (c : ChunkM) : List Value := [.int .i64 c.phase, .int .i64 c.owner, .int .i64 c.gen]
def roChunks (v : Value) (l : List ChunkM) : HProp := roRow 3 v l.length (l.flatMap chunkCells)
theorem flat3 : ∀ (l : List ChunkM) (i : Nat) (hi : i < l.length), (l.flatMap chunkCells)[i * 3]? = some (.int .i64 l[i].phase) ∧ (l.flatMap chunkCells)[i * 3 + 1]? = some (.int .i64 l[i].owner) ∧ (l.flatMap chunkCells)[i * 3 + 2]? = some (.int .i64 l[i].gen)
  | c :: l, 0, _ => by simp [chunkCells]
  | c :: l, i + 1, hi => by
    have ih := flat3 l i (by simpa using hi)
    have e : ∀ j, (chunkCells c ++ l.flatMap chunkCells)[(i + 1) * 3 + j]? = (l.flatMap chunkCells)[i * 3 + j]? := fun j => by
      rw [List.getElem?_append_right (by simp [chunkCells]; omega)]
      congr 1
      simp [chunkCells]; omega
    have e0 := e 0
    simp only [Nat.add_zero] at e0
    simp only [List.flatMap_cons, List.getElem_cons_succ, e0, e 1, e 2]
    exact ih
  | [], i, hi => by simp at hi
theorem roChunks_form {w : World} {F : List HProp} {v : Value} {l : List ChunkM} (h : holds w (roChunks v l :: F)) : ∃ a cap, v = .slice a l.length cap ∧ l.length ≤ cap := (holds.roReads h).form
theorem holds.chunkAt {w : World} {F : List HProp} {v : Value} {l : List ChunkM} (h : holds w (roChunks v l :: F)) (h0 : 0 < l.length) :
    ∃ g off cap, v = .slice (some ⟨g, off, none⟩) l.length cap ∧ l.length ≤ cap ∧ ∀ (i : Nat) (hi : i < l.length), w.cell? ⟨g, off + i * 3, none⟩ = some (.int .i64 l[i].phase) ∧ w.cell? ⟨g, off + i * 3 + 1, none⟩ = some (.int .i64 l[i].owner) ∧ w.cell? ⟨g, off + i * 3 + 2, none⟩ = some (.int .i64 l[i].gen) := by
  obtain ⟨b, off, cap, h1, h2, h3⟩ := (holds.roReads h).cells (by omega)
  refine ⟨b, off, cap, h1, h2, fun i hi => ?_⟩
  obtain ⟨f0, f1, f2⟩ := flat3 l i hi
  rw [h3 (i * 3) (by omega), Nat.add_assoc, Nat.add_assoc, h3 (i * 3 + 1) (by omega), h3 (i * 3 + 2) (by omega)]
  exact ⟨f0, f1, f2⟩

theorem audit_right (c : ChunkM) (w : World) (F : List HProp) (hw : holds w F) :
    Calls Try.prog 121 #[chunkV c] w fun e w' => e = .returned (.bool (Audit.right c)) ∧ holds w' F := by
  obtain ⟨r, hr⟩ : ∃ r, Audit.right c = r := ⟨_, rfl⟩
  rw [hr]
  obtain ⟨p, o, g⟩ := c
  unfold chunkV
  simp only
  have HR := Lib.hid hr
  clear hr
  go_enter Try.func121, Try.ntmps121
  go_wp2_with (go_at_call 79; refine (audit_is _ _).mono ?_; rintro e w' ⟨rfl, rfl⟩)
  all_goals
    go_ret
    refine ⟨?_, (hw.alloc _).tail⟩
    rw [← HR.out]
    simp_all [Audit.right]
  all_goals (intros; omega)

theorem audit_wrong (c : ChunkM) (w : World) (F : List HProp) (hw : holds w F) :
    Calls Try.prog 120 #[chunkV c] w fun e w' => e = .returned (.bool (!Audit.right c)) ∧ holds w' F := by
  have hc : chunkV c = .agg #[.int .i64 c.phase, .int .i64 c.owner, .int .i64 c.gen] := rfl
  rw [hc]
  go_enter Try.func120, Try.ntmps120
  go_wp2_with (go_at_call 121; refine (audit_right c _ F (hw.alloc _).tail).mono ?_; rintro e w' ⟨rfl, h1⟩)
  go_ret
  exact ⟨rfl, h1⟩

theorem audit_IndexFunc (v : Value) (l : List ChunkM) (w : World) (F : List HProp) (hl : l.length ≤ 1000000) (hw : holds w (roChunks v l :: F)) :
    Calls Try.prog 139 #[v, .func (.func 120) #[] #[]] w fun e w' => (∃ n : Int, e = .returned (.int .i64 n) ∧ (0 ≤ n ↔ l.all Audit.right = false)) ∧ holds w' (roChunks v l :: F) := by
  obtain ⟨a, cap, rfl, hcap⟩ := roChunks_form hw
  go_enter Try.func139, Try.ntmps139
  go_wp2_with fail
  go_loopw [8] (fun i wr => ∃ k : Nat, k ≤ l.length ∧ i = .int .i64 k ∧ (∀ j (hj : j < k) (hl : j < l.length), Audit.right l[j] = true) ∧ holds wr (roChunks (.slice a l.length cap) l :: F)) (fun i _ => l.length - (intOf i).toNat)
  case atStart => exact ⟨0, Nat.zero_le _, rfl, fun j hj => by omega, hw⟩
  case round =>
    obtain ⟨k, hk, rfl, hall, h2⟩ := hrel
    have HA := Lib.hid hall
    clear hall
    by_cases hlt : k < l.length
    · obtain ⟨g, off, cap', hv, _, hcs⟩ := h2.chunkAt (by omega)
      cases hv
      obtain ⟨c0, c1, c2⟩ := hcs k hlt
      clear hcs
      cases hr : Audit.right l[k] with
      | false =>
        have HR := Lib.hid hr
        clear hr
        go_wp2_with (go_at_call 120; refine (audit_wrong l[k] _ _ h2).mono ?_; rw [HR.out]; rintro e w1 ⟨rfl, h1⟩)
        go_ret
        refine ⟨⟨k, rfl, ?_⟩, h1⟩
        constructor
        · intro _
          rw [List.all_eq_false]
          exact ⟨l[k], List.getElem_mem hlt, by simp [HR.out]⟩
        · intro _; omega
      | true =>
        have HR := Lib.hid hr
        clear hr
        go_wp2_with (go_at_call 120; refine (audit_wrong l[k] _ _ h2).mono ?_; rw [HR.out]; rintro e w1 ⟨rfl, h1⟩)
        go_roundw
        case rel =>
          refine ⟨k + 1, by omega, by go_num, fun j hj hl' => ?_, h1⟩
          by_cases hjk : j = k
          · subst hjk; exact HR.out
          · exact HA.out j (by omega) hl'
        case measure => simp [intOf]; omega
    · go_wp2_with fail
      go_ret
      refine ⟨⟨-1, rfl, ?_⟩, h2⟩
      constructor
      · intro h; omega
      · intro h
        rw [List.all_eq_false] at h
        obtain ⟨x, hx, hx2⟩ := h
        obtain ⟨j, hj, rfl⟩ := List.mem_iff_getElem.1 hx
        exact absurd (HA.out j (by omega) hj) hx2

theorem audit_ContainsFunc (v : Value) (l : List ChunkM) (w : World) (F : List HProp) (hl : l.length ≤ 1000000) (hw : holds w (roChunks v l :: F)) :
    Calls Try.prog 122 #[v, .func (.func 120) #[] #[]] w fun e w' => e = .returned (.bool (!l.all Audit.right)) ∧ holds w' (roChunks v l :: F) := by
  obtain ⟨r, hr⟩ : ∃ r, l.all Audit.right = r := ⟨_, rfl⟩
  rw [hr]
  have HR := Lib.hid hr
  clear hr
  go_enter Try.func122, Try.ntmps122
  go_wp2_with fail
  refine (audit_IndexFunc v l _ F hl hw).mono ?_
  rintro e w1 ⟨⟨n, rfl, hn⟩, h1⟩
  have HN := Lib.hid hn
  clear hn
  go_wp2_with fail
  go_ret
  refine ⟨?_, h1⟩
  have := HN.out
  rw [HR.out] at this
  cases r <;> simp_all

/-! ### Many -/
def manyV (l : List ChunkM) : Value := .agg #[.int .i64 (Audit.many l 0), .int .i64 (Audit.many l 1), .int .i64 (Audit.many l 2), .int .i64 (Audit.many l 3)]
theorem many_snoc (l : List ChunkM) (k : Nat) (hk : k < l.length) (p : Int) : Audit.many (l.take (k + 1)) p = Audit.many (l.take k) p + (if l[k].phase = p then 1 else 0) := by
  unfold Audit.many
  rw [List.take_succ_eq_append_getElem hk, List.filter_append, List.length_append]
  by_cases h : l[k].phase = p <;> simp [h]

end Go.Proofs.Ytfiggkbclldccaa
