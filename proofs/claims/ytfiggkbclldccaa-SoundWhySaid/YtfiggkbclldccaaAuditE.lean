/- Contracts of the reference of chapter 20: One, times, Sound, Held. -/
import Derived.Test.YtfiggkbclldccaaAuditD
import Derived.Test.YtfiggkbclldccaaBase
namespace Go.Proofs.Ytfiggkbclldccaa
open Go Go.RowKit Go.MapKept
set_option maxRecDepth 100000

theorem ref20_One (c : ChunkM) (w : World) (F : List HProp) (hw : holds w F) :
    Calls Try.prog 65 #[chunkV c] w fun e w' => e = .returned (.bool (Audit.one c)) ∧ holds w' F := by
  obtain ⟨r, hr⟩ : ∃ r, Audit.one c = r := ⟨_, rfl⟩
  rw [hr]
  obtain ⟨p, o, g⟩ := c
  unfold chunkV
  simp only
  have HR := Lib.hid hr
  clear hr
  go_enter Try.func65, Try.ntmps65
  go_wp2
  all_goals
    go_ret
    refine ⟨?_, (hw.alloc _).tail⟩
    rw [← HR.out]
    simp_all [Audit.one]
  all_goals (intros; omega)

theorem count_take (l : List Int) (k : Nat) (hk : k < l.length) (x : Int) : (l.take (k + 1)).count x = (l.take k).count x + (if l[k] = x then 1 else 0) := by
  rw [List.take_succ_eq_append_getElem hk, List.count_append]
  by_cases h : l[k] = x <;> simp [h]

theorem ref20_times (v : Value) (l : List Int) (x : Int) (w : World) (F : List HProp) (hl : l.length ≤ 1000000000) (hw : holds w (roInts v l :: F)) :
    Calls Try.prog 64 #[v, .int .i64 x] w fun e w' => e = .returned (.int .i64 (l.count x : Nat)) ∧ holds w' (roInts v l :: F) := by
  obtain ⟨a, cap, rfl, hcap⟩ := roInts_form hw
  go_enter Try.func64, Try.ntmps64
  go_wp2_with fail
  go_loopw [5, 6] (fun n i wr => ∃ k : Nat, k ≤ l.length ∧ i = .int .i64 k ∧ n = .int .i64 ((l.take k).count x : Nat) ∧ holds wr (roInts (.slice a l.length cap) l :: F)) (fun _ i _ => l.length - (intOf i).toNat)
  case atStart => exact ⟨0, Nat.zero_le _, rfl, rfl, hw⟩
  case round =>
    obtain ⟨k, hk, rfl, rfl, h2⟩ := hrel
    by_cases hlt : k < l.length
    · obtain ⟨g, off, cap', hv, _, hcs⟩ := h2.roIntAt (by omega)
      cases hv
      have c0 := hcs k hlt
      have hct := count_take l k hlt x
      have hle : (l.take k).count x ≤ l.length := Nat.le_trans List.count_le_length (List.length_take_le' _ _)
      obtain ⟨y, hy⟩ : ∃ y, l[k] = y := ⟨_, rfl⟩
      rw [hy] at c0 hct
      generalize (l.take k).count x = n at hct hle
      have HC := Lib.hid hct
      clear hcs hct hy
      by_cases hyx : y = x
      · subst hyx
        go_wp2_with fail
        go_roundw
        case rel => exact ⟨k + 1, by omega, by go_num, by rw [HC.out, if_pos rfl]; go_num, h2⟩
        case measure => simp [intOf]; omega
      · have hb : (y == x) = false := by simpa using hyx
        go_wp2_with fail
        go_roundw
        case rel => exact ⟨k + 1, by omega, by go_num, by rw [HC.out, if_neg hyx]; rfl, h2⟩
        case measure => simp [intOf]; omega
    · have hkl : l.take k = l := List.take_of_length_le (by omega)
      rw [hkl]
      go_wp2_with fail
      go_ret
      exact ⟨rfl, h2⟩

theorem ref20_Held (v : Value) (l : List ChunkM) (o : Int) (w : World) (F : List HProp) (hl : l.length ≤ 1000000) (hw : holds w (roChunks v l :: F)) :
    Calls Try.prog 66 #[v, .int .i64 o] w fun e w' => e = .returned (.int .i64 (Audit.held l o : Nat)) ∧ holds w' (roChunks v l :: F) := by
  obtain ⟨a, cap, rfl, hcap⟩ := roChunks_form hw
  go_enter Try.func66, Try.ntmps66
  go_wp2_with fail
  go_loopw [5, 6] (fun n i wr => ∃ k : Nat, k ≤ l.length ∧ i = .int .i64 k ∧ n = .int .i64 (Audit.held (l.take k) o : Nat) ∧ holds wr (roChunks (.slice a l.length cap) l :: F)) (fun _ i _ => l.length - (intOf i).toNat)
  case atStart => exact ⟨0, Nat.zero_le _, rfl, by simp [Audit.held], hw⟩
  case round =>
    obtain ⟨k, hk, rfl, rfl, h2⟩ := hrel
    by_cases hlt : k < l.length
    · obtain ⟨g, off, cap', hv, _, hcs⟩ := h2.chunkAt (by omega)
      cases hv
      obtain ⟨_, c0, _⟩ := hcs k hlt
      have hct := Audit.held_snoc l k hlt o
      have hle : Audit.held (l.take k) o ≤ l.length := Nat.le_trans (Audit.held_le _ _) (List.length_take_le' _ _)
      obtain ⟨y, hy⟩ : ∃ y, l[k].owner = y := ⟨_, rfl⟩
      rw [hy] at c0 hct
      generalize Audit.held (l.take k) o = n at hct hle
      have HC := Lib.hid hct
      clear hcs hct hy
      by_cases hyx : y = o
      · subst hyx
        by_cases h0 : 1 ≤ y
        · go_wp2_with fail
          go_roundw
          case rel => exact ⟨k + 1, by omega, by go_num, by rw [HC.out, if_pos ⟨by omega, rfl⟩]; go_num, h2⟩
          case measure => simp [intOf]; omega
        · go_wp2_with fail
          go_roundw
          case rel => exact ⟨k + 1, by omega, by go_num, by rw [HC.out, if_neg (fun h => h0 (by omega))]; rfl, h2⟩
          case measure => simp [intOf]; omega
      · have hb : (y == o) = false := by simpa using hyx
        go_wp2_with fail
        go_roundw
        case rel => exact ⟨k + 1, by omega, by go_num, by rw [HC.out, if_neg (fun h => hyx h.2)]; rfl, h2⟩
        case measure => simp [intOf]; omega
    · have hkl : l.take k = l := List.take_of_length_le (by omega)
      rw [hkl]
      go_wp2_with fail
      go_ret
      exact ⟨rfl, h2⟩

end Go.Proofs.Ytfiggkbclldccaa
