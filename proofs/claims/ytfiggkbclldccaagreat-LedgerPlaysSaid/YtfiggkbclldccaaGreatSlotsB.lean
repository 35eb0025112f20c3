/- Contracts of package slots: Close. -/
import Derived.Test.YtfiggkbclldccaaGreatSlots
import Derived.Maps.OwnSet
namespace Go.Proofs.YtfiggkbclldccaaGreat
open Go Go.RowKit Go.MapKept
set_option maxRecDepth 100000

/-! ### Close -/
def SlotsM.closeAt (s : SlotsM) (p : Int) : SlotsM := { s with gens := s.gens.set p.toNat (s.gens.getD p.toNat 0 + 1), opn := alDel s.opn p, closed := s.closed ++ [p] }

theorem SlotsM.close_ok {s : SlotsM} {p g : Int} (hok : s.ok) (h : s.right p g = true) : (s.closeAt p).ok := by
  have hb : 0 ≤ p ∧ p < s.gens.length := by
    unfold SlotsM.right at h
    cases hg : alGet s.opn p with
    | none => simp [hg] at h
    | some x => exact hok.opn p x hg
  refine ⟨fun q b hq => ?_, ?_, ?_, ?_, ?_⟩
  · obtain ⟨u, hu⟩ := alGet_del_some _ _ _ _ hq
    simpa [SlotsM.closeAt] using hok.opn q u hu
  · simpa [SlotsM.closeAt] using hok.size
  · simpa [SlotsM.closeAt] using hok.fresh
  · intro q hq
    simp only [SlotsM.closeAt, List.mem_append, List.mem_singleton, List.length_set] at hq ⊢
    rcases hq with hq | rfl
    · exact hok.closed q hq
    · exact hb
  · exact alKeys_del_nodup _ _ hok.nodup

theorem slots_Close (w : World) (v : Value) (s : SlotsM) (p g : Int) (F : List HProp) (hok : s.ok) (hcl : s.closed.length ≤ 1048576) (hgen : ∀ x ∈ s.gens, 0 ≤ x ∧ x ≤ 1000000000) (hw : holds w (slotsAt v s :: F)) :
    Calls Tryz.prog 243 #[v, .int .i64 p, .int .i64 g] w fun e w' => e = .returned (.bool (s.right p g)) ∧ holds w' (slotsAt v (if s.right p g then s.closeAt p else s) :: F) := by
  cases hr : s.right p g with
  | false =>
    go_enter Tryz.func243, Tryz.ntmps243
    go_wp2_with (go_at_call 252; refine (slots_Right _ _ s _ _ F hok hw).mono ?_; rw [hr]; rintro e w1 ⟨rfl, h1⟩)
    go_ret
    exact ⟨rfl, h1⟩
  | true =>
    have hb : 0 ≤ p ∧ p < s.gens.length := by
      unfold SlotsM.right at hr
      cases hg : alGet s.opn p with
      | none => simp [hg] at hr
      | some x => exact hok.opn p x hg
    obtain ⟨n, rfl⟩ := Int.eq_ofNat_of_zero_le hb.1
    have hn : n < s.gens.length := by omega
    obtain ⟨gl, gu⟩ := hgen s.gens[n] (List.getElem_mem hn)
    have hsz := hok.size
    have HR := Lib.hid hr
    clear hr hgen hb
    go_enter Tryz.func243, Tryz.ntmps243
    go_wp2_with fail
    refine (slots_Right _ _ s _ _ F hok hw).mono ?_
    rw [HR.out]
    rintro e w1 ⟨rfl, h1⟩
    obtain ⟨b, bm, vg, vc, rfl, h⟩ := open_slots h1
    have c1 := cellAt h.get_blk 1
    simp at c1
    go_wp2_with (first
      | (at_delete; refine wpList_delete_sl rfl rfl _ _ _ rfl Tryz.underlying265 Tryz.underlying3 rfl _ rfl (h.pick 3) ?_; clear c1; intro w2 h2; have c0 := cellAt (h2.pick 1).get_blk 0; simp at c0; obtain ⟨gb, cap, rfl, hc1, hc2, hcell, hfz⟩ := (h2.pick 2).intAt n hn; unfold maxLen at hc2)
      | (refine wpList_setInt rfl rfl _ _ rfl rfl rfl (h2.pick 2) hn ?_; clear c0 hcell hfz; intro w3 h3; have c2 := cellAt (h3.pick 2).get_blk 2; simp at c2)
      | (at_builtin; (refine wpList_appendInt (y := n) rfl _ _ rfl rfl ((h3.pick 3).alloc _).tail rfl (by simp) (by omega) ?_); clear c2; intro v4 w4 h4)
      | (refine wpList_store1_sl rfl rfl _ _ _ rfl v4 rfl rfl (by kernel_rfl) ?_ ?_ (h4.pick 3) (by simp) ?_; rotate_left 2; intro w5 h5))
    · go_ret
      have he : s.closeAt n = { s with gens := s.gens.set n (s.gens[n] + 1), opn := alDel s.opn n, closed := s.closed ++ [(n : Int)] } := by simp [SlotsM.closeAt, hn]
      rw [he]
      exact ⟨rfl, shut_slots (h5.order [0, 2, 1, 3])⟩
    · rcases ownInts_form h4 with ⟨_, _, rfl⟩; rfl
    · rcases ownInts_form h4 with ⟨_, _, rfl⟩; rfl

end Go.Proofs.YtfiggkbclldccaaGreat
