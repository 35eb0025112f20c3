/- Contracts of package slots. -/
import Derived.Test.YtfiggkbclldccaaGreatSepD
import Derived.Test.YtfiggkbclldccaaGreatRows
import Derived.BigQuiet
import Derived.Lib.Hide
import Derived.Deep.QuietTactic
namespace Go.Proofs.YtfiggkbclldccaaGreat
open Go Go.RowKit Go.MapKept
set_option maxRecDepth 100000

structure SlotsM where
  gens : List Int
  opn : List (Int × Bool)
  closed : List Int
  fresh : Int

def slotsAt (v : Value) (s : SlotsM) : HProp := fun f => ∃ b bm vg vc, v = .pointer (some ⟨b, 0, none⟩) ∧
  sep [blk b (.cells #[vg, .map (some bm), vc, .int .i64 s.fresh] 267 (0, 0)), ownInts vg s.gens, ownInts vc s.closed, imap .bool bm s.opn] f

theorem open_slots {w : World} {l : List HProp} {v : Value} {s : SlotsM} (h : holds w (slotsAt v s :: l)) : ∃ b bm vg vc, v = .pointer (some ⟨b, 0, none⟩) ∧
    holds w (blk b (.cells #[vg, .map (some bm), vc, .int .i64 s.fresh] 267 (0, 0)) :: ownInts vg s.gens :: ownInts vc s.closed :: imap .bool bm s.opn :: l) := by
  obtain ⟨b, h⟩ := h.open_ex
  obtain ⟨bm, h⟩ := h.open_ex
  obtain ⟨vg, h⟩ := h.open_ex
  obtain ⟨vc, h⟩ := h.open_ex
  obtain ⟨h1, h⟩ := h.open_pure
  exact ⟨b, bm, vg, vc, h1, holds_sep.1 h⟩
theorem shut_slots {w : World} {l : List HProp} {b bm : Nat} {vg vc : Value} {s : SlotsM}
    (h : holds w (blk b (.cells #[vg, .map (some bm), vc, .int .i64 s.fresh] 267 (0, 0)) :: ownInts vg s.gens :: ownInts vc s.closed :: imap .bool bm s.opn :: l)) :
    holds w (slotsAt (.pointer (some ⟨b, 0, none⟩)) s :: l) :=
  (holds_sep (l := [_, _, _, _]).2 h).mono fun _ hf => ⟨b, bm, vg, vc, rfl, hf⟩


/-- What is open is a place; the fresh ones are places; the generations are ints. -/
structure SlotsM.ok (s : SlotsM) : Prop where
  opn : ∀ p b, alGet s.opn p = some b → 0 ≤ p ∧ p < s.gens.length
  size : s.gens.length ≤ 1048576
  fresh : 0 ≤ s.fresh ∧ s.fresh ≤ s.gens.length
  closed : ∀ p ∈ s.closed, 0 ≤ p ∧ p < s.gens.length
  nodup : (alKeys s.opn).Nodup

def SlotsM.right (s : SlotsM) (p g : Int) : Bool := (alGet s.opn p).getD false && s.gens.getD p.toNat 0 == g

theorem slots_Right (w : World) (v : Value) (s : SlotsM) (p g : Int) (F : List HProp) (hok : s.ok) (hw : holds w (slotsAt v s :: F)) :
    Calls Tryz.prog 252 #[v, .int .i64 p, .int .i64 g] w fun e w' => e = .returned (.bool (s.right p g)) ∧ holds w' (slotsAt v s :: F) := by
  obtain ⟨b, bm, vg, vc, rfl, h⟩ := open_slots hw
  have c1 := cellAt h.get_blk 1
  have c0 := cellAt h.get_blk 0
  have hl := run_lookup_sl (P := Tryz.prog) (t := 265) (z := false) Tryz.underlying265 Tryz.underlying3 (by kernel_rfl) (h.pick 3) p false
  simp only [Bool.false_eq_true, if_false] at hl
  simp at c1 c0
  by_cases hp : (alGet s.opn p).getD false = true
  · have hb : 0 ≤ p ∧ p < s.gens.length := by
      cases hg : alGet s.opn p with
      | none => simp [hg] at hp
      | some x => exact hok.opn p x hg
    obtain ⟨n, rfl⟩ := Int.eq_ofNat_of_zero_le hb.1
    have hn : n < s.gens.length := by omega
    obtain ⟨gb, cap, rfl, hc1, hc2, hcell, hfz⟩ := (h.pick 1).intAt n hn
    rw [hp] at hl
    have hr : s.right n g = (s.gens[n] == g) := by simp [SlotsM.right, hp, hn]
    rw [hr]
    unfold maxLen at hc2
    clear hb hp hok
    go_enter Tryz.func252, Tryz.ntmps252
    go_wp2
    go_ret
    exact ⟨rfl, hw⟩
  · have hp' : (alGet s.opn p).getD false = false := by simpa using hp
    rw [hp'] at hl
    have hr : s.right p g = false := by simp [SlotsM.right, hp']
    rw [hr]
    go_enter Tryz.func252, Tryz.ntmps252
    go_wp2
    go_ret
    exact ⟨rfl, hw⟩

/-! ### New -/
def SlotsM.new (n : Nat) : SlotsM := ⟨List.replicate n 0, [], [], 0⟩
theorem SlotsM.new_ok (n : Nat) (h : n ≤ 1048576) : (SlotsM.new n).ok := ⟨by simp [SlotsM.new, alGet, alFind], by simpa [SlotsM.new] using h, by simp [SlotsM.new], by simp [SlotsM.new], by simp [SlotsM.new, alKeys]⟩

theorem slots_New (w : World) (n : Int) (F : List HProp) (hn0 : 0 ≤ n) (hn : n ≤ 1048576) (hw : holds w F) :
    Calls Tryz.prog 176 #[.int .i64 n] w fun e w' => ∃ v, e = .returned v ∧ holds w' (slotsAt v (SlotsM.new n.toNat) :: F) := by
  obtain ⟨n, rfl⟩ := Int.eq_ofNat_of_zero_le hn0
  rw [Int.toNat_natCast]
  obtain ⟨i0, hi, hz0, hz1, hz2⟩ := info_parts Tryz.infoInt
  have hm := fun w (hw : holds w F) => run_make_sl (P := Tryz.prog) (t := 28) Tryz.underlying28 hi hz0 hz1 hw .i64 .i64 (x := n) (c := n) (by omega) (by omega) (by rw [hz2]; omega) (by omega)
  have hm1 := (hm w hw).1
  have hmm := @run_makeMap Tryz.prog
  simp only [Int.toNat_natCast, Nat.mul_one] at hm1
  clear hm hi hz0 hz1 hz2
  go_enter Tryz.func176, Tryz.ntmps176
  go_wp2
  go_ret
  have h1 := ((hw.madeInts n (by unfold maxLen; omega)).alloc (.map #[] 0)).mkMap (enc := Value.bool) (m := []) rfl (stamped_empty 0)
  have h2 := h1.alloc (.cells #[.slice (some ⟨w.heap.size, 0, none⟩) n n, .map (some (w.heap.size + 1)), .slice none 0 0, .int .i64 0] 267 (0, 0))
  have h3 := (holds_ownRow_nil h2 3 1).order [1, 3, 0, 2]
  simp only [World.size_alloc] at h3
  exact ⟨_, rfl, shut_slots (s := SlotsM.new n) h3⟩

/-! ### pick -/
def SlotsM.pick (s : SlotsM) : Option (Int × SlotsM) :=
  if s.closed.length > 0 then some (s.closed.getD (s.closed.length - 1) 0, { s with closed := s.closed.take (s.closed.length - 1) })
  else if s.fresh < s.gens.length then some (s.fresh, { s with fresh := s.fresh + 1 })
  else none

theorem slots_pick (w : World) (v : Value) (s : SlotsM) (F : List HProp) (hok : s.ok) (hw : holds w (slotsAt v s :: F)) :
    Calls Tryz.prog 249 #[v] w fun e w' => e = .returned (.tuple #[.int .i64 ((s.pick.map (·.1)).getD 0), .bool s.pick.isSome]) ∧ holds w' (slotsAt v ((s.pick.map (·.2)).getD s) :: F) := by
  obtain ⟨b, bm, vg, vc, rfl, h⟩ := open_slots hw
  have c0 := cellAt h.get_blk 0
  have c2 := cellAt h.get_blk 2
  have c3 := cellAt h.get_blk 3
  have f2 := frozen_of_row w b 2 _ _ h.get_blk
  have f3 := frozen_of_row w b 3 _ _ h.get_blk
  simp at c0 c2 c3
  by_cases hc : 0 < s.closed.length
  · have hx : s.closed.length - 1 < s.closed.length := by omega
    obtain ⟨gb, cap, rfl, hc1, hc2, hcell, hfz⟩ := (h.pick 2).intAt (s.closed.length - 1) hx
    have hp : s.pick = some (s.closed[s.closed.length - 1], { s with closed := s.closed.take (s.closed.length - 1) }) := by unfold SlotsM.pick; rw [if_pos hc]; simp [hx]
    simp only [hp, Option.map_some, Option.getD_some, Option.isSome_some]
    unfold maxLen at hc2
    clear hp hok
    go_enter Tryz.func249, Tryz.ntmps249
    go_wp2
    go_ret2
    refine ⟨rfl, ?_⟩
    have h1 := ((h.setCell 2 (.slice (some ⟨gb, 0, none⟩) (s.closed.length - 1) cap)).order [2, 0, 1, 3])
    have h2 := (holds.shrinkInts h1 (s.closed.length - 1) (by omega) hc).order [1, 2, 0, 3]
    exact shut_slots h2
  · by_cases hf : s.fresh < s.gens.length
    · have hp : s.pick = some (s.fresh, { s with fresh := s.fresh + 1 }) := by unfold SlotsM.pick; rw [if_neg (by omega), if_pos hf]
      simp only [hp, Option.map_some, Option.getD_some, Option.isSome_some]
      have hz : s.closed.length = 0 := by omega
      have hfr := hok.fresh
      have hsz := hok.size
      rcases (holds.open_own (h.pick 1)).2 with ⟨rfl, hz, _⟩ | ⟨g, cap, cur, rfl, _⟩
      · omega
      clear hp hok
      rcases (holds.open_own (h.pick 2)).2 with ⟨rfl, _⟩ | ⟨g', cap', cur', rfl, _⟩
      all_goals
        go_enter Tryz.func249, Tryz.ntmps249
        go_wp2
        go_quiet (fail)
        go_wp2
        go_ret2
        refine ⟨rfl, ?_⟩
        exact shut_slots (s := { s with fresh := s.fresh + 1 }) ((h.drewN _).setCell 3 (.int .i64 (s.fresh + 1)))
    · have hp : s.pick = none := by unfold SlotsM.pick; rw [if_neg (by omega), if_neg (by omega)]
      simp only [hp, Option.map_none, Option.getD_none, Option.isSome_none]
      have hz : s.closed.length = 0 := by omega
      have hfr := hok.fresh
      have hsz := hok.size
      clear hp hok
      rcases (holds.open_own (h.pick 1)).2 with ⟨rfl, _⟩ | ⟨g, cap, cur, rfl, _⟩ <;> rcases (holds.open_own (h.pick 2)).2 with ⟨rfl, _⟩ | ⟨g', cap', cur', rfl, _⟩
      all_goals
        go_enter Tryz.func249, Tryz.ntmps249
        go_wp2
        go_quiet (fail)
        go_wp2
        go_ret2
        exact ⟨rfl, (shut_slots h).drewN _⟩

/-! ### Open -/
def SlotsM.opened (s : SlotsM) : SlotsM := match s.pick with
  | some (p, s') => { s' with opn := alSet s'.opn p true }
  | none => s
def SlotsM.told (s : SlotsM) : Int × Int × Bool := match s.pick with
  | some (p, s') => (p, s'.gens.getD p.toNat 0, true)
  | none => (0, 0, false)

theorem SlotsM.pick_ok {s s' : SlotsM} {p : Int} (hok : s.ok) (h : s.pick = some (p, s')) : s'.ok ∧ 0 ≤ p ∧ p < s'.gens.length ∧ s'.gens = s.gens ∧ s'.opn = s.opn := by
  unfold SlotsM.pick at h
  split at h
  · rename_i hc
    simp only [Option.some.injEq, Prod.mk.injEq] at h
    obtain ⟨rfl, rfl⟩ := h
    have hm : s.closed.getD (s.closed.length - 1) 0 ∈ s.closed := by
      rw [List.getD_eq_getElem?_getD, List.getElem?_eq_getElem (by omega)]
      simp
    obtain ⟨h1, h2⟩ := hok.closed _ hm
    exact ⟨⟨hok.opn, hok.size, hok.fresh, fun q hq => hok.closed q (List.mem_of_mem_take hq), hok.nodup⟩, h1, h2, rfl, rfl⟩
  · split at h
    · simp only [Option.some.injEq, Prod.mk.injEq] at h
      obtain ⟨rfl, rfl⟩ := h
      have := hok.fresh
      exact ⟨⟨hok.opn, hok.size, ⟨by simp; omega, by simp; omega⟩, hok.closed, hok.nodup⟩, this.1, by simpa, rfl, rfl⟩
    · cases h

theorem SlotsM.opened_ok {s : SlotsM} (hok : s.ok) : s.opened.ok := by
  unfold SlotsM.opened
  cases hp : s.pick with
  | none => exact hok
  | some q =>
    obtain ⟨p, s'⟩ := q
    obtain ⟨h, h0, h1, h2, h3⟩ := SlotsM.pick_ok hok hp
    refine ⟨fun q b hq => ?_, h.size, h.fresh, h.closed, alKeys_set_nodup _ _ _ h.nodup⟩
    simp only [alGet_set] at hq
    split at hq
    · rename_i e; subst e; exact ⟨h0, h1⟩
    · exact h.opn q b hq

theorem slots_Open (w : World) (v : Value) (s : SlotsM) (F : List HProp) (hok : s.ok) (hw : holds w (slotsAt v s :: F)) :
    Calls Tryz.prog 184 #[v] w fun e w' => e = .returned (.tuple #[.int .i64 s.told.1, .int .i64 s.told.2.1, .bool s.told.2.2]) ∧ holds w' (slotsAt v s.opened :: F) := by
  obtain ⟨b, bm, vg, vc, rfl, h⟩ := open_slots hw
  clear h
  cases hp : s.pick with
  | none =>
    have h1 : s.told = (0, 0, false) := by simp [SlotsM.told, hp]
    have h2 : s.opened = s := by simp [SlotsM.opened, hp]
    rw [h1, h2]
    go_enter Tryz.func184, Tryz.ntmps184
    go_wp2_with (go_at_call 249; refine (slots_pick _ _ s F hok hw).mono ?_; rw [hp]; rintro e w1 ⟨rfl, h1⟩)
    refine bodyPost_ret (v := .tuple #[.int .i64 0, .int .i64 0, .bool false]) (by simp [results, Tryz.results184, go_sem]) rfl ⟨rfl, ?_⟩
    exact h1
  | some q =>
    obtain ⟨p, s'⟩ := q
    obtain ⟨hok', hb0, hb1, hg, ho⟩ := SlotsM.pick_ok hok hp
    have h1 : s.told = (p, s'.gens.getD p.toNat 0, true) := by simp [SlotsM.told, hp]
    have h2 : s.opened = { s' with opn := alSet s'.opn p true } := by simp [SlotsM.opened, hp]
    rw [h1, h2]
    have hsz := hok'.size
    obtain ⟨n, rfl⟩ := Int.eq_ofNat_of_zero_le hb0
    have hn : n < s'.gens.length := by omega
    have Hp := Lib.hid hp
    clear hp h1 h2 hg ho hb0 hb1
    go_enter Tryz.func184, Tryz.ntmps184
    go_wp2_with fail
    refine (slots_pick _ _ s F hok hw).mono ?_
    rw [Hp.out]
    rintro e w1 ⟨rfl, h1⟩
    obtain ⟨b', bm', vg', vc', hv, h⟩ := open_slots h1
    cases hv
    simp only [Option.map_some, Option.getD_some] at h
    have c1 := cellAt h.get_blk 1
    simp at c1
    go_wp2_with (at_mapUpdate; refine wpList_mapUpdate_sl rfl rfl _ _ _ _ rfl Tryz.underlying265 Tryz.underlying3 rfl _ true rfl rfl (h.pick 3) ?_; intro w2 h2)
    have h3 := h2.order [1, 2, 3, 0]
    have c0 := cellAt (h2.pick 1).get_blk 0
    simp at c0
    obtain ⟨gb, cap, rfl, hc1, hc2, hcell, hfz⟩ := (h2.pick 2).intAt n hn
    unfold maxLen at hc2
    go_quiet (fail)
    go_wp2
    refine bodyPost_ret (v := .tuple #[.int .i64 n, .int .i64 (s'.gens.getD n 0), .bool true]) (by simp [results, Tryz.results184, go_sem, hn]) rfl ⟨rfl, ?_⟩
    exact (shut_slots (s := { s' with opn := alSet s'.opn n true }) (h2.order [1, 2, 3, 0])).drewN _

end Go.Proofs.YtfiggkbclldccaaGreat
