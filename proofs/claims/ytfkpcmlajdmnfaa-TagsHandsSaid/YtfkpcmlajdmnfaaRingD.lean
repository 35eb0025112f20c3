/- All numbers of a ring, collected. -/
import Derived.Test.YtfkpcmlajdmnfaaRingC
import Derived.RangeFuncNested
namespace Go.Proofs.Ytfkpcmlajdmnfaa
open Go Go.RowKit Go.MapKept Go.Shelf
set_option maxRecDepth 100000
set_option linter.unusedVariables false
attribute [local go_sem] Oper.semAt_some

theorem slices_Clip (w : World) (a : Option Addr) (n c : Nat) (hn : n ≤ c) :
    Calls Try.prog 86 #[.slice a n c] w fun e w' => e = .returned (.slice a n n) ∧ w' = w := by
  go_enter Try.func86, Try.ntmps86
  go_wp2_with fail
  go_ret
  exact ⟨rfl, rfl⟩

theorem holds.ofRow {w w' : World} {F : List HProp} {v : Value} {n : Nat} {l : List Int} (hw : holds w F) (hb : Below w.heap.size w w') (h : w'.ownsRow w.heap.size 3 1 v n (l.map (Value.int .i64))) (hn : n = l.length) :
    holds w' (ownInts v l :: F) := by
  subst hn
  rcases h with ⟨h0, ⟨rfl, h1⟩ | ⟨g, cap, cur, rfl, hg, hgb, h2, h3, h4, h5⟩⟩
  · have hl : l = [] := List.eq_nil_of_length_eq_zero h1
    subst hl
    exact holds_ownRow_nil (hw.below hb) _ _
  · have := (hw.new hb hg hgb).mkRow (n := l.length) h2 h3 h4
    rw [h5] at this
    exact this

theorem holds.clipInts {w : World} {F : List HProp} {a : Option Addr} {n c : Nat} {l : List Int} (h : holds w (roInts (.slice a n c) l :: F)) : holds w (roInts (.slice a n n) l :: F) := by
  refine h.mono fun f ⟨hl, a', cap, e, hc, hx⟩ => ?_
  cases e
  exact ⟨hl, a, l.length, rfl, Nat.le_refl _, hx⟩

set_option maxHeartbeats 2000000 in
theorem ringQ_List (w : World) (p : Option Addr) (zs : List Int) (F : List HProp) (hI : RingIn w.heap.size w (.pointer p) zs) (hF : holds w F) :
    Calls Try.prog 31 #[.pointer p] w fun e W' => ∃ a, e = .returned (.slice a zs.length zs.length) ∧ holds W' (roInts (.slice a zs.length zs.length) zs :: F) := by
  have hzl := hI.len
  refine (callsIn_wide (n := 4)).1 ?_
  have HAll := Lib.hid (fun w => ring_all 3 w p)
  have HLen := Lib.hid (callsIn_wide (n := 3) |>.2 (ringQ_Len _ w _ zs hI))
  have HClip := Lib.hid (fun w a n c h => callsIn_wide (n := 3) |>.2 (slices_Clip w a n c h))
  obtain ⟨i0, hi, hz0, hz1, hz2⟩ := info_parts Try.infoInt
  have hm := fun w (hw : holds w F) => run_make_sl (P := Try.prog) (t := 30) Try.underlying30 hi hz0 hz1 hw .i64 .i64 (x := 0) (c := zs.length) (by omega) (by omega) (by rw [hz2]; omega) (by omega)
  have hm1 := (hm w hF).1
  simp only [Int.toNat_natCast, Nat.mul_one] at hm1
  clear hm
  refine callsIn_of_wp_marks Try.func31 rfl trivial ?_ rfl
  simp only [Try.ntmps31, List.size_toArray, List.length_cons, List.length_nil, Nat.reduceAdd, Nat.reduceSub, Array.replicate_succ, Array.replicate_zero, List.push_toArray, List.append_toArray, List.nil_append, List.cons_append]
  gi_wp2_with (refine ⟨trivial, ?_⟩; first
    | (gi_at_call 28; refine HLen.out.mono ?_; rintro e w' ⟨rfl, rfl⟩)
    | (gi_at_call 85; refine (HAll.out _).mono ?_; rintro e w' ⟨rfl, rfl⟩))
  have r0 : (w'.alloc (.cells (madeCells #[.int .i64 0] zs.length) 3)).ownsRow w'.heap.size 3 1 (.slice (some ⟨w'.heap.size, 0, none⟩) 0 zs.length) 0 [] :=
    ⟨by simp, .inr ⟨w'.heap.size, zs.length, madeCells #[.int .i64 0] zs.length, rfl, Nat.le_refl _, World.alloc_heap_new w' _, Nat.zero_le _, by unfold maxLen; omega, by simp [size_madeCells], by simp⟩⟩
  have bO := Boxed.new (w'.alloc (.cells (madeCells #[.int .i64 0] zs.length) 3)) 30 (.slice (some ⟨w'.heap.size, 0, none⟩) 0 zs.length)
  have bN := Boxed.new ((w'.alloc (.cells (madeCells #[.int .i64 0] zs.length) 3)).alloc (.cells #[.slice (some ⟨w'.heap.size, 0, none⟩) 0 zs.length] 30)) 28 (.pointer p)
  simp only [World.size_alloc] at bO bN
  have hB0 : Below w'.heap.size w' (((w'.alloc (.cells (madeCells #[.int .i64 0] zs.length) 3)).alloc (.cells #[.slice (some ⟨w'.heap.size, 0, none⟩) 0 zs.length] 30)).alloc (.cells #[.pointer p] 28)) := (((Below.refl _ w').alloc (Nat.le_refl _) _).alloc (by simp) _).alloc (by simp; omega) _
  refine wpIn_rangeFunc_ownG rfl (by omega) (gf := 102) (lb := #[.pointer (some ⟨w'.heap.size + 1 + 1, 0, none⟩)]) rfl trivial (enters_of Try.func102 (by kernel_rfl) rfl)
    (ring_stops 3 (by omega) (w'.heap.size + 1 + 1) w'.heap.size (.pointer p) zs _ (by simp) (by simp; omega) bN.cell (hI.below hB0)) RingKp.trans (ringKp_b (by simp; omega) (by simp)) (Below.refl _ _) (fun _ => rfl)
    (fun pre W => (∃ v, Boxed W (w'.heap.size + 1) 30 v ∧ W.ownsRow w'.heap.size 3 1 v pre.length (pre.map fun q => Value.int .i64 q.2) ∧ True) ∧ (Below w'.heap.size w' W ∧ Boxed W (w'.heap.size + 1 + 1) 28 (.pointer p)))
    (fun _ _ _ => False)
    (OwnFrom.and (Own.from (holdsRow_own w'.heap.size (w'.heap.size + 1) 30 3 1 (fun (pre : List (Nat × Int)) => pre.length) (fun pre => pre.map fun q => Value.int .i64 q.2) (fun pre v => True)) _) (OwnFrom.and (ownFrom_below (Nat.le_refl _) (by simp; omega)) (Own.from (boxed_own _ _ (fun _ => .pointer p)) _)))
    (fun _ _ _ _ _ hs _ _ => hs)
    ⟨⟨_, bO.alloc _, (r0.alloc _).alloc _, trivial⟩, hB0, bN⟩
    (fun q => { tmps := #[.pointer p, undef, .slice none 0 0, .pointer (some ⟨w'.heap.size + 1, 0, none⟩), undef, .int .i64 q.2, .pointer p, .int .i64 (zs.length : Nat), .slice (some ⟨w'.heap.size, 0, none⟩) 0 zs.length, .pointer p, .func (.func 102) #[] #[.pointer (some ⟨w'.heap.size + 1 + 1, 0, none⟩)], .int .i64 (q.1 : Int), .int .i64 q.2, undef, undef, undef, undef, undef, undef], defers := [] }) ?assign ?body ?done ?stop
  case assign =>
    intro l q W K hK
    gi_wp2
    exact hK
  case body =>
    rintro l pre q W ⟨⟨v, hv, hrow, _⟩, hB, hbx⟩ hlt
    have hc := hv.cell
    have hsz := hB.size
    gi_wp2_with (gi_at_builtin; refine wpListIn_append_own _ rfl _ _ 30 rfl w'.heap.size 3 i0 (.int .i64 0) 1 8 Try.underlying30 hi hz0 hz1 hz2 rfl (by decide) _ _ _ rfl (hrow.alloc _) ⟨W.heap.size, 0, none⟩ 1 1 [.int .i64 q.2] rfl rfl (cell_one_new _ _ _) (by simp [Value.oneCell']) (by unfold maxLen; omega) (by omega) (by simp; omega) ?_; intro v' w1 hown' hgrow _; obtain ⟨g', cap', rfl⟩ := ownsRow_succ hown'; obtain ⟨hv1, hv2, hr2, hk2, hb2⟩ := hv.appended (by decide) hrow hB.size (by omega) hown' hgrow; have hc1 := hv1.cell; have hf1 := hv1.frozen)
    have hbx1 : Boxed w1 (w'.heap.size + 1 + 1) 28 (.pointer p) := (hbx.alloc _).kept hgrow (hbx.not_row (by decide) hrow)
    have hbx2 := hbx1.other (B' := w'.heap.size + 1) (by omega) (.slice (some ⟨g', 0, none⟩) (pre.length + 1) cap')
    exact ⟨hk2.from _, ⟨hb2, hbx2.cell.trans hbx.cell.symm⟩, ⟨_, hv2, by simpa using hr2, trivial⟩, hB.trans hb2, hbx2⟩
  case done =>
    rintro D ys W hD rfl ⟨⟨v, hv, hrow, _⟩, hB, hbx⟩ hK
    have hc := hv.cell
    rw [upto_length] at hrow
    have hv' : ∃ a c, v = .slice a zs.length c ∧ zs.length ≤ c := by
      rcases hrow.2 with ⟨rfl, h0⟩ | ⟨g, cap, _, rfl, _, _, h3, _⟩
      · exact ⟨none, 0, by rw [h0], by omega⟩
      · exact ⟨_, cap, rfl, h3⟩
    obtain ⟨a, c, rfl, hac⟩ := hv'
    gi_wp2_with (refine ⟨trivial, ?_⟩; gi_at_call 86; refine (HClip.out _ _ _ _ hac).mono ?_; rintro e w5 ⟨rfl, rfl⟩)
    refine ⟨by simp, .inl ⟨_, _, rfl, run_takeDeferred hK, ?_⟩⟩
    have hrow2 := ownsRow_putObj hrow (.deferred none) hK rfl
    have hbel := hB.trans (belowK_b (w := w') (Nat.le_refl _) w5 D (.deferred (some [])) (.deferred none) (by simp at hD; omega) hK rfl rfl)
    refine ⟨_, results_tmp rfl _ _ _, a, rfl, ?_⟩
    have hrl : (upto (pairAt zs) zs.length).map (fun q => Value.int .i64 q.2) = zs.map (Value.int .i64) := by
      apply List.ext_getElem
      · simp [upto]
      · intro i h1 h2
        have : i < zs.length := by simpa using h2
        simp [upto, pairAt, this]
    rw [hrl] at hrow2
    have hh := (holds.ofRow hF hbel hrow2 rfl).shareInts
    exact hh.clipInts
  case stop =>
    rintro D c pre W _ _ h _
    exact h.elim
end Go.Proofs.Ytfkpcmlajdmnfaa
