import Derived.Test.YtipkgamiejenaaaGreatMg19
import Derived.RangeFuncNested
import Derived.Test.YtipkgamiejenaaaGreatMg8
import Derived.Test.YtipkgamiejenaaaGreatBase
import Derived.Test.YtipkgamiejenaaaGreatMg1
import Derived.Test.YtipkgamiejenaaaGreatSepD

import Derived.Test.YtipkgamiejenaaaGreatMg9
import Derived.Test.YtipkgamiejenaaaGreatMg18
import Derived.Test.YtipkgamiejenaaaGreatMg11
/- All numbers of a ring, collected. -/
namespace Go.Proofs.YtipkgamiejenaaaGreat
open Go Go.RowKit Go.MapKept Go.Shelf
set_option maxRecDepth 100000
set_option linter.unusedVariables false
attribute [local go_sem] Oper.semAt_some

theorem slices_Clip (w : World) (a : Option Addr) (n c : Nat) (hn : n ≤ c) :
    Calls Tryz.prog 222 #[.slice a n c] w fun e w' => e = .returned (.slice a n n) ∧ w' = w := by
  go_enter Tryz.func222, Tryz.ntmps222
  go_wp2_with fail
  go_ret
  exact ⟨rfl, rfl⟩

theorem holds.ofRow {w w' : World} {F : List HProp} {v : Value} {n : Nat} {l : List Int} (hw : holds w F) (hb : Below w.heap.size w w') (h : w'.ownsRow w.heap.size 3 1 v n (l.map (Value.int .i64))) (hn : n = l.length) :
    holds w' (ownInts v l :: F) := by
  subst hn
  rcases h with ⟨h0, ⟨rfl, h1⟩ | ⟨g, cap, cur, rfl, hg, hgb, h2, h3, h4, h5⟩⟩
  · have hl : l = [] := List.eq_nil_of_length_eq_zero h1
    subst hl
    exact holds_ownRow_nil (hw.below hb) _ _
  · have := (hw.new hb hg hgb).mkRow (n := l.length) h2 h3 h4
    rw [h5] at this
    exact this

theorem holds.clipInts {w : World} {F : List HProp} {a : Option Addr} {n c : Nat} {l : List Int} (h : holds w (roInts (.slice a n c) l :: F)) : holds w (roInts (.slice a n n) l :: F) := by
  refine h.mono fun f ⟨hl, a', cap, e, hc, hx⟩ => ?_
  cases e
  exact ⟨hl, a, l.length, rfl, Nat.le_refl _, hx⟩

set_option maxHeartbeats 2000000 in
theorem ringQ_List (w : World) (p : Option Addr) (zs : List Int) (F : List HProp) (hI : RingIn w.heap.size w (.pointer p) zs) (hF : holds w F) :
    Calls Tryz.prog 182 #[.pointer p] w fun e W' => ∃ a, e = .returned (.slice a zs.length zs.length) ∧ holds W' (roInts (.slice a zs.length zs.length) zs :: F) := by
  have hzl := hI.len
  refine (callsIn_wide (n := 4)).1 ?_
  have HAll := Lib.hid (fun w => ring_all 3 w p)
  have HLen := Lib.hid (callsIn_wide (n := 3) |>.2 (ringQ_Len _ w _ zs hI))
  have HClip := Lib.hid (fun w a n c h => callsIn_wide (n := 3) |>.2 (slices_Clip w a n c h))
  obtain ⟨i0, hi, hz0, hz1, hz2⟩ := info_parts Tryz.infoInt
  have hm := fun w (hw : holds w F) => run_make_sl (P := Tryz.prog) (t := 31) Tryz.underlying31 hi hz0 hz1 hw .i64 .i64 (x := 0) (c := zs.length) (by omega) (by omega) (by rw [hz2]; omega) (by omega)
  have hm1 := (hm w hF).1
  simp only [Int.toNat_natCast, Nat.mul_one] at hm1
  clear hm
  refine callsIn_of_wp_marks Tryz.func182 rfl trivial ?_ rfl
  simp only [Tryz.ntmps182, List.size_toArray, List.length_cons, List.length_nil, Nat.reduceAdd, Nat.reduceSub, Array.replicate_succ, Array.replicate_zero, List.push_toArray, List.append_toArray, List.nil_append, List.cons_append]
  gi_wp2_with (refine ⟨trivial, ?_⟩; first
    | (gi_at_call 220; refine HLen.out.mono ?_; rintro e w' ⟨rfl, rfl⟩)
    | (gi_at_call 221; refine (HAll.out _).mono ?_; rintro e w' ⟨rfl, rfl⟩))
  have r0 : (w'.alloc (.cells (madeCells #[.int .i64 0] zs.length) 3)).ownsRow w'.heap.size 3 1 (.slice (some ⟨w'.heap.size, 0, none⟩) 0 zs.length) 0 [] :=
    ⟨by simp, .inr ⟨w'.heap.size, zs.length, madeCells #[.int .i64 0] zs.length, rfl, Nat.le_refl _, World.alloc_heap_new w' _, Nat.zero_le _, by unfold maxLen; omega, by simp [size_madeCells], by simp⟩⟩
  have bO := Boxed.new (w'.alloc (.cells (madeCells #[.int .i64 0] zs.length) 3)) 31 (.slice (some ⟨w'.heap.size, 0, none⟩) 0 zs.length)
  have bN := Boxed.new ((w'.alloc (.cells (madeCells #[.int .i64 0] zs.length) 3)).alloc (.cells #[.slice (some ⟨w'.heap.size, 0, none⟩) 0 zs.length] 31)) 240 (.pointer p)
  simp only [World.size_alloc] at bO bN
  have hB0 : Below w'.heap.size w' (((w'.alloc (.cells (madeCells #[.int .i64 0] zs.length) 3)).alloc (.cells #[.slice (some ⟨w'.heap.size, 0, none⟩) 0 zs.length] 31)).alloc (.cells #[.pointer p] 240)) := (((Below.refl _ w').alloc (Nat.le_refl _) _).alloc (by simp) _).alloc (by simp; omega) _
  refine wpIn_rangeFunc_ownG rfl (by omega) (gf := 231) (lb := #[.pointer (some ⟨w'.heap.size + 1 + 1, 0, none⟩)]) rfl trivial (enters_of Tryz.func231 (by kernel_rfl) rfl)
    (ring_stops 3 (by omega) (w'.heap.size + 1 + 1) w'.heap.size (.pointer p) zs _ (by simp) (by simp; omega) bN.cell (hI.below hB0)) RingKp.trans (ringKp_b (by simp; omega) (by simp)) (Below.refl _ _) (fun _ => rfl)
    (fun pre W => (∃ v, Boxed W (w'.heap.size + 1) 31 v ∧ W.ownsRow w'.heap.size 3 1 v pre.length (pre.map fun q => Value.int .i64 q.2) ∧ True) ∧ (Below w'.heap.size w' W ∧ Boxed W (w'.heap.size + 1 + 1) 240 (.pointer p)))
    (fun _ _ _ => False)
    (OwnFrom.and (Own.from (holdsRow_own w'.heap.size (w'.heap.size + 1) 31 3 1 (fun (pre : List (Nat × Int)) => pre.length) (fun pre => pre.map fun q => Value.int .i64 q.2) (fun pre v => True)) _) (OwnFrom.and (ownFrom_below (Nat.le_refl _) (by simp; omega)) (Own.from (boxed_own _ _ (fun _ => .pointer p)) _)))
    (fun _ _ _ _ _ hs _ _ => hs)
    ⟨⟨_, bO.alloc _, (r0.alloc _).alloc _, trivial⟩, hB0, bN⟩
    (fun q => { tmps := #[.pointer p, undef, .slice none 0 0, .pointer (some ⟨w'.heap.size + 1, 0, none⟩), undef, .int .i64 q.2, .pointer p, .int .i64 (zs.length : Nat), .slice (some ⟨w'.heap.size, 0, none⟩) 0 zs.length, .pointer p, .func (.func 231) #[] #[.pointer (some ⟨w'.heap.size + 1 + 1, 0, none⟩)], .int .i64 (q.1 : Int), .int .i64 q.2, undef, undef, undef, undef, undef, undef], defers := [] }) ?assign ?body ?done ?stop
  case assign =>
    intro l q W K hK
    gi_wp2
    exact hK
  case body =>
    rintro l pre q W ⟨⟨v, hv, hrow, _⟩, hB, hbx⟩ hlt
    have hc := hv.cell
    have hsz := hB.size
    gi_wp2_with (gi_at_builtin; refine wpListIn_append_own _ rfl _ _ 31 rfl w'.heap.size 3 i0 (.int .i64 0) 1 8 Tryz.underlying31 hi hz0 hz1 hz2 rfl (by decide) _ _ _ rfl (hrow.alloc _) ⟨W.heap.size, 0, none⟩ 1 1 [.int .i64 q.2] rfl rfl (cell_one_new _ _ _) (by simp [Value.oneCell']) (by unfold maxLen; omega) (by omega) (by simp; omega) ?_; intro v' w1 hown' hgrow _; obtain ⟨g', cap', rfl⟩ := ownsRow_succ hown'; obtain ⟨hv1, hv2, hr2, hk2, hb2⟩ := hv.appended (by decide) hrow hB.size (by omega) hown' hgrow; have hc1 := hv1.cell; have hf1 := hv1.frozen)
    have hbx1 : Boxed w1 (w'.heap.size + 1 + 1) 240 (.pointer p) := (hbx.alloc _).kept hgrow (hbx.not_row (by decide) hrow)
    have hbx2 := hbx1.other (B' := w'.heap.size + 1) (by omega) (.slice (some ⟨g', 0, none⟩) (pre.length + 1) cap')
    exact ⟨hk2.from _, ⟨hb2, hbx2.cell.trans hbx.cell.symm⟩, ⟨_, hv2, by simpa using hr2, trivial⟩, hB.trans hb2, hbx2⟩
  case done =>
    rintro D ys W hD rfl ⟨⟨v, hv, hrow, _⟩, hB, hbx⟩ hK
    have hc := hv.cell
    rw [upto_length] at hrow
    have hv' : ∃ a c, v = .slice a zs.length c ∧ zs.length ≤ c := by
      rcases hrow.2 with ⟨rfl, h0⟩ | ⟨g, cap, _, rfl, _, _, h3, _⟩
      · exact ⟨none, 0, by rw [h0], by omega⟩
      · exact ⟨_, cap, rfl, h3⟩
    obtain ⟨a, c, rfl, hac⟩ := hv'
    gi_wp2_with (refine ⟨trivial, ?_⟩; gi_at_call 222; refine (HClip.out _ _ _ _ hac).mono ?_; rintro e w5 ⟨rfl, rfl⟩)
    refine ⟨by simp, .inl ⟨_, _, rfl, run_takeDeferred hK, ?_⟩⟩
    have hrow2 := ownsRow_putObj hrow (.deferred none) hK rfl
    have hbel := hB.trans (belowK_b (w := w') (Nat.le_refl _) w5 D (.deferred (some [])) (.deferred none) (by simp at hD; omega) hK rfl rfl)
    refine ⟨_, results_tmp rfl _ _ _, a, rfl, ?_⟩
    have hrl : (upto (pairAt zs) zs.length).map (fun q => Value.int .i64 q.2) = zs.map (Value.int .i64) := by
      apply List.ext_getElem
      · simp [upto]
      · intro i h1 h2
        have : i < zs.length := by simpa using h2
        simp [upto, pairAt, this]
    rw [hrl] at hrow2
    have hh := (holds.ofRow hF hbel hrow2 rfl).shareInts
    exact hh.clipInts
  case stop =>
    rintro D c pre W _ _ h _
    exact h.elim
end Go.Proofs.YtipkgamiejenaaaGreat

/- Contracts of the reference of chapter 4. -/
namespace Go.Proofs.YtipkgamiejenaaaGreat
open Go Go.RowKit Go.MapKept
set_option maxRecDepth 100000
set_option linter.unusedVariables false



end Go.Proofs.YtipkgamiejenaaaGreat

/- Slices of structs of two ints, for reading. -/
namespace Go.Proofs.YtipkgamiejenaaaGreat
open Go Go.RowKit Go.MapKept
set_option maxRecDepth 100000

def pairCells (p : Int × Int) : List Value := [.int .i64 p.1, .int .i64 p.2]
def roPairs (v : Value) (l : List (Int × Int)) : HProp := roRow 2 v l.length (l.flatMap pairCells)
def pairWf (p : Int × Int) : Prop := (Lit.int .i64 p.1).wf = true ∧ (Lit.int .i64 p.2).wf = true
theorem flat2 : ∀ (l : List (Int × Int)) (i : Nat) (hi : i < l.length), (l.flatMap pairCells)[i * 2]? = some (.int .i64 l[i].1) ∧ (l.flatMap pairCells)[i * 2 + 1]? = some (.int .i64 l[i].2)
  | p :: l, 0, _ => by simp [pairCells]
  | p :: l, i + 1, hi => by
    have ih := flat2 l i (by simpa using hi)
    have e : ∀ j, (pairCells p ++ l.flatMap pairCells)[(i + 1) * 2 + j]? = (l.flatMap pairCells)[i * 2 + j]? := fun j => by
      rw [List.getElem?_append_right (by simp [pairCells]; omega)]
      congr 1
      simp [pairCells]; omega
    have e0 := e 0
    simp only [Nat.add_zero] at e0
    simp only [List.flatMap_cons, List.getElem_cons_succ, e0, e 1]
    exact ih
  | [], i, hi => by simp at hi
theorem holds.pairAt {w : World} {F : List HProp} {v : Value} {l : List (Int × Int)} (h : holds w (roPairs v l :: F)) (h0 : 0 < l.length) :
    ∃ g off cap, v = .slice (some ⟨g, off, none⟩) l.length cap ∧ l.length ≤ cap ∧ ∀ (i : Nat) (hi : i < l.length), w.cell? ⟨g, off + i * 2, none⟩ = some (.int .i64 l[i].1) ∧ w.cell? ⟨g, off + i * 2 + 1, none⟩ = some (.int .i64 l[i].2) := by
  obtain ⟨b, off, cap, h1, h2, h3⟩ := (holds.roReads h).cells (by omega)
  refine ⟨b, off, cap, h1, h2, fun i hi => ?_⟩
  obtain ⟨f0, f1⟩ := flat2 l i hi
  rw [h3 (i * 2) (by omega), Nat.add_assoc, h3 (i * 2 + 1) (by omega)]
  exact ⟨f0, f1⟩
end Go.Proofs.YtipkgamiejenaaaGreat

/- The example of chapter 4. -/
namespace Go.Proofs.YtipkgamiejenaaaGreat
open Go Go.RowKit Go.MapKept
set_option maxRecDepth 100000
set_option linter.unusedVariables false

end Go.Proofs.YtipkgamiejenaaaGreat

/- Contracts of package waits. -/
namespace Go.Proofs.YtipkgamiejenaaaGreat
open Go Go.RowKit Go.MapKept
set_option maxRecDepth 100000
set_option linter.unusedVariables false
attribute [local go_sem] exactUpon looseUpon

theorem nodup_le : ∀ (n : Nat) (l : List Int), l.Nodup → (∀ x ∈ l, 0 ≤ x ∧ x < n) → l.length ≤ n
  | 0, l, _, h => by
    cases l with
    | nil => simp
    | cons x l => have := h x List.mem_cons_self; omega
  | n + 1, l, hn, h => by
    by_cases hm : (n : Int) ∈ l
    · have h1 := nodup_le n (l.erase n) (hn.erase _) fun x hx => by
        have hx' := (hn.mem_erase_iff).1 hx
        have := h x hx'.2
        have := hx'.1
        omega
      rw [List.length_erase_of_mem hm] at h1
      omega
    · have := nodup_le n l hn fun x hx => by
        have h2 := h x hx
        have : x ≠ n := fun e => hm (e ▸ hx)
        omega
      omega

/-- Who waits; each one's turn. -/
structure WaitsOk (n : Nat) (tn : List Int) (fs c : Int) (l : List Int) : Prop where
  len : tn.length = n
  big : n ≤ 1048576
  nodup : l.Nodup
  rng : ∀ x ∈ l, 0 ≤ x ∧ x < n
  fs0 : 0 ≤ fs
  cnt : c = fs + l.length
  at_ : ∀ j (hj : j < l.length), tn[(l[j]).toNat]? = some (fs + j)
  no : ∀ i : Nat, i < n → (i : Int) ∉ l → tn[i]? = some (-1)

def waitsAt (v : Value) (n : Nat) (l : List Int) (c : Int) : HProp := fun f => ∃ b rb vt tn fs, (v = .pointer (some ⟨b, 0, none⟩) ∧ WaitsOk n tn fs c l) ∧
  sep [blk b (.cells #[.pointer (some ⟨rb, 0, none⟩), vt, .int .i64 c, .int .i64 fs] 243 (0, 0)), ringAt (.pointer (some ⟨rb, 0, none⟩)) n l, ownInts vt tn] f

theorem open_waits {w : World} {F : List HProp} {v : Value} {n : Nat} {l : List Int} {c : Int} (h : holds w (waitsAt v n l c :: F)) : ∃ b rb a cp tn fs, v = .pointer (some ⟨b, 0, none⟩) ∧ WaitsOk n tn fs c l ∧
    holds w (blk b (.cells #[.pointer (some ⟨rb, 0, none⟩), .slice a n cp, .int .i64 c, .int .i64 fs] 243 (0, 0)) :: ringAt (.pointer (some ⟨rb, 0, none⟩)) n l :: ownInts (.slice a n cp) tn :: F) := by
  obtain ⟨b, h⟩ := h.open_ex
  obtain ⟨rb, h⟩ := h.open_ex
  obtain ⟨vt, h⟩ := h.open_ex
  obtain ⟨tn, h⟩ := h.open_ex
  obtain ⟨fs, h⟩ := h.open_ex
  obtain ⟨⟨h1, h2⟩, h⟩ := h.open_pure
  have h := holds_sep.1 h
  obtain ⟨a, cp, rfl⟩ := ownInts_form (h.pick 2)
  rw [h2.len] at h
  exact ⟨b, rb, a, cp, tn, fs, h1, h2, h⟩
theorem shut_waits {w : World} {F : List HProp} {b rb n : Nat} {vt : Value} {tn l : List Int} {fs c : Int} (hm : WaitsOk n tn fs c l)
    (h : holds w (blk b (.cells #[.pointer (some ⟨rb, 0, none⟩), vt, .int .i64 c, .int .i64 fs] 243 (0, 0)) :: ringAt (.pointer (some ⟨rb, 0, none⟩)) n l :: ownInts vt tn :: F)) :
    holds w (waitsAt (.pointer (some ⟨b, 0, none⟩)) n l c :: F) :=
  (holds_sep (l := [_, _, _]).2 h).mono fun _ hf => ⟨b, rb, vt, tn, fs, ⟨rfl, hm⟩, hf⟩

theorem waits_is (w : World) (b rb : Nat) (c0 : w.cell? ⟨b, 0, none⟩ = some (.pointer (some ⟨rb, 0, none⟩))) :
    Calls Tryz.prog 171 #[.pointer (some ⟨b, 0, none⟩)] w fun e w' => e = .returned (.bool true) ∧ w' = w := by
  go_enter Tryz.func171, Tryz.ntmps171
  go_wp2
  go_ret
  exact ⟨rfl, rfl⟩

theorem WaitsOk.ahead_in {n : Nat} {tn l : List Int} {fs c : Int} (h : WaitsOk n tn fs c l) {i : Nat} (hi : (i : Int) ∈ l) : ∃ j : Nat, placeOf l i = j ∧ j < l.length ∧ tn[i]? = some (fs + j) := by
  obtain ⟨j, hj, hji⟩ := List.getElem_of_mem hi
  refine ⟨j, placeOf_some hj hji fun k hk e => List.pairwise_iff_getElem.1 h.nodup k j (by omega) hj hk (e.trans hji.symm), hj, ?_⟩
  · have := h.at_ j hj
    rw [hji] at this
    simpa using this
theorem waits_Ahead (w : World) (v : Value) (n : Nat) (l : List Int) (c : Int) (i : Int) (F : List HProp) (hcb : c ≤ 1000000000000) (hw : holds w (waitsAt v n l c :: F)) :
    Calls Tryz.prog 109 #[v, .int .i64 i] w fun e w' => e = .returned (.int .i64 (placeOf l i)) ∧ holds w' (waitsAt v n l c :: F) := by
  obtain ⟨b, rb, a, cp, tn, fs, rfl, hm, h⟩ := open_waits hw
  have c0 := cellAt h.get_blk 0
  have c1 := cellAt h.get_blk 1
  have c3 := cellAt h.get_blk 3
  simp at c0 c1 c3
  have hbig := hm.big
  by_cases h0 : 0 ≤ i ∧ i < n
  · obtain ⟨i, rfl⟩ := Int.eq_ofNat_of_zero_le h0.1
    have hi : i < n := by omega
    have h00 : (0 : Int) ≤ i := by omega
    have h01 : (i : Int) < n := h0.2
    have hlen := hm.len
    obtain ⟨g, cap, hv, _, _, ct, _⟩ := (h.pick 2).intAt i (by omega)
    cases hv
    by_cases hin : (i : Int) ∈ l
    · obtain ⟨j, hp, hjl, ht⟩ := hm.ahead_in hin
      rw [hp]
      have hti : tn[i]'(by omega) = fs + j := by
        have := List.getElem?_eq_getElem (l := tn) (i := i) (by omega)
        rw [this] at ht; injection ht
      rw [hti] at ct
      have hfs := hm.fs0
      have hc := hm.cnt
      have e1 : IntKind.i64.wrap (fs + (j : Int) - fs) = (j : Int) := by rw [show fs + (j : Int) - fs = j by omega]; exact IntWalk.i64_in _ (by omega)
      have hge : ¬ (fs + (j : Int)) < 0 := by omega
      generalize hT : fs + (j : Int) = T at ct e1 hge
      clear hti ht hp hT hc hin hm h
      go_enter Tryz.func109, Tryz.ntmps109
      go_wp2_with fail
      refine (waits_is _ _ _ c0).mono ?_
      rintro e w1 ⟨rfl, rfl⟩
      go_wp2_with fail
      go_quiet (fail)
      go_wp2_with fail
      go_ret
      exact ⟨rfl, hw.drewN _⟩
    · have ht := hm.no i hi hin
      have hp : placeOf l i = -1 := by unfold placeOf; exact if_neg hin
      rw [hp]
      have hti : tn[i]'(by omega) = -1 := by
        have := List.getElem?_eq_getElem (l := tn) (i := i) (by omega)
        rw [this] at ht; injection ht
      rw [hti] at ct
      clear hti ht hp hin hm h
      go_enter Tryz.func109, Tryz.ntmps109
      go_wp2_with fail
      refine (waits_is _ _ _ c0).mono ?_
      rintro e w1 ⟨rfl, rfl⟩
      go_wp2_with fail
      go_ret
      exact ⟨rfl, hw⟩
  · have hp : placeOf l i = -1 := by unfold placeOf; exact if_neg fun hm' => h0 (hm.rng i hm')
    rw [hp]
    clear hp hm h
    by_cases hneg : i < 0
    · go_enter Tryz.func109, Tryz.ntmps109
      go_wp2_with fail
      refine (waits_is _ _ _ c0).mono ?_
      rintro e w1 ⟨rfl, rfl⟩
      go_wp2_with fail
      go_ret
      exact ⟨rfl, hw⟩
    · have h00 : (n : Int) ≤ i := by omega
      go_enter Tryz.func109, Tryz.ntmps109
      go_wp2_with fail
      refine (waits_is _ _ _ c0).mono ?_
      rintro e w1 ⟨rfl, rfl⟩
      go_wp2_with fail
      go_ret
      exact ⟨rfl, hw⟩
end Go.Proofs.YtipkgamiejenaaaGreat

/- What of package waits writes. -/
namespace Go.Proofs.YtipkgamiejenaaaGreat
open Go Go.RowKit Go.MapKept
set_option maxRecDepth 100000
set_option linter.unusedVariables false
attribute [local go_sem] exactUpon looseUpon

/-- What a put tells, and who waits then. -/
def Waits.put (n : Nat) (l : List Int) (i : Int) : Int × List Int :=
  if i < 0 ∨ n ≤ i then (2, l) else if i ∈ l then (19, l) else (0, l ++ [i])

theorem WaitsOk.put {n : Nat} {tn l : List Int} {fs c : Int} (h : WaitsOk n tn fs c l) {i : Nat} (hi : i < n) (hin : (i : Int) ∉ l) : WaitsOk n (tn.set i c) fs (c + 1) (l ++ [(i : Int)]) := by
  have hc := h.cnt
  refine ⟨by rw [List.length_set]; exact h.len, h.big, ?_, fun x hx => ?_, h.fs0, by simp; omega, fun j hj => ?_, fun k hk hkn => ?_⟩
  · rw [List.nodup_append]
    refine ⟨h.nodup, by simp, fun a ha b hb => ?_⟩
    simp at hb; subst hb; exact fun e => hin (e ▸ ha)
  · rcases List.mem_append.1 hx with h1 | h1
    · exact h.rng x h1
    · simp at h1; subst h1; omega
  · by_cases hjl : j < l.length
    · rw [List.getElem_append_left hjl]
      have hne : i ≠ (l[j]).toNat := fun e => hin (by
        have := h.rng _ (List.getElem_mem hjl)
        rw [show (i : Int) = l[j] by omega]; exact List.getElem_mem hjl)
      rw [List.getElem?_set_ne hne]
      exact h.at_ j hjl
    · have : j = l.length := by simp at hj; omega
      subst this
      rw [List.getElem_append_right (Nat.le_refl _)]
      simp only [Nat.sub_self, List.getElem_cons_zero, Int.toNat_natCast]
      rw [List.getElem?_set_self (by rw [h.len]; exact hi), hc]
  · have h1 : (k : Int) ∉ l := fun e => hkn (List.mem_append.2 (.inl e))
    have h2 : k ≠ i := fun e => hkn (List.mem_append.2 (.inr (by subst e; simp)))
    rw [List.getElem?_set_ne (Ne.symm h2)]
    exact h.no k hk h1
theorem WaitsOk.take {n : Nat} {tn l : List Int} {fs c x : Int} (h : WaitsOk n tn fs c (x :: l)) : WaitsOk n (tn.set x.toNat (-1)) (fs + 1) c l := by
  have hc := h.cnt
  have hx := h.rng x List.mem_cons_self
  have hnd := List.nodup_cons.1 h.nodup
  refine ⟨by rw [List.length_set]; exact h.len, h.big, hnd.2, fun y hy => h.rng y (List.mem_cons_of_mem _ hy), by have := h.fs0; omega, by simp at hc; omega, fun j hj => ?_, fun k hk hkn => ?_⟩
  · have hm := List.getElem_mem hj
    have hr := h.rng _ (List.mem_cons_of_mem _ hm)
    have hne : x.toNat ≠ (l[j]).toNat := fun e => hnd.1 (by rw [show x = l[j] by omega]; exact hm)
    rw [List.getElem?_set_ne hne]
    have := h.at_ (j + 1) (by simp; omega)
    simp only [List.getElem_cons_succ] at this
    rw [this]; congr 1; omega
  · by_cases hkx : k = x.toNat
    · rw [hkx, List.getElem?_set_self (by rw [h.len]; omega)]
    · rw [List.getElem?_set_ne (Ne.symm hkx)]
      exact h.no k hk fun hm => by
        rcases List.mem_cons.1 hm with h1 | h1
        · omega
        · exact hkn h1
theorem WaitsOk.room {n : Nat} {tn l : List Int} {fs c : Int} (h : WaitsOk n tn fs c l) {i : Nat} (hi : i < n) (hin : (i : Int) ∉ l) : l.length < n := by
  have := nodup_le n (l ++ [(i : Int)]) (h.put hi hin).nodup (h.put hi hin).rng
  simp at this; omega

theorem waits_Put (w : World) (v : Value) (n : Nat) (l : List Int) (c : Int) (i : Int) (F : List HProp) (hcb : c ≤ 1000000000000) (hw : holds w (waitsAt v n l c :: F)) :
    Calls Tryz.prog 108 #[v, .int .i64 i] w fun e w' => e = .returned (.int .i64 (Waits.put n l i).1) ∧ holds w' (waitsAt v n (Waits.put n l i).2 (if (Waits.put n l i).1 = 0 then c + 1 else c) :: F) := by
  obtain ⟨b, rb, a, cp, tn, fs, rfl, hm, h⟩ := open_waits hw
  have c0 := cellAt h.get_blk 0
  have c1 := cellAt h.get_blk 1
  simp at c0 c1
  have hbig := hm.big
  by_cases h0 : i < 0 ∨ n ≤ i
  · have e : Waits.put n l i = (2, l) := by unfold Waits.put; rw [if_pos h0]
    rw [e]
    dsimp only
    rw [if_neg (by decide)]
    clear e hm h
    by_cases hneg : i < 0
    · clear h0
      go_enter Tryz.func108, Tryz.ntmps108
      go_wp2_with fail
      refine (waits_is _ _ _ c0).mono ?_
      rintro e w1 ⟨rfl, rfl⟩
      go_wp2_with fail
      go_ret
      exact ⟨rfl, hw⟩
    · have h00 : (n : Int) ≤ i := by omega
      clear h0
      go_enter Tryz.func108, Tryz.ntmps108
      go_wp2_with fail
      refine (waits_is _ _ _ c0).mono ?_
      rintro e w1 ⟨rfl, rfl⟩
      go_wp2_with fail
      go_ret
      exact ⟨rfl, hw⟩
  · obtain ⟨i, rfl⟩ := Int.eq_ofNat_of_zero_le (show 0 ≤ i by omega)
    have hi : i < n := by omega
    have h00 : ¬ (i : Int) < 0 := by omega
    have h01 : ¬ (n : Int) ≤ i := by omega
    have h02 : (i : Int) < n := by omega
    have hlen := hm.len
    obtain ⟨g, cap, hv, _, _, ct, _⟩ := (h.pick 2).intAt i (by omega)
    have ha : a = some ⟨g, 0, none⟩ := by injection hv
    subst ha
    clear hv
    by_cases hin : (i : Int) ∈ l
    · have e : Waits.put n l i = (19, l) := by unfold Waits.put; rw [if_neg h0, if_pos hin]
      rw [e]
      dsimp only
      rw [if_neg (by decide)]
      obtain ⟨j, hp, hjl, ht⟩ := hm.ahead_in hin
      have hti : tn[i]'(by omega) = fs + j := by
        have := List.getElem?_eq_getElem (l := tn) (i := i) (by omega)
        rw [this] at ht; injection ht
      rw [hti] at ct
      have hfs := hm.fs0
      have hge : (0 : Int) ≤ fs + j := by omega
      generalize fs + (j : Int) = T at ct hge
      clear e hti ht hp hin hm h h0
      go_enter Tryz.func108, Tryz.ntmps108
      go_wp2_with fail
      refine (waits_is _ _ _ c0).mono ?_
      rintro e w1 ⟨rfl, rfl⟩
      go_wp2_with fail
      go_ret
      exact ⟨rfl, hw⟩
    · have e : Waits.put n l i = (0, l ++ [(i : Int)]) := by unfold Waits.put; rw [if_neg h0, if_neg hin]
      rw [e]
      dsimp only
      rw [if_pos rfl]
      have ht := hm.no i hi hin
      have hti : tn[i]'(by omega) = -1 := by
        have := List.getElem?_eq_getElem (l := tn) (i := i) (by omega)
        rw [this] at ht; injection ht
      rw [hti] at ct
      have hroom := hm.room hi hin
      have hT := hm.put hi hin
      have h1 : holds w (_ :: _ :: _ :: F) := h.sel 3 [1, 0, 2]
      have hfs := hm.fs0
      have hcc := hm.cnt
      have e1 : IntKind.i64.wrap (c + 1) = c + 1 := IntWalk.i64_in _ (by omega)
      clear e hti ht hin hm h h0 hw hcc
      go_enter Tryz.func108, Tryz.ntmps108
      go_wp2_with fail
      refine (waits_is _ _ _ c0).mono ?_
      rintro e w1 ⟨rfl, rfl⟩
      go_wp2_with fail
      refine (ring_Put _ _ _ _ _ _ hroom h1).mono ?_
      rintro e w2 ⟨rfl, h2⟩
      clear ct c0 c1
      have HSE := Lib.hid (fun w (h : holds w (ringAt (.pointer (some ⟨rb, 0, none⟩)) n (l ++ [(i : Int)]) :: blk b (.cells #[.pointer (some ⟨rb, 0, none⟩), .slice (some ⟨g, 0, none⟩) n cp, .int .i64 c, .int .i64 fs] 243 (0, 0)) :: ownInts (.slice (some ⟨g, 0, none⟩) n cp) tn :: F)) => (⟨cellAt (h.pick 1).get_blk 1, cellAt (h.pick 1).get_blk 2⟩ : w.cell? ⟨b, 1, none⟩ = some (.slice (some ⟨g, 0, none⟩) n cp) ∧ w.cell? ⟨b, 2, none⟩ = some (.int .i64 c)))
      go_wp2_with fail
      refine wp_region_loose_tail 10 (fun k => match k with  | _ => none) (ringAt (.pointer (some ⟨rb, 0, none⟩)) n (l ++ [(i : Int)]) :: blk b (.cells #[.pointer (some ⟨rb, 0, none⟩), .slice (some ⟨g, 0, none⟩) n cp, .int .i64 c, .int .i64 fs] 243 (0, 0)) :: ownInts (.slice (some ⟨g, 0, none⟩) n cp) tn :: F) (by kernel_rfl) (by kernel_rfl) h2 ?_
      simp only [List.take_succ_cons, List.take_zero, List.drop_succ_cons, List.drop_zero]
      iterate 10
        refine loose_exact rfl (fun K hK => ?_)
        go_simp
        first
          | (intro w hw
             obtain ⟨c0, c1⟩ := HSE.out _ hw
             go_simp
             refine hK _ ?_
             clear hK K c0 c1 hw w)
          | (intro w hw
             refine hK _ ?_
             clear hK K hw w)
          | (refine hK _ ?_; clear hK K)
      refine loose_nil ?_
      clear h2
      intro wq h2
      have h3 : holds wq (ownInts (.slice (some ⟨g, 0, none⟩) n cp) tn :: ringAt (.pointer (some ⟨rb, 0, none⟩)) n (l ++ [(i : Int)]) :: blk b (.cells #[.pointer (some ⟨rb, 0, none⟩), .slice (some ⟨g, 0, none⟩) n cp, .int .i64 c, .int .i64 fs] 243 (0, 0)) :: F) := h2.sel 3 [2, 0, 1]
      clear HSE h2
      refine wpList_setInt rfl rfl _ _ rfl (i := i) rfl rfl h3 (by omega) fun w' hw' => ?_
      have h4 : holds w' (blk b (.cells #[.pointer (some ⟨rb, 0, none⟩), .slice (some ⟨g, 0, none⟩) n cp, .int .i64 c, .int .i64 fs] 243 (0, 0)) :: ringAt (.pointer (some ⟨rb, 0, none⟩)) n (l ++ [(i : Int)]) :: ownInts (.slice (some ⟨g, 0, none⟩) n cp) (tn.set i c) :: F) := hw'.sel 3 [2, 1, 0]
      have d0 := cellAt h4.get_blk 2
      have d1 := frozen_of_row w' b 2 _ _ h4.get_blk
      simp at d0
      have h5 := shut_waits hT (h4.setCell 2 (.int .i64 (c + 1)))
      clear h3 hw'
      go_wp2_with fail
      go_ret
      exact ⟨rfl, h5⟩
theorem waits_Take (w : World) (v : Value) (n : Nat) (l : List Int) (c : Int) (F : List HProp) (hcb : c ≤ 1000000000000) (hw : holds w (waitsAt v n l c :: F)) :
    Calls Tryz.prog 174 #[v] w fun e w' => e = .returned (.tuple #[.int .i64 (ringGet l 0).1, .int .i64 (if (ringGet l 0).2 then 0 else 20)]) ∧ holds w' (waitsAt v n (l.drop 1) c :: F) := by
  obtain ⟨b, rb, a, cp, tn, fs, rfl, hm, h⟩ := open_waits hw
  have c0 := cellAt h.get_blk 0
  simp at c0
  have h1 : holds w (_ :: _ :: _ :: F) := h.sel 3 [1, 0, 2]
  have H := Lib.hid (ring_Take _ _ _ _ _ h1)
  cases l with
  | nil =>
    have e : ringGet [] 0 = (0, false) := by simp [ringGet]
    rw [e] at H ⊢
    dsimp only at H ⊢
    clear e h h1
    go_enter Tryz.func174, Tryz.ntmps174
    go_wp2_with fail
    refine (waits_is _ _ _ c0).mono ?_
    rintro e w1 ⟨rfl, rfl⟩
    go_wp2_with fail
    refine H.out.mono ?_
    rintro e w2 ⟨rfl, h2⟩
    go_wp2_with fail
    go_ret2
    exact ⟨rfl, shut_waits hm (h2.sel 3 [1, 0, 2])⟩
  | cons x l =>
    have e : ringGet (x :: l) 0 = (x, true) := by simp [ringGet]
    rw [e] at H ⊢
    dsimp only at H ⊢
    rw [if_pos rfl]
    have hx := hm.rng x List.mem_cons_self
    obtain ⟨i, rfl⟩ := Int.eq_ofNat_of_zero_le hx.1
    have hT := hm.take
    rw [Int.toNat_natCast] at hT
    have hlen := hm.len
    obtain ⟨g, cap, hv⟩ : ∃ g cap, Value.slice a n cp = .slice (some ⟨g, 0, none⟩) tn.length cap := let ⟨g, cap, hv, _⟩ := (h.pick 2).intAt i (by omega); ⟨g, cap, hv⟩
    have ha : a = some ⟨g, 0, none⟩ := by injection hv
    subst ha
    have hi : i < n := by omega
    have hfs := hm.fs0
    have hcc := hm.cnt
    have e1 : IntKind.i64.wrap (fs + 1) = fs + 1 := IntWalk.i64_in _ (by omega)
    have hbig := hm.big
    clear e h h1 hv hm hcc hw hx
    go_enter Tryz.func174, Tryz.ntmps174
    go_wp2_with fail
    refine (waits_is _ _ _ c0).mono ?_
    rintro e w1 ⟨rfl, rfl⟩
    go_wp2_with fail
    refine H.out.mono ?_
    rintro e w2 ⟨rfl, h2⟩
    have c1 := cellAt (h2.pick 1).get_blk 1
    simp only [List.getElem?_toArray, List.getElem?_cons_succ, List.getElem?_cons_zero] at c1
    have h3 : holds w2 (ownInts (.slice (some ⟨g, 0, none⟩) n cp) tn :: ringAt (.pointer (some ⟨rb, 0, none⟩)) n l :: blk b (.cells #[.pointer (some ⟨rb, 0, none⟩), .slice (some ⟨g, 0, none⟩) n cp, .int .i64 c, .int .i64 fs] 243 (0, 0)) :: F) := h2.sel 3 [2, 0, 1]
    clear h2 H c0
    go_wp2_with (
      refine wpList_setInt rfl rfl _ _ rfl (i := i) rfl rfl h3 (by omega) fun w' hw' => ?_
      have h4 : holds w' (blk b (.cells #[.pointer (some ⟨rb, 0, none⟩), .slice (some ⟨g, 0, none⟩) n cp, .int .i64 c, .int .i64 fs] 243 (0, 0)) :: ringAt (.pointer (some ⟨rb, 0, none⟩)) n l :: ownInts (.slice (some ⟨g, 0, none⟩) n cp) (tn.set i (-1)) :: F) := hw'.sel 3 [2, 1, 0]
      have d0 := cellAt h4.get_blk 3
      have d1 := frozen_of_row w' b 3 _ _ h4.get_blk
      simp only [List.getElem?_toArray, List.getElem?_cons_succ, List.getElem?_cons_zero] at d0
      have h5 := shut_waits hT (h4.setCell 3 (.int .i64 (fs + 1)))
      clear h3 hw')
    go_ret2
    exact ⟨rfl, h5⟩
end Go.Proofs.YtipkgamiejenaaaGreat

/- The law RingOrder. -/
namespace Go.Proofs.YtipkgamiejenaaaGreat
open Go Go.RowKit Go.MapKept
set_option maxRecDepth 100000
set_option linter.unusedVariables false

end Go.Proofs.YtipkgamiejenaaaGreat

/- The making of waits; waits that New did not give; the document's answer. -/
namespace Go.Proofs.YtipkgamiejenaaaGreat
open Go Go.RowKit Go.MapKept
set_option maxRecDepth 100000
set_option linter.unusedVariables false
attribute [local go_sem] exactUpon looseUpon

theorem WaitsOk.new (n : Nat) (h : n ≤ 1048576) : WaitsOk n (List.replicate n (-1)) 0 0 [] :=
  ⟨by simp, h, by simp, by simp, by omega, by simp, fun j hj => by simp at hj, fun i hi _ => by simp [hi]⟩
theorem fill_set (n k : Nat) (h : k < n) : (List.replicate k (-1 : Int) ++ List.replicate (n - k) 0).set k (-1) = List.replicate (k + 1) (-1) ++ List.replicate (n - (k + 1)) 0 := by
  apply List.ext_getElem
  · simp; omega
  · intro i h1 h2
    simp only [List.getElem_set, List.getElem_append, List.length_replicate, List.getElem_replicate]
    repeat' split
    all_goals first | rfl | omega

theorem waits_New (w : World) (n : Nat) (F : List HProp) (hn : n ≤ 1048576) (hw : holds w F) :
    Calls Tryz.prog 103 #[.int .i64 (n : Nat)] w fun e w' => ∃ b, e = .returned (.pointer (some ⟨b, 0, none⟩)) ∧ holds w' (waitsAt (.pointer (some ⟨b, 0, none⟩)) n [] 0 :: F) := by
  have H := Lib.hid (ring_New w n F (by omega) (by omega) hw)
  obtain ⟨i0, hi, hz0, hz1, hz2⟩ := info_parts Tryz.infoInt
  have hm := fun (w : World) (G : List HProp) (hw : holds w G) => run_make_sl (P := Tryz.prog) (t := 31) Tryz.underlying31 hi hz0 hz1 hw .i64 .i64 (x := n) (c := n) (by omega) (by omega) (by rw [hz2]; omega) (by omega)
  simp only [Int.toNat_natCast, Nat.mul_one] at hm
  have HM := Lib.hid hm
  clear hm hi hz0 hz1 hz2
  go_enter Tryz.func103, Tryz.ntmps103
  go_wp2_with fail
  refine H.out.mono ?_
  rintro e w1 ⟨v, rfl, h1⟩
  rw [Int.toNat_natCast] at h1
  obtain ⟨rb, rfl⟩ : ∃ b, v = .pointer (some ⟨b, 0, none⟩) := by obtain ⟨b, _, _, _, _, e, _⟩ := open_ring h1; exact ⟨b, e⟩
  have hm1 := (HM.out w1 _ h1).1
  have h2 := h1.madeInts n (by unfold maxLen; omega)
  go_wp2_with fail
  clear hm1 HM H
  generalize w1.heap.size = g at h2 ⊢
  go_loopw [14] (fun i wr => ∃ k : Nat, k ≤ n ∧ i = .int .i64 k ∧ holds wr (ownInts (.slice (some ⟨g, 0, none⟩) n n) (List.replicate k (-1) ++ List.replicate (n - k) 0) :: ringAt (.pointer (some ⟨rb, 0, none⟩)) n [] :: F)) (fun i _ => n - (intOf i).toNat)
  case atStart => exact ⟨0, Nat.zero_le _, rfl, by simpa using h2⟩
  case round =>
    obtain ⟨k, hk, rfl, h3⟩ := hrel
    clear h1 h2
    by_cases hlt : k < n
    · go_wp2_with (
        refine wpList_setInt rfl rfl _ _ rfl (i := k) rfl rfl h3 (by simp; omega) fun w' hw' => ?_
        clear h3)
      go_roundw
      case rel => exact ⟨k + 1, by omega, by go_num, by rw [← fill_set n k hlt]; exact hw'⟩
      case measure => simp [intOf]; omega
    · have hkn : k = n := by omega
      subst hkn
      go_wp2_with fail
      go_ret
      have h4 := h3.alloc (.cells #[.pointer (some ⟨rb, 0, none⟩), .slice (some ⟨g, 0, none⟩) k k, .int .i64 0, .int .i64 0] 243 (0, 0))
      rw [Nat.sub_self, List.replicate_zero, List.append_nil] at h4
      exact ⟨_, rfl, shut_waits (WaitsOk.new k hn) (h4.sel 3 [0, 2, 1])⟩

/-! ### Waits that New did not give -/
def noLine (w : World) (v : Value) : Prop := v = .pointer none ∨ ∃ b, v = .pointer (some ⟨b, 0, none⟩) ∧ w.cell? ⟨b, 0, none⟩ = some (.pointer none) ∧ w.cell? ⟨b, 2, none⟩ = some (.int .i64 0)
/-! ### The document's answer -/
end Go.Proofs.YtipkgamiejenaaaGreat

/- Package reclaim: its resource; is, New. -/
namespace Go.Proofs.YtipkgamiejenaaaGreat
open Go Go.RowKit Go.MapKept
set_option linter.unusedVariables false
set_option linter.unusedSectionVars false
set_option linter.unusedSimpArgs false
set_option maxRecDepth 100000
set_option maxHeartbeats 2000000
namespace Rc
structure Ok (m : S) (K : Nat) : Prop where
  inv : St.Inv m.t K
  wt : Wt m.t m.line
  q : 1 ≤ m.q ∧ m.q ≤ 1048576
  low : 0 ≤ m.low ∧ m.low ≤ 1048576
  wl : m.want.length = 64
  wb : ∀ x ∈ m.want, 0 ≤ x ∧ x ≤ 9223372036854775807
  lv : ∀ x ∈ m.lv, 0 ≤ x ∧ x ≤ 1048576
  ll : m.lv.length ≤ K
  fr : 0 ≤ m.fr ∧ m.fr ≤ K
structure X where
  tb : Nat
  lb : Nat
  mb : Nat
  kb : Nat
  c : Int
  k : Nat
end Rc
def recP (rb sb : Nat) (m : Rc.S) (K : Nat) : HProp := fun f => ∃ x : Rc.X, (x.c ≤ K ∧ x.k ≤ K) ∧ sep [blk rb (.cells #[.pointer (some ⟨x.tb, 0, none⟩), .pointer (some ⟨sb, 0, none⟩), .pointer (some ⟨x.lb, 0, none⟩), .pointer (some ⟨x.mb, 0, none⟩), .pointer (some ⟨x.kb, 0, none⟩), .int .i64 m.q] 109 (0, 0)), trimP x.tb m.want, waitsAt (.pointer (some ⟨x.lb, 0, none⟩)) m.t.ch.length m.line x.c, markP x.mb m.low m.lv.getLast? x.k, bookP (.pointer (some ⟨x.kb, 0, none⟩)) 2 [(m.lv.length : Nat), m.fr]] f
theorem recP.open {w : World} {rb sb : Nat} {m : Rc.S} {K : Nat} {F : List HProp} (h : holds w (recP rb sb m K :: F)) : ∃ x : Rc.X, (x.c ≤ K ∧ x.k ≤ K) ∧ holds w (blk rb (.cells #[.pointer (some ⟨x.tb, 0, none⟩), .pointer (some ⟨sb, 0, none⟩), .pointer (some ⟨x.lb, 0, none⟩), .pointer (some ⟨x.mb, 0, none⟩), .pointer (some ⟨x.kb, 0, none⟩), .int .i64 m.q] 109 (0, 0)) :: trimP x.tb m.want :: waitsAt (.pointer (some ⟨x.lb, 0, none⟩)) m.t.ch.length m.line x.c :: markP x.mb m.low m.lv.getLast? x.k :: bookP (.pointer (some ⟨x.kb, 0, none⟩)) 2 [(m.lv.length : Nat), m.fr] :: F) := by
  obtain ⟨x, h⟩ := holds.open_ex h
  obtain ⟨e, h⟩ := holds.open_pure h
  exact ⟨x, e, holds_sep.1 h⟩
theorem recP.shut {w : World} {rb sb : Nat} {m : Rc.S} {K : Nat} {F : List HProp} (x : Rc.X) (hc : x.c ≤ K ∧ x.k ≤ K) (h : holds w (blk rb (.cells #[.pointer (some ⟨x.tb, 0, none⟩), .pointer (some ⟨sb, 0, none⟩), .pointer (some ⟨x.lb, 0, none⟩), .pointer (some ⟨x.mb, 0, none⟩), .pointer (some ⟨x.kb, 0, none⟩), .int .i64 m.q] 109 (0, 0)) :: trimP x.tb m.want :: waitsAt (.pointer (some ⟨x.lb, 0, none⟩)) m.t.ch.length m.line x.c :: markP x.mb m.low m.lv.getLast? x.k :: bookP (.pointer (some ⟨x.kb, 0, none⟩)) 2 [(m.lv.length : Nat), m.fr] :: F)) : holds w (recP rb sb m K :: F) :=
  (holds_sep (l := [_, _, _, _, _]).2 h).mono fun f hf => ⟨x, hc, hf⟩
theorem recP.more {rb sb : Nat} {m : Rc.S} {K K' : Nat} (hk : K ≤ K') {w : World} {F : List HProp} (h : holds w (recP rb sb m K :: F)) : holds w (recP rb sb m K' :: F) := h.mono fun f hf => by
  obtain ⟨x, hx, hf⟩ := hf
  exact ⟨x, by omega, hf⟩
theorem rec_is (rb a b c d e : Nat) (q : Int) (w : World) (F : List HProp) [SeesBlk F rb #[.pointer (some ⟨a, 0, none⟩), .pointer (some ⟨b, 0, none⟩), .pointer (some ⟨c, 0, none⟩), .pointer (some ⟨d, 0, none⟩), .pointer (some ⟨e, 0, none⟩), .int .i64 q]] (hw : holds w F) :
    Ct Tryz.prog 107 #[.pointer (some ⟨rb, 0, none⟩)] w fun e w' => e = .returned (.bool true) ∧ holds w' F := by
  refine Ct.go (args := [.pointer (some ⟨rb, 0, none⟩)]) Tryz.func107 rfl rfl rfl hw ?_
  repeat' (first | (apply GL.isAny; first | refine GL.runA rfl ?_ | (apply GL.isStore; first | refine GL.storeBlk rfl rfl rfl rfl rfl ?_ | refine GL.storeWhole rfl rfl rfl rfl rfl ?_ | refine GL.storeBlkA rfl rfl rfl rfl rfl ?_) | refine GL.guardY rfl rfl ?_ | refine GL.guardN rfl rfl rfl ?_ | refine GL.guardU rfl rfl rfl ?_ | (apply GL.isBox; first | refine GL.boxA rfl rfl (fun _ => ?_) | refine GL.box1 rfl rfl rfl (fun _ => ?_) | refine GL.box rfl rfl (fun _ => ?_)) | (apply GL.isBuildS; first | refine GL.buildSlice1A rfl rfl rfl rfl rfl (fun _ => ?_) | refine GL.buildSlice1 rfl rfl rfl rfl rfl (fun _ => ?_)) | (apply GL.isCall; refine GL.append1 _ rfl rfl rfl rfl (by rfl) (by omega) (by omega) rfl (fun _ => ?_)) | (apply GL.isAlloc; refine GL.alloc rfl (fun _ => ?_))) | apply GL.nil | first | apply G.seq | apply G.region | apply G.block | apply G.skip | apply G.exit | apply G.ret | (apply G.isCond; first | refine G.condT rfl ?_ | refine G.condF rfl ?_) | refine G.draw (by kernel_rfl) (by kernel_rfl) ?_ | (apply GE.isAny; first | apply GE.again | apply GE.thenG | apply GE.blockN | apply GE.blockE | apply GE.thenE | apply GE.thenR | apply GE.blockR | refine GE.blockO rfl ?_ | apply GE.only) | (apply GD.isAny; first | refine GD.runA rfl ?_ | refine GD.guardY rfl rfl ?_ | refine GD.guardN rfl rfl rfl ?_ | refine GD.guardU rfl rfl rfl ?_) | apply GD.nilE | apply GD.nilL | (apply GT.isAny; refine GT.runA rfl rfl ?_) | ((first | (apply GL.isAny; refine GL.guard rfl rfl (fun hc => ?_) (fun hc => ?_)) | (apply G.isCond; refine G.cond rfl (fun hc => ?_) (fun hc => ?_)) | (apply GD.isAny; refine GD.guard rfl rfl (fun hc => ?_) (fun hc => ?_))) <;> ((try simp only [decide_eq_true_eq, decide_eq_false_iff_not, Bool.not_true, Bool.not_false, ne_eq, Classical.not_not, Int.not_lt, Int.not_le] at hc); (try (exfalso; first | omega | exact hc trivial | exact hc rfl)))))
  all_goals (first | (exfalso; simp at hc; done) | (refine GE.resOne rfl (by (repeat (first | apply Res.nil | (apply Res.tmp; rfl) | (refine Res.cellA rfl rfl rfl ?_) | (refine Res.cell1 rfl rfl ?_)))) (fun w h => ?_); exact ⟨rfl, h.sub⟩))
theorem rec_isN (w : World) (F : List HProp) (hw : holds w F) :
    Ct Tryz.prog 107 #[.pointer none] w fun e w' => e = .returned (.bool false) ∧ holds w' F := by
  refine Ct.go (args := [.pointer none]) Tryz.func107 rfl rfl rfl hw ?_
  repeat' (first | (apply GL.isAny; first | refine GL.runA rfl ?_ | (apply GL.isStore; first | refine GL.storeBlk rfl rfl rfl rfl rfl ?_ | refine GL.storeWhole rfl rfl rfl rfl rfl ?_ | refine GL.storeBlkA rfl rfl rfl rfl rfl ?_) | refine GL.guardY rfl rfl ?_ | refine GL.guardN rfl rfl rfl ?_ | refine GL.guardU rfl rfl rfl ?_ | (apply GL.isBox; first | refine GL.boxA rfl rfl (fun _ => ?_) | refine GL.box1 rfl rfl rfl (fun _ => ?_) | refine GL.box rfl rfl (fun _ => ?_)) | (apply GL.isBuildS; first | refine GL.buildSlice1A rfl rfl rfl rfl rfl (fun _ => ?_) | refine GL.buildSlice1 rfl rfl rfl rfl rfl (fun _ => ?_)) | (apply GL.isCall; refine GL.append1 _ rfl rfl rfl rfl (by rfl) (by omega) (by omega) rfl (fun _ => ?_)) | (apply GL.isAlloc; refine GL.alloc rfl (fun _ => ?_))) | apply GL.nil | first | apply G.seq | apply G.region | apply G.block | apply G.skip | apply G.exit | apply G.ret | (apply G.isCond; first | refine G.condT rfl ?_ | refine G.condF rfl ?_) | refine G.draw (by kernel_rfl) (by kernel_rfl) ?_ | (apply GE.isAny; first | apply GE.again | apply GE.thenG | apply GE.blockN | apply GE.blockE | apply GE.thenE | apply GE.thenR | apply GE.blockR | refine GE.blockO rfl ?_ | apply GE.only) | (apply GD.isAny; first | refine GD.runA rfl ?_ | refine GD.guardY rfl rfl ?_ | refine GD.guardN rfl rfl rfl ?_ | refine GD.guardU rfl rfl rfl ?_) | apply GD.nilE | apply GD.nilL | (apply GT.isAny; refine GT.runA rfl rfl ?_) | ((first | (apply GL.isAny; refine GL.guard rfl rfl (fun hc => ?_) (fun hc => ?_)) | (apply G.isCond; refine G.cond rfl (fun hc => ?_) (fun hc => ?_)) | (apply GD.isAny; refine GD.guard rfl rfl (fun hc => ?_) (fun hc => ?_))) <;> ((try simp only [decide_eq_true_eq, decide_eq_false_iff_not, Bool.not_true, Bool.not_false, ne_eq, Classical.not_not, Int.not_lt, Int.not_le] at hc); (try (exfalso; first | omega | exact hc trivial | exact hc rfl)))))
  all_goals (first | (exfalso; simp at hc; done) | (refine GE.resOne rfl (by (repeat (first | apply Res.nil | (apply Res.tmp; rfl) | (refine Res.cellA rfl rfl rfl ?_) | (refine Res.cell1 rfl rfl ?_)))) (fun w h => ?_); exact ⟨rfl, h.sub⟩))
theorem rec_isZ (zb : Nat) (w : World) (F : List HProp) [SeesBlk F zb #[.pointer none, .pointer none, .pointer none, .pointer none, .pointer none, .int .i64 0]] (hw : holds w F) :
    Ct Tryz.prog 107 #[.pointer (some ⟨zb, 0, none⟩)] w fun e w' => e = .returned (.bool false) ∧ holds w' F := by
  refine Ct.go (args := [.pointer (some ⟨zb, 0, none⟩)]) Tryz.func107 rfl rfl rfl hw ?_
  repeat' (first | (apply GL.isAny; first | refine GL.runA rfl ?_ | (apply GL.isStore; first | refine GL.storeBlk rfl rfl rfl rfl rfl ?_ | refine GL.storeWhole rfl rfl rfl rfl rfl ?_ | refine GL.storeBlkA rfl rfl rfl rfl rfl ?_) | refine GL.guardY rfl rfl ?_ | refine GL.guardN rfl rfl rfl ?_ | refine GL.guardU rfl rfl rfl ?_ | (apply GL.isBox; first | refine GL.boxA rfl rfl (fun _ => ?_) | refine GL.box1 rfl rfl rfl (fun _ => ?_) | refine GL.box rfl rfl (fun _ => ?_)) | (apply GL.isBuildS; first | refine GL.buildSlice1A rfl rfl rfl rfl rfl (fun _ => ?_) | refine GL.buildSlice1 rfl rfl rfl rfl rfl (fun _ => ?_)) | (apply GL.isCall; refine GL.append1 _ rfl rfl rfl rfl (by rfl) (by omega) (by omega) rfl (fun _ => ?_)) | (apply GL.isAlloc; refine GL.alloc rfl (fun _ => ?_))) | apply GL.nil | first | apply G.seq | apply G.region | apply G.block | apply G.skip | apply G.exit | apply G.ret | (apply G.isCond; first | refine G.condT rfl ?_ | refine G.condF rfl ?_) | refine G.draw (by kernel_rfl) (by kernel_rfl) ?_ | (apply GE.isAny; first | apply GE.again | apply GE.thenG | apply GE.blockN | apply GE.blockE | apply GE.thenE | apply GE.thenR | apply GE.blockR | refine GE.blockO rfl ?_ | apply GE.only) | (apply GD.isAny; first | refine GD.runA rfl ?_ | refine GD.guardY rfl rfl ?_ | refine GD.guardN rfl rfl rfl ?_ | refine GD.guardU rfl rfl rfl ?_) | apply GD.nilE | apply GD.nilL | (apply GT.isAny; refine GT.runA rfl rfl ?_) | ((first | (apply GL.isAny; refine GL.guard rfl rfl (fun hc => ?_) (fun hc => ?_)) | (apply G.isCond; refine G.cond rfl (fun hc => ?_) (fun hc => ?_)) | (apply GD.isAny; refine GD.guard rfl rfl (fun hc => ?_) (fun hc => ?_))) <;> ((try simp only [decide_eq_true_eq, decide_eq_false_iff_not, Bool.not_true, Bool.not_false, ne_eq, Classical.not_not, Int.not_lt, Int.not_le] at hc); (try (exfalso; first | omega | exact hc trivial | exact hc rfl)))))
  all_goals (first | (exfalso; simp at hc; done) | (refine GE.resOne rfl (by (repeat (first | apply Res.nil | (apply Res.tmp; rfl) | (refine Res.cellA rfl rfl rfl ?_) | (refine Res.cell1 rfl rfl ?_)))) (fun w h => ?_); exact ⟨rfl, h.sub⟩))
theorem rec_NewN (q low : Int) (w : World) (F : List HProp) (hw : holds w F) :
    Ct Tryz.prog 38 #[.pointer none, .int .i64 q, .int .i64 low] w fun e w' => e = .returned (.tuple #[.pointer none, .int .i64 16]) ∧ holds w' F := by
  refine Ct.go (args := [.pointer none, .int .i64 q, .int .i64 low]) Tryz.func38 rfl rfl rfl hw ?_
  repeat' (first | ((apply GL.isCall; refine GL.call1 rfl rfl (fun w h => st_SizeN w _ h) ?_)) | first | (apply GL.isAny; first | refine GL.runA rfl ?_ | (apply GL.isStore; first | refine GL.storeBlk rfl rfl rfl rfl rfl ?_ | refine GL.storeWhole rfl rfl rfl rfl rfl ?_ | refine GL.storeBlkA rfl rfl rfl rfl rfl ?_) | refine GL.guardY rfl rfl ?_ | refine GL.guardN rfl rfl rfl ?_ | refine GL.guardU rfl rfl rfl ?_ | (apply GL.isBox; first | refine GL.boxA rfl rfl (fun _ => ?_) | refine GL.box1 rfl rfl rfl (fun _ => ?_) | refine GL.box rfl rfl (fun _ => ?_)) | (apply GL.isBuildS; first | refine GL.buildSlice1A rfl rfl rfl rfl rfl (fun _ => ?_) | refine GL.buildSlice1 rfl rfl rfl rfl rfl (fun _ => ?_)) | (apply GL.isCall; refine GL.append1 _ rfl rfl rfl rfl (by rfl) (by omega) (by omega) rfl (fun _ => ?_)) | (apply GL.isAlloc; refine GL.alloc rfl (fun _ => ?_))) | apply GL.nil | first | apply G.seq | apply G.region | apply G.block | apply G.skip | apply G.exit | apply G.ret | (apply G.isCond; first | refine G.condT rfl ?_ | refine G.condF rfl ?_) | refine G.draw (by kernel_rfl) (by kernel_rfl) ?_ | (apply GE.isAny; first | apply GE.again | apply GE.thenG | apply GE.blockN | apply GE.blockE | apply GE.thenE | apply GE.thenR | apply GE.blockR | refine GE.blockO rfl ?_ | apply GE.only) | (apply GD.isAny; first | refine GD.runA rfl ?_ | refine GD.guardY rfl rfl ?_ | refine GD.guardN rfl rfl rfl ?_ | refine GD.guardU rfl rfl rfl ?_) | apply GD.nilE | apply GD.nilL | (apply GT.isAny; refine GT.runA rfl rfl ?_) | ((first | (apply GL.isAny; refine GL.guard rfl rfl (fun hc => ?_) (fun hc => ?_)) | (apply G.isCond; refine G.cond rfl (fun hc => ?_) (fun hc => ?_)) | (apply GD.isAny; refine GD.guard rfl rfl (fun hc => ?_) (fun hc => ?_))) <;> ((try simp only [decide_eq_true_eq, decide_eq_false_iff_not, Bool.not_true, Bool.not_false, ne_eq, Classical.not_not, Int.not_lt, Int.not_le] at hc); (try (exfalso; first | omega | exact hc trivial | exact hc rfl)))))
  all_goals (first | (exfalso; simp at hc; done) | (refine GE.resMany rfl (by (repeat (first | apply Res.nil | (apply Res.tmp; rfl) | (refine Res.cellA rfl rfl rfl ?_) | (refine Res.cell1 rfl rfl ?_)))) (fun w h => ?_); exact ⟨rfl, h.sub⟩))
variable (sb : Nat) (t : St.S) (K : Nat) (hI : St.Inv t K) (hK : K ≤ 900000)
include hI hK
theorem rec_New (q low : Int) (hq : 1 ≤ q ∧ q ≤ 1048576) (hl : 0 ≤ low ∧ low ≤ 1048576) (w : World) (F : List HProp) (hw : holds w (storeP sb t :: F)) :
    Ct Tryz.prog 38 #[.pointer (some ⟨sb, 0, none⟩), .int .i64 q, .int .i64 low] w fun e w' => ∃ rb : Nat, e = .returned (.tuple #[.pointer (some ⟨rb, 0, none⟩), .int .i64 0]) ∧ holds w' (recP rb sb ⟨t, q, low, [], List.replicate 64 0, [], 0⟩ K :: storeP sb t :: F) := by
  have hz := hI.sz
  have hcp := hI.ncap
  have hS := fun w (F : List HProp) h' => store_Size sb t K hI (by omega) w F h'
  have hA := fun w (F : List HProp) h' => store_All sb t K hI (by omega) w F h'
  refine Ct.go (args := [.pointer (some ⟨sb, 0, none⟩), .int .i64 q, .int .i64 low]) Tryz.func38 rfl rfl rfl hw ?_
  repeat' (first | (first | (apply GL.isCall; refine GL.callH1 (storeP sb t) rfl rfl (fun w h => hS w _ h) ?_) | (apply GL.isCall; refine GL.callH (storeP sb t) rfl rfl (fun w h => hA w _ h) (fun u => ?_)) | (apply GL.isCall; refine GL.call rfl rfl (fun w h => trims_New w _ h) (fun tb => ?_)) | (apply GL.isCall; refine GL.call rfl rfl (fun w h => ⟨waits_New w t.ch.length _ (by omega) h⟩) (fun lb => ?_)) | (apply GL.isCall; refine GL.call rfl rfl (fun w h => water_New low (by omega) w _ h) (fun mb => ?_)) | (apply GL.isCall; refine GL.call rfl rfl (fun w h => count_New 2 (by omega) (by omega) w _ h) (fun kb => ?_)) | (apply GL.isBox; refine GL.boxA rfl rfl (fun rb => ?_))) | first | (apply GL.isAny; first | refine GL.runA rfl ?_ | (apply GL.isStore; first | refine GL.storeBlk rfl rfl rfl rfl rfl ?_ | refine GL.storeWhole rfl rfl rfl rfl rfl ?_ | refine GL.storeBlkA rfl rfl rfl rfl rfl ?_) | refine GL.guardY rfl rfl ?_ | refine GL.guardN rfl rfl rfl ?_ | refine GL.guardU rfl rfl rfl ?_ | (apply GL.isBox; first | refine GL.boxA rfl rfl (fun _ => ?_) | refine GL.box1 rfl rfl rfl (fun _ => ?_) | refine GL.box rfl rfl (fun _ => ?_)) | (apply GL.isBuildS; first | refine GL.buildSlice1A rfl rfl rfl rfl rfl (fun _ => ?_) | refine GL.buildSlice1 rfl rfl rfl rfl rfl (fun _ => ?_)) | (apply GL.isCall; refine GL.append1 _ rfl rfl rfl rfl (by rfl) (by omega) (by omega) rfl (fun _ => ?_)) | (apply GL.isAlloc; refine GL.alloc rfl (fun _ => ?_))) | apply GL.nil | first | apply G.seq | apply G.region | apply G.block | apply G.skip | apply G.exit | apply G.ret | (apply G.isCond; first | refine G.condT rfl ?_ | refine G.condF rfl ?_) | refine G.draw (by kernel_rfl) (by kernel_rfl) ?_ | (apply GE.isAny; first | apply GE.again | apply GE.thenG | apply GE.blockN | apply GE.blockE | apply GE.thenE | apply GE.thenR | apply GE.blockR | refine GE.blockO rfl ?_ | apply GE.only) | (apply GD.isAny; first | refine GD.runA rfl ?_ | refine GD.guardY rfl rfl ?_ | refine GD.guardN rfl rfl rfl ?_ | refine GD.guardU rfl rfl rfl ?_) | apply GD.nilE | apply GD.nilL | (apply GT.isAny; refine GT.runA rfl rfl ?_) | ((first | (apply GL.isAny; refine GL.guard rfl rfl (fun hc => ?_) (fun hc => ?_)) | (apply G.isCond; refine G.cond rfl (fun hc => ?_) (fun hc => ?_)) | (apply GD.isAny; refine GD.guard rfl rfl (fun hc => ?_) (fun hc => ?_))) <;> ((try simp only [decide_eq_true_eq, decide_eq_false_iff_not, Bool.not_true, Bool.not_false, ne_eq, Classical.not_not, Int.not_lt, Int.not_le] at hc); (try (exfalso; first | omega | exact hc trivial | exact hc rfl)))))
  all_goals (first | (exfalso; omega) | (exfalso; simp at hc; omega) | skip)
  refine GE.resMany rfl (by (repeat (first | apply Res.nil | (apply Res.tmp; rfl) | (refine Res.cellA rfl rfl rfl ?_) | (refine Res.cell1 rfl rfl ?_)))) (fun w h => ?_)
  refine ⟨rb, rfl, recP.shut (m := ⟨t, q, low, [], List.replicate 64 0, [], 0⟩) ⟨tb, lb, mb, kb, 0, 0⟩ (by dsimp only; omega) ?_⟩
  have h1 : holds w (blk rb (.cells #[.pointer (some ⟨tb, 0, none⟩), .pointer (some ⟨sb, 0, none⟩), .pointer (some ⟨lb, 0, none⟩), .pointer (some ⟨mb, 0, none⟩), .pointer (some ⟨kb, 0, none⟩), .int .i64 q] 109 (0, 0)) :: bookP (.pointer (some ⟨kb, 0, none⟩)) 2 [0, 0] :: markP mb low none 0 :: waitsAt (.pointer (some ⟨lb, 0, none⟩)) t.ch.length [] 0 :: owns 84 encCk 3 (.slice (some ⟨u, 0, none⟩) t.ch.length t.ch.length) t.ch :: storeP sb t :: trimP tb (List.replicate 64 0) :: F) := h
  have h4 : holds w (blk rb (.cells #[.pointer (some ⟨tb, 0, none⟩), .pointer (some ⟨sb, 0, none⟩), .pointer (some ⟨lb, 0, none⟩), .pointer (some ⟨mb, 0, none⟩), .pointer (some ⟨kb, 0, none⟩), .int .i64 q] 109 (0, 0)) :: trimP tb (List.replicate 64 0) :: waitsAt (.pointer (some ⟨lb, 0, none⟩)) t.ch.length [] 0 :: markP mb low none 0 :: bookP (.pointer (some ⟨kb, 0, none⟩)) 2 [0, 0] :: storeP sb t :: F) := h1.sub
  exact h4
end Go.Proofs.YtipkgamiejenaaaGreat
