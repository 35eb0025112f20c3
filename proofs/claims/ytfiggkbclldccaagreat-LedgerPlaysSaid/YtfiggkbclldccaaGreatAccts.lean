/- Contracts of package accounts: New, is, Get, calls. -/
import Derived.Test.YtfiggkbclldccaaGreatRef27C
import Derived.WalkSpells
namespace Go.Proofs.YtfiggkbclldccaaGreat
open Go Go.RowKit Go.MapKept
set_option maxRecDepth 100000
set_option linter.unusedVariables false
set_option maxHeartbeats 1000000
attribute [local go_sem] exactUpon looseUpon

/-- The map has the accounts of the places that are open. -/
structure AccOk (t : AccsM) (m : List (Int × AcM)) : Prop where
  get : ∀ p : Int, alGet m p = if p ∈ alKeys t.s.opn then some (t.A.getD p.toNat ac0) else none
  nodup : (alKeys m).Nodup
structure AccsM.Ok (t : AccsM) (k : Nat) : Prop where
  good : t.s.Good k
  len : t.A.length = t.s.gens.length
  right : ∀ a ∈ t.A, Acct.right a = true ∨ a = ac0
  zero : ∀ (i : Nat) (hi : i < t.A.length), (i : Int) ∉ alKeys t.s.opn → t.A[i] = ac0
theorem AccsM.Ok.bd {t : AccsM} {k : Nat} (h : t.Ok k) : ∀ a ∈ t.A, acBd2 a := fun a ha => by
  rcases h.right a ha with h1 | h1
  · exact acBd2_right h1
  · rw [h1]; exact acBd2_zero

def accsAt (v : Value) (t : AccsM) : HProp := fun f => ∃ b vs bm m, (v = .pointer (some ⟨b, 0, none⟩) ∧ AccOk t m) ∧
  sep [blk b (.cells #[vs, .map (some bm)] 172 (0, 0)), slotsAt vs t.s, imap acV bm m] f
theorem open_accs {w : World} {F : List HProp} {v : Value} {t : AccsM} (h : holds w (accsAt v t :: F)) : ∃ b b2 bm m, v = .pointer (some ⟨b, 0, none⟩) ∧ AccOk t m ∧
    holds w (blk b (.cells #[.pointer (some ⟨b2, 0, none⟩), .map (some bm)] 172 (0, 0)) :: slotsAt (.pointer (some ⟨b2, 0, none⟩)) t.s :: imap acV bm m :: F) := by
  obtain ⟨b, h⟩ := h.open_ex
  obtain ⟨vs, h⟩ := h.open_ex
  obtain ⟨bm, h⟩ := h.open_ex
  obtain ⟨m, h⟩ := h.open_ex
  obtain ⟨⟨h1, h2⟩, h⟩ := h.open_pure
  have h := holds_sep.1 h
  obtain ⟨b2, _, _, _, rfl, _⟩ := open_slots (h.pick 1)
  exact ⟨b, b2, bm, m, h1, h2, h⟩
theorem shut_accs {w : World} {F : List HProp} {b bm : Nat} {vs : Value} {m : List (Int × AcM)} {t : AccsM} (hm : AccOk t m)
    (h : holds w (blk b (.cells #[vs, .map (some bm)] 172 (0, 0)) :: slotsAt vs t.s :: imap acV bm m :: F)) :
    holds w (accsAt (.pointer (some ⟨b, 0, none⟩)) t :: F) :=
  (holds_sep (l := [_, _, _]).2 h).mono fun _ hf => ⟨b, vs, bm, m, ⟨rfl, hm⟩, hf⟩

theorem accs_is (w : World) (v : Value) (t : AccsM) (F : List HProp) (hw : holds w (accsAt v t :: F)) :
    Calls Tryz.prog 182 #[v] w fun e w' => e = .returned (.bool true) ∧ holds w' (accsAt v t :: F) := by
  obtain ⟨b, b2, bm, m, rfl, hm, h⟩ := open_accs hw
  have c1 := cellAt h.get_blk 1
  simp at c1
  have qT : ∀ (w : World) (r : Option Nat), (binOp .neq 170 (.map r) (.map none)).run Tryz.prog w = .ok (.bool (!r.isNone)) w := fun w r => run_neq_map_nil w _ _ _ r Tryz.underlying170
  go_enter Tryz.func182, Tryz.ntmps182
  go_wp2
  go_ret
  exact ⟨rfl, hw⟩

theorem accs_New (w : World) (F : List HProp) (hw : holds w F) :
    Calls Tryz.prog 83 #[] w fun e w' => ∃ v, e = .returned v ∧ holds w' (accsAt v ⟨SlotsM.new 64, List.replicate 64 ac0⟩ :: F) := by
  have hmm := @run_makeMap Tryz.prog
  go_enter Tryz.func83, Tryz.ntmps83
  go_wp2_with fail
  refine (slots_New w 64 F (by omega) (by omega) hw).mono ?_
  rintro e w1 ⟨v, rfl, h1⟩
  obtain ⟨b2, rfl⟩ : ∃ b, v = .pointer (some ⟨b, 0, none⟩) := by obtain ⟨b, _, _, _, e, _⟩ := open_slots h1; exact ⟨b, e⟩
  have h2 := (h1.alloc (.map #[] 0)).mkMap (enc := acV) (m := []) rfl (stamped_empty 0)
  have h3 := h2.alloc (.cells #[.pointer (some ⟨b2, 0, none⟩), .map (some w1.heap.size)] 172 (0, 0))
  have hok : AccOk ⟨SlotsM.new 64, List.replicate 64 ac0⟩ [] := ⟨fun p => by simp [SlotsM.new, alKeys, alGet, alFind], by simp [alKeys]⟩
  have h4 : holds _ (accsAt _ ⟨SlotsM.new 64, List.replicate 64 ac0⟩ :: F) := shut_accs hok (h3.order [0, 2, 1])
  simp only [World.size_alloc] at h4
  go_wp2_with fail
  go_ret
  exact ⟨_, rfl, h4⟩

theorem accs_Get (w : World) (v : Value) (t : AccsM) (p g : Int) (F : List HProp) (hok : t.s.ok) (hw : holds w (accsAt v t :: F)) :
    Calls Tryz.prog 190 #[v, .int .i64 p, .int .i64 g] w fun e w' => e = .returned (acR (Accs.get t.s t.A p g)) ∧ holds w' (accsAt v t :: F) := by
  have hb : holds _ (accsAt v t :: blk w.heap.size _ :: F) := (hw.alloc (.cells (acCells ac0) 162 (0, 0))).order [1, 0]
  have H := Lib.hid (fun w v F h => slots_Right w v t.s p g F hok h)
  have HRO := Lib.hid (fun h => (SlotsM.right_open (p := p) (g := g) hok h).1)
  clear hok
  unfold Accs.get
  cases hr : t.s.right p g with
  | false =>
    rw [if_neg (by simp)]
    rw [hr] at H
    clear hr HRO
    unfold acCells ac0 at hb
    go_enter Tryz.func190, Tryz.ntmps190
    go_wp2_with fail
    refine (accs_is _ _ _ _ hb).mono ?_
    rintro e w1 ⟨rfl, h1⟩
    obtain ⟨b, b2, bm, m, rfl, hm, h2⟩ := open_accs h1
    have c0 := cellAt h2.get_blk 0
    simp at c0
    have HM := Lib.hid hm
    clear hm h1
    go_wp2_with fail
    refine (H.out _ _ _ (h2.order [1, 0])).mono ?_
    rintro e2 w2 ⟨rfl, h3⟩
    have h4 : holds w2 (blk w.heap.size _ :: blk b _ :: slotsAt _ t.s :: imap acV bm m :: F) := h3.order [3, 1, 0, 2]
    clear c0
    obtain ⟨r0, r1, r2, f0, f1, f2⟩ := ac_cells (a := ac0) h4
    go_wp2_with fail
    have h5 := storeAc (a := ac0) h4 ac0
    refine bodyPost_ret (v := acR (ac0, 4)) ?_ rfl ⟨rfl, shut_accs HM.out h5.tail⟩
    exact results_row_tmp Tryz.results190 _ _ w.heap.size _ _ _ _ _ rfl rfl h5.get_blk Tryz.underlying162 rfl Tryz.sizeAc
  | true =>
    rw [if_pos rfl]
    rw [hr] at H
    have HP := Lib.hid (HRO.out hr)
    clear hr HRO
    unfold acCells ac0 at hb
    generalize hx : t.A.getD p.toNat ac0 = x
    have HX := Lib.hid hx
    clear hx
    go_enter Tryz.func190, Tryz.ntmps190
    go_wp2_with fail
    refine (accs_is _ _ _ _ hb).mono ?_
    rintro e w1 ⟨rfl, h1⟩
    obtain ⟨b, b2, bm, m, rfl, hm, h2⟩ := open_accs h1
    have c0 := cellAt h2.get_blk 0
    simp at c0
    have hgp := hm.get p
    rw [if_pos HP.out, HX.out] at hgp
    have HG := Lib.hid hgp
    have HM := Lib.hid hm
    clear hm h1 hgp
    go_wp2_with fail
    refine (H.out _ _ _ (h2.order [1, 0])).mono ?_
    rintro e2 w2 ⟨rfl, h3⟩
    have h4 : holds w2 (blk w.heap.size _ :: blk b _ :: slotsAt _ t.s :: imap acV bm m :: F) := h3.order [3, 1, 0, 2]
    clear c0
    obtain ⟨r0, r1, r2, f0, f1, f2⟩ := ac_cells (a := ac0) h4
    have c1 := cellAt (h4.pick 1).get_blk 1
    simp at c1
    have hlk := run_lookup_sl (P := Tryz.prog) (t := 170) (z := ac0) Tryz.underlying170 Tryz.underlying3 (by kernel_rfl) (h4.pick 3) p false
    rw [HG.out] at hlk
    simp only [Bool.false_eq_true, if_false, Option.getD_some] at hlk
    unfold acV acCells at hlk
    go_wp2_with fail
    have h5 := storeAc (a := ac0) h4 x
    refine bodyPost_ret (v := acR (x, 0)) ?_ rfl ⟨rfl, shut_accs HM.out h5.tail⟩
    exact results_row_tmp Tryz.results190 _ _ w.heap.size _ _ _ _ _ rfl rfl h5.get_blk Tryz.underlying162 rfl Tryz.sizeAc

theorem Tryz.size190 : (Tryz.prog.info? 366).map (·.size) = some 5 := by kernel_rfl
def callsArr : Array Value := #[.nilFunc, .func (.func 303) #[] #[], .func (.func 289) #[] #[], .func (.func 304) #[] #[], .func (.func 305) #[] #[]]
theorem accs_calls (w : World) (F : List HProp) (hw : holds w F) :
    Calls Tryz.prog 288 #[] w fun e w' => e = .returned (.agg callsArr) ∧ holds w' F := by
  have h1 := hw.alloc (.cells #[.nilFunc, .nilFunc, .nilFunc, .nilFunc, .nilFunc] 366 (0, 0))
  go_enter Tryz.func288, Tryz.ntmps288
  go_wp2_with (refine wpList_store_sl rfl rfl _ _ _ rfl (off := 0) (.agg callsArr) rfl rfl Tryz.size190 (by simp [callsArr, Value.cells, Value.oneCell']) h1 (by simp [callsArr, Value.cells]) ?_; intro w3 h3)
  have h4 : holds w3 (blk w.heap.size (.cells callsArr 366 (0, 0)) :: F) := h3
  refine bodyPost_ret (v := .agg callsArr) ?_ rfl ⟨rfl, h4.tail⟩
  exact results_row Tryz.results288 _ _ w.heap.size _ _ _ _ rfl h4.get_blk Tryz.underlying366 rfl Tryz.size190
end Go.Proofs.YtfiggkbclldccaaGreat
