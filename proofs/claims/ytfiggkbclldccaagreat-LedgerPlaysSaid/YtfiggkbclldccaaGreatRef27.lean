/- Contracts of the reference of chapter 27: New, put, Get. -/
import Derived.Test.YtfiggkbclldccaaGreatSlotsE
import Derived.Test.YtfiggkbclldccaaGreatRef26
namespace Go.Proofs.YtfiggkbclldccaaGreat
open Go Go.RowKit Go.MapKept
set_option maxRecDepth 100000
set_option linter.unusedVariables false
set_option maxHeartbeats 1000000
attribute [local go_sem] exactUpon looseUpon

def acL (a : AcM) : List Value := (acCells a).toList
theorem acL_len : ∀ a, (acL a).length = 3 := fun _ => rfl
theorem acL_one (a : AcM) : ∀ u ∈ acL a, u.oneCell' = true := by simp [acL, acCells, Value.oneCell']
theorem acs_one (l : List AcM) : ∀ u ∈ l.flatMap acL, u.oneCell' = true := fun u hu => by
  obtain ⟨t, _, h⟩ := List.mem_flatMap.1 hu
  exact acL_one t u h
def ownAc (v : Value) (l : List AcM) : HProp := ownRow 162 3 v l.length (l.flatMap acL)
def roAc (v : Value) (l : List AcM) : HProp := roRow 3 v l.length (l.flatMap acL)
theorem holds.shareAc {w : World} {F : List HProp} {v : Value} {l : List AcM} (h : holds w (ownAc v l :: F)) : holds w (roAc v l :: F) := holds.shareRow h
theorem roAc_form {w : World} {F : List HProp} {v : Value} {l : List AcM} (h : holds w (roAc v l :: F)) : ∃ a cap, v = .slice a l.length cap ∧ l.length ≤ cap := (holds.roReads h).form
theorem holds.roAcAt {w : World} {F : List HProp} {v : Value} {l : List AcM} (hw : holds w (roAc v l :: F)) (h0 : 0 < l.length) :
    ∃ g off cap, v = .slice (some ⟨g, off, none⟩) l.length cap ∧ l.length ≤ cap ∧ ∀ (i : Nat) (hi : i < l.length), w.cell? ⟨g, off + i * 3, none⟩ = some (.int .i64 l[i].claim) ∧ w.cell? ⟨g, off + i * 3 + 1, none⟩ = some (.int .i64 l[i].held) ∧ w.cell? ⟨g, off + i * 3 + 2, none⟩ = some (.int .i64 l[i].credits) := by
  obtain ⟨g, off, cap, h1, h2, h4⟩ := holds.roElemAt acL_len hw h0 (by omega)
  exact ⟨g, off, cap, h1, h2, fun i hi => ⟨h4 i hi 0 (by omega), h4 i hi 1 (by omega), h4 i hi 2 (by omega)⟩⟩
theorem holds.acAt {w : World} {F : List HProp} {v : Value} {l : List AcM} (hw : holds w (ownAc v l :: F)) (h0 : 0 < l.length) :
    ∃ g cap, v = .slice (some ⟨g, 0, none⟩) l.length cap ∧ l.length ≤ cap ∧ cap ≤ maxLen := by
  obtain ⟨g, cap, h1, h2, h3, _⟩ := holds.elemAt acL_len hw h0
  exact ⟨g, cap, h1, h2, h3⟩
theorem Tryz.infoAc : (Tryz.prog.info? 162).map (fun i => (i.zero, i.size, i.bytes)) = some (some (acV ac0), 3, 24) := by kernel_rfl
theorem holds.emptyAcAt {w : World} {F : List HProp} {n : Nat} (hw : holds w F) (hn : w.heap.size = n) : holds (w.alloc (.cells #[] 162)) (ownAc (.slice (some ⟨n, 0, none⟩) 0 0) [] :: F) := by
  subst hn
  exact (hw.alloc (.cells #[] 162 (0, 0))).mkRow (size := 3) (n := 0) (cap := 0) (Nat.le_refl _) (Nat.zero_le _) (by simp)
theorem wpList_appendAcs {ops : Array Oper} {rest : List Oper} {o : Oper} {a : Act} {Q : Exit → Act → World → Prop} {w : World} {F : List HProp} (hg : o.guard = none) (s x : Operand)
    (hop : o.op = .call { callee := .builtin .append, args := #[s, x], argTypes := #[31, 31] })
    {v src : Value} {m : List AcM} (hs : a.eval s = v) (hw : holds w (ownAc v [] :: F)) (hx : a.eval x = src) (hr : reads w 3 src m.length (m.flatMap acL)) (hlen : m.length < 100000000)
    (hK : ∀ v' w', holds w' (ownAc v' m :: F) → wpList Tryz.prog ops Q rest (a.put o.dst v') w') : wpList Tryz.prog ops Q (o :: rest) a w := by
  obtain ⟨i0, hi, hz0, hz1, hz2⟩ := info_parts Tryz.infoAc
  refine wpList_plain hg fun K' hK' => ?_
  obtain ⟨v', w', hrun, r1⟩ := run_append_reads (P := Tryz.prog) (ty := o.type) Tryz.underlying31 hi hz0 hz1 hz2 rfl (by omega) hw hr (acs_one m) (by simp only [List.length_nil]; unfold maxLen; omega) (by simp only [List.length_nil]; omega)
  unfold Oper.wp execOp
  simp only [hop, resolve, invoke, builtin, Sem.run_bind, Sem.run_pure, Result.andThen_ok, List.map_toArray, List.map_cons, List.map_nil, hs, hx, hrun]
  refine hK' _ _ (hK v' w' ?_)
  unfold ownAc
  simpa using r1
theorem Tryz.sizeT27 : (Tryz.prog.info? 33).map (·.size) = some 5 := by kernel_rfl

theorem holds.alloc2 {w : World} {F : List HProp} (h : holds w F) (o1 o2 : Obj) : holds ((w.alloc o1).alloc o2) (blk (w.heap.size + 1) o2 :: blk w.heap.size o1 :: F) := by
  have := (h.alloc o1).alloc o2
  simp only [World.size_alloc] at this
  exact this
theorem holds.alloc3 {w : World} {F : List HProp} (h : holds w F) (o1 o2 o3 : Obj) : holds (((w.alloc o1).alloc o2).alloc o3) (blk (w.heap.size + 1 + 1) o3 :: blk (w.heap.size + 1) o2 :: blk w.heap.size o1 :: F) := by
  have := ((h.alloc o1).alloc o2).alloc o3
  simp only [World.size_alloc] at this
  exact this
theorem cells5 {w : World} {n : Nat} {T : TypeId} {x0 x1 x2 x3 x4 : Value} {F : List HProp} (h : holds w (blk n (.cells #[x0, x1, x2, x3, x4] T (0, 0)) :: F)) :
    w.cell? ⟨n, 0, none⟩ = some x0 ∧ w.cell? ⟨n, 1, none⟩ = some x1 ∧ w.cell? ⟨n, 2, none⟩ = some x2 ∧ w.cell? ⟨n, 3, none⟩ = some x3 ∧ w.cell? ⟨n, 4, none⟩ = some x4 ∧
    w.frozen? ⟨n, 0, none⟩ = false ∧ w.frozen? ⟨n, 1, none⟩ = false ∧ w.frozen? ⟨n, 2, none⟩ = false ∧ w.frozen? ⟨n, 3, none⟩ = false ∧ w.frozen? ⟨n, 4, none⟩ = false := by
  have r := h.get_blk
  exact ⟨cellAt r 0, cellAt r 1, cellAt r 2, cellAt r 3, cellAt r 4, frozen_of_row _ _ _ _ _ r, frozen_of_row _ _ _ _ _ r, frozen_of_row _ _ _ _ _ r, frozen_of_row _ _ _ _ _ r, frozen_of_row _ _ _ _ _ r⟩
theorem storeT5 {w : World} {n : Nat} {T : TypeId} {x0 x1 x2 x3 x4 : Value} {F : List HProp} (h : holds w (blk n (.cells #[x0, x1, x2, x3, x4] T (0, 0)) :: F)) (y0 y1 y2 y3 y4 : Value) :
    holds (((((w.setCell ⟨n, 0, none⟩ y0).setCell ⟨n, 1, none⟩ y1).setCell ⟨n, 2, none⟩ y2).setCell ⟨n, 3, none⟩ y3).setCell ⟨n, 4, none⟩ y4) (blk n (.cells #[y0, y1, y2, y3, y4] T (0, 0)) :: F) :=
  ((((h.setCell 0 y0).setCell 1 y1).setCell 2 y2).setCell 3 y3).setCell 4 y4
/-- The reference's value: the slots', and all accounts. -/
def tV (vo vg vc : Value) (fr : Int) (vA : Value) : Value := .agg #[vo, vg, vc, .int .i64 fr, vA]

theorem ref27_put (w : World) (a1 a2 a3 : Option Addr) (n1 c1 n2 c2 n3 c3 : Nat) (fr : Int) (vA : Value) (A : List AcM) (p : Nat) (x : AcM) (F : List HProp) (hA : A.length ≤ 1048576) (hp : p < A.length) (hw : holds w (roAc vA A :: F)) :
    Calls Tryz.prog 180 #[tV (.slice a1 n1 c1) (.slice a2 n2 c2) (.slice a3 n3 c3) fr vA, .int .i64 p, acV x] w fun e w' => ∃ vA', e = .returned (tV (.slice a1 n1 c1) (.slice a2 n2 c2) (.slice a3 n3 c3) fr vA') ∧ holds w' (roAc vA' (A.set p x) :: F) := by
  obtain ⟨a, cp, rfl, hcp⟩ := roAc_form hw
  have h1 := hw.alloc3 (.cells #[.slice a1 n1 c1, .slice a2 n2 c2, .slice a3 n3 c3, .int .i64 fr, .slice a A.length cp] 33 (0, 0)) (.cells (acCells x) 162 (0, 0)) (.cells #[.slice none 0 0, .slice none 0 0, .slice none 0 0, .int .i64 0, .slice none 0 0] 33 (0, 0))
  unfold tV acV acCells at *
  go_enter Tryz.func180, Tryz.ntmps180
  have h5 := h1.emptyAcAt (n := w.heap.size + 1 + 1 + 1) (by simp)
  have hr := holds.roReads (h5.pick 4)
  clear hw h1
  go_wp2_with (first
    | (at_builtin; refine wpList_appendAcs (m := A) rfl _ _ rfl rfl h5 rfl hr (by omega) ?_; clear hr; intro v6 w6 h6; obtain ⟨g, cap, rfl, hc1, hc2⟩ := holds.acAt h6 (by omega); obtain ⟨t0, t1, t2, t3, t4, u0, u1, u2, u3, u4⟩ := cells5 (h6.pick 3); obtain ⟨x0, x1, x2, -⟩ := ac_cells (a := x) (h6.pick 2); have h7 := (h6.pick 3).setCell 4 (.slice (some ⟨g, 0, none⟩) A.length cap); have h8 : holds _ (ownAc _ A :: blk _ _ :: blk _ _ :: blk _ _ :: roAc _ A :: F) := h7.order [1, 0, 2, 3])
    | (refine wpList_setElem acL_len rfl rfl _ _ _ rfl (acV x) x rfl rfl rfl (by kernel_rfl) (acL_one x) h8 hp ?_; clear t0 t1 t2 t3 t4 u0 u1 u2 u3 u4 x0 x1 x2; intro w9 h9; obtain ⟨t0, t1, t2, t3, t4, -⟩ := cells5 (h9.pick 1); obtain ⟨r0, r1, r2, r3, r4, f0, f1, f2, f3, f4⟩ := cells5 (h9.pick 2)))
  have h10 := storeT5 (h9.pick 2) (.slice a1 n1 c1) (.slice a2 n2 c2) (.slice a3 n3 c3) (.int .i64 fr) (.slice (some ⟨g, 0, none⟩) A.length cap)
  have h11 : holds _ (blk _ _ :: ownAc (.slice (some ⟨g, 0, none⟩) A.length cap) (A.set p x) :: _) := h10
  refine bodyPost_ret (v := tV (.slice a1 n1 c1) (.slice a2 n2 c2) (.slice a3 n3 c3) fr (.slice (some ⟨g, 0, none⟩) A.length cap)) ?_ rfl ⟨_, rfl, (holds.shareAc h11.tail).sel 4 [0]⟩
  exact results_row Tryz.results180 _ _ (w.heap.size + 1 + 1) _ _ _ _ rfl h10.get_blk Tryz.underlying33 rfl Tryz.sizeT27

/-- The reference's state: the slots, and the accounts of all places. -/
def Accs.get (s : SlotsM) (A : List AcM) (p g : Int) : AcM × Int := if s.right p g then (A.getD p.toNat ac0, 0) else (ac0, 4)
theorem ref27_Get (w : World) (vo vg vc vA : Value) (s : SlotsM) (A : List AcM) (p g : Int) (F : List HProp) (hok : s.ok) (hA : A.length = s.gens.length) (hl : A.length ≤ 1048576) (hw : holds w (roBools vo (openBools s) :: roInts vg s.gens :: roInts vc s.closed :: roAc vA A :: F)) :
    Calls Tryz.prog 187 #[tV vo vg vc s.fresh vA, .int .i64 p, .int .i64 g] w fun e w' => e = .returned (acR (Accs.get s A p g)) ∧ holds w' (roBools vo (openBools s) :: roInts vg s.gens :: roInts vc s.closed :: roAc vA A :: F) := by
  obtain ⟨a, cp, rfl, hcp⟩ := roAc_form (hw.pick 3)
  have h1 := hw.alloc2 (.cells #[vo, vg, vc, .int .i64 s.fresh, .slice a A.length cp] 33 (0, 0)) (.cells (acCells ac0) 162 (0, 0))
  have h2 : holds _ (roBools vo (openBools s) :: roInts vg s.gens :: roInts vc s.closed :: blk (w.heap.size + 1) (.cells (acCells ac0) 162 (0, 0)) :: blk w.heap.size (.cells #[vo, vg, vc, .int .i64 s.fresh, .slice a A.length cp] 33 (0, 0)) :: roAc (.slice a A.length cp) A :: F) := h1.order [2, 3, 4, 0, 1]
  have H := Lib.hid (rs_Right _ vo vg vc s p g _ hok h2)
  have HR := Lib.hid (fun h => SlotsM.right_open (s := s) (p := p) (g := g) hok h)
  unfold Accs.get
  cases hr : s.right p g with
  | false =>
    rw [if_neg (by simp)]
    rw [hr] at H
    clear hr HR hok hA
    unfold tV acCells ac0 at *
    go_enter Tryz.func187, Tryz.ntmps187
    go_wp2_with fail
    refine H.out.mono ?_
    rintro e w1 ⟨rfl, h3⟩
    obtain ⟨r0, r1, r2, f0, f1, f2⟩ := ac_cells (a := ac0) (h3.pick 3)
    go_wp2_with fail
    have h5 := storeAc (a := ac0) (h3.pick 3) ac0
    have h6 : holds _ (blk _ _ :: roBools vo (openBools s) :: roInts vg s.gens :: roInts vc s.closed :: blk w.heap.size _ :: roAc (.slice a A.length cp) A :: F) := h5
    refine bodyPost_ret (v := acR (ac0, 4)) ?_ rfl ⟨rfl, h6.sel 6 [1, 2, 3, 5]⟩
    exact results_row_tmp Tryz.results187 _ _ (w.heap.size + 1) _ _ _ _ _ rfl rfl h5.get_blk Tryz.underlying162 rfl Tryz.sizeAc
  | true =>
    rw [if_pos rfl]
    rw [hr] at H
    obtain ⟨_, p0, p1, _⟩ := HR.out hr
    obtain ⟨k, rfl⟩ := Int.eq_ofNat_of_zero_le p0
    have hk : k < A.length := by omega
    rw [show A.getD (k : Int).toNat ac0 = A[k] by simp [hk]]
    clear hr HR hok hA p0 p1
    unfold tV acCells ac0 at *
    go_enter Tryz.func187, Tryz.ntmps187
    go_wp2_with fail
    refine H.out.mono ?_
    rintro e w1 ⟨rfl, h3⟩
    obtain ⟨r0, r1, r2, f0, f1, f2⟩ := ac_cells (a := ac0) (h3.pick 3)
    obtain ⟨_, _, _, _, t4, -⟩ := cells5 (h3.pick 4)
    obtain ⟨ga, oa, ca, hv, _, hc⟩ := (h3.pick 5).roAcAt (by omega)
    cases hv
    obtain ⟨k0, k1, k2⟩ := hc k hk
    clear hc
    go_wp2_with fail
    have h5 := storeAc (a := ac0) (h3.pick 3) A[k]
    have h6 : holds _ (blk _ _ :: roBools vo (openBools s) :: roInts vg s.gens :: roInts vc s.closed :: blk w.heap.size _ :: roAc _ A :: F) := h5
    refine bodyPost_ret (v := acR (A[k], 0)) ?_ rfl ⟨rfl, h6.sel 6 [1, 2, 3, 5]⟩
    exact results_row_tmp Tryz.results187 _ _ (w.heap.size + 1) _ _ _ _ _ rfl rfl h5.get_blk Tryz.underlying162 rfl Tryz.sizeAc
end Go.Proofs.YtfiggkbclldccaaGreat
