/- Contracts of strings.Builder. -/
import Derived.Test.YtpkohkkkbnfigaaDoorStrT
import Derived.Lib.Builder
import Derived.Lib.AppendStr
import Derived.Shelf.Strings.Builder1
namespace Go.Proofs.YtpkohkkkbnfigaaDoor
open Go Go.RowKit Go.MapKept
set_option maxRecDepth 100000
set_option linter.unusedVariables false

def bld (b : Nat) (p : Option Addr) (v : Value) : HProp := blk b (.cells #[.pointer p, v] 110 (0, 0))
theorem bld_cells {w : World} {F : List HProp} {b : Nat} {p : Option Addr} {v : Value} (h : holds w (bld b p v :: F)) : w.cell? ⟨b, 0, none⟩ = some (.pointer p) ∧ w.cell? ⟨b, 1, none⟩ = some v ∧ w.frozen? ⟨b, 0, none⟩ = false ∧ w.frozen? ⟨b, 1, none⟩ = false := by
  have h : holds w (blk b _ :: F) := h
  exact ⟨cellAt h.get_blk 0, cellAt h.get_blk 1, frozen_of_row w b 0 _ _ h.get_blk, frozen_of_row w b 1 _ _ h.get_blk⟩
theorem wpList_appB {ops : Array Oper} {rest : List Oper} {o : Oper} {a : Act} {Q : Exit → Act → World → Prop} {w : World} {G : List HProp} (hg : o.guard = none) (s x : Operand)
    (hop : o.op = .call { callee := .builtin .append, args := #[s, x], argTypes := #[108, 108] })
    {v : Value} {l m : List UInt8} {nb cap : Nat} (hs : a.eval s = v) (hw : holds w (ownB v l :: G)) (hx : a.eval x = .slice (some ⟨nb, 0, none⟩) m.length cap) (hr : reads w 1 (.slice (some ⟨nb, 0, none⟩) m.length cap) m.length (m.map u8v)) (hl : l.length + m.length ≤ 1000000000)
    (hK : ∀ v' w', holds w' (ownB v' (l ++ m) :: G) → wpList Tryd.prog ops Q rest (a.put o.dst v') w') : wpList Tryd.prog ops Q (o :: rest) a w := by
  obtain ⟨i0, hi, hz0, hz1, hz2⟩ := info_parts Tryd.infoU8
  refine wpList_plain hg fun K' hK' => ?_
  obtain ⟨v', w', hrun, r1⟩ := run_append_reads (P := Tryd.prog) (ty := o.type) Tryd.underlying108 hi hz0 hz1 hz2 rfl (by omega) hw hr (by simp [u8v, Value.oneCell']) (by unfold maxLen; omega) (by omega)
  unfold Oper.wp execOp
  simp only [hop, resolve, invoke, builtin, Sem.run_bind, Sem.run_pure, Result.andThen_ok, List.map_toArray, List.map_cons, List.map_nil, hs, hx, hrun]
  refine hK' _ _ (hK v' w' ?_)
  unfold ownB
  rw [List.length_append, List.map_append]
  exact r1

theorem Tryd.sizeBld : (Tryd.prog.info? 110).map (·.size) = some 2 := by kernel_rfl
theorem Tryd.liesBld : liesAt Tryd.prog Tryd.prog.depth 110 (2 / Tryd.prog.cellsOf 110) 0 110 1 = true := by kernel_rfl
theorem Tryd.cellsU8 : Tryd.prog.cellsOf 5 = 1 := by kernel_rfl
theorem bld_copyCheck (w : World) (b : Nat) (p : Option Addr) (v : Value) (F : List HProp) (hp : p = none ∨ p = some ⟨b, 0, none⟩) (hw : holds w (bld b p v :: F)) :
    Calls Tryd.prog 105 #[.pointer (some ⟨b, 0, none⟩)] w fun e w' => e = .returned (.tuple #[]) ∧ holds w' (bld b (some ⟨b, 0, none⟩) v :: F) := by
  obtain ⟨c0, c1, f0, f1⟩ := bld_cells hw
  obtain ⟨j, hj, hjs⟩ := Option.map_eq_some_iff.1 Tryd.sizeBld
  have hsh : w.shape? b = some (110, 2) := by
    have h : holds w (blk b _ :: F) := hw
    simp [World.shape?, h.get_blk]
  rcases hp with rfl | rfl
  · go_enter Tryd.func105, Tryd.ntmps105
    go_wp2
    rw [Lib.run_to_unsafe (P := Tryd.prog) w ⟨b, 0, none⟩ Tryd.underlying107 Tryd.underlying149 hj (by rw [hjs]; decide) hsh (Nat.zero_lt_succ 1)]
    simp only [Result.andThen]
    rw [Oper.upon_value]
    go_wp2
    rw [run_callFunc_extern Tryd.func125 (by kernel_rfl) (by kernel_rfl) (by kernel_rfl) (e := Extern.AbiNoEscape.same) (by kernel_rfl)]
    rw [Lib.run_noEscape]
    simp only [Result.andThen]
    rw [Oper.upon_value]
    go_wp2
    rw [Lib.run_from_unsafe (P := Tryd.prog) w ⟨b, 0, none⟩ Tryd.underlying149 Tryd.underlying107 hj hsh Tryd.liesBld]
    simp only [Result.andThen]
    rw [Oper.upon_value]
    go_wp2
    go_end0
    exact ⟨rfl, (show holds w (blk b _ :: F) from hw).setCell 0 _⟩
  · go_enter Tryd.func105, Tryd.ntmps105
    have hne := Lib.run_neq_ptr_same (P := Tryd.prog) w ⟨b, 0, none⟩ Tryd.underlying107 hj
    go_wp2
    go_end0
    exact ⟨rfl, hw⟩
theorem bld_WriteByte (w : World) (b : Nat) (p : Option Addr) (v : Value) (l : List UInt8) (c : UInt8) (F : List HProp) (hp : p = none ∨ p = some ⟨b, 0, none⟩) (hl : l.length ≤ 100000000) (hw : holds w (bld b p v :: ownB v l :: F)) :
    Calls Tryd.prog 97 #[.pointer (some ⟨b, 0, none⟩), u8v c] w fun e w' => e = .returned .nilIface ∧ ∃ v', holds w' (bld b (some ⟨b, 0, none⟩) v' :: ownB v' (l ++ [c]) :: F) := by
  unfold u8v
  go_enter Tryd.func97, Tryd.ntmps97
  go_wp2_with fail
  refine (bld_copyCheck _ b p v _ hp hw).mono ?_
  rintro e w1 ⟨rfl, h1⟩
  obtain ⟨c0, c1, f0, f1⟩ := bld_cells h1
  have hb := h1.alloc (.cells #[.int .u8 (c.toNat : Int)] 5 (0, 0))
  go_wp2_with (at_builtin; refine wpList_appB (m := [c]) (cap := 1) rfl _ _ rfl rfl (hb.sel 3 [2, 1]) rfl (blk_reads hb 1 1 1 rfl (Nat.le_refl _)) (by simp; omega) ?_; clear c0 c1 f0 f1; intro v4 w4 h4; obtain ⟨a4, p4, hv4⟩ := ownB_form h4; rw [List.length_append] at hv4; subst hv4; obtain ⟨c0, c1, f0, f1⟩ := bld_cells (h4.pick 1))
  go_ret
  have h5 : holds w4 (blk b _ :: ownB (.slice a4 (l.length + 1) p4) (l ++ [c]) :: F) := h4.order [1, 0]
  exact ⟨rfl, .slice a4 (l.length + 1) p4, h5.setCell 1 (.slice a4 (l.length + 1) p4)⟩

theorem strCells_bs (m : List UInt8) : Lib.strCells (bs m) = m.map u8v := by
  simp [Lib.strCells, bs, u8v]
theorem run_append_str {w : World} {G : List HProp} {v : Value} {l : List UInt8} (hw : holds w (ownB v l :: G)) (m : List UInt8) (hl : l.length + m.length ≤ 100000000) (ty : TypeId) :
    ∃ v' w', (Builtin.append_ #[108, 9] ty #[v, .string (bs m)]).run Tryd.prog w = .ok v' w' ∧ holds w' (ownB v' (l ++ m) :: G) := by
  obtain ⟨i, hi, hz, hsize, hby⟩ := info_parts Tryd.infoU8
  have ht := Tryd.underlying108
  have hu := Tryd.underlying9
  have hms := bs_size m
  have hsc := strCells_bs m
  have hmx : maxLen = 9223372036854775807 := rfl
  obtain ⟨hlx, ha⟩ := holds.open_own hw
  have grown : ∀ (old : Nat), old < l.length + m.length → holds w G →
      holds (w.drew.alloc (.cells ((l.map u8v).toArray ++ (m.map u8v).toArray ++ Builtin.zeroCells (Value.int .u8 0).cells (grownCap w (l.length + m.length) old 5 - (l.length + m.length))) 5))
        (ownB (.slice (some ⟨w.heap.size, 0, none⟩) (l.length + m.length) (grownCap w (l.length + m.length) old 5)) (l ++ m) :: G) := by
    intro old ho hh
    have hge := grownCap_ge w (l.length + m.length) old 5
    have hcm : grownCap w (l.length + m.length) old 5 ≤ maxLen := grownCap_le_maxLen w (l.length + m.length) old 5 (by omega)
    have h2 := (hh.drew.alloc (.cells ((l.map u8v).toArray ++ (m.map u8v).toArray ++ Builtin.zeroCells (Value.int .u8 0).cells (grownCap w (l.length + m.length) old 5 - (l.length + m.length))) 5 (0, 0))).mkRow (size := 1) (n := l.length + m.length) (cap := grownCap w (l.length + m.length) old 5) hge hcm (by
      have hz1 : (Value.int IntKind.u8 0).cells.size = 1 := rfl
      simp only [Array.size_append, List.size_toArray, madeSize, hz1, List.length_map]
      omega)
    have h3 : ((l.map u8v).toArray ++ (m.map u8v).toArray ++ Builtin.zeroCells (Value.int .u8 0).cells (grownCap w (l.length + m.length) old 5 - (l.length + m.length))).toList.take ((l.length + m.length) * 1) = (l ++ m).map u8v := by
      simp only [Array.toList_append, List.map_append]
      have : (l.map u8v ++ m.map u8v).length = (l.length + m.length) * 1 := by simp
      rw [← this]
      exact List.take_left
    rw [h3] at h2
    unfold ownB
    rw [List.length_append]
    exact h2
  rcases ha with ⟨rfl, hl0, hx, hh⟩ | ⟨g, cap, cur, rfl, hnc, hcm, hcs, htake, hb⟩
  · have hl' : l = [] := List.eq_nil_of_length_eq_zero hl0
    subst hl'
    by_cases hm : m = []
    · subst hm
      refine ⟨.slice none 0 0, w, ?_, hw⟩
      have hf := Lib.run_firstCells_string (P := Tryd.prog) w 1 (bs [])
      rw [show (bs []).size = 0 from rfl] at hf
      simp [Builtin.append_, run_underlying ht, run_underlying hu, sizeOf, typeInfo, hi, hsize, Builtin.lenOf, hf, show (bs []).size = 0 from rfl]
    · have hpos : 0 < m.length := by cases m with | nil => exact absurd rfl hm | cons a t => simp
      have hr := run_append_nil_string (P := Tryd.prog) w 108 9 ty 5 i (.int .u8 0) ht hu hi hz (bs m) (by omega) (by omega) (by rw [hby]; omega)
      have hgr := grown 0 (by simpa using hpos) hh
      have e1 : ((bs m).data.map fun b => Value.int .u8 b.toNat) = (m.map u8v).toArray := by
        simp [bs, u8v]
      rw [e1, hms] at hr
      simp only [List.length_nil, Nat.zero_add, List.nil_append, List.map_nil, Array.empty_append] at hgr
      exact ⟨_, _, hr, hgr⟩
  · have hcs' : cur.size = cap := by simpa using hcs
    by_cases hroom : l.length + m.length ≤ cap
    · have hr := Lib.run_append_room_string (P := Tryd.prog) w 108 9 ty 5 i ht hu hi hsize g l.length cap cur hb.get_blk (bs m) (by omega) (by omega)
      rw [hms, hsc] at hr
      refine ⟨_, _, hr, ?_⟩
      have h2 := hb.turn (w' := w.setRow g (cur.toList.take l.length ++ m.map u8v ++ cur.toList.drop (l.length + m.length)).toArray) ⟨rfl, rfl, rfl, by simp, fun k _ hk => setRow_other w g k _ (fun e => hk (by simp [e]))⟩ (setRow_heap w g cur _ 5 _ hb.get_blk)
      have h3 := h2.mkRow (size := 1) (n := l.length + m.length) (cap := cap) hroom hcm (by
        simp only [List.size_toArray, List.length_append, List.length_take, List.length_drop, Array.length_toList, List.length_map]
        omega)
      have h4 : ((cur.toList.take l.length ++ m.map u8v ++ cur.toList.drop (l.length + m.length)).toArray).toList.take ((l.length + m.length) * 1) = (l ++ m).map u8v := by
        have ht' : cur.toList.take l.length = l.map u8v := by simpa using htake
        rw [ht']
        have : (l.map u8v ++ m.map u8v).length = (l.length + m.length) * 1 := by simp
        rw [List.map_append, ← this]
        exact List.take_left
      rw [h4] at h3
      unfold ownB
      rw [List.length_append]
      exact h3
    · have hold : ∀ j u, (l.map u8v)[j]? = some u → w.cell? ((⟨g, 0, none⟩ : Addr).add j) = some u := by
        intro j u hu
        have hadd : (⟨g, 0, none⟩ : Addr).add j = ⟨g, j, none⟩ := by unfold Addr.add; split <;> simp_all
        rw [hadd, cellAt hb.get_blk]
        rw [← htake, List.getElem?_take] at hu
        split at hu
        · simpa using hu
        · cases hu
      have hr := Lib.run_append_grow_string (P := Tryd.prog) w 108 9 ty 5 i (.int .u8 0) ht hu hi hz ⟨g, 0, none⟩ l.length cap (l.map u8v) (by rw [hsize]; simp) hold (bs m) (by omega) (by omega) (by rw [hby]; exact growslice_fits (by omega) (by omega))
      rw [hms, hsc] at hr
      exact ⟨_, _, hr, grown cap (by omega) hb.tail⟩
theorem wpList_appStr {ops : Array Oper} {rest : List Oper} {o : Oper} {a : Act} {Q : Exit → Act → World → Prop} {w : World} {G : List HProp} (hg : o.guard = none) (s x : Operand)
    (hop : o.op = .call { callee := .builtin .append, args := #[s, x], argTypes := #[108, 9] })
    {v : Value} {l m : List UInt8} (hs : a.eval s = v) (hw : holds w (ownB v l :: G)) (hx : a.eval x = .string (bs m)) (hl : l.length + m.length ≤ 100000000)
    (hK : ∀ v' w', holds w' (ownB v' (l ++ m) :: G) → wpList Tryd.prog ops Q rest (a.put o.dst v') w') : wpList Tryd.prog ops Q (o :: rest) a w := by
  refine wpList_plain hg fun K' hK' => ?_
  obtain ⟨v', w', hrun, r1⟩ := run_append_str hw m hl o.type
  unfold Oper.wp execOp
  simp only [hop, resolve, invoke, builtin, Sem.run_bind, Sem.run_pure, Result.andThen_ok, List.map_toArray, List.map_cons, List.map_nil, hs, hx, hrun]
  exact hK' _ _ (hK v' w' r1)
theorem bld_WriteString (w : World) (b : Nat) (p : Option Addr) (v : Value) (l m : List UInt8) (F : List HProp) (hp : p = none ∨ p = some ⟨b, 0, none⟩) (hl : l.length + m.length ≤ 100000000) (hw : holds w (bld b p v :: ownB v l :: F)) :
    Calls Tryd.prog 84 #[.pointer (some ⟨b, 0, none⟩), .string (bs m)] w fun e w' => e = .returned (.tuple #[.int .i64 m.length, .nilIface]) ∧ ∃ v', holds w' (bld b (some ⟨b, 0, none⟩) v' :: ownB v' (l ++ m) :: F) := by
  have q3 := bs_size m
  go_enter Tryd.func84, Tryd.ntmps84
  go_wp2_with fail
  refine (bld_copyCheck _ b p v _ hp hw).mono ?_
  rintro e w1 ⟨rfl, h1⟩
  obtain ⟨c0, c1, f0, f1⟩ := bld_cells h1
  go_wp2_with (at_builtin; refine wpList_appStr rfl _ _ rfl rfl (h1.pick 1) rfl hl ?_; clear c0 c1 f0 f1; intro v4 w4 h4; obtain ⟨a4, p4, hv4⟩ := ownB_form h4; rw [List.length_append] at hv4; subst hv4; obtain ⟨c0, c1, f0, f1⟩ := bld_cells (h4.pick 1))
  go_ret2
  have h5 : holds w4 (blk b _ :: ownB (.slice a4 (l.length + m.length) p4) (l ++ m) :: F) := h4.order [1, 0]
  exact ⟨rfl, .slice a4 (l.length + m.length) p4, h5.setCell 1 (.slice a4 (l.length + m.length) p4)⟩
theorem holds.freezeRow {w : World} {G : List HProp} {g : Nat} {o : Obj} (h : holds w (blk g o :: G)) (p : Addr) (hp : p.block = g) (n : Nat) : holds (w.freeze p n) G := by
  by_cases hn : n = 0
  · subst hn
    have : w.freeze p 0 = w := by simp [World.freeze]
    rw [this]
    exact h.tail
  · have hsz : (w.freeze p n).heap.size = w.heap.size := by simp [World.freeze, hn]
    obtain ⟨o', ho⟩ : ∃ o', (w.freeze p n).heap[g]? = some o' := ⟨_, Array.getElem?_eq_getElem (by rw [hsz]; exact h.lt)⟩
    refine (h.turn (w' := w.freeze p n) ⟨by simp [World.freeze, hn], by simp [World.freeze, hn], by simp [World.freeze, hn], by rw [hsz]; exact Nat.le_refl _, fun k _ hk => ?_⟩ ho).tail
    have : p.block ≠ k := fun e => hk (by rw [← e, hp])
    simp [World.freeze, hn, Array.getElem?_modify, this]
set_option maxHeartbeats 2000000 in
theorem bld_String (w : World) (b : Nat) (p : Option Addr) (v : Value) (l : List UInt8) (F : List HProp) (hne : l ≠ []) (hl : l.length ≤ 100000000) (hw : holds w (bld b p v :: ownB v l :: F)) :
    Calls Tryd.prog 85 #[.pointer (some ⟨b, 0, none⟩)] w fun e w' => e = .returned (.string (bs l)) ∧ holds w' F := by
  have hl0 : l.length ≠ 0 := by cases l with | nil => exact absurd rfl hne | cons a t => simp
  rcases (holds.open_own (hw.pick 1)).2 with ⟨_, h0, _⟩ | ⟨g, cap, cur, rfl, hnc, hcm, hcs, htake, hb⟩
  · exact absurd h0 hl0
  · have hb : holds w (blk g (.cells cur 5 (0, 0)) :: bld b p (.slice (some ⟨g, 0, none⟩) l.length cap) :: F) := hb
    obtain ⟨c0, c1, f0, f1⟩ := bld_cells (hb.pick 1)
    have c1 : w.drew.cell? ⟨b, 1, none⟩ = some (.slice (some ⟨g, 0, none⟩) l.length cap) := c1
    have hg := hb.get_blk
    have hmx : maxLen = 9223372036854775807 := rfl
    have hSD : (Builtin.unsafeSliceData_ #[108] 126 #[.slice (some ⟨g, 0, none⟩) l.length cap]).run Tryd.prog w.drew = .ok (.pointer (some ⟨g, 0, none⟩)) w.drew :=
      Lib.run_unsafeSliceData_row _ _ _ _ _ _ (by omega)
    have hUS : (Builtin.unsafeString_ #[126, 3] 9 #[.pointer (some ⟨g, 0, none⟩), .int .i64 l.length]).run Tryd.prog w.drew = .ok (.string (bs l)) (w.drew.freeze ⟨g, 0, none⟩ l.length) := by
      refine Lib.run_unsafeString_row w.drew 126 3 9 5 Tryd.underlying126 Tryd.cellsU8 g cur.size (by have hg' : w.drew.heap[g]? = some (.cells cur 5 (0, 0)) := hg; simp [World.shape?, hg']) l hne (by omega) (by omega) ?_
      intro j x hx
      have : (⟨g, 0, none⟩ : Addr).add j = ⟨g, j, none⟩ := by unfold Addr.add; split <;> simp_all
      rw [this]
      have hg' : w.drew.heap[g]? = some (.cells cur 5 (0, 0)) := hg
      rw [cellAt hg']
      have h1 := congrArg (fun t => t[j]?) htake
      have hj : j < l.length := (List.getElem?_eq_some_iff.1 hx).1
      simp only [List.getElem?_take, List.getElem?_map, hx, Option.map_some, Nat.mul_one, if_pos hj, Array.getElem?_toList] at h1
      exact h1
    have hfr : holds (w.drew.freeze ⟨g, 0, none⟩ l.length) F := ((hb.drew.freezeRow (⟨g, 0, none⟩ : Addr) rfl l.length)).tail
    have mixed : Tryd.prog.follows .mixedOrders = true := by kernel_rfl
    go_enter Tryd.func85, Tryd.ntmps85
    go_wp2
    go_region_o
    all_goals (go_wp2; go_ret; exact ⟨rfl, hfr⟩)
end Go.Proofs.YtpkohkkkbnfigaaDoor
