/- make of a row, and copy onto one. -/
import Derived.Test.YtpkohkkkbnfigaaDoorGoHof
import Derived.Laws.CopyRow
namespace Go.Proofs.YtpkohkkkbnfigaaDoor
open Go Go.RowKit Go.MapKept
set_option linter.unusedVariables false
set_option linter.unusedSectionVars false
set_option linter.unusedSimpArgs false

theorem made_flat {α : Type} {enc : α → List Value} {m : Nat} [he : Enc enc m] (z0 : α) {z : Array Value} (hz : z.toList = enc z0) (a b : Nat) (hab : a ≤ b) :
    (madeCells z (b * m)).toList.take (a * m) = (List.replicate a z0).flatMap enc := by
  have hm := he.pos
  have hzs : z.size = m := by rw [← Array.length_toList, hz, he.len]
  have hle : a * m ≤ b * m := Nat.mul_le_mul_right _ hab
  have hfl : ((List.replicate a z0).flatMap enc).length = a * m := by rw [Enc.flat_len, List.length_replicate]
  apply List.ext_getElem?
  intro j
  by_cases hj : j < a * m
  · rw [List.getElem?_take, if_pos hj]
    have h1 : j / m < a := (Nat.div_lt_iff_lt_mul hm).2 hj
    have h2 : j % m < m := Nat.mod_lt _ hm
    have h3 := Enc.flat_at (enc := enc) (n := m) (List.replicate a z0) (j / m) (by simpa using h1) (j % m) h2
    have h4 : j / m * m + j % m = j := by rw [Nat.mul_comm]; exact Nat.div_add_mod j m
    rw [h4] at h3
    rw [h3, List.getElem_replicate, ← hz]
    unfold madeCells
    simp only [Array.toList_map, Array.toList_range, List.getElem?_map, List.getElem?_range (show j < b * m by omega), Option.map_some, hzs]
    rw [Array.getElem?_toList, Array.getElem?_eq_getElem (by rw [hzs]; exact h2)]
    congr 1
    exact getElem!_pos z (j % m) (by rw [hzs]; exact h2)
  · rw [List.getElem?_eq_none (by rw [List.length_take]; omega), List.getElem?_eq_none (by rw [hfl]; omega)]
section
variable {α : Type} {enc : α → List Value} {m : Nat} {F : List HProp} {P : Program} {n : Nat} {Q : Exit → Act → World → Prop} {env : Env} {ops : Array Oper} {rest : List Oper} {d : Tmp} {ty : TypeId} {pos : String} {aft : Array Edge}
/-- A field of a struct inside an element. -/
theorem Runs.loadRow2 {t : TypeId} {x : Operand} {v u : Value} {i f g : Nat} {l : List α} [CellT P t] [he : Enc enc m] (hx : opnd env x = some (.pointer (some ⟨rowB v, rowO v + i * m + f + g, none⟩))) [hr : Reads F v enc m l] (hi : i < l.length) (hu : nthL (enc l[i]) (f + g) = some u) :
    Runs P n env F (.load t x) u := Runs.loadRow (f := f + g) (by rw [hx, Nat.add_assoc]) hi hu
/-- 'make([]T, a, b)'. -/
theorem GL.makeSl {t e : TypeId} {x y : Operand} {size bytes : Nat} {z : Value} {i c : Int} (enc : α → List Value) [he : Enc enc m] (z0 : α) (a b : Nat) [ht : SliceT P t e size] [hz : ZeroT P e z m bytes] (hz0 : z.cells.toList = enc z0) (hx : opnd env x = some (.int .i64 i)) (hy : opnd env y = some (.int .i64 c)) (hi : i = (a : Int)) (hc : c = (b : Int)) (hab : a ≤ b) (hb : bytes * b ≤ 281474976710656) (h63 : b ≤ maxLen) (hd : Nat.blt d n = true)
    (h : ∀ g, GL P n ops Q rest ((d, .slice (some ⟨g, 0, none⟩) a b) :: env) (owns e enc m (.slice (some ⟨g, 0, none⟩) a b) (List.replicate a z0) :: F)) : GL P n ops Q (⟨some d, .makeSlice t x y, ty, pos, aft, none⟩ :: rest) env F := .mk fun ac w hf hw => by
  subst hi hc
  obtain ⟨it, g1, g2, g3⟩ := ht.ok
  obtain ⟨iz, k1, k2, k3, k4, k5⟩ := hz.ok
  refine wpList_plain rfl fun K hK => ?_
  unfold Oper.wp
  have hb' : (iz.bytes : Int) * (b : Int) ≤ 281474976710656 := by
    rw [k4]
    have h1 : ((bytes * b : Nat) : Int) ≤ 281474976710656 := by omega
    rwa [Int.natCast_mul] at h1
  have h63' : (b : Int) ≤ 9223372036854775807 := by
    have h1 := h63
    simp [maxLen] at h1
    omega
  obtain ⟨hr, hh⟩ := run_make_sl (P := P) (t := t) (e := e) (size := m) g1 k1 k2 k3 hw .i64 .i64 (x := a) (c := b) (by omega) (by omega) hb' h63'
  simp only [Int.toNat_natCast] at hr hh
  have hr2 : (execOp ac.eval ⟨some d, .makeSlice t x y, ty, pos, aft, none⟩).run P w = .ok (.value (.slice (some ⟨w.heap.size, 0, none⟩) a b)) (w.alloc (.cells (madeCells z.cells (b * m)) e)) := by
    simp [execOp, hf.eval hx, hf.eval hy, hr, Result.andThen]
  rw [hr2]
  refine hK _ _ (h _ _ _ (hf.put hd _) ?_)
  rw [made_flat z0 hz0 a b hab] at hh
  have e1 : owns e enc m (.slice (some ⟨w.heap.size, 0, none⟩) a b) (List.replicate a z0) = ownRow e m (.slice (some ⟨w.heap.size, 0, none⟩) a b) a ((List.replicate a z0).flatMap enc) := by
    unfold owns; rw [List.length_replicate]
  rw [e1]; exact hh
/-- len of a slice that is told. -/
theorem Runs.lenLit {t e : TypeId} {x : Operand} {ad : Option Addr} {k c size : Nat} [ht : SliceT P t e size] (hx : opnd env x = some (.slice ad k c)) : Runs P n env F (.call { callee := .builtin .len, args := #[x], argTypes := #[t] }) (.int .i64 k) := .mk fun a w ty pos aft g d hf hw => by
  obtain ⟨i, h1, h2, h3⟩ := ht.ok
  simp [execOp, resolve, invoke, builtin, Builtin.len_, hf.eval hx, run_underlying h1, goInt, Result.andThen]
/-- s[i:j:len(s)]. -/
theorem Runs.slice3M {t e : TypeId} {x y z u : Operand} {v : Value} {size : Nat} {l : List α} {i j c : Int} (a b : Nat) [ht : SliceT P t e size] [he : Enc enc m] [hr : Reads F v enc m l] (hm : m = size) (hx : opnd env x = some v) (hlo : opnd env y = some (.int .i64 i)) (hhi : opnd env z = some (.int .i64 j)) (hmx : opnd env u = some (.int .i64 c)) (hi : i = (a : Int)) (hj : j = (b : Int)) (hc : c = (l.length : Int)) (hab : a ≤ b) (hbl : b ≤ l.length) :
    Runs P n env F (.slice t x (some y) (some z) (some u)) (subV v a b (some l.length) m) := .mk fun ac w ty pos aft g' d hf hw => by
  subst hm hi hj hc
  obtain ⟨it, g1, g2, g3⟩ := ht.ok
  obtain ⟨ad, cap, rfl, hcap⟩ := (hr.at_ w hw).form
  have h4 : a ≤ l.length := by omega
  have hsl : (Instr.sliceBounds true l.length cap (some (.int .i64 a)) (some (.int .i64 b)) (some (.int .i64 l.length))).run P w = .ok (a, b, l.length) w := by
    simp [Instr.sliceBounds, Instr.sliceBound, asIntOf, hab, hbl, hcap, h4, Result.andThen]
  simp [execOp, hf.eval hx, hf.eval hlo, hf.eval hhi, hf.eval hmx, Instr.sliceAt, run_underlying g1, Instr.slice, hsl, sizeOf, typeInfo, g2, g3, subV, Result.andThen]
/-- A slice up to beyond one's own length. -/
theorem Runs.sliceUp {t e : TypeId} {x y z : Operand} {g n' L cap size m : Nat} {i j : Int} (a : Nat) [ht : SliceT P t e size] (hm : m = size) (hx : opnd env x = some (.slice (some ⟨g, 0, none⟩) n' cap)) (hlo : opnd env y = some (.int .i64 i)) (hhi : opnd env z = some (.int .i64 j)) (hi : i = (a : Int)) (hj : j = (L : Int)) (hab : (a ≤ L ∧ L ≤ L) ∧ ((none : Option Nat) = none ∨ (none : Option Nat) = some L)) (hLc : L ≤ cap) :
    Runs P n env F (.slice t x (some y) (some z) none) (secV (.slice (some ⟨g, 0, none⟩) L cap) a L none L m hab) := .mk fun ac w ty pos aft g' d hf hw => by
  subst hm hi hj
  obtain ⟨it, g1, g2, g3⟩ := ht.ok
  have h1 : a ≤ L := hab.1.1
  have h4 : a ≤ cap := by omega
  have hsl : (Instr.sliceBounds true n' cap (some (.int .i64 a)) (some (.int .i64 L)) none).run P w = .ok (a, L, cap) w := by
    simp [Instr.sliceBounds, Instr.sliceBound, asIntOf, h1, hLc, h4, Result.andThen]
  simp [execOp, hf.eval hx, hf.eval hlo, hf.eval hhi, Instr.sliceAt, run_underlying g1, Instr.slice, hsl, sizeOf, typeInfo, g2, g3, secV, subV, Result.andThen]
/-- append of a row's end onto its front: what slices.Delete does. -/
theorem GL.appendDel {t e T : TypeId} {x y : Operand} {v : Value} {size i j : Nat} {l : List α} {F' : List HProp} {h1 : (0 ≤ i ∧ i ≤ l.length) ∧ ((none : Option Nat) = none ∨ (none : Option Nat) = some i)} {h2 : (j ≤ l.length ∧ l.length ≤ l.length) ∧ ((none : Option Nat) = none ∨ (none : Option Nat) = some l.length)} [ht : SliceT P t e size] [he : Enc enc m] (hm : m = size) (hT : T = e) (hij : i ≤ j) (hl0 : 0 < l.length)
    (hx : opnd env x = some (secV v 0 i none l.length m h1)) (hy : opnd env y = some (secV v j l.length none l.length m h2)) [hr : HasOwn F v T enc m l F'] (hd : Nat.blt d n = true)
    (h : ∀ g cap, v = .slice (some ⟨g, 0, none⟩) l.length cap → l.length ≤ cap → GL P n ops Q rest ((d, .slice (some ⟨g, 0, none⟩) (i + (l.length - j)) cap) :: env) (owns T enc m v (l.take i ++ l.drop j ++ l.drop (l.length - (j - i))) :: F')) :
    GL P n ops Q (⟨some d, .call { callee := .builtin .append, args := #[x, y], argTypes := #[t, t] }, ty, pos, aft, none⟩ :: rest) env F := .mk fun a w hf hw => by
  subst hm hT
  refine wpList_plain rfl fun K hK => ?_
  have hw1 := hw.perm hr.perm
  obtain ⟨it, g1, g2, g3⟩ := ht.ok
  have hjl : j ≤ l.length := h2.1.1
  obtain ⟨hxs, hop⟩ := holds.open_own hw1
  rcases hop with ⟨_, h0, _⟩ | ⟨g, cap, cur, rfl, h4, h5, h6, h7, h8⟩
  · omega
  · have hxv : secV (.slice (some ⟨g, 0, none⟩) l.length cap) 0 i none l.length m h1 = .slice (some ⟨g, 0, none⟩) i cap := by
      simp only [secV, subV, Option.getD_none, Nat.sub_zero, Option.map_some, addr_add, Nat.zero_mul, Nat.add_zero]
      split <;> rfl
    have hyr := (holds.ownReads hw1).sub (lo := j) (hi := l.length) hjl (Nat.le_refl _) (cut := none) (.inl rfl)
    obtain ⟨hyl, ay, cy, hyv, hcy, hay⟩ := hyr
    have hyv' : secV (.slice (some ⟨g, 0, none⟩) l.length cap) j l.length none l.length m h2 = .slice ay (l.length - j) cy := hyv
    obtain ⟨ay', rfl⟩ : ∃ a', ay = some a' := by
      simp only [subV, Option.map_some] at hyv
      split at hyv <;> (cases hyv; exact ⟨_, rfl⟩)
    rw [hxv] at hx
    rw [hyv'] at hy
    have hnews : ((l.flatMap enc).drop (j * m)).take ((l.length - j) * m) = (l.drop j).flatMap enc := by
      rw [← Enc.flat_drop, List.take_of_length_le]
      rw [Enc.flat_len, List.length_drop]; exact Nat.le_refl _
    rw [hnews] at hyl hay
    have hroom : i + (l.length - j) ≤ cap := by omega
    have hrun := run_append_room (P := P) w t ty T it g1 g2 g i cap cur h8.get_blk ay' (l.length - j) cy ((l.drop j).flatMap enc) (by rw [hyl, g3]) (fun k u hk => by
      have hkl : k < (l.length - j) * m := by rw [← hyl]; exact (List.getElem?_eq_some_iff.1 hk).1
      rcases hay with h0 | ⟨b, off, hb, hcells⟩
      · omega
      · cases hb
        have := hcells k hkl
        rw [hk] at this
        have e2 : (⟨b, off, none⟩ : Addr).add k = ⟨b, off + k, none⟩ := by unfold Addr.add; split <;> simp_all
        rw [e2]; exact this) (fun u hu => by
          obtain ⟨y, _, hy⟩ := List.mem_flatMap.1 hu
          exact he.one y u hy) hroom (by rw [hyl, g3, h6, ← Nat.add_mul]; exact Nat.mul_le_mul_right _ hroom)
    unfold Oper.wp
    have hrun2 : (execOp a.eval ⟨some d, .call { callee := .builtin .append, args := #[x, y], argTypes := #[t, t] }, ty, pos, aft, none⟩).run P w = .ok (.value (.slice (some ⟨g, 0, none⟩) (i + (l.length - j)) cap)) (w.setRow g (cur.toList.take (i * it.size) ++ (l.drop j).flatMap enc ++ cur.toList.drop (i * it.size + ((l.drop j).flatMap enc).length)).toArray) := by
      simp [execOp, resolve, invoke, builtin, hf.eval hx, hf.eval hy, hrun, Result.andThen]
    rw [hrun2]
    refine hK _ _ (h g cap rfl h4 _ _ (hf.put hd _) ?_)
    rw [g3]
    have hle : l.length * m ≤ cap * m := Nat.mul_le_mul_right _ h4
    have hle2 : (i + (l.length - j)) * m ≤ l.length * m := Nat.mul_le_mul_right _ (by omega)
    rw [Nat.add_mul] at hle2
    have h9 := h8.turn (w' := w.setRow g (cur.toList.take (i * m) ++ (l.drop j).flatMap enc ++ cur.toList.drop (i * m + ((l.drop j).flatMap enc).length)).toArray) ⟨rfl, rfl, rfl, by simp, fun k _ hk => setRow_other w g k _ (fun e => hk (by simp [e]))⟩ (setRow_heap w g cur _ T _ h8.get_blk)
    have h10 := h9.mkRow (size := m) (n := l.length) h4 h5 (by simp only [List.size_toArray, List.length_append, List.length_take, List.length_drop, Array.length_toList, hyl, h6]; omega)
    have hll : (l.take i ++ l.drop j ++ l.drop (l.length - (j - i))).length = l.length := by simp; omega
    have h11 : (cur.toList.take (i * m) ++ (l.drop j).flatMap enc ++ cur.toList.drop (i * m + ((l.drop j).flatMap enc).length)).toArray.toList.take (l.length * m) = (l.take i ++ l.drop j ++ l.drop (l.length - (j - i))).flatMap enc := by
      have e3 : l.length - (j - i) = i + (l.length - j) := by omega
      rw [hyl, ← Nat.add_mul, List.flatMap_append, List.flatMap_append, Enc.flat_take, e3, Enc.flat_drop l (i + (l.length - j)), ← h7]
      have e4 : (cur.toList.take (i * m) ++ (l.drop j).flatMap enc).length = (i + (l.length - j)) * m := by
        simp only [List.length_append, List.length_take, Array.length_toList, h6, hyl, Nat.add_mul]; omega
      rw [List.take_append, e4, List.take_of_length_le (by rw [e4, Nat.add_mul]; omega), List.take_take, Nat.min_eq_left (by omega), List.drop_take]
    rw [h11] at h10
    unfold owns
    rw [hll]
    exact h10
/-- A struct inside an element of an owned row. -/
theorem GL.storeElemA {t T : TypeId} {x y : Operand} {v : Value} {vs : Array Value} {i f size : Nat} {l : List α} {F' : List HProp} (z : α) (hx : opnd env x = some (.pointer (some ⟨rowB v, rowO v + i * m + f, none⟩))) (hy : opnd env y = some (.agg vs)) [ht : AggT P t size] [he : Enc enc m] [hr : HasOwn F v T enc m l F']
    (hi : i < l.length) (hs : Nat.beq vs.size size = true) (h1 : vs.toList.all (·.oneCell') = true) (hfm : Nat.ble (f + size) m = true) (hz : enc z = (enc l[i]).take f ++ vs.toList ++ (enc l[i]).drop (f + size))
    (h : GL P n ops Q rest env (owns T enc m v (l.set i z) :: F')) : GL P n ops Q (⟨none, .store t x y, ty, pos, aft, none⟩ :: rest) env F := .mk fun a w hf hw => by
  obtain ⟨it, ds, g1, g2, g3, g4⟩ := ht.ok
  have hs : vs.size = size := Nat.eq_of_beq_eq_true hs
  have hfm : f + size ≤ m := Nat.le_of_ble_eq_true hfm
  have hw1 := hw.perm hr.perm
  obtain ⟨_, hop⟩ := holds.open_own hw1
  have hle : (i + 1) * m ≤ l.length * m := Nat.mul_le_mul_right _ hi
  rw [Nat.succ_mul] at hle
  have hpos := he.pos
  rcases hop with ⟨_, h0, _⟩ | ⟨g, cap, cur, rfl, h4, h5, h6, h7, h8⟩
  · omega
  · have hle2 : l.length * m ≤ cap * m := Nat.mul_le_mul_right _ h4
    refine wpList_store_sl rfl rfl t x y rfl (off := i * m + f) (.agg vs) (by have := hf.eval hx; simpa [rowB, rowO, Nat.add_assoc] using this) (hf.eval hy) (by simp [g1, g2, hs, Value.cells]) (by have h1' := List.all_eq_true.1 h1; simpa [Value.cells] using h1') h8 (by simp only [Value.cells, hs, h6]; omega) fun w' hw' => h a w' hf ?_
    simp only [Value.cells, hs] at hw'
    have hsize : (cur.toList.take (i * m + f) ++ vs.toList ++ cur.toList.drop (i * m + f + size)).toArray.size = cap * m := by
      simp only [List.size_toArray, List.length_append, List.length_take, List.length_drop, Array.length_toList, h6, hs]
      omega
    have h9 := hw'.mkRow (size := m) (n := l.length) h4 h5 hsize
    have h10 : (cur.toList.take (i * m + f) ++ vs.toList ++ cur.toList.drop (i * m + f + size)).toArray.toList.take (l.length * m) = (l.set i z).flatMap enc := by
      rw [← Enc.flat_set l i z hi, hz]
      have hfl : (l.flatMap enc).length = l.length * m := Enc.flat_len l
      have e1 : enc l[i] = ((l.flatMap enc).drop (i * m)).take m := by
        apply List.ext_getElem?
        intro j
        rw [List.getElem?_take, List.getElem?_drop]
        by_cases hj : j < m
        · rw [if_pos hj, Enc.flat_at l i hi j hj]
        · rw [if_neg hj, List.getElem?_eq_none (by rw [he.len]; omega)]
      rw [e1]
      have e2 : ∀ j, j < l.length * m → cur.toList[j]? = (l.flatMap enc)[j]? := fun j hj => by rw [← h7, List.getElem?_take, if_pos hj]
      apply List.ext_getElem?
      intro j
      have hcl : cur.toList.length = cap * m := by simp [h6]
      have hvl : vs.toList.length = size := by simp [hs]
      simp only [List.getElem?_append, List.length_append, List.length_take, List.length_drop, hfl, List.getElem?_take, List.getElem?_drop, hcl, hvl]
      rw [Nat.min_eq_left (a := i * m + f) (by omega), Nat.min_eq_left (a := i * m) (by omega), Nat.min_eq_left (a := m) (by omega), Nat.min_eq_left (a := f) (by omega)]
      repeat' split
      all_goals first | rfl | (exfalso; omega) | exact e2 _ (by omega) | (rw [e2 _ (by omega)]; congr 1; omega) | (congr 1; omega) | (symm; exact List.getElem?_eq_none (by rw [hfl]; omega)) | skip
    rw [h10] at h9
    unfold owns
    rw [List.length_set]
    exact h9
/-- A slice that is owned goes into a variable. -/
theorem GL.storeOwn {t T T' : TypeId} {x y : Operand} {b o : Nat} {c : Array Value} {F' F2 : List HProp} {u : Value} {l : List α} (hx : opnd env x = some (.pointer (some ⟨b, o, none⟩))) (hy : opnd env y = some u) [ht : CellT P t] [hb : HasBlk F b c T F'] [ho : HasOwn F u T' enc m l F2] (hlt : Nat.blt o c.size = true)
    (h : GL P n ops Q rest env (blk b (.cells (c.toList.set o u).toArray T (0, 0)) :: F')) : GL P n ops Q (⟨none, .store t x y, ty, pos, aft, none⟩ :: rest) env F := .mk fun a w hf hw => by
  obtain ⟨_, hop⟩ := holds.open_own (hw.perm ho.perm)
  rcases hop with ⟨rfl, _⟩ | ⟨g, cap, cur, rfl, _⟩ <;> exact (GL.storeBlk hx hy rfl rfl hlt h).out a w hf hw
/-- 'copy(v, u)' of as many. -/
theorem GL.copyRow {t t2 e T : TypeId} {x y : Operand} {size : Nat} {v u : Value} {l l2 : List α} {F' : List HProp} [he : Enc enc m] [ht : SliceT P t e size] (hm : m = size) (hx : opnd env x = some v) (hy : opnd env y = some u) [hr : HasOwn F v T enc m l F'] [hrd : Reads F' u enc m l2] (hl : l2.length = l.length) (hd : Nat.blt d n = true)
    (h : GL P n ops Q rest ((d, .int .i64 l.length) :: env) (owns T enc m v l2 :: F')) : GL P n ops Q (⟨some d, .call { callee := .builtin .copy, args := #[x, y], argTypes := #[t, t2] }, ty, pos, aft, none⟩ :: rest) env F := .mk fun a w hf hw => by
  subst hm
  obtain ⟨it, g1, g2, g3⟩ := ht.ok
  refine wpList_plain rfl fun K hK => ?_
  have hw1 := hw.perm hr.perm
  have hmp := he.pos
  obtain ⟨hrl, au, cu, rfl, hcu, hau⟩ := hrd.at_ w hw1.tail
  obtain ⟨hxs, hop⟩ := holds.open_own hw1
  have hsz : (P.info? e).map (·.size) = some m := by simp [g2, g3]
  have e1 : (execOp a.eval ⟨some d, .call { callee := .builtin .copy, args := #[x, y], argTypes := #[t, t2] }, ty, pos, aft, none⟩).run P w = ((Builtin.copy_ #[t, t2] ty #[v, .slice au l2.length cu]).run P w).andThen fun r w' => .ok (.value r) w' := by
    simp [execOp, resolve, invoke, builtin, hf.eval hx, hf.eval hy, Result.andThen]
  by_cases h0 : l.length = 0
  · have hln : l = [] := List.eq_nil_of_length_eq_zero h0
    have hl2 : l2 = [] := List.eq_nil_of_length_eq_zero (by omega)
    subst hln hl2
    have hv : ∃ ad cp, v = .slice ad 0 cp := by
      rcases hop with ⟨rfl, _⟩ | ⟨g, cap, cur, rfl, _⟩ <;> exact ⟨_, _, rfl⟩
    obtain ⟨ad, cp, rfl⟩ := hv
    have hrun : (Builtin.copy_ #[t, t2] ty #[.slice ad ([] : List α).length cp, .slice au ([] : List α).length cu]).run P w = .ok (.int .i64 0) w := by
      have hl0 : ∀ x : Addr, (loadCells x 0).run P w = .ok #[] w := fun x => by simpa using run_loadCells_list (P := P) w x [] (by simp)
      cases ad <;> cases au <;> simp [Builtin.copy_, run_underlying g1, Builtin.lenOf, Builtin.firstCells, sizeOf, typeInfo, g2, g3, hl0, storeCells, goInt]
    unfold Oper.wp
    have hrun' : (Builtin.copy_ #[t, t2] ty #[.slice ad 0 cp, .slice au ([] : List α).length cu]).run P w = .ok (.int .i64 0) w := hrun
    rw [e1, hrun']
    exact hK _ _ (h _ _ (hf.put hd _) hw1)
  · rcases hop with ⟨_, hl0, _⟩ | ⟨g, cap, cur, rfl, h4, h5, h6, h7, h8⟩
    · omega
    · rcases hau with h00 | ⟨b, off, rfl, hcells⟩
      · exfalso
        rcases Nat.mul_eq_zero.1 h00 with h | h <;> omega
      · have hle2 : l.length * m ≤ cap * m := Nat.mul_le_mul_right _ h4
        have hl1 := run_loadCells_list (P := P) w ⟨b, off, none⟩ (l2.flatMap enc) (fun j u hj => by
          have hjl : j < l2.length * m := by rw [← hrl]; exact (List.getElem?_eq_some_iff.1 hj).1
          have := hcells j hjl
          rw [hj] at this
          have e2 : (⟨b, off, none⟩ : Addr).add j = ⟨b, off + j, none⟩ := by unfold Addr.add; split <;> simp_all
          rw [e2]; exact this)
        have hst := run_storeCells_at P g 0 T (l2.flatMap enc) 0 cur w h8.get_blk (by rw [hrl, hl]; omega) (fun u hu => by
          obtain ⟨a, _, ha⟩ := List.mem_flatMap.1 hu
          exact he.one a u ha)
        rw [hrl, hl] at hl1
        have hrun : (Builtin.copy_ #[t, t2] ty #[.slice (some ⟨g, 0, none⟩) l.length cap, .slice (some ⟨b, off, none⟩) l2.length cu]).run P w = .ok (.int .i64 l.length) (w.setRow g (cur.toList.take (0 + 0) ++ l2.flatMap enc ++ cur.toList.drop (0 + 0 + (l2.flatMap enc).length)).toArray) := by
          simp [Builtin.copy_, run_underlying g1, Builtin.lenOf, Builtin.firstCells, sizeOf, typeInfo, g2, g3, hl, hl1, hst, goInt]
        unfold Oper.wp
        rw [e1, hrun]
        refine hK _ _ (h _ _ (hf.put hd _) ?_)
        have hsize : (cur.toList.take (0 + 0) ++ l2.flatMap enc ++ cur.toList.drop (0 + 0 + (l2.flatMap enc).length)).toArray.size = cap * m := by
          simp only [List.size_toArray, List.length_append, List.length_take, List.length_drop, Array.length_toList, h6, hrl, hl]
          omega
        have h9 := h8.turn (w' := w.setRow g (cur.toList.take (0 + 0) ++ l2.flatMap enc ++ cur.toList.drop (0 + 0 + (l2.flatMap enc).length)).toArray) ⟨rfl, rfl, rfl, by simp, fun k _ hk => setRow_other w g k _ (fun e => hk (by simp [e]))⟩ (setRow_heap w g cur _ T _ h8.get_blk)
        have h10 := h9.mkRow (size := m) (n := l.length) h4 h5 hsize
        have h11 : (cur.toList.take (0 + 0) ++ l2.flatMap enc ++ cur.toList.drop (0 + 0 + (l2.flatMap enc).length)).toArray.toList.take (l.length * m) = l2.flatMap enc := by
          simp only [Nat.add_zero, List.take_zero, List.nil_append]
          rw [List.take_append, List.take_of_length_le (by rw [hrl, hl]; omega), show l.length * m - (l2.flatMap enc).length = 0 by rw [hrl, hl]; omega, List.take_zero, List.append_nil]
        rw [h11] at h10
        have e1 : owns T enc m (.slice (some ⟨g, 0, none⟩) l.length cap) l2 = ownRow T m (.slice (some ⟨g, 0, none⟩) l.length cap) l.length (l2.flatMap enc) := by unfold owns; rw [hl]
        rw [e1]; exact h10
end
end Go.Proofs.YtpkohkkkbnfigaaDoor
