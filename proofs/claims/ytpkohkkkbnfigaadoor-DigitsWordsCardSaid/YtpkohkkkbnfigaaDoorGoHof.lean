/- Rows cut short, cleared; what functions that look for one do. -/
import Derived.Test.YtpkohkkkbnfigaaDoorGoLib
import Derived.Test.YtpkohkkkbnfigaaDoorLoose
namespace Go.Proofs.YtpkohkkkbnfigaaDoor
open Go Go.RowKit Go.MapKept
set_option linter.unusedVariables false
set_option linter.unusedSectionVars false
set_option linter.unusedSimpArgs false

section
variable {α : Type} {enc : α → List Value} {m : Nat} {T : TypeId} {F : List HProp}
theorem holds.shrink {w : World} {v : Value} {l : List α} [he : Enc enc m] (h : holds w (owns T enc m v l :: F)) {k : Nat} (hk : (0 ≤ k ∧ k ≤ l.length) ∧ ((none : Option Nat) = none ∨ (none : Option Nat) = some k)) :
    holds w (owns T enc m (secV v 0 k none l.length m hk) (l.take k) :: F) := by
  obtain ⟨h1, h2⟩ := holds.open_own h
  have hlen : (l.take k).length = k := by rw [List.length_take]; omega
  rcases h2 with ⟨rfl, h3, h4, h5⟩ | ⟨g, cap', cur, rfl, h4, h5, h6, h7, h8⟩
  · have hl : l = [] := List.eq_nil_of_length_eq_zero h3
    subst hl
    have hk0 : k = 0 := by have := hk.1.2; simpa using this
    subst hk0
    exact h
  · have h9 := h8.mkRow (size := m) (n := k) (by omega) h5 h6
    have h10 : cur.toList.take (k * m) = (l.take k).flatMap enc := by
      rw [Enc.flat_take, ← h7, List.take_take]
      congr 1
      rw [Nat.min_eq_left]
      exact Nat.mul_le_mul_right _ hk.1.2
    rw [h10] at h9
    unfold owns secV subV
    rw [hlen]
    have e : (if (none : Option Nat).getD cap' = 0 then (some (⟨g, 0, none⟩ : Addr)) else (some (⟨g, 0, none⟩ : Addr)).map (·.add (0 * m))) = some ⟨g, 0, none⟩ := by
      split
      · rfl
      · simp [Addr.add]
    simp only [e]
    exact h9
theorem zeroCells_flat [he : Enc enc m] {z : Array Value} {z0 : α} (hz : z.toList = enc z0) (n : Nat) : (Builtin.zeroCells z n).toList = (List.replicate n z0).flatMap enc := by
  have hs : z.size = m := by rw [← Array.length_toList, hz, he.len]
  have hpos := he.pos
  apply List.ext_getElem?
  intro j
  have hl : ((List.replicate n z0).flatMap enc).length = n * m := by rw [Enc.flat_len, List.length_replicate]
  unfold Builtin.zeroCells
  by_cases hj : j < n * m
  · have hjm : j % m < m := Nat.mod_lt _ hpos
    have hd : j / m < n := (Nat.div_lt_iff_lt_mul hpos).2 hj
    have := Enc.flat_at (enc := enc) (List.replicate n z0) (j / m) (by simpa using hd) (j % m) hjm
    rw [Nat.mul_comm, Nat.div_add_mod] at this
    rw [this, List.getElem_replicate, ← hz]
    have e1 : z[j % m]! = z[j % m]'(by omega) := getElem!_pos z (j % m) (by omega)
    simp [hs, hj, e1, hjm]
  · have e1 : ((Array.range (n * z.size)).map fun i => z[i % z.size]!).toList.length = n * m := by simp [hs]
    rw [List.getElem?_eq_none (by omega), List.getElem?_eq_none (by omega)]
section
variable {P : Program} {n : Nat} {Q : Exit → Act → World → Prop} {env : Env} {ops : Array Oper} {rest : List Oper} {ty : TypeId} {pos : String} {aft : Array Edge}
/-- clear of the end of an owned row. -/
theorem GL.clearEnd {t e : TypeId} {x : Operand} {v z : Value} {size bytes lo : Nat} {l : List α} {F' : List HProp} (z0 : α) {hc : (lo ≤ l.length ∧ l.length ≤ l.length) ∧ ((none : Option Nat) = none ∨ (none : Option Nat) = some l.length)} [ht : SliceT P t e size] [hz : ZeroT P e z size bytes] [he : Enc enc m] (hm : m = size) (hz0 : z.cells.toList = enc z0)
    (hx : opnd env x = some (secV v lo l.length none l.length m hc)) [hr : HasOwn F v T enc m l F']
    (h : GL P n ops Q rest env (owns T enc m v (l.take lo ++ List.replicate (l.length - lo) z0) :: F')) : GL P n ops Q (⟨none, .call { callee := .builtin .clear, args := #[x], argTypes := #[t] }, ty, pos, aft, none⟩ :: rest) env F := .mk fun a w hf hw => by
  refine wpList_plain rfl fun K hK => ?_
  have hw1 := hw.perm hr.perm
  obtain ⟨it, g1, g2, g3⟩ := ht.ok
  obtain ⟨iz, k1, k2, k3, k4, k5⟩ := hz.ok
  obtain ⟨hxs, hop⟩ := holds.open_own hw1
  have hlen : (l.take lo ++ List.replicate (l.length - lo) z0).length = l.length := by simp; omega
  have hzr : ∀ w, (zeroValue e).run P w = .ok z w := fun w => by simp [zeroValue, typeInfo, k1, k2, Result.andThen]
  have hnone : ∀ (ad : Option Addr) (cp : Nat), opnd env x = some (.slice ad 0 cp) → holds w (owns T enc m v (l.take lo ++ List.replicate (l.length - lo) z0) :: F') → Oper.wp P ⟨none, .call { callee := .builtin .clear, args := #[x], argTypes := #[t] }, ty, pos, aft, none⟩ a w K Q := by
    intro ad cp hx0 hh
    unfold Oper.wp
    have hr : (execOp a.eval ⟨none, .call { callee := .builtin .clear, args := #[x], argTypes := #[t] }, ty, pos, aft, none⟩).run P w = .ok (.value (.tuple #[])) w := by
      cases ad <;> simp [execOp, resolve, invoke, builtin, Builtin.clear_, hf.eval hx0, run_underlying g1, Result.andThen]
    rw [hr]
    exact hK _ _ (h _ _ (hf.put0 _) hh)
  by_cases h0 : lo = l.length
  · subst h0
    have hsame : l.take l.length ++ List.replicate (l.length - l.length) z0 = l := by simp
    rw [hsame] at hnone
    have hshape : ∃ ad cp, secV v l.length l.length none l.length m hc = .slice ad 0 cp := by
      rcases hop with ⟨rfl, _⟩ | ⟨g, cap, cur, rfl, _⟩
      · exact ⟨_, _, by simp only [secV, subV, Nat.sub_self]; rfl⟩
      · exact ⟨_, _, by simp only [secV, subV, Nat.sub_self]; rfl⟩
    obtain ⟨ad, cp, e0⟩ := hshape
    rw [e0] at hx
    exact hnone ad cp hx hw1
  · have hlt : lo < l.length := by omega
    rcases hop with ⟨_, hl0, _⟩ | ⟨g, cap, cur, rfl, h4, h5, h6, h7, h8⟩
    · omega
    · have hcap : lo ≠ cap := by omega
      have hsec : secV (.slice (some ⟨g, 0, none⟩) l.length cap) lo l.length none l.length m hc = .slice (some ⟨g, lo * m, none⟩) (l.length - lo) (cap - lo) := by
        simp only [secV, subV, Option.getD_none, if_neg (Ne.symm hcap), Option.map_some, addr_add, Nat.zero_add]
      rw [hsec] at hx
      have hzc := zeroCells_flat (m := m) hz0 (l.length - lo)
      have hrl : ((List.replicate (l.length - lo) z0).flatMap enc).length = (l.length - lo) * m := by rw [Enc.flat_len, List.length_replicate]
      have hle2 : l.length * m ≤ cap * m := Nat.mul_le_mul_right _ h4
      have hmul : (l.length - lo) * m = l.length * m - lo * m := Nat.sub_mul ..
      have hle3 : lo * m ≤ l.length * m := Nat.mul_le_mul_right _ (by omega)
      have hst := run_storeCells_at (P := P) g (lo * m) T ((List.replicate (l.length - lo) z0).flatMap enc) 0 cur w h8.get_blk (by rw [hrl]; omega) (fun u hu => by
        obtain ⟨y, hy, hu⟩ := List.mem_flatMap.1 hu
        exact he.one y u hu)
      unfold Oper.wp
      have hrun : (execOp a.eval ⟨none, .call { callee := .builtin .clear, args := #[x], argTypes := #[t] }, ty, pos, aft, none⟩).run P w = .ok (.value (.tuple #[])) (w.setRow g (cur.toList.take (lo * m) ++ (List.replicate (l.length - lo) z0).flatMap enc ++ cur.toList.drop (lo * m + (l.length - lo) * m)).toArray) := by
        have hn0 : l.length - lo ≠ 0 := by omega
        have hst' := hst
        simp only [Nat.add_zero, hrl] at hst'
        obtain ⟨q, hq⟩ : ∃ q, l.length - lo = q + 1 := ⟨l.length - lo - 1, by omega⟩
        rw [hq] at hx
        have hzc' := hzc
        rw [hq] at hzc' hst'
        have hev := hf.eval hx
        simp [execOp, resolve, invoke, builtin, Builtin.clear_, hev, run_underlying g1, hzr, hzc', Result.andThen, hq]
        rw [hst']
        simp
      rw [hrun]
      have h2 := h8.turn (w' := w.setRow g (cur.toList.take (lo * m) ++ (List.replicate (l.length - lo) z0).flatMap enc ++ cur.toList.drop (lo * m + (l.length - lo) * m)).toArray) ⟨rfl, rfl, rfl, by simp, fun k _ hk => setRow_other w g k _ (fun e => hk (by simp [e]))⟩ (setRow_heap w g cur _ T _ h8.get_blk)
      refine hK _ _ (h _ _ (hf.put0 _) ?_)
      have h9 := h2.mkRow (size := m) (n := l.length) h4 h5 (by simp only [List.size_toArray, List.length_append, List.length_take, List.length_drop, Array.length_toList, hrl, h6]; omega)
      have h10 : (cur.toList.take (lo * m) ++ (List.replicate (l.length - lo) z0).flatMap enc ++ cur.toList.drop (lo * m + (l.length - lo) * m)).toArray.toList.take (l.length * m) = (l.take lo ++ List.replicate (l.length - lo) z0).flatMap enc := by
        rw [List.flatMap_append, Enc.flat_take, ← h7]
        have e1 : (cur.toList.take (lo * m) ++ (List.replicate (l.length - lo) z0).flatMap enc).length = l.length * m := by
          simp only [List.length_append, List.length_take, Array.length_toList, h6, hrl]; omega
        rw [show (cur.toList.take (lo * m) ++ (List.replicate (l.length - lo) z0).flatMap enc ++ cur.toList.drop (lo * m + (l.length - lo) * m)).toArray.toList = (cur.toList.take (lo * m) ++ (List.replicate (l.length - lo) z0).flatMap enc) ++ cur.toList.drop (lo * m + (l.length - lo) * m) from rfl, List.take_append_of_le_length (by omega), List.take_of_length_le (by omega), List.take_take, Nat.min_eq_left hle3]
      rw [h10] at h9
      unfold owns
      rw [hlen]
      exact h9
theorem GL.box1 {e : TypeId} {x : Operand} {v : Value} {d : Tmp} (hx : opnd env x = some v) (hd : Nat.blt d n = true) (hc : v.cells = #[v]) (h : ∀ b, GL P n ops Q rest ((d, .pointer (some ⟨b, 0, none⟩)) :: env) (blk b (.cells #[v] e (0, 0)) :: F)) :
    GL P n ops Q (⟨some d, .box e x, ty, pos, aft, none⟩ :: rest) env F := GL.box hx hd (by rw [hc]; exact h)
/-- A whole element into a block, out of a block: where only its length is known. -/
theorem GL.storeEnc {t T' : TypeId} {x y : Operand} {b : Nat} {c : Array Value} {F' : List HProp} {z : α} [ht : AggT P t m] [he : Enc enc m] (hx : opnd env x = some (.pointer (some ⟨b, 0, none⟩))) (hy : opnd env y = some (.agg (enc z).toArray)) [hb : HasBlk F b c T' F'] (ho : Nat.beq c.size m = true)
    (h : GL P n ops Q rest env (blk b (.cells (enc z).toArray T' (0, 0)) :: F')) : GL P n ops Q (⟨none, .store t x y, ty, pos, aft, none⟩ :: rest) env F :=
  GL.storeWhole hx hy (by simp [he.len]) (by rw [List.all_eq_true]; exact he.one z) ho h
theorem Runs.loadEnc {t : TypeId} {x : Operand} {b : Nat} {z : α} [AggT P t m] [he : Enc enc m] (hx : opnd env x = some (.pointer (some ⟨b, 0, none⟩))) [hb : SeesBlk F b (enc z).toArray] : Runs P n env F (.load t x) (.agg (enc z).toArray) :=
  Runs.loadWhole hx (by simp [he.len])
end
end
instance (priority := 300) SeesBlk.appendR {F F2 : List HProp} {b : Nat} {c : Array Value} [h : SeesBlk F b c] : SeesBlk (F2 ++ F) b c := ⟨fun w hw => h.at_ w (holds_drop hw)⟩
instance (priority := 300) Reads.appendR {α : Type} {F F2 : List HProp} {v : Value} {enc : α → List Value} {n : Nat} {l : List α} [h : Reads F v enc n l] : Reads (F2 ++ F) v enc n l := ⟨fun w hw => h.at_ w (holds_drop hw)⟩
/-- The first place. -/
def IsIdx {α : Type} (p : α → Bool) (l : List α) (r : Int) : Prop := (r = -1 ∧ ∀ x ∈ l, p x = false) ∨ ∃ (i : Nat) (h : i < l.length), r = i ∧ p l[i] = true ∧ ∀ (j : Nat) (h : j < l.length), j < i → p l[j] = false
theorem IsIdx.any {α : Type} {p : α → Bool} {l : List α} {r : Int} (h : IsIdx p l r) : l.any p = decide (0 ≤ r) := by
  rcases h with ⟨rfl, hn⟩ | ⟨i, hi, rfl, hp, _⟩
  · rw [List.any_eq_false.2 (fun x hx => by simp [hn x hx])]; rfl
  · rw [List.any_eq_true.2 ⟨l[i], List.getElem_mem hi, hp⟩]; simp
theorem filter_first {α : Type} {p : α → Bool} {l : List α} {i : Nat} (hi : i < l.length) (hp : p l[i] = true) (hn : ∀ (j : Nat) (h : j < l.length), j < i → p l[j] = false) : (l.take (i + 1)).filter (fun x => !p x) = l.take i := by
  rw [List.take_succ_eq_append_getElem hi, List.filter_append]
  have e1 : (l.take i).filter (fun x => !p x) = l.take i := by
    rw [List.filter_eq_self]
    intro x hx
    obtain ⟨j, hj, rfl⟩ := List.getElem_of_mem hx
    simp only [List.length_take] at hj
    rw [List.getElem_take, hn j (by omega) (by omega)]; rfl
  rw [e1]; simp [hp]
theorem getElem_of_drop {α : Type} {C l : List α} {j : Nat} (h : C.drop j = l.drop j) (h1 : j < C.length) (h2 : j < l.length) : C[j] = l[j] := by
  have := congrArg (fun x => x[0]?) h
  simp only [List.getElem?_drop, Nat.add_zero, List.getElem?_eq_getElem h1, List.getElem?_eq_getElem h2] at this
  exact Option.some.inj this
theorem drop_next {α : Type} {C l : List α} {j : Nat} (h : C.drop j = l.drop j) : C.drop (j + 1) = l.drop (j + 1) := by
  rw [← List.drop_drop, h, List.drop_drop]
/-- Two lists are alike, place by place. -/
def eqBy {α : Type} (p : α → α → Bool) : List α → List α → Bool
  | [], [] => true
  | x :: l, y :: m => p x y && eqBy p l m
  | _, _ => false
theorem eqBy_len {α : Type} {p : α → α → Bool} : ∀ {l m : List α}, ¬ l.length = m.length → eqBy p l m = false
  | [], [], h => absurd rfl h
  | [], _ :: _, _ => rfl
  | _ :: _, [], _ => rfl
  | x :: l, y :: m, h => by
    have := eqBy_len (p := p) (l := l) (m := m) (by simpa using h)
    simp [eqBy, this]
theorem eqBy_app {α : Type} {p : α → α → Bool} : ∀ {l m l' m' : List α}, l.length = m.length → eqBy p (l ++ l') (m ++ m') = (eqBy p l m && eqBy p l' m')
  | [], [], _, _, _ => by simp [eqBy]
  | [], _ :: _, _, _, h => by simp at h
  | _ :: _, [], _, _, h => by simp at h
  | x :: l, y :: m, l', m', h => by
    have := eqBy_app (p := p) (l := l) (m := m) (l' := l') (m' := m') (by simpa using h)
    simp [eqBy, this, Bool.and_assoc]
theorem eqBy_next {α : Type} {p : α → α → Bool} {l m : List α} {k : Nat} (h1 : k < l.length) (h2 : k < m.length) (h : eqBy p (l.take k) (m.take k) = true) (hp : p l[k] m[k] = true) : eqBy p (l.take (k + 1)) (m.take (k + 1)) = true := by
  rw [List.take_succ_eq_append_getElem h1, List.take_succ_eq_append_getElem h2, eqBy_app (by simp; omega), h]
  simp [eqBy, hp]
theorem eqBy_stop {α : Type} {p : α → α → Bool} {l m : List α} {k : Nat} (h1 : k < l.length) (h2 : k < m.length) (hp : p l[k] m[k] = false) : eqBy p l m = false := by
  have e1 : l = l.take k ++ l[k] :: l.drop (k + 1) := by rw [List.getElem_cons_drop h1, List.take_append_drop]
  have e2 : m = m.take k ++ m[k] :: m.drop (k + 1) := by rw [List.getElem_cons_drop h2, List.take_append_drop]
  rw [e1, e2, eqBy_app (by simp; omega)]
  simp [eqBy, hp]
end Go.Proofs.YtpkohkkkbnfigaaDoor
