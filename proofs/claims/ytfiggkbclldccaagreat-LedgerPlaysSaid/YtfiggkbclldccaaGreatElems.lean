/- Rows of structs: elements of n cells each, laid one behind the other; reading one, setting one, appending one. -/
import Derived.Test.YtfiggkbclldccaaGreatSepD
namespace Go.Proofs.YtfiggkbclldccaaGreat
open Go Go.RowKit Go.MapKept
set_option maxRecDepth 100000

section
variable {α : Type} {enc : α → List Value} {n : Nat}
theorem flat_len (h : ∀ a, (enc a).length = n) : ∀ l : List α, (l.flatMap enc).length = l.length * n
  | [] => by simp
  | a :: l => by simp only [List.flatMap_cons, List.length_append, h, flat_len h l, List.length_cons, Nat.succ_mul]; omega
theorem flat_at (h : ∀ a, (enc a).length = n) : ∀ (l : List α) (i : Nat) (hi : i < l.length) (j : Nat), j < n → (l.flatMap enc)[i * n + j]? = (enc l[i])[j]?
  | a :: l, 0, _, j, hj => by
    rw [Nat.zero_mul, Nat.zero_add, List.flatMap_cons, List.getElem?_append_left (by rw [h]; exact hj)]
    rfl
  | a :: l, i + 1, hi, j, hj => by
    rw [List.flatMap_cons, List.getElem?_append_right (by rw [h, Nat.succ_mul]; omega), h, Nat.succ_mul, show i * n + n + j - n = i * n + j by omega]
    exact flat_at h l i (by simpa using hi) j hj
  | [], i, hi, _, _ => by simp at hi
theorem flat_set (h : ∀ a, (enc a).length = n) : ∀ (l : List α) (i : Nat) (a : α), i < l.length → (l.flatMap enc).take (i * n) ++ enc a ++ (l.flatMap enc).drop (i * n + n) = (l.set i a).flatMap enc
  | b :: l, 0, a, _ => by
    rw [Nat.zero_mul, Nat.zero_add, List.take_zero, List.nil_append, List.set_cons_zero, List.flatMap_cons, List.flatMap_cons, List.drop_left' (h b)]
  | b :: l, i + 1, a, hi => by
    rw [List.set_cons_succ, List.flatMap_cons, List.flatMap_cons, ← flat_set h l i a (by simpa using hi), Nat.succ_mul,
      List.take_append, List.drop_append, h, List.take_of_length_le (by rw [h]; omega), List.drop_eq_nil_of_le (by rw [h]; omega)]
    simp only [List.append_assoc, List.nil_append]
    congr 3
    · congr 1; omega
    · congr 2; omega
  | [], i, _, hi => by simp at hi

/-- The cells of an owned row. -/
theorem holds.elemAt (h : ∀ a, (enc a).length = n) {w : World} {F : List HProp} {e : TypeId} {v : Value} {l : List α} (hw : holds w (ownRow e n v l.length (l.flatMap enc) :: F)) (h0 : 0 < l.length) :
    ∃ g cap, v = .slice (some ⟨g, 0, none⟩) l.length cap ∧ l.length ≤ cap ∧ cap ≤ maxLen ∧ (∀ (i : Nat) (hi : i < l.length) (j : Nat), j < n → w.cell? ⟨g, i * n + j, none⟩ = (enc l[i])[j]?) ∧ ∀ i, w.frozen? ⟨g, i, none⟩ = false := by
  obtain ⟨h1, h2⟩ := holds.open_own hw
  rcases h2 with ⟨_, h3, _⟩ | ⟨g, cap, cur, rfl, h4, h5, h6, h7, h8⟩
  · omega
  · refine ⟨g, cap, rfl, h4, h5, fun i hi j hj => ?_, fun i => frozen_of_row w g i cur _ h8.get_blk⟩
    rw [cellAt h8.get_blk, ← Array.getElem?_toList, ← flat_at h l i hi j hj, ← h7, List.getElem?_take, if_pos]
    have : (i + 1) * n ≤ l.length * n := Nat.mul_le_mul_right _ hi
    rw [Nat.succ_mul] at this
    omega
/-- .. for reading. -/
theorem holds.roElemAt (h : ∀ a, (enc a).length = n) {w : World} {F : List HProp} {v : Value} {l : List α} (hw : holds w (roRow n v l.length (l.flatMap enc) :: F)) (h0 : 0 < l.length) (hn : 0 < n) :
    ∃ g off cap, v = .slice (some ⟨g, off, none⟩) l.length cap ∧ l.length ≤ cap ∧ ∀ (i : Nat) (hi : i < l.length) (j : Nat), j < n → w.cell? ⟨g, off + i * n + j, none⟩ = (enc l[i])[j]? := by
  obtain ⟨b, off, cap, h1, h2, h3⟩ := (holds.roReads hw).cells (Nat.mul_pos h0 hn)
  refine ⟨b, off, cap, h1, h2, fun i hi j hj => ?_⟩
  have : (i + 1) * n ≤ l.length * n := Nat.mul_le_mul_right _ hi
  rw [Nat.succ_mul] at this
  rw [Nat.add_assoc, h3 (i * n + j) (by omega), flat_at h l i hi j hj]
section
variable {P : Program} {ops : Array Oper} {rest : List Oper} {o : Oper} {a : Act} {Q : Exit → Act → World → Prop} {w : World} {F : List HProp}
/-- 'v[i] = y'. -/
theorem wpList_setElem (h : ∀ a, (enc a).length = n) (hg : o.guard = none) (hd : o.dst = none) (t : TypeId) (x v : Operand) (hop : o.op = .store t x v) {g i m cap : Nat} {e : TypeId} {l : List α} (val : Value) (y : α)
    (hx : a.eval x = .pointer (some ⟨g, i * n, none⟩)) (hv : a.eval v = val) (hy : val.cells.toList = enc y) (hsz : (P.info? t).map (·.size) = some n) (h1 : ∀ u ∈ enc y, u.oneCell' = true)
    (hw : holds w (ownRow e n (.slice (some ⟨g, 0, none⟩) m cap) l.length (l.flatMap enc) :: F)) (hi : i < l.length)
    (hK : ∀ w', holds w' (ownRow e n (.slice (some ⟨g, 0, none⟩) m cap) (l.set i y).length ((l.set i y).flatMap enc) :: F) → wpList P ops Q rest a w') : wpList P ops Q (o :: rest) a w := by
  obtain ⟨_, h2⟩ := holds.open_own hw
  rcases h2 with ⟨h0, _⟩ | ⟨g', cap', cur, h0, h4, h5, h6, h7, h8⟩
  · cases h0
  · cases h0
    have hvs : val.cells.size = n := by rw [← Array.length_toList, hy, h]
    have hle : (i + 1) * n ≤ l.length * n := Nat.mul_le_mul_right _ hi
    have hle2 : l.length * n ≤ cap * n := Nat.mul_le_mul_right _ h4
    rw [Nat.succ_mul] at hle
    refine wpList_store_sl hg hd t x v hop val hx hv (by rw [hvs]; exact hsz) (by rw [hy]; exact h1) h8 (by rw [hvs, h6]; omega) fun w' hw' => hK w' ?_
    rw [hvs, hy] at hw'
    have hsize : (cur.toList.take (i * n) ++ enc y ++ cur.toList.drop (i * n + n)).toArray.size = cap * n := by
      simp only [List.size_toArray, List.length_append, List.length_take, List.length_drop, Array.length_toList, h6, h]
      omega
    have h9 := hw'.mkRow (size := n) (n := l.length) h4 h5 hsize
    have h10 : (cur.toList.take (i * n) ++ enc y ++ cur.toList.drop (i * n + n)).toArray.toList.take (l.length * n) = (l.set i y).flatMap enc := by
      rw [← flat_set h l i y hi, ← h7]
      simp only [List.take_take, List.take_append, List.length_append, List.length_take, Array.length_toList, h, h6, List.drop_take]
      rw [List.take_of_length_le (l := enc y) (by rw [h, Nat.min_eq_left (by omega)]; omega)]
      rw [Nat.min_eq_right (by omega), Nat.min_eq_left (by omega), Nat.min_eq_left (by omega)]
    rw [h10] at h9
    rw [List.length_set]
    exact h9
/-- 'append(v, y)', y boxed in block nb. -/
theorem wpList_appendElem (h : ∀ a, (enc a).length = n) (hg : o.guard = none) (s x : Operand) (t : TypeId) (hop : o.op = .call { callee := .builtin .append, args := #[s, x], argTypes := #[t, t] })
    {e : TypeId} {i : TypeInfo} {z : Value} {bytes : Nat} (ht : P.underlying t = some (.slice e)) (hi : P.info? e = some i) (hz : i.zero = some z)
    (hsize : i.size = n) (hby : i.bytes = bytes) (hzs : z.cells.size = n) (hsz : 0 < n)
    {v : Value} {l : List α} {y : α} {nb c : Nat} {T : TypeId} (hs : a.eval s = v) (hw : holds w (ownRow e n v l.length (l.flatMap enc) :: F)) (hx : a.eval x = .slice (some ⟨nb, 0, none⟩) 1 c)
    (hb : w.heap[nb]? = some (.cells (enc y).toArray T (0, 0))) (h1 : ∀ u ∈ enc y, u.oneCell' = true)
    (h63 : l.length + 1 ≤ maxLen) (hbytes : (l.length + 1) * bytes ≤ 140737488355328)
    (hK : ∀ v' w', holds w' (ownRow e n v' (l ++ [y]).length ((l ++ [y]).flatMap enc) :: F) → wpList P ops Q rest (a.put o.dst v') w') : wpList P ops Q (o :: rest) a w := by
  refine wpList_append_sl (news := enc y) hg s x t hop ht hi hz hsize hby hzs hsz hs hw hx (by rw [h]; omega) (fun j u hu => ?_) h1 h63 hbytes (by omega) fun v' w' h => hK v' w' ?_
  · have e : (⟨nb, 0, none⟩ : Addr).add j = ⟨nb, j, none⟩ := by
      unfold Addr.add
      split
      · rename_i h0; rw [h0]
      · simp
    rw [e, cellAt hb]
    simpa using hu
  · rw [List.length_append, List.flatMap_append]
    simpa using h
end
end

/-! ### Results that lie in a block -/
theorem results_row_tmp {P : Program} {fn : Func} {p u : Tmp} {ty : TypeId} (h : fn.results = #[.cell p ty, .tmp u]) (tmps : Array Value) (w : World) (g : Nat) (t : TypeId) (cs : Array Value) (fr : Nat × Nat) (d : TypeDesc) (e : Value)
    (hp : tmps.getD p undef = .pointer (some ⟨g, 0, none⟩)) (he : tmps.getD u undef = e) (hg : w.heap[g]? = some (.cells cs t fr))
    (hu : P.underlying ty = some d) (hd : (match d with | .struct _ | .array _ _ => true | _ => false) = true) (hi : (P.info? ty).map (·.size) = some cs.size) :
    (results fn tmps).run P w = .ok (.tuple #[.agg cs, e]) w := by
  have hp' : tmps[p]?.getD undef = .pointer (some ⟨g, 0, none⟩) := by simpa using hp
  have he' : tmps[u]?.getD undef = e := by simpa using he
  simp [results, h, hp', he', asAddr, run_loadVar_row w g t ty cs fr d hg hu hd hi]
theorem results_row {P : Program} {fn : Func} {p : Tmp} {ty : TypeId} (h : fn.results = #[.cell p ty]) (tmps : Array Value) (w : World) (g : Nat) (t : TypeId) (cs : Array Value) (fr : Nat × Nat) (d : TypeDesc)
    (hp : tmps.getD p undef = .pointer (some ⟨g, 0, none⟩)) (hg : w.heap[g]? = some (.cells cs t fr))
    (hu : P.underlying ty = some d) (hd : (match d with | .struct _ | .array _ _ => true | _ => false) = true) (hi : (P.info? ty).map (·.size) = some cs.size) :
    (results fn tmps).run P w = .ok (.agg cs) w := by
  have hp' : tmps[p]?.getD undef = .pointer (some ⟨g, 0, none⟩) := by simpa using hp
  simp [results, h, hp', asAddr, run_loadVar_row w g t ty cs fr d hg hu hd hi]
end Go.Proofs.YtfiggkbclldccaaGreat
