/- Slices of bools as pieces of memory. -/
import Derived.Test.YtfiggkbclldccaaGreatStrT
import Derived.Test.YtfiggkbclldccaaGreatLooseT
namespace Go.Proofs.YtfiggkbclldccaaGreat
open Go Go.RowKit Go.MapKept
set_option maxRecDepth 100000

def bls (l : List Bool) : List Value := l.map Value.bool
def ownBools (v : Value) (l : List Bool) : HProp := ownRow 4 1 v l.length (bls l)
def roBools (v : Value) (l : List Bool) : HProp := roRow 1 v l.length (bls l)
theorem holds.shareBools {w : World} {F : List HProp} {v : Value} {l : List Bool} (h : holds w (ownBools v l :: F)) : holds w (roBools v l :: F) := holds.shareRow h
theorem roBools_form {w : World} {F : List HProp} {v : Value} {l : List Bool} (h : holds w (roBools v l :: F)) : ∃ a cap, v = .slice a l.length cap ∧ l.length ≤ cap := (holds.roReads h).form
theorem ownBools_form {w : World} {F : List HProp} {v : Value} {l : List Bool} (h : holds w (ownBools v l :: F)) : ∃ a cap, v = .slice a l.length cap := by
  rcases (holds.open_own h).2 with ⟨rfl, h0, _⟩ | ⟨g, cap, cur, rfl, _⟩
  · exact ⟨none, 0, by rw [h0]⟩
  · exact ⟨_, _, rfl⟩
theorem holds.roBoolAt {w : World} {F : List HProp} {v : Value} {l : List Bool} (h : holds w (roBools v l :: F)) (h0 : 0 < l.length) :
    ∃ g off cap, v = .slice (some ⟨g, off, none⟩) l.length cap ∧ l.length ≤ cap ∧ ∀ (i : Nat) (hi : i < l.length), w.cell? ⟨g, off + i, none⟩ = some (.bool l[i]) := by
  obtain ⟨b, off, cap, h1, h2, h3⟩ := (holds.roReads h).cells (by omega)
  refine ⟨b, off, cap, h1, h2, fun i hi => ?_⟩
  rw [h3 i (by omega)]
  simp [bls, hi]
theorem Tryz.infoBool : (Tryz.prog.info? 4).map (fun i => (i.zero, i.size, i.bytes)) = some (some (.bool false), 1, 1) := by kernel_rfl
theorem holds.madeBools {w : World} {F : List HProp} (hw : holds w F) (n : Nat) (h : n ≤ maxLen) :
    holds (w.alloc (.cells (madeCells #[.bool false] n) 4)) (ownBools (.slice (some ⟨w.heap.size, 0, none⟩) n n) (List.replicate n false) :: F) := by
  have h2 := (hw.alloc (.cells (madeCells #[.bool false] n) 4 (0, 0))).mkRow (size := 1) (n := n) (cap := n) (Nat.le_refl _) h (by simp [size_madeCells])
  rw [toList_madeCells_one, Nat.mul_one, List.take_of_length_le (by simp)] at h2
  unfold ownBools
  rw [List.length_replicate]
  simpa [bls] using h2
theorem holds.emptyBools {w : World} {F : List HProp} (hw : holds w F) : holds (w.alloc (.cells #[] 4)) (ownBools (.slice (some ⟨w.heap.size, 0, none⟩) 0 0) [] :: F) :=
  (hw.alloc (.cells #[] 4 (0, 0))).mkRow (size := 1) (n := 0) (cap := 0) (Nat.le_refl _) (Nat.zero_le _) (by simp)
/-- 'append(v, src...)' of bools. -/
theorem wpList_appendBools {ops : Array Oper} {rest : List Oper} {o : Oper} {a : Act} {Q : Exit → Act → World → Prop} {w : World} {F : List HProp} (hg : o.guard = none) (s x : Operand)
    (hop : o.op = .call { callee := .builtin .append, args := #[s, x], argTypes := #[27, 27] })
    {v src : Value} {l m : List Bool} (hs : a.eval s = v) (hw : holds w (ownBools v l :: F)) (hx : a.eval x = src) (hr : reads w 1 src m.length (bls m)) (hlen : l.length + m.length < 1099511627776)
    (hK : ∀ v' w', holds w' (ownBools v' (l ++ m) :: F) → wpList Tryz.prog ops Q rest (a.put o.dst v') w') : wpList Tryz.prog ops Q (o :: rest) a w := by
  obtain ⟨i0, hi, hz0, hz1, hz2⟩ := info_parts Tryz.infoBool
  refine wpList_plain hg fun K' hK' => ?_
  obtain ⟨v', w', hrun, r1⟩ := run_append_reads (P := Tryz.prog) (ty := o.type) Tryz.underlying27 hi hz0 hz1 hz2 rfl (by omega) hw hr (by intro u hu; obtain ⟨y, _, rfl⟩ := List.mem_map.1 hu; rfl) (by unfold maxLen; omega) (by omega)
  unfold Oper.wp execOp
  simp only [hop, resolve, invoke, builtin, Sem.run_bind, Sem.run_pure, Result.andThen_ok, List.map_toArray, List.map_cons, List.map_nil, hs, hx, hrun]
  refine hK' _ _ (hK v' w' ?_)
  unfold ownBools
  rw [show (l ++ m).length = l.length + m.length from by simp, show bls (l ++ m) = bls l ++ bls m from by simp [bls]]
  exact r1
theorem wpList_setBool {ops : Array Oper} {rest : List Oper} {o : Oper} {a : Act} {Q : Exit → Act → World → Prop} {w : World} {F : List HProp} (hg : o.guard = none) (hd : o.dst = none) (x v : Operand) (hop : o.op = .store 4 x v)
    {g cap n i : Nat} {l : List Bool} {y : Bool} (hx : a.eval x = .pointer (some ⟨g, i, none⟩)) (hv : a.eval v = .bool y) (h : holds w (ownBools (.slice (some ⟨g, 0, none⟩) n cap) l :: F)) (hi : i < l.length)
    (hK : ∀ w', holds w' (ownBools (.slice (some ⟨g, 0, none⟩) n cap) (l.set i y) :: F) → wpList Tryz.prog ops Q rest a w') : wpList Tryz.prog ops Q (o :: rest) a w := by
  obtain ⟨h1, h2⟩ := holds.open_own h
  rcases h2 with ⟨h0, _⟩ | ⟨g', cap', cur, h0, h4, h5, h6, h7, h8⟩
  · cases h0
  · cases h0
    refine wpList_store1_sl hg hd _ x v hop (.bool y) hx hv (by kernel_rfl) rfl rfl h8 (by omega) fun w' hw' => hK w' ?_
    have h9 := hw'.mkRow (size := 1) (n := l.length) h4 h5 (by simpa using h6)
    have h10 : (cur.setIfInBounds i (.bool y)).toList.take (l.length * 1) = bls (l.set i y) := by
      rw [Array.toList_setIfInBounds, List.take_set, h7]
      simp [bls, List.map_set]
    rw [h10] at h9
    unfold ownBools
    rw [List.length_set]
    exact h9
theorem holds.boolBlk {w : World} {F : List HProp} {a : Option Addr} {n c : Nat} {l : List Bool} (h : holds w (ownBools (.slice a n c) l :: F)) (h0 : 0 < l.length) : ∃ g, a = some ⟨g, 0, none⟩ := by
  rcases (holds.open_own h).2 with ⟨_, h3, _⟩ | ⟨g, cap, cur, hv, _⟩
  · omega
  · exact ⟨g, by injection hv⟩
end Go.Proofs.YtfiggkbclldccaaGreat
