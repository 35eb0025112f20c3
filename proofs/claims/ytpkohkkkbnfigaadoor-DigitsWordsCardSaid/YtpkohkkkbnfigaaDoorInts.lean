/- Slices of ints as pieces of memory. -/
import Derived.Test.YtpkohkkkbnfigaaDoorData
import Derived.Test.YtpkohkkkbnfigaaDoorRows
import Derived.BigQuiet
import Derived.Lib.Hide
import Derived.Deep.QuietTactic
import Derived.Maps.OwnSet
namespace Go.Proofs.YtpkohkkkbnfigaaDoor
open Go Go.RowKit Go.MapKept
set_option maxRecDepth 100000

def ints (l : List Int) : List Value := l.map (.int .i64)
def ownInts (v : Value) (l : List Int) : HProp := ownRow 3 1 v l.length (ints l)

theorem cellAt {w : World} {b : Nat} {cs : Array Value} {t : TypeId} {fr : Nat × Nat} (h : w.heap[b]? = some (.cells cs t fr)) (j : Nat) : w.cell? ⟨b, j, none⟩ = cs[j]? := cell_of_row w b j cs t fr h

/-- The cells of an owned row of ints. -/
theorem holds.intAt {w : World} {F : List HProp} {v : Value} {l : List Int} (h : holds w (ownInts v l :: F)) (i : Nat) (hi : i < l.length) :
    ∃ g cap, v = .slice (some ⟨g, 0, none⟩) l.length cap ∧ l.length ≤ cap ∧ cap ≤ maxLen ∧ w.cell? ⟨g, i, none⟩ = some (.int .i64 l[i]) ∧ w.frozen? ⟨g, i, none⟩ = false := by
  obtain ⟨h1, h2⟩ := holds.open_own h
  rcases h2 with ⟨_, h3, _⟩ | ⟨g, cap, cur, rfl, h4, h5, h6, h7, h8⟩
  · omega
  · refine ⟨g, cap, rfl, h4, h5, ?_, frozen_of_row w g i cur _ h8.get_blk⟩
    rw [cellAt h8.get_blk, ← Array.getElem?_toList]
    have : (cur.toList.take (l.length * 1))[i]? = (ints l)[i]? := by rw [h7]
    rw [List.getElem?_take, if_pos (by omega)] at this
    rw [this]
    simp [ints, hi]

theorem Tryd.infoInt : (Tryd.prog.info? 3).map (fun i => (i.zero, i.size, i.bytes)) = some (some (.int .i64 0), 1, 8) := by kernel_rfl

theorem holds.madeInts {w : World} {F : List HProp} (hw : holds w F) (n : Nat) (h : n ≤ maxLen) :
    holds (w.alloc (.cells (madeCells #[.int .i64 0] n) 3)) (ownInts (.slice (some ⟨w.heap.size, 0, none⟩) n n) (List.replicate n 0) :: F) := by
  have h2 := (hw.alloc (.cells (madeCells #[.int .i64 0] n) 3 (0, 0))).mkRow (size := 1) (n := n) (cap := n) (Nat.le_refl _) h (by simp [size_madeCells])
  rw [toList_madeCells_one, Nat.mul_one, List.take_of_length_le (by simp)] at h2
  unfold ownInts
  rw [List.length_replicate]
  simpa [ints] using h2

theorem holds.shrinkInts {w : World} {F : List HProp} {a : Option Addr} {n cap : Nat} {l : List Int} (h : holds w (ownInts (.slice a n cap) l :: F)) (k : Nat) (hk : k ≤ l.length) (hl : 0 < l.length) :
    holds w (ownInts (.slice a k cap) (l.take k) :: F) := by
  obtain ⟨h1, h2⟩ := holds.open_own h
  rcases h2 with ⟨_, h3, _⟩ | ⟨g, cap', cur, h0, h4, h5, h6, h7, h8⟩
  · omega
  · cases h0
    have h9 := h8.mkRow (size := 1) (n := k) (by omega) h5 h6
    have h10 : cur.toList.take (k * 1) = ints (l.take k) := by
      have := congrArg (List.take k) h7
      rw [List.take_take] at this
      rw [Nat.mul_one, ints, List.map_take, ← ints, ← this]
      congr 1; omega
    rw [h10] at h9
    have h11 : (l.take k).length = k := by rw [List.length_take]; omega
    unfold ownInts
    rw [h11]
    exact h9

theorem ownInts_form {w : World} {F : List HProp} {v : Value} {l : List Int} (h : holds w (ownInts v l :: F)) : ∃ a cap, v = .slice a l.length cap := by
  rcases (holds.open_own h).2 with ⟨rfl, h0, _⟩ | ⟨g, cap, cur, rfl, _⟩
  · exact ⟨none, 0, by rw [h0]⟩
  · exact ⟨_, _, rfl⟩

/-- 'append(v, y)', y boxed in block nb. -/
theorem wpList_appendInt {ops : Array Oper} {rest : List Oper} {o : Oper} {a : Act} {Q : Exit → Act → World → Prop} {w : World} {F : List HProp} (hg : o.guard = none) (s x : Operand)
    (hop : o.op = .call { callee := .builtin .append, args := #[s, x], argTypes := #[40, 40] })
    {v : Value} {l : List Int} {y : Int} {nb : Nat} (hs : a.eval s = v) (hw : holds w (ownInts v l :: F)) (hx : a.eval x = .slice (some ⟨nb, 0, none⟩) 1 1) (hcell : w.cell? ⟨nb, 0, none⟩ = some (.int .i64 y)) (hlen : l.length < 1099511627776)
    (hK : ∀ v' w', holds w' (ownInts v' (l ++ [y]) :: F) → wpList Tryd.prog ops Q rest (a.put o.dst v') w') : wpList Tryd.prog ops Q (o :: rest) a w := by
  obtain ⟨i0, hi, hz0, hz1, hz2⟩ := info_parts Tryd.infoInt
  refine wpList_append_sl (news := [.int .i64 y]) hg s x _ hop Tryd.underlying40 hi hz0 hz1 hz2 rfl (by omega) hs hw hx rfl (fun j u hu => ?_) (by simp [Value.oneCell']) (by unfold maxLen; omega) (by omega) (by omega) fun v' w' h => hK v' w' ?_
  · cases j with
    | zero => simp at hu; subst hu; simpa [Addr.add] using hcell
    | succ j => simp at hu
  · unfold ownInts
    rw [show (l ++ [y]).length = l.length + 1 from by simp, show ints (l ++ [y]) = ints l ++ [.int .i64 y] from by simp [ints]]
    exact h

theorem wpList_setInt {ops : Array Oper} {rest : List Oper} {o : Oper} {a : Act} {Q : Exit → Act → World → Prop} {w : World} {F : List HProp} (hg : o.guard = none) (hd : o.dst = none) (x v : Operand) (hop : o.op = .store 3 x v)
    {g cap n i : Nat} {l : List Int} {y : Int} (hx : a.eval x = .pointer (some ⟨g, i, none⟩)) (hv : a.eval v = .int .i64 y) (h : holds w (ownInts (.slice (some ⟨g, 0, none⟩) n cap) l :: F)) (hi : i < l.length)
    (hK : ∀ w', holds w' (ownInts (.slice (some ⟨g, 0, none⟩) n cap) (l.set i y) :: F) → wpList Tryd.prog ops Q rest a w') : wpList Tryd.prog ops Q (o :: rest) a w := by
  obtain ⟨h1, h2⟩ := holds.open_own h
  rcases h2 with ⟨h0, _⟩ | ⟨g', cap', cur, h0, h4, h5, h6, h7, h8⟩
  · cases h0
  · cases h0
    refine wpList_store1_sl hg hd _ x v hop (.int .i64 y) hx hv (by kernel_rfl) rfl rfl h8 (by omega) fun w' hw' => hK w' ?_
    have h9 := hw'.mkRow (size := 1) (n := l.length) h4 h5 (by simpa using h6)
    have h10 : (cur.setIfInBounds i (.int .i64 y)).toList.take (l.length * 1) = ints (l.set i y) := by
      rw [Array.toList_setIfInBounds, List.take_set, h7]
      simp [ints, List.map_set]
    rw [h10] at h9
    unfold ownInts
    rw [List.length_set]
    exact h9

/-! ### A region that draws its order, whose operations only read and whose calls keep the pieces -/
/-- A world in which the pieces of F lie. -/
structure Hold (F : List HProp) where
  w : World
  h : holds w F

theorem wp_region_quiet_holds {P : Program} {id : Nat} {Q : Exit → Act → World → Prop} {a : Act} {w : World} {l : List Oper} {F : List HProp} (hm : P.follows .mixedOrders = true) (hB : Region.lexB .any l.toArray = true) (hw : holds w F)
    (h : wpQuiet P l.toArray (fun w' => ∃ p : Hold F, w' = p.w) (fun a' => ∀ w', (∃ p : Hold F, w' = p.w) → Q .normal a' w') l a) : (Code.region id l.toArray true).wp P Q a w :=
  wp_region_quiet (C := fun w' => ∃ p : Hold F, w' = p.w) hm hB ⟨⟨_, hw.drew⟩, rfl⟩ (by simpa using h)

theorem Calls.quiet_hold {P : Program} {f : FuncId} {args : Array Value} {w : World} {v : Value} {F : List HProp}
    (h : Calls P f args w fun e w' => e = .returned v ∧ holds w' F) : Calls P f args w fun e w'' => e = .returned v ∧ ∃ p : Hold F, w'' = p.w :=
  h.mono fun _ w' ⟨he, hh⟩ => ⟨he, ⟨w', hh⟩, rfl⟩

/-- The same, outside such a region. -/
theorem Calls.hold {P : Program} {f : FuncId} {args : Array Value} {w : World} {v : Value} {F : List HProp}
    (h : Calls P f args w fun e w' => e = .returned v ∧ holds w' F) : Calls P f args w fun e w'' => ∃ p : Hold F, e = .returned v ∧ w'' = p.w :=
  h.mono fun _ w' ⟨he, hh⟩ => ⟨⟨w', hh⟩, he, rfl⟩

/-- A slice of ints, for reading. -/
def roInts (v : Value) (l : List Int) : HProp := roRow 1 v l.length (ints l)
theorem holds.shareInts {w : World} {F : List HProp} {v : Value} {l : List Int} (h : holds w (ownInts v l :: F)) : holds w (roInts v l :: F) := holds.shareRow h
theorem holds.dupInts {w : World} {F : List HProp} {v : Value} {l : List Int} (h : holds w (roInts v l :: F)) : holds w (roInts v l :: roInts v l :: F) := holds.dupRow h
theorem roInts_form {w : World} {F : List HProp} {v : Value} {l : List Int} (h : holds w (roInts v l :: F)) : ∃ a cap, v = .slice a l.length cap ∧ l.length ≤ cap := (holds.roReads h).form
/-- One cell. -/
theorem holds.roIntAt {w : World} {F : List HProp} {v : Value} {l : List Int} (h : holds w (roInts v l :: F)) (h0 : 0 < l.length) :
    ∃ g off cap, v = .slice (some ⟨g, off, none⟩) l.length cap ∧ l.length ≤ cap ∧ ∀ (i : Nat) (hi : i < l.length), w.cell? ⟨g, off + i, none⟩ = some (.int .i64 l[i]) := by
  obtain ⟨b, off, cap, h1, h2, h3⟩ := (holds.roReads h).cells (by omega)
  refine ⟨b, off, cap, h1, h2, fun i hi => ?_⟩
  rw [h3 i (by omega)]
  simp [ints, hi]

end Go.Proofs.YtpkohkkkbnfigaaDoor
