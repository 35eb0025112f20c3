import Derived.Test.YtipkgamiejenaaaGreatOnce
import Derived.Test.YtipkgamiejenaaaGreatMg9
import Derived.Test.YtipkgamiejenaaaGreatMg6
import Derived.Test.YtipkgamiejenaaaGreatGoDraw
import Derived.Test.YtipkgamiejenaaaGreatGoTE
import Derived.Test.YtipkgamiejenaaaGreatTypes
/- Package count: a book of counts that are laid when the first is asked for. -/
namespace Go.Proofs.YtipkgamiejenaaaGreat
open Go Go.RowKit Go.MapKept
set_option linter.unusedVariables false
set_option linter.unusedSimpArgs false
set_option maxRecDepth 100000
set_option maxHeartbeats 1000000
instance : ExtLoad Tryz.prog 216 .i64 := .of Tryz.func216 (by kernel_rfl) (by kernel_rfl) (by kernel_rfl) .i64 (by kernel_rfl)
instance : ExtAdd Tryz.prog 217 .i64 := .of Tryz.func217 (by kernel_rfl) (by kernel_rfl) (by kernel_rfl) .i64 (by kernel_rfl)
theorem cellAt_blk (b : Nat) (c1 c2 : List Value) (T : TypeId) : CellAt b c1.length (fun v => blk b (.cells (c1 ++ v :: c2).toArray T (0, 0))) := by
  refine ⟨fun v w F h => ⟨?_, h.notFrozen⟩, fun v v' w F h => ?_⟩
  · rw [cell_of_row w b c1.length _ T (0, 0) h.get_blk]; simp
  · have := h.setAt (o := c1.length) (u := v')
    rw [show (c1 ++ v :: c2).toArray.toList.set c1.length v' = c1 ++ v' :: c2 by simp] at this
    exact this
/-- A whole block of ints, of k cells. -/
def rowX (T : TypeId) (g k : Nat) (l : List Int) : HProp := fun f => l.length = k ∧ blk g (.cells (l.map (.int .i64 ·)).toArray T (0, 0)) f
theorem rowX.open {w : World} {T : TypeId} {g k : Nat} {l : List Int} {F : List HProp} (h : holds w (rowX T g k l :: F)) : l.length = k ∧ holds w (blk g (.cells (l.map (.int .i64 ·)).toArray T (0, 0)) :: F) := holds.open_pure h
theorem rowX.shut {w : World} {T : TypeId} {g k : Nat} {l : List Int} {F : List HProp} (e : l.length = k) (h : holds w (blk g (.cells (l.map (.int .i64 ·)).toArray T (0, 0)) :: F)) : holds w (rowX T g k l :: F) := h.mono fun f hf => ⟨e, hf⟩
instance {T : TypeId} {g k : Nat} {l : List Int} {F : List HProp} : Reads (rowX T g k l :: F) (.slice (some ⟨g, 0, none⟩) k k) encI1 1 l := ⟨fun w h => by
  obtain ⟨rfl, h1⟩ := rowX.open h
  refine ⟨by simpa using Enc.flat_len (enc := encI1) (n := 1) l, _, _, rfl, Nat.le_refl _, .inr ⟨g, 0, rfl, fun i hi => ?_⟩⟩
  rw [cell_of_row w g (0 + i) _ T (0, 0) h1.get_blk, flat_ints]
  simp⟩
theorem rowX.ofOwn {w : World} {T : TypeId} {g k : Nat} {l : List Int} {F : List HProp} (h : holds w (owns T encI1 1 (.slice (some ⟨g, 0, none⟩) k k) l :: F)) : holds w (rowX T g k l :: F) := by
  obtain ⟨hl, ho⟩ := holds.open_own h
  rcases ho with ⟨h1, _⟩ | ⟨g', cap, cur, h1, h2, h3, h4, h5, h6⟩
  · cases h1
  · simp only [Value.slice.injEq, Option.some.injEq, Addr.mk.injEq] at h1
    obtain ⟨⟨rfl, -, -⟩, hk, rfl⟩ := h1
    refine rowX.shut hk.symm ?_
    have e : cur = (l.map (.int .i64 ·)).toArray := by
      apply Array.ext'
      rw [List.take_of_length_le (by simp at h4 ⊢; omega), flat_ints] at h5
      exact h5
    rw [← e]; exact h6
theorem CellAt.pure {b o : Nat} {Y : Value → HProp} (p : Prop) (h : CellAt b o Y) : CellAt b o (fun v f => p ∧ Y v f) := ⟨fun v w F hw => h.get v w F (holds.open_pure hw).2, fun v v' w F hw => by
  obtain ⟨hp, hw⟩ := holds.open_pure hw
  exact (h.set v v' w F hw).mono fun f hf => ⟨hp, hf⟩⟩
/-- The cell i of a row. -/
def rowC (T : TypeId) (g k i : Nat) (l : List Int) (v : Value) : HProp := fun f => l.length = k ∧ blk g (.cells ((l.take i).map (Value.int .i64 ·) ++ v :: (l.drop (i + 1)).map (Value.int .i64 ·)).toArray T (0, 0)) f
theorem rowC.cellAt (T : TypeId) (g k i : Nat) (l : List Int) (hi : i < l.length) : CellAt g i (rowC T g k i l) := by
  have h := cellAt_blk g ((l.take i).map (Value.int .i64 ·)) ((l.drop (i + 1)).map (Value.int .i64 ·)) T
  rw [List.length_map, List.length_take, Nat.min_eq_left (by omega)] at h
  exact h.pure (l.length = k)
theorem rowX.cell {w : World} {T : TypeId} {g k i : Nat} {l : List Int} {F : List HProp} (hi : i < l.length) (h : holds w (rowX T g k l :: F)) : holds w (rowC T g k i l (.int .i64 l[i]) :: F) := h.mono fun f ⟨e, hf⟩ => ⟨e, by
  have e2 : (l.take i).map (Value.int .i64 ·) ++ Value.int .i64 l[i] :: (l.drop (i + 1)).map (Value.int .i64 ·) = l.map (Value.int .i64 ·) := by
    rw [← List.map_cons, ← List.map_append, ← List.drop_eq_getElem_cons hi, List.take_append_drop]
  rw [e2]; exact hf⟩
theorem rowX.back {w : World} {T : TypeId} {g k i : Nat} {l : List Int} {x : Int} {F : List HProp} (hi : i < l.length) (h : holds w (rowC T g k i l (.int .i64 x) :: F)) : holds w (rowX T g k (l.set i x) :: F) := h.mono fun f ⟨e, hf⟩ => ⟨by simpa using e, by
  have e2 : (l.take i).map (Value.int .i64 ·) ++ Value.int .i64 x :: (l.drop (i + 1)).map (Value.int .i64 ·) = (l.set i x).map (Value.int .i64 ·) := by
    rw [List.set_eq_take_append_cons_drop, if_pos hi, List.map_append, List.map_cons]
  rw [← e2]; exact hf⟩
section
variable (b o : Nat) (Y : Value → HProp) (hY : CellAt b o Y) (x : Int)
include hY
theorem i64_Load (w : World) (F : List HProp) {F' : List HProp} [hh : Has F (Y (.int .i64 x)) F'] (hw : holds w F) :
    Ct Tryz.prog 177 #[.pointer (some ⟨b, o, none⟩)] w fun e w' => e = .returned (.int .i64 x) ∧ holds w' F := by
  refine Ct.go (args := [.pointer (some ⟨b, o, none⟩)]) Tryz.func177 rfl rfl rfl hw ?_
  repeat' (first | ((apply GL.isAny; refine GL.run (Runs.extLoadC hY (k := .i64) (i := x) rfl) rfl ?_)) | first | (apply GL.isAny; first | refine GL.runA rfl ?_ | (apply GL.isStore; first | refine GL.storeBlk rfl rfl rfl rfl rfl ?_ | refine GL.storeWhole rfl rfl rfl rfl rfl ?_ | refine GL.storeBlkA rfl rfl rfl rfl rfl ?_) | refine GL.guardY rfl rfl ?_ | refine GL.guardN rfl rfl rfl ?_ | refine GL.guardU rfl rfl rfl ?_ | (apply GL.isBox; first | refine GL.boxA rfl rfl (fun _ => ?_) | refine GL.box1 rfl rfl rfl (fun _ => ?_) | refine GL.box rfl rfl (fun _ => ?_)) | (apply GL.isBuildS; first | refine GL.buildSlice1A rfl rfl rfl rfl rfl (fun _ => ?_) | refine GL.buildSlice1 rfl rfl rfl rfl rfl (fun _ => ?_)) | (apply GL.isCall; refine GL.append1 _ rfl rfl rfl rfl (by rfl) (by omega) (by omega) rfl (fun _ => ?_)) | (apply GL.isAlloc; refine GL.alloc rfl (fun _ => ?_))) | apply GL.nil | first | apply G.seq | apply G.region | apply G.block | apply G.skip | apply G.exit | apply G.ret | (apply G.isCond; first | refine G.condT rfl ?_ | refine G.condF rfl ?_) | refine G.draw (by kernel_rfl) (by kernel_rfl) ?_ | (apply GE.isAny; first | apply GE.again | apply GE.thenG | apply GE.blockN | apply GE.blockE | apply GE.thenE | apply GE.thenR | apply GE.blockR | refine GE.blockO rfl ?_ | apply GE.only) | (apply GD.isAny; first | refine GD.runA rfl ?_ | refine GD.guardY rfl rfl ?_ | refine GD.guardN rfl rfl rfl ?_ | refine GD.guardU rfl rfl rfl ?_) | apply GD.nilE | apply GD.nilL | (apply GT.isAny; refine GT.runA rfl rfl ?_) | ((first | (apply GL.isAny; refine GL.guard rfl rfl (fun hc => ?_) (fun hc => ?_)) | (apply G.isCond; refine G.cond rfl (fun hc => ?_) (fun hc => ?_)) | (apply GD.isAny; refine GD.guard rfl rfl (fun hc => ?_) (fun hc => ?_))) <;> ((try simp only [decide_eq_true_eq, decide_eq_false_iff_not, Bool.not_true, Bool.not_false, ne_eq, Classical.not_not, Int.not_lt, Int.not_le] at hc); (try (exfalso; first | omega | exact hc trivial | exact hc rfl)))))
  refine GE.resOne rfl (by (repeat (first | apply Res.nil | (apply Res.tmp; rfl) | (refine Res.cellA rfl rfl rfl ?_) | (refine Res.cell1 rfl rfl ?_)))) (fun w h => ?_); exact ⟨rfl, h.sub⟩
theorem i64_Add (y : Int) (hb : -9223372036854775808 ≤ x + y ∧ x + y ≤ 9223372036854775807) (w : World) (F : List HProp) (hw : holds w (Y (.int .i64 x) :: F)) :
    Ct Tryz.prog 178 #[.pointer (some ⟨b, o, none⟩), .int .i64 y] w fun e w' => e = .returned (.int .i64 (x + y)) ∧ holds w' (Y (.int .i64 (x + y)) :: F) := by
  refine Ct.go (args := [.pointer (some ⟨b, o, none⟩), .int .i64 y]) Tryz.func178 rfl rfl rfl hw ?_
  have e : IntKind.i64.wrap (x + y) = x + y := IntWalk.i64_in _ hb
  repeat' (first | ((refine GL.extAddC hY (k := .i64) (i := x) (j := y) rfl rfl ?_; rw [e])) | first | (apply GL.isAny; first | refine GL.runA rfl ?_ | (apply GL.isStore; first | refine GL.storeBlk rfl rfl rfl rfl rfl ?_ | refine GL.storeWhole rfl rfl rfl rfl rfl ?_ | refine GL.storeBlkA rfl rfl rfl rfl rfl ?_) | refine GL.guardY rfl rfl ?_ | refine GL.guardN rfl rfl rfl ?_ | refine GL.guardU rfl rfl rfl ?_ | (apply GL.isBox; first | refine GL.boxA rfl rfl (fun _ => ?_) | refine GL.box1 rfl rfl rfl (fun _ => ?_) | refine GL.box rfl rfl (fun _ => ?_)) | (apply GL.isBuildS; first | refine GL.buildSlice1A rfl rfl rfl rfl rfl (fun _ => ?_) | refine GL.buildSlice1 rfl rfl rfl rfl rfl (fun _ => ?_)) | (apply GL.isCall; refine GL.append1 _ rfl rfl rfl rfl (by rfl) (by omega) (by omega) rfl (fun _ => ?_)) | (apply GL.isAlloc; refine GL.alloc rfl (fun _ => ?_))) | apply GL.nil | first | apply G.seq | apply G.region | apply G.block | apply G.skip | apply G.exit | apply G.ret | (apply G.isCond; first | refine G.condT rfl ?_ | refine G.condF rfl ?_) | refine G.draw (by kernel_rfl) (by kernel_rfl) ?_ | (apply GE.isAny; first | apply GE.again | apply GE.thenG | apply GE.blockN | apply GE.blockE | apply GE.thenE | apply GE.thenR | apply GE.blockR | refine GE.blockO rfl ?_ | apply GE.only) | (apply GD.isAny; first | refine GD.runA rfl ?_ | refine GD.guardY rfl rfl ?_ | refine GD.guardN rfl rfl rfl ?_ | refine GD.guardU rfl rfl rfl ?_) | apply GD.nilE | apply GD.nilL | (apply GT.isAny; refine GT.runA rfl rfl ?_) | ((first | (apply GL.isAny; refine GL.guard rfl rfl (fun hc => ?_) (fun hc => ?_)) | (apply G.isCond; refine G.cond rfl (fun hc => ?_) (fun hc => ?_)) | (apply GD.isAny; refine GD.guard rfl rfl (fun hc => ?_) (fun hc => ?_))) <;> ((try simp only [decide_eq_true_eq, decide_eq_false_iff_not, Bool.not_true, Bool.not_false, ne_eq, Classical.not_not, Int.not_lt, Int.not_le] at hc); (try (exfalso; first | omega | exact hc trivial | exact hc rfl)))))
  refine GE.resOne rfl (by (repeat (first | apply Res.nil | (apply Res.tmp; rfl) | (refine Res.cellA rfl rfl rfl ?_) | (refine Res.cell1 rfl rfl ?_)))) (fun w h => ?_); exact ⟨rfl, h.sub⟩
end
/-- A book of n counts. -/
def bookP (v : Value) (n : Nat) (l : List Int) : HProp := fun f => ∃ kb, v = .pointer (some ⟨kb, 0, none⟩) ∧ ((l = List.replicate n 0 ∧ blk kb (.cells #[.int .i64 (n : Nat), .int .u32 0, .int .i32 0, .int .u32 0, .slice none 0 0] 209 (0, 0)) f) ∨ ∃ g, sep [blk kb (.cells #[.int .i64 (n : Nat), .int .u32 1, .int .i32 0, .int .u32 0, .slice (some ⟨g, 0, none⟩) n n] 209 (0, 0)), rowX 260 g n l] f)
theorem bookP.open {w : World} {v : Value} {n : Nat} {l : List Int} {F : List HProp} (h : holds w (bookP v n l :: F)) : ∃ kb, v = .pointer (some ⟨kb, 0, none⟩) ∧ ((l = List.replicate n 0 ∧ holds w (blk kb (.cells #[.int .i64 (n : Nat), .int .u32 0, .int .i32 0, .int .u32 0, .slice none 0 0] 209 (0, 0)) :: F)) ∨ ∃ g, holds w (blk kb (.cells #[.int .i64 (n : Nat), .int .u32 1, .int .i32 0, .int .u32 0, .slice (some ⟨g, 0, none⟩) n n] 209 (0, 0)) :: rowX 260 g n l :: F)) := by
  obtain ⟨kb, h⟩ := holds.open_ex h
  obtain ⟨e, h⟩ := holds.open_pure h
  refine ⟨kb, e, ?_⟩
  obtain ⟨f, hf, f1, f2, ha, hs, j⟩ := h
  rcases ha with ⟨e, ha⟩ | ⟨g, ha⟩
  · exact .inl ⟨e, f, hf, f1, f2, ha, hs, j⟩
  · exact .inr ⟨g, holds_sep.1 ⟨f, hf, f1, f2, ha, hs, j⟩⟩
theorem bookP.shutN {w : World} {kb n : Nat} {F : List HProp} (h : holds w (blk kb (.cells #[.int .i64 (n : Nat), .int .u32 0, .int .i32 0, .int .u32 0, .slice none 0 0] 209 (0, 0)) :: F)) : holds w (bookP (.pointer (some ⟨kb, 0, none⟩)) n (List.replicate n 0) :: F) := h.mono fun f hf => ⟨kb, rfl, .inl ⟨rfl, hf⟩⟩
theorem bookP.shutL {w : World} {kb n g : Nat} {l : List Int} {F : List HProp} (h : holds w (blk kb (.cells #[.int .i64 (n : Nat), .int .u32 1, .int .i32 0, .int .u32 0, .slice (some ⟨g, 0, none⟩) n n] 209 (0, 0)) :: rowX 260 g n l :: F)) : holds w (bookP (.pointer (some ⟨kb, 0, none⟩)) n l :: F) :=
  (holds_sep (l := [blk kb (.cells #[.int .i64 (n : Nat), .int .u32 1, .int .i32 0, .int .u32 0, .slice (some ⟨g, 0, none⟩) n n] 209 (0, 0)), rowX 260 g n l]).2 h).mono fun f hf => ⟨kb, rfl, .inr ⟨g, hf⟩⟩
theorem count_New (n : Nat) (h0 : 0 < n) (hn : n ≤ 64) (w : World) (F : List HProp) (hw : holds w F) :
    Ct Tryz.prog 67 #[.int .i64 (n : Nat)] w fun e w' => ∃ v : Nat, e = .returned (.pointer (some ⟨v, 0, none⟩)) ∧ holds w' (bookP (.pointer (some ⟨v, 0, none⟩)) n (List.replicate n 0) :: F) := by
  refine Ct.go (args := [.int .i64 (n : Nat)]) Tryz.func67 rfl rfl rfl hw ?_
  repeat' (first | ((apply GL.isBox; refine GL.boxA (cs := #[.int .i64 (n : Nat), .int .u32 0, .int .i32 0, .int .u32 0, .slice none 0 0]) rfl rfl (fun bb => ?_))) | first | (apply GL.isAny; first | refine GL.runA rfl ?_ | (apply GL.isStore; first | refine GL.storeBlk rfl rfl rfl rfl rfl ?_ | refine GL.storeWhole rfl rfl rfl rfl rfl ?_ | refine GL.storeBlkA rfl rfl rfl rfl rfl ?_) | refine GL.guardY rfl rfl ?_ | refine GL.guardN rfl rfl rfl ?_ | refine GL.guardU rfl rfl rfl ?_ | (apply GL.isBox; first | refine GL.boxA rfl rfl (fun _ => ?_) | refine GL.box1 rfl rfl rfl (fun _ => ?_) | refine GL.box rfl rfl (fun _ => ?_)) | (apply GL.isBuildS; first | refine GL.buildSlice1A rfl rfl rfl rfl rfl (fun _ => ?_) | refine GL.buildSlice1 rfl rfl rfl rfl rfl (fun _ => ?_)) | (apply GL.isCall; refine GL.append1 _ rfl rfl rfl rfl (by rfl) (by omega) (by omega) rfl (fun _ => ?_)) | (apply GL.isAlloc; refine GL.alloc rfl (fun _ => ?_))) | apply GL.nil | first | apply G.seq | apply G.region | apply G.block | apply G.skip | apply G.exit | apply G.ret | (apply G.isCond; first | refine G.condT rfl ?_ | refine G.condF rfl ?_) | refine G.draw (by kernel_rfl) (by kernel_rfl) ?_ | (apply GE.isAny; first | apply GE.again | apply GE.thenG | apply GE.blockN | apply GE.blockE | apply GE.thenE | apply GE.thenR | apply GE.blockR | refine GE.blockO rfl ?_ | apply GE.only) | (apply GD.isAny; first | refine GD.runA rfl ?_ | refine GD.guardY rfl rfl ?_ | refine GD.guardN rfl rfl rfl ?_ | refine GD.guardU rfl rfl rfl ?_) | apply GD.nilE | apply GD.nilL | (apply GT.isAny; refine GT.runA rfl rfl ?_) | ((first | (apply GL.isAny; refine GL.guard rfl rfl (fun hc => ?_) (fun hc => ?_)) | (apply G.isCond; refine G.cond rfl (fun hc => ?_) (fun hc => ?_)) | (apply GD.isAny; refine GD.guard rfl rfl (fun hc => ?_) (fun hc => ?_))) <;> ((try simp only [decide_eq_true_eq, decide_eq_false_iff_not, Bool.not_true, Bool.not_false, ne_eq, Classical.not_not, Int.not_lt, Int.not_le] at hc); (try (exfalso; first | omega | exact hc trivial | exact hc rfl)))))
  all_goals (first | (exfalso; omega) | (refine GE.resOne rfl (by (repeat (first | apply Res.nil | (apply Res.tmp; rfl) | (refine Res.cellA rfl rfl rfl ?_) | (refine Res.cell1 rfl rfl ?_)))) (fun w h => ?_); exact ⟨bb, rfl, bookP.shutN h⟩))
theorem once_book (kb n : Nat) : OnceAt kb 1 (fun (s d l : Value) => blk kb (.cells #[.int .i64 (n : Nat), d, l, .int .u32 0, s] 209 (0, 0))) := ⟨fun s l => cellAt_blk kb [.int .i64 (n : Nat)] [l, .int .u32 0, s] 209, fun s d => cellAt_blk kb [.int .i64 (n : Nat), d] [.int .u32 0, s] 209⟩
theorem count_lay (kb n : Nat) (hn : n ≤ 64) (w : World) (F : List HProp) (hw : holds w (blk kb (.cells #[.int .i64 (n : Nat), .int .u32 0, .int .i32 1, .int .u32 0, .slice none 0 0] 209 (0, 0)) :: F)) :
    Ct Tryz.prog 215 #[.pointer (some ⟨kb, 0, none⟩)] w fun e w' => ∃ g : Nat, e = .returned (.tuple #[]) ∧ holds w' (blk kb (.cells #[.int .i64 (n : Nat), .int .u32 0, .int .i32 1, .int .u32 0, .slice (some ⟨g, 0, none⟩) n n] 209 (0, 0)) :: rowX 260 g n (List.replicate n 0) :: F) := by
  refine Ct.go (args := [.pointer (some ⟨kb, 0, none⟩)]) Tryz.func215 rfl rfl rfl hw ?_
  repeat' (first | ((apply GL.isAny; refine GL.makeSl encI1 0 n n rfl rfl rfl rfl rfl (Nat.le_refl _) (by omega) (by unfold maxLen; omega) rfl (fun g => ?_))) | first | (apply GL.isAny; first | refine GL.runA rfl ?_ | (apply GL.isStore; first | refine GL.storeBlk rfl rfl rfl rfl rfl ?_ | refine GL.storeWhole rfl rfl rfl rfl rfl ?_ | refine GL.storeBlkA rfl rfl rfl rfl rfl ?_) | refine GL.guardY rfl rfl ?_ | refine GL.guardN rfl rfl rfl ?_ | refine GL.guardU rfl rfl rfl ?_ | (apply GL.isBox; first | refine GL.boxA rfl rfl (fun _ => ?_) | refine GL.box1 rfl rfl rfl (fun _ => ?_) | refine GL.box rfl rfl (fun _ => ?_)) | (apply GL.isBuildS; first | refine GL.buildSlice1A rfl rfl rfl rfl rfl (fun _ => ?_) | refine GL.buildSlice1 rfl rfl rfl rfl rfl (fun _ => ?_)) | (apply GL.isCall; refine GL.append1 _ rfl rfl rfl rfl (by rfl) (by omega) (by omega) rfl (fun _ => ?_)) | (apply GL.isAlloc; refine GL.alloc rfl (fun _ => ?_))) | apply GL.nil | first | apply G.seq | apply G.region | apply G.block | apply G.skip | apply G.exit | apply G.ret | (apply G.isCond; first | refine G.condT rfl ?_ | refine G.condF rfl ?_) | refine G.draw (by kernel_rfl) (by kernel_rfl) ?_ | (apply GE.isAny; first | apply GE.again | apply GE.thenG | apply GE.blockN | apply GE.blockE | apply GE.thenE | apply GE.thenR | apply GE.blockR | refine GE.blockO rfl ?_ | apply GE.only) | (apply GD.isAny; first | refine GD.runA rfl ?_ | refine GD.guardY rfl rfl ?_ | refine GD.guardN rfl rfl rfl ?_ | refine GD.guardU rfl rfl rfl ?_) | apply GD.nilE | apply GD.nilL | (apply GT.isAny; refine GT.runA rfl rfl ?_) | ((first | (apply GL.isAny; refine GL.guard rfl rfl (fun hc => ?_) (fun hc => ?_)) | (apply G.isCond; refine G.cond rfl (fun hc => ?_) (fun hc => ?_)) | (apply GD.isAny; refine GD.guard rfl rfl (fun hc => ?_) (fun hc => ?_))) <;> ((try simp only [decide_eq_true_eq, decide_eq_false_iff_not, Bool.not_true, Bool.not_false, ne_eq, Classical.not_not, Int.not_lt, Int.not_le] at hc); (try (exfalso; first | omega | exact hc trivial | exact hc rfl)))))
  (first | refine GE.res0 (.inl rfl) rfl (fun w h => ?_) | refine GE.res0 (.inr rfl) rfl (fun w h => ?_))
  exact ⟨g, rfl, (rowX.ofOwn (h.order [1, 0])).order [1, 0]⟩
section
variable (v : Value) (n : Nat) (hn : n ≤ 64) (l : List Int) (hl : l.length = n)
include hn
/-- The place of a count, laid. -/
theorem count_count (i : Nat) (hi : i < n) (w : World) (F : List HProp) (hw : holds w (bookP v n l :: F)) :
    Ct Tryz.prog 176 #[v, .int .i64 (i : Nat)] w fun e w' => ∃ x : {x : Nat × Nat // v = .pointer (some ⟨x.1, 0, none⟩)}, e = .returned (.pointer (some ⟨x.1.2, i, none⟩)) ∧ holds w' (blk x.1.1 (.cells #[.int .i64 (n : Nat), .int .u32 1, .int .i32 0, .int .u32 0, .slice (some ⟨x.1.2, 0, none⟩) n n] 209 (0, 0)) :: rowX 260 x.1.2 n l :: F) := by
  obtain ⟨kb, rfl, ⟨rfl, h1⟩ | ⟨g, h1⟩⟩ := bookP.open hw
  · refine Ct.go (args := [.pointer (some ⟨kb, 0, none⟩), .int .i64 (i : Nat)]) Tryz.func176 rfl rfl rfl h1 ?_
    have hO := fun w h => once_Do (once_book kb n) (.slice none 0 0) (fun g : Nat => .slice (some ⟨g, 0, none⟩) n n) 215 [.pointer (some ⟨kb, 0, none⟩)] [] w F (fun g => rowX 260 g n (List.replicate n 0) :: F) (fun _ _ => rfl) (fun w h => count_lay kb n hn w F h) h
    repeat' (first | (first | (apply GL.isCall; refine GL.call (vs := [.pointer (some ⟨kb, 1, none⟩), .func (.func 215) #[.pointer (some ⟨kb, 0, none⟩)] #[]]) rfl rfl (fun w h => hO w h) (fun g => ?_)) | (apply GL.isAny; refine GL.run (by apply Runs.isIndexA; exact Runs.indexAddr (k := i) rfl rfl rfl rfl (by rw [List.length_replicate]; exact hi)) rfl ?_)) | first | (apply GL.isAny; first | refine GL.runA rfl ?_ | (apply GL.isStore; first | refine GL.storeBlk rfl rfl rfl rfl rfl ?_ | refine GL.storeWhole rfl rfl rfl rfl rfl ?_ | refine GL.storeBlkA rfl rfl rfl rfl rfl ?_) | refine GL.guardY rfl rfl ?_ | refine GL.guardN rfl rfl rfl ?_ | refine GL.guardU rfl rfl rfl ?_ | (apply GL.isBox; first | refine GL.boxA rfl rfl (fun _ => ?_) | refine GL.box1 rfl rfl rfl (fun _ => ?_) | refine GL.box rfl rfl (fun _ => ?_)) | (apply GL.isBuildS; first | refine GL.buildSlice1A rfl rfl rfl rfl rfl (fun _ => ?_) | refine GL.buildSlice1 rfl rfl rfl rfl rfl (fun _ => ?_)) | (apply GL.isCall; refine GL.append1 _ rfl rfl rfl rfl (by rfl) (by omega) (by omega) rfl (fun _ => ?_)) | (apply GL.isAlloc; refine GL.alloc rfl (fun _ => ?_))) | apply GL.nil | first | apply G.seq | apply G.region | apply G.block | apply G.skip | apply G.exit | apply G.ret | (apply G.isCond; first | refine G.condT rfl ?_ | refine G.condF rfl ?_) | refine G.draw (by kernel_rfl) (by kernel_rfl) ?_ | (apply GE.isAny; first | apply GE.again | apply GE.thenG | apply GE.blockN | apply GE.blockE | apply GE.thenE | apply GE.thenR | apply GE.blockR | refine GE.blockO rfl ?_ | apply GE.only) | (apply GD.isAny; first | refine GD.runA rfl ?_ | refine GD.guardY rfl rfl ?_ | refine GD.guardN rfl rfl rfl ?_ | refine GD.guardU rfl rfl rfl ?_) | apply GD.nilE | apply GD.nilL | (apply GT.isAny; refine GT.runA rfl rfl ?_) | ((first | (apply GL.isAny; refine GL.guard rfl rfl (fun hc => ?_) (fun hc => ?_)) | (apply G.isCond; refine G.cond rfl (fun hc => ?_) (fun hc => ?_)) | (apply GD.isAny; refine GD.guard rfl rfl (fun hc => ?_) (fun hc => ?_))) <;> ((try simp only [decide_eq_true_eq, decide_eq_false_iff_not, Bool.not_true, Bool.not_false, ne_eq, Classical.not_not, Int.not_lt, Int.not_le] at hc); (try (exfalso; first | omega | exact hc trivial | exact hc rfl)))))
    all_goals (first | (exfalso; omega) | (refine GE.resOne rfl (by (repeat (first | apply Res.nil | (apply Res.tmp; rfl) | (refine Res.cellA rfl rfl rfl ?_) | (refine Res.cell1 rfl rfl ?_)))) (fun w h => ?_); exact ⟨⟨(kb, g), rfl⟩, by simp [rowB, rowO], h⟩))
  · refine Ct.go (args := [.pointer (some ⟨kb, 0, none⟩), .int .i64 (i : Nat)]) Tryz.func176 rfl rfl rfl h1 ?_
    have hl := (rowX.open (h1.order [1, 0])).1
    have hO := fun w h => once_Done (once_book kb n) (.slice (some ⟨g, 0, none⟩) n n) w (rowX 260 g n l :: F) (.func (.func 215) #[.pointer (some ⟨kb, 0, none⟩)] #[]) h
    repeat' (first | (first | (apply GL.isCall; refine GL.call1 (vs := [.pointer (some ⟨kb, 1, none⟩), .func (.func 215) #[.pointer (some ⟨kb, 0, none⟩)] #[]]) rfl rfl (fun w h => hO w h) ?_) | (apply GL.isAny; refine GL.run (by apply Runs.isIndexA; exact Runs.indexAddr (k := i) rfl rfl rfl rfl (by omega)) rfl ?_)) | first | (apply GL.isAny; first | refine GL.runA rfl ?_ | (apply GL.isStore; first | refine GL.storeBlk rfl rfl rfl rfl rfl ?_ | refine GL.storeWhole rfl rfl rfl rfl rfl ?_ | refine GL.storeBlkA rfl rfl rfl rfl rfl ?_) | refine GL.guardY rfl rfl ?_ | refine GL.guardN rfl rfl rfl ?_ | refine GL.guardU rfl rfl rfl ?_ | (apply GL.isBox; first | refine GL.boxA rfl rfl (fun _ => ?_) | refine GL.box1 rfl rfl rfl (fun _ => ?_) | refine GL.box rfl rfl (fun _ => ?_)) | (apply GL.isBuildS; first | refine GL.buildSlice1A rfl rfl rfl rfl rfl (fun _ => ?_) | refine GL.buildSlice1 rfl rfl rfl rfl rfl (fun _ => ?_)) | (apply GL.isCall; refine GL.append1 _ rfl rfl rfl rfl (by rfl) (by omega) (by omega) rfl (fun _ => ?_)) | (apply GL.isAlloc; refine GL.alloc rfl (fun _ => ?_))) | apply GL.nil | first | apply G.seq | apply G.region | apply G.block | apply G.skip | apply G.exit | apply G.ret | (apply G.isCond; first | refine G.condT rfl ?_ | refine G.condF rfl ?_) | refine G.draw (by kernel_rfl) (by kernel_rfl) ?_ | (apply GE.isAny; first | apply GE.again | apply GE.thenG | apply GE.blockN | apply GE.blockE | apply GE.thenE | apply GE.thenR | apply GE.blockR | refine GE.blockO rfl ?_ | apply GE.only) | (apply GD.isAny; first | refine GD.runA rfl ?_ | refine GD.guardY rfl rfl ?_ | refine GD.guardN rfl rfl rfl ?_ | refine GD.guardU rfl rfl rfl ?_) | apply GD.nilE | apply GD.nilL | (apply GT.isAny; refine GT.runA rfl rfl ?_) | ((first | (apply GL.isAny; refine GL.guard rfl rfl (fun hc => ?_) (fun hc => ?_)) | (apply G.isCond; refine G.cond rfl (fun hc => ?_) (fun hc => ?_)) | (apply GD.isAny; refine GD.guard rfl rfl (fun hc => ?_) (fun hc => ?_))) <;> ((try simp only [decide_eq_true_eq, decide_eq_false_iff_not, Bool.not_true, Bool.not_false, ne_eq, Classical.not_not, Int.not_lt, Int.not_le] at hc); (try (exfalso; first | omega | exact hc trivial | exact hc rfl)))))
    all_goals (first | (exfalso; omega) | (refine GE.resOne rfl (by (repeat (first | apply Res.nil | (apply Res.tmp; rfl) | (refine Res.cellA rfl rfl rfl ?_) | (refine Res.cell1 rfl rfl ?_)))) (fun w h => ?_); exact ⟨⟨(kb, g), rfl⟩, by simp [rowB, rowO], h⟩))
include hl
theorem count_Add (i : Nat) (hi : i < n) (y : Int) (hy : 0 ≤ y) (h0 : 0 ≤ l.getD i 0) (hb : l.getD i 0 + y ≤ 4611686018427387904) (w : World) (F : List HProp) (hw : holds w (bookP v n l :: F)) :
    Ct Tryz.prog 112 #[v, .int .i64 (i : Nat), .int .i64 y] w fun e w' => e = .returned (.int .i64 0) ∧ holds w' (bookP v n (l.set i (l.getD i 0 + y)) :: F) := by
  have hil : i < l.length := by omega
  have eg : l.getD i 0 = l[i] := by rw [List.getD_eq_getElem?_getD, List.getElem?_eq_getElem hil]; rfl
  rw [eg] at h0 hb ⊢
  obtain ⟨kb0, hv, hcase⟩ := bookP.open hw
  have hn0 : (n : Int) ≠ 0 := by omega
  have hsee : ∃ c2 : List Value, ∃ FF : List HProp, holds w (blk kb0 (.cells (.int .i64 (n : Nat) :: c2).toArray 209 (0, 0)) :: FF) ∧ ∀ w', holds w' (blk kb0 (.cells (.int .i64 (n : Nat) :: c2).toArray 209 (0, 0)) :: FF) → holds w' (bookP v n l :: F) := by
    subst hv
    rcases hcase with ⟨rfl, h⟩ | ⟨g, h⟩
    · exact ⟨_, _, h, fun w' h' => bookP.shutN h'⟩
    · exact ⟨_, _, h, fun w' h' => bookP.shutL h'⟩
  obtain ⟨c2, FF, h1, hback⟩ := hsee
  have hCC := fun w (h : holds w (bookP v n l :: F)) => count_count v n hn l i hi w F h
  subst hv
  refine Ct.go (args := [.pointer (some ⟨kb0, 0, none⟩), .int .i64 (i : Nat), .int .i64 y]) Tryz.func112 rfl rfl rfl h1 ?_
  repeat' (first | (first | (refine G.isRegion 3 ?_; refine G.imp (F' := bookP (.pointer (some ⟨kb0, 0, none⟩)) n l :: F) ?_ (fun w h => hback w h); apply G.region) | (apply GL.isCall; refine GL.call (vs := [.pointer (some ⟨kb0, 0, none⟩), .int .i64 (i : Nat)]) rfl rfl (fun w h => hCC w h) (fun x => ?_); obtain ⟨⟨kb, g⟩, hx⟩ := x; dsimp only; refine GL.imp (F' := rowC 260 g n i l (.int .i64 l[i]) :: blk kb (.cells #[.int .i64 (n : Nat), .int .u32 1, .int .i32 0, .int .u32 0, .slice (some ⟨g, 0, none⟩) n n] 209 (0, 0)) :: F) ?_ (fun w h => rowX.cell hil (h.order [1, 0]))) | first | (apply GL.isCall; refine GL.call1 rfl rfl (fun w h => i64_Load g i _ (rowC.cellAt 260 g n i l hil) l[i] w _ h) ?_) | (apply GD.isAny; refine GD.call rfl rfl (fun w F' h => i64_Load g i _ (rowC.cellAt 260 g n i l hil) l[i] w _ h) ?_) | first | (apply GL.isCall; refine GL.call1 rfl rfl (fun w h => i64_Add g i _ (rowC.cellAt 260 g n i l hil) l[i] y (by omega) w _ h) ?_) | (apply GD.isAny; refine GD.call rfl rfl (fun w F' h => i64_Add g i _ (rowC.cellAt 260 g n i l hil) l[i] y (by omega) w _ h) ?_)) | first | (apply GL.isAny; first | refine GL.runA rfl ?_ | (apply GL.isStore; first | refine GL.storeBlk rfl rfl rfl rfl rfl ?_ | refine GL.storeWhole rfl rfl rfl rfl rfl ?_ | refine GL.storeBlkA rfl rfl rfl rfl rfl ?_) | refine GL.guardY rfl rfl ?_ | refine GL.guardN rfl rfl rfl ?_ | refine GL.guardU rfl rfl rfl ?_ | (apply GL.isBox; first | refine GL.boxA rfl rfl (fun _ => ?_) | refine GL.box1 rfl rfl rfl (fun _ => ?_) | refine GL.box rfl rfl (fun _ => ?_)) | (apply GL.isBuildS; first | refine GL.buildSlice1A rfl rfl rfl rfl rfl (fun _ => ?_) | refine GL.buildSlice1 rfl rfl rfl rfl rfl (fun _ => ?_)) | (apply GL.isCall; refine GL.append1 _ rfl rfl rfl rfl (by rfl) (by omega) (by omega) rfl (fun _ => ?_)) | (apply GL.isAlloc; refine GL.alloc rfl (fun _ => ?_))) | apply GL.nil | first | apply G.seq | apply G.region | apply G.block | apply G.skip | apply G.exit | apply G.ret | (apply G.isCond; first | refine G.condT rfl ?_ | refine G.condF rfl ?_) | refine G.draw (by kernel_rfl) (by kernel_rfl) ?_ | (apply GE.isAny; first | apply GE.again | apply GE.thenG | apply GE.blockN | apply GE.blockE | apply GE.thenE | apply GE.thenR | apply GE.blockR | refine GE.blockO rfl ?_ | apply GE.only) | (apply GD.isAny; first | refine GD.runA rfl ?_ | refine GD.guardY rfl rfl ?_ | refine GD.guardN rfl rfl rfl ?_ | refine GD.guardU rfl rfl rfl ?_) | apply GD.nilE | apply GD.nilL | (apply GT.isAny; refine GT.runA rfl rfl ?_) | ((first | (apply GL.isAny; refine GL.guard rfl rfl (fun hc => ?_) (fun hc => ?_)) | (apply G.isCond; refine G.cond rfl (fun hc => ?_) (fun hc => ?_)) | (apply GD.isAny; refine GD.guard rfl rfl (fun hc => ?_) (fun hc => ?_))) <;> ((try simp only [decide_eq_true_eq, decide_eq_false_iff_not, Bool.not_true, Bool.not_false, ne_eq, Classical.not_not, Int.not_lt, Int.not_le] at hc); (try (exfalso; first | omega | exact hc trivial | exact hc rfl)))))
  all_goals (first | (exfalso; omega) | skip)
  refine GE.resOne rfl (by (repeat (first | apply Res.nil | (apply Res.tmp; rfl) | (refine Res.cellA rfl rfl rfl ?_) | (refine Res.cell1 rfl rfl ?_)))) (fun w h => ?_)
  obtain ⟨rfl⟩ : kb0 = kb := by simpa using hx
  exact ⟨rfl, bookP.shutL ((rowX.back hil h).order [1, 0])⟩
end
end Go.Proofs.YtipkgamiejenaaaGreat

/- Package scrub: the walks. -/
namespace Go.Proofs.YtipkgamiejenaaaGreat
open Go Go.RowKit Go.MapKept
set_option linter.unusedVariables false
set_option linter.unusedSimpArgs false
set_option maxRecDepth 100000
set_option maxHeartbeats 2000000
instance (priority := 400) SeesBlk.appendS {F F2 : List HProp} {b : Nat} {c : Array Value} [h : SeesBlk F b c] : SeesBlk (F ++ F2) b c := ⟨fun w hw => h.at_ w (by obtain ⟨f, hf, hs⟩ := hw; obtain ⟨f1, f2, h1, h2, j⟩ := (sep_append F F2 f).1 hs; exact ⟨f, hf, sep_sub F f1 f j h1⟩)⟩
section
variable (wb b sz : Nat) (x : Int)
end
end Go.Proofs.YtipkgamiejenaaaGreat

/- Package stack's memory: one block of ints that the places and the list share. -/
namespace Go.Proofs.YtipkgamiejenaaaGreat
open Go Go.RowKit Go.MapKept
set_option linter.unusedVariables false
set_option linter.unusedSimpArgs false
set_option maxRecDepth 100000
set_option maxHeartbeats 1000000
/-- The block r holds n places pl, the list l and what is left of its room. -/
def stkB (r n : Nat) (pl l jk : List Int) : HProp := fun f => (pl.length = n ∧ l.length + jk.length = n) ∧ blk r (.cells ((pl ++ l ++ jk).flatMap encI1).toArray 3 (0, 0)) f
theorem stkB.open {r n : Nat} {pl l jk : List Int} {w : World} {F : List HProp} (h : holds w (stkB r n pl l jk :: F)) : (pl.length = n ∧ l.length + jk.length = n) ∧ holds w (blk r (.cells ((pl ++ l ++ jk).flatMap encI1).toArray 3 (0, 0)) :: F) := by
  refine ⟨?_, h.mono fun f hf => hf.2⟩
  obtain ⟨f, hf, f1, f2, ha, hs, j⟩ := h
  exact ha.1
theorem stkB.shut {r n : Nat} {pl l jk : List Int} {w : World} {F : List HProp} (e : pl.length = n ∧ l.length + jk.length = n) (h : holds w (blk r (.cells ((pl ++ l ++ jk).flatMap encI1).toArray 3 (0, 0)) :: F)) : holds w (stkB r n pl l jk :: F) := h.mono fun f hf => ⟨e, hf⟩
theorem flatI_get (l : List Int) (i : Nat) : (l.flatMap encI1)[i]? = (l[i]?).map (.int .i64 ·) := by
  induction l generalizing i with
  | nil => simp
  | cons a l ih =>
    cases i with
    | zero => simp [encI1]
    | succ i => simpa [encI1] using ih i
theorem flatI_len (l : List Int) : (l.flatMap encI1).length = l.length := by simpa using Enc.flat_len (enc := encI1) (n := 1) l
theorem flatI_map (l : List Int) : l.flatMap encI1 = l.map (.int .i64 ·) := by
  induction l with
  | nil => rfl
  | cons a l ih => simpa [encI1] using ih
instance {r n : Nat} {pl l jk : List Int} {F : List HProp} : Reads (stkB r n pl l jk :: F) (.slice (some ⟨r, 0, none⟩) n n) encI1 1 pl := ⟨fun w h => by
  obtain ⟨⟨rfl, e⟩, h1⟩ := stkB.open h
  refine ⟨by simpa using Enc.flat_len (enc := encI1) (n := 1) pl, _, _, rfl, Nat.le_refl _, .inr ⟨r, 0, rfl, fun i hi => ?_⟩⟩
  rw [cell_of_row w r (0 + i) _ 3 (0, 0) h1.get_blk, flatI_get]
  simp only [List.getElem?_toArray, flatI_get, List.append_assoc]
  rw [Nat.zero_add, List.getElem?_append_left (by omega)]⟩
theorem stkB.list {r n k : Nat} {pl l jk : List Int} {F : List HProp} (hk : k = l.length) : Reads (stkB r n pl l jk :: F) (.slice (some ⟨r, n, none⟩) k n) encI1 1 l := ⟨fun w h => by
  subst hk
  obtain ⟨⟨rfl, e⟩, h1⟩ := stkB.open h
  refine ⟨by simpa using Enc.flat_len (enc := encI1) (n := 1) l, _, _, rfl, by omega, .inr ⟨r, pl.length, rfl, fun i hi => ?_⟩⟩
  rw [cell_of_row w r (pl.length + i) _ 3 (0, 0) h1.get_blk, flatI_get]
  simp only [List.getElem?_toArray, flatI_get, List.append_assoc]
  rw [List.getElem?_append_right (by omega), Nat.add_sub_cancel_left, List.getElem?_append_left (by omega)]⟩
instance {r n : Nat} {pl l jk : List Int} {F : List HProp} : Reads (stkB r n pl l jk :: F) (.slice (some ⟨r, n, none⟩) l.length n) encI1 1 l := stkB.list rfl
section
variable {P : Program} {nn : Nat} {Q : Exit → Act → World → Prop} {env : Env} {F F' : List HProp} {ops : Array Oper} {rest : List Oper} {ty : TypeId} {pos : String} {aft : Array Edge}
/-- A store to one of the places. -/
theorem GL.storePl {t : TypeId} {x y : Operand} {r n i off : Nat} {pl l jk : List Int} {z : Int} (hx : opnd env x = some (.pointer (some ⟨r, off, none⟩))) (hy : opnd env y = some (.int .i64 z)) [ht : CellT P t] [hk : Has F (stkB r n pl l jk) F'] (ho : off = i) (hi : i < pl.length)
    (h : GL P nn ops Q rest env (stkB r n (pl.set i z) l jk :: F')) : GL P nn ops Q (⟨none, .store t x y, ty, pos, aft, none⟩ :: rest) env F := .mk fun a w hf hw => by
  subst ho
  obtain ⟨i', ds, g1, g2, g3, g4⟩ := ht.ok
  obtain ⟨⟨e1, e2⟩, hb⟩ := stkB.open (hw.perm hk.perm)
  refine wpList_store1_sl rfl rfl t x y rfl (off := off) (.int .i64 z) (hf.eval hx) (hf.eval hy) (by simp [g1, g2]) rfl rfl hb (by simp only [List.size_toArray, flatI_len, List.length_append]; omega) fun w' hw' => h a w' hf ?_
  refine stkB.shut ⟨by simpa using e1, e2⟩ ?_
  have e : ((pl ++ l ++ jk).flatMap encI1).toArray.setIfInBounds off (.int .i64 z) = ((pl.set off z ++ l ++ jk).flatMap encI1).toArray := by
    apply Array.ext'
    simp only [Array.toList_setIfInBounds, flatI_map]
    rw [show pl.set off z ++ l ++ jk = (pl ++ l ++ jk).set off z by rw [List.append_assoc, List.append_assoc, List.set_append_left _ _ hi], List.map_set]
  rw [← e]
  exact hw'
theorem run_append_off {w : World} (t ty e : TypeId) (i : TypeInfo) (ht : P.underlying t = some (.slice e)) (hi : P.info? e = some i)
    (g off sLen sCap : Nat) (cur : Array Value) (hg : w.heap[g]? = some (.cells cur e (0, 0)))
    (a : Addr) (m c : Nat) (news : List Value) (hl : news.length = m * i.size) (hnews : ∀ j u, news[j]? = some u → w.cell? (a.add j) = some u) (h1 : ∀ u ∈ news, u.oneCell' = true)
    (hroom : sLen + m ≤ sCap) (hfit : off + sLen * i.size + news.length ≤ cur.size) :
    (Builtin.append_ #[t, t] ty #[.slice (some ⟨g, off, none⟩) sLen sCap, .slice (some a) m c]).run P w =
      .ok (.slice (some ⟨g, off, none⟩) (sLen + m) sCap) (w.setRow g (cur.toList.take (off + sLen * i.size) ++ news ++ cur.toList.drop (off + sLen * i.size + news.length)).toArray) := by
  have hf := run_firstCells_some (P := P) w i.size m a m c news hl hnews
  have hst := run_storeCells_at P g (off + sLen * i.size) e news 0 cur w hg (by simpa using hfit) h1
  simp only [Nat.add_zero] at hst
  simp [Builtin.append_, run_underlying ht, sizeOf, typeInfo, hi, Builtin.lenOf, hroom, hf, Addr.add_lit, hst]
/-- append within the room. -/
theorem GL.appendStk {t : TypeId} {x y : Operand} {u z : Value} {r n k : Nat} {pl l jk : List Int} {q : Int} {bytes d : Nat} [ht : SliceT P t 3 1] [hz : ZeroT P 3 z 1 bytes] (hx : opnd env x = some (.slice (some ⟨r, n, none⟩) k n)) (hy : opnd env y = some u) [hr : Has F (stkB r n pl l jk) F'] [hb : Reads F u encI1 1 [q]]
    (hkl : k = l.length) (hroom : l.length < n) (hd : Nat.blt d nn = true)
    (h : GL P nn ops Q rest ((d, .slice (some ⟨r, n, none⟩) (k + 1) n) :: env) (stkB r n pl (l ++ [q]) (jk.drop 1) :: F')) : GL P nn ops Q (⟨some d, .call { callee := .builtin .append, args := #[x, y], argTypes := #[t, t] }, ty, pos, aft, none⟩ :: rest) env F := .mk fun a w hf hw => by
  subst hkl
  refine wpList_plain rfl fun K hK => ?_
  obtain ⟨⟨e1, e2⟩, hB⟩ := stkB.open (hw.perm hr.perm)
  obtain ⟨i, h1, h2, h3⟩ := ht.ok
  obtain ⟨b, off, cap, rfl, hcap, hcell⟩ := (hb.at_ w hw).cells (by simp)
  have hrun := run_append_off (P := P) t ty 3 i h1 h2 r n l.length n _ hB.get_blk ⟨b, off, none⟩ 1 cap [.int .i64 q] (by simp [h3]) (fun j u hu => by
    have hj := (List.getElem?_eq_some_iff.1 hu).1
    rw [addr_add, hcell j (by simpa using hj)]; exact hu) (fun u hu => by simp at hu; subst hu; rfl) (by omega) (by
    simp only [List.size_toArray, flatI_len, List.length_append, h3, List.length_cons, List.length_nil]; omega)
  unfold Oper.wp
  simp only [execOp, resolve, invoke, builtin, Sem.run_bind, Sem.run_pure, Result.andThen_ok, List.map_toArray, List.map_cons, List.map_nil, hf.eval hx, hf.eval hy, List.length_cons, List.length_nil, Nat.zero_add, hrun]
  refine hK _ _ (h _ _ (hf.put hd _) ?_)
  refine stkB.shut ⟨e1, by simp only [List.length_append, List.length_cons, List.length_nil, List.length_drop]; omega⟩ ?_
  have h5 := hB.turn (w' := w.setRow r (((pl ++ l ++ jk).flatMap encI1).toArray.toList.take (n + l.length * i.size) ++ [Value.int .i64 q] ++ ((pl ++ l ++ jk).flatMap encI1).toArray.toList.drop (n + l.length * i.size + ([Value.int .i64 q]).length)).toArray) ⟨rfl, rfl, rfl, by simp, fun k _ hk => setRow_other w r k _ (fun e => hk (by simp [e]))⟩ (setRow_heap w r _ _ 3 _ hB.get_blk)
  have e : (((pl ++ l ++ jk).flatMap encI1).toArray.toList.take (n + l.length * i.size) ++ [Value.int .i64 q] ++ ((pl ++ l ++ jk).flatMap encI1).toArray.toList.drop (n + l.length * i.size + ([Value.int .i64 q]).length)) = (pl ++ (l ++ [q]) ++ jk.drop 1).flatMap encI1 := by
    simp only [flatI_map, h3, Nat.mul_one, List.length_cons, List.length_nil, ← List.map_take, ← List.map_drop]
    have t1 : (pl ++ l ++ jk).take (n + l.length) = pl ++ l := by rw [show n + l.length = (pl ++ l).length by rw [List.length_append, e1]]; exact List.take_left
    have t2 : (pl ++ l ++ jk).drop (n + l.length + (0 + 1)) = jk.drop 1 := by
      rw [show n + l.length + (0 + 1) = (pl ++ l).length + 1 by rw [List.length_append, e1], ← List.drop_drop, List.drop_left]
    rw [t1, t2]
    simp
  rw [e] at h5
  have e2 : List.take (n + l.length * i.size) (List.flatMap encI1 (pl ++ l ++ jk)) ++ [Value.int .i64 q] ++ List.drop (n + l.length * i.size + 1) (List.flatMap encI1 (pl ++ l ++ jk)) = (pl ++ (l ++ [q]) ++ jk.drop 1).flatMap encI1 := e
  rw [e2]
  exact h5
end
end Go.Proofs.YtipkgamiejenaaaGreat

/- A slice literal as a row. -/
namespace Go.Proofs.YtipkgamiejenaaaGreat
open Go Go.RowKit Go.MapKept
set_option linter.unusedVariables false
set_option linter.unusedSimpArgs false
set_option maxRecDepth 100000
set_option maxHeartbeats 1000000
theorem holds.rowOf {α : Type} {enc : α → List Value} {m : Nat} [he : Enc enc m] {w : World} {F : List HProp} {e : TypeId} {g k : Nat} (l : List α) (hk : l.length = k) (hl : k ≤ maxLen) (h : holds w (blk g (.cells (l.flatMap enc).toArray e (0, 0)) :: F)) : holds w (owns e enc m (.slice (some ⟨g, 0, none⟩) k k) l :: F) := by
  subst hk
  have h1 := h.mkRow (size := m) (n := l.length) (cap := l.length) (Nat.le_refl _) hl (by rw [List.size_toArray, Enc.flat_len])
  have h2 : (l.flatMap enc).toArray.toList.take (l.length * m) = l.flatMap enc := by
    exact List.take_of_length_le (by rw [Enc.flat_len]; exact Nat.le_refl _)
  rw [h2] at h1
  exact h1
section
variable {P : Program} {n : Nat} {Q : Exit → Act → World → Prop} {env : Env} {F : List HProp} {ops : Array Oper} {rest : List Oper} {ty : TypeId} {pos : String} {aft : Array Edge}
/-- A slice literal as a row. -/
theorem GL.buildR {α : Type} {enc : α → List Value} {t e : TypeId} {size m bytes : Nat} {z : Value} {parts : List (Nat × Operand)} {ps : List (Nat × Value)} {d : Tmp} (l : List α) [ht : SliceT P t e size] [hz : ZeroT P e z size bytes] [he : Enc enc size] (hk : l.length = m) (hp : partsOf env parts = some ps) (hpos : Nat.blt 0 (m * size) = true) (hm : Nat.ble (m * size) 16777216 = true)
    (hr : fillL ((List.range m).map fun i => (i * size, size)) (List.replicate (m * size) (default : Value)) ps = some (l.flatMap enc)) (hall : ∀ l', l'.length = m * size → fillL ((List.range m).map fun i => (i * size, size)) l' ps = some (l.flatMap enc)) (hd : Nat.blt d n = true)
    (h : ∀ g, GL P n ops Q rest ((d, .slice (some ⟨g, 0, none⟩) m m) :: env) (owns e enc size (.slice (some ⟨g, 0, none⟩) m m) l :: F)) :
    GL P n ops Q (⟨some d, .buildSlice t m parts.toArray, ty, pos, aft, none⟩ :: rest) env F :=
  GL.buildSlice hp hpos hm hr hall hd fun g => GL.imp (h g) fun w hw => holds.rowOf l hk (by
    have h1 := Nat.le_of_ble_eq_true hm
    have h2 : m ≤ m * size := Nat.le_mul_of_pos_right _ he.pos
    unfold maxLen; omega) hw
end
end Go.Proofs.YtipkgamiejenaaaGreat

/- Package stack: the walks. -/
namespace Go.Proofs.YtipkgamiejenaaaGreat
open Go Go.RowKit Go.MapKept
set_option linter.unusedVariables false
set_option linter.unusedSimpArgs false
set_option maxRecDepth 100000
set_option maxHeartbeats 1000000
/-- The place of x, -1 where it has none. -/
def Stk.place (pl : List Int) (x : Int) : Int := if x < 0 ∨ (pl.length : Int) ≤ x then -1 else pl.getD x.toNat 0
section
variable (s r n : Nat) (pl l jk : List Int)
theorem stack_Place (x : Int) (w : World) (F : List HProp) (hw : holds w (blk s (.cells #[.slice (some ⟨r, n, none⟩) l.length n, .slice (some ⟨r, 0, none⟩) n n] 267 (0, 0)) :: stkB r n pl l jk :: F)) :
    Ct Tryz.prog 225 #[.pointer (some ⟨s, 0, none⟩), .int .i64 x] w fun e w' => e = .returned (.int .i64 (Stk.place pl x)) ∧ holds w' (blk s (.cells #[.slice (some ⟨r, n, none⟩) l.length n, .slice (some ⟨r, 0, none⟩) n n] 267 (0, 0)) :: stkB r n pl l jk :: F) := by
  obtain ⟨⟨e1, e2⟩, _⟩ := stkB.open hw.tail
  unfold Stk.place
  refine Ct.go (args := [.pointer (some ⟨s, 0, none⟩), .int .i64 x]) Tryz.func225 rfl rfl rfl hw ?_
  by_cases hx : x < 0 ∨ (pl.length : Int) ≤ x
  · rw [if_pos hx]
    repeat' (first | (apply GL.isAny; first | refine GL.runA rfl ?_ | (apply GL.isStore; first | refine GL.storeBlk rfl rfl rfl rfl rfl ?_ | refine GL.storeWhole rfl rfl rfl rfl rfl ?_ | refine GL.storeBlkA rfl rfl rfl rfl rfl ?_) | refine GL.guardY rfl rfl ?_ | refine GL.guardN rfl rfl rfl ?_ | refine GL.guardU rfl rfl rfl ?_ | (apply GL.isBox; first | refine GL.boxA rfl rfl (fun _ => ?_) | refine GL.box1 rfl rfl rfl (fun _ => ?_) | refine GL.box rfl rfl (fun _ => ?_)) | (apply GL.isBuildS; first | refine GL.buildSlice1A rfl rfl rfl rfl rfl (fun _ => ?_) | refine GL.buildSlice1 rfl rfl rfl rfl rfl (fun _ => ?_)) | (apply GL.isCall; refine GL.append1 _ rfl rfl rfl rfl (by rfl) (by omega) (by omega) rfl (fun _ => ?_)) | (apply GL.isAlloc; refine GL.alloc rfl (fun _ => ?_))) | apply GL.nil | first | apply G.seq | apply G.region | apply G.block | apply G.skip | apply G.exit | apply G.ret | (apply G.isCond; first | refine G.condT rfl ?_ | refine G.condF rfl ?_) | refine G.draw (by kernel_rfl) (by kernel_rfl) ?_ | (apply GE.isAny; first | apply GE.again | apply GE.thenG | apply GE.blockN | apply GE.blockE | apply GE.thenE | apply GE.thenR | apply GE.blockR | refine GE.blockO rfl ?_ | apply GE.only) | (apply GD.isAny; first | refine GD.runA rfl ?_ | refine GD.guardY rfl rfl ?_ | refine GD.guardN rfl rfl rfl ?_ | refine GD.guardU rfl rfl rfl ?_) | apply GD.nilE | apply GD.nilL | (apply GT.isAny; refine GT.runA rfl rfl ?_) | ((first | (apply GL.isAny; refine GL.guard rfl rfl (fun hc => ?_) (fun hc => ?_)) | (apply G.isCond; refine G.cond rfl (fun hc => ?_) (fun hc => ?_)) | (apply GD.isAny; refine GD.guard rfl rfl (fun hc => ?_) (fun hc => ?_))) <;> ((try simp only [decide_eq_true_eq, decide_eq_false_iff_not, Bool.not_true, Bool.not_false, ne_eq, Classical.not_not, Int.not_lt, Int.not_le] at hc); (try (exfalso; first | omega | exact hc trivial | exact hc rfl)))))
    all_goals (first | (exfalso; omega) | (refine GE.resOne rfl (by (repeat (first | apply Res.nil | (apply Res.tmp; rfl) | (refine Res.cellA rfl rfl rfl ?_) | (refine Res.cell1 rfl rfl ?_)))) (fun w h => ?_); exact ⟨rfl, h.sub⟩))
  · rw [if_neg hx]
    obtain ⟨i, rfl⟩ : ∃ i : Nat, x = i := ⟨x.toNat, by omega⟩
    have hi : i < pl.length := by omega
    rw [show pl.getD (i : Int).toNat 0 = pl[i] by rw [List.getD_eq_getElem?_getD, Int.toNat_natCast, List.getElem?_eq_getElem hi]; rfl]
    repeat' (first | (apply GL.isAny; first | refine GL.runA rfl ?_ | (apply GL.isStore; first | refine GL.storeBlk rfl rfl rfl rfl rfl ?_ | refine GL.storeWhole rfl rfl rfl rfl rfl ?_ | refine GL.storeBlkA rfl rfl rfl rfl rfl ?_) | refine GL.guardY rfl rfl ?_ | refine GL.guardN rfl rfl rfl ?_ | refine GL.guardU rfl rfl rfl ?_ | (apply GL.isBox; first | refine GL.boxA rfl rfl (fun _ => ?_) | refine GL.box1 rfl rfl rfl (fun _ => ?_) | refine GL.box rfl rfl (fun _ => ?_)) | (apply GL.isBuildS; first | refine GL.buildSlice1A rfl rfl rfl rfl rfl (fun _ => ?_) | refine GL.buildSlice1 rfl rfl rfl rfl rfl (fun _ => ?_)) | (apply GL.isCall; refine GL.append1 _ rfl rfl rfl rfl (by rfl) (by omega) (by omega) rfl (fun _ => ?_)) | (apply GL.isAlloc; refine GL.alloc rfl (fun _ => ?_))) | apply GL.nil | first | apply G.seq | apply G.region | apply G.block | apply G.skip | apply G.exit | apply G.ret | (apply G.isCond; first | refine G.condT rfl ?_ | refine G.condF rfl ?_) | refine G.draw (by kernel_rfl) (by kernel_rfl) ?_ | (apply GE.isAny; first | apply GE.again | apply GE.thenG | apply GE.blockN | apply GE.blockE | apply GE.thenE | apply GE.thenR | apply GE.blockR | refine GE.blockO rfl ?_ | apply GE.only) | (apply GD.isAny; first | refine GD.runA rfl ?_ | refine GD.guardY rfl rfl ?_ | refine GD.guardN rfl rfl rfl ?_ | refine GD.guardU rfl rfl rfl ?_) | apply GD.nilE | apply GD.nilL | (apply GT.isAny; refine GT.runA rfl rfl ?_) | ((first | (apply GL.isAny; refine GL.guard rfl rfl (fun hc => ?_) (fun hc => ?_)) | (apply G.isCond; refine G.cond rfl (fun hc => ?_) (fun hc => ?_)) | (apply GD.isAny; refine GD.guard rfl rfl (fun hc => ?_) (fun hc => ?_))) <;> ((try simp only [decide_eq_true_eq, decide_eq_false_iff_not, Bool.not_true, Bool.not_false, ne_eq, Classical.not_not, Int.not_lt, Int.not_le] at hc); (try (exfalso; first | omega | exact hc trivial | exact hc rfl)))))
    all_goals (first | (exfalso; omega) | (refine GE.resOne rfl (by (repeat (first | apply Res.nil | (apply Res.tmp; rfl) | (refine Res.cellA rfl rfl rfl ?_) | (refine Res.cell1 rfl rfl ?_)))) (fun w h => ?_); exact ⟨rfl, h.sub⟩))
theorem stack_Top (w : World) (F : List HProp) (hn : n ≤ 1048576) (hw : holds w (blk s (.cells #[.slice (some ⟨r, n, none⟩) l.length n, .slice (some ⟨r, 0, none⟩) n n] 267 (0, 0)) :: stkB r n pl l jk :: F)) :
    Ct Tryz.prog 199 #[.pointer (some ⟨s, 0, none⟩)] w fun e w' => e = .returned (.tuple #[.int .i64 (l.getLast?.getD 0), .bool (decide (l ≠ []))]) ∧ holds w' (blk s (.cells #[.slice (some ⟨r, n, none⟩) l.length n, .slice (some ⟨r, 0, none⟩) n n] 267 (0, 0)) :: stkB r n pl l jk :: F) := by
  obtain ⟨⟨e1, e2⟩, _⟩ := stkB.open hw.tail
  refine Ct.go (args := [.pointer (some ⟨s, 0, none⟩)]) Tryz.func199 rfl rfl rfl hw ?_
  by_cases hl : l = []
  · subst hl
    repeat' (first | (apply GL.isAny; first | refine GL.runA rfl ?_ | (apply GL.isStore; first | refine GL.storeBlk rfl rfl rfl rfl rfl ?_ | refine GL.storeWhole rfl rfl rfl rfl rfl ?_ | refine GL.storeBlkA rfl rfl rfl rfl rfl ?_) | refine GL.guardY rfl rfl ?_ | refine GL.guardN rfl rfl rfl ?_ | refine GL.guardU rfl rfl rfl ?_ | (apply GL.isBox; first | refine GL.boxA rfl rfl (fun _ => ?_) | refine GL.box1 rfl rfl rfl (fun _ => ?_) | refine GL.box rfl rfl (fun _ => ?_)) | (apply GL.isBuildS; first | refine GL.buildSlice1A rfl rfl rfl rfl rfl (fun _ => ?_) | refine GL.buildSlice1 rfl rfl rfl rfl rfl (fun _ => ?_)) | (apply GL.isCall; refine GL.append1 _ rfl rfl rfl rfl (by rfl) (by omega) (by omega) rfl (fun _ => ?_)) | (apply GL.isAlloc; refine GL.alloc rfl (fun _ => ?_))) | apply GL.nil | first | apply G.seq | apply G.region | apply G.block | apply G.skip | apply G.exit | apply G.ret | (apply G.isCond; first | refine G.condT rfl ?_ | refine G.condF rfl ?_) | refine G.draw (by kernel_rfl) (by kernel_rfl) ?_ | (apply GE.isAny; first | apply GE.again | apply GE.thenG | apply GE.blockN | apply GE.blockE | apply GE.thenE | apply GE.thenR | apply GE.blockR | refine GE.blockO rfl ?_ | apply GE.only) | (apply GD.isAny; first | refine GD.runA rfl ?_ | refine GD.guardY rfl rfl ?_ | refine GD.guardN rfl rfl rfl ?_ | refine GD.guardU rfl rfl rfl ?_) | apply GD.nilE | apply GD.nilL | (apply GT.isAny; refine GT.runA rfl rfl ?_) | ((first | (apply GL.isAny; refine GL.guard rfl rfl (fun hc => ?_) (fun hc => ?_)) | (apply G.isCond; refine G.cond rfl (fun hc => ?_) (fun hc => ?_)) | (apply GD.isAny; refine GD.guard rfl rfl (fun hc => ?_) (fun hc => ?_))) <;> ((try simp only [decide_eq_true_eq, decide_eq_false_iff_not, Bool.not_true, Bool.not_false, ne_eq, Classical.not_not, Int.not_lt, Int.not_le] at hc); (try (exfalso; first | omega | exact hc trivial | exact hc rfl)))))
    all_goals (first | (exfalso; simp at hc; done) | (refine GE.resMany rfl (by (repeat (first | apply Res.nil | (apply Res.tmp; rfl) | (refine Res.cellA rfl rfl rfl ?_) | (refine Res.cell1 rfl rfl ?_)))) (fun w h => ?_); exact ⟨rfl, h.sub⟩))
  · have hp : 0 < l.length := List.length_pos_iff.2 hl
    repeat' (first | ((apply GD.isAny; refine GD.run (by (apply Runs.isIndexA; exact Runs.indexAddr (k := l.length - 1) rfl rfl rfl (by omega) (by omega))) rfl ?_)) | first | (apply GL.isAny; first | refine GL.runA rfl ?_ | (apply GL.isStore; first | refine GL.storeBlk rfl rfl rfl rfl rfl ?_ | refine GL.storeWhole rfl rfl rfl rfl rfl ?_ | refine GL.storeBlkA rfl rfl rfl rfl rfl ?_) | refine GL.guardY rfl rfl ?_ | refine GL.guardN rfl rfl rfl ?_ | refine GL.guardU rfl rfl rfl ?_ | (apply GL.isBox; first | refine GL.boxA rfl rfl (fun _ => ?_) | refine GL.box1 rfl rfl rfl (fun _ => ?_) | refine GL.box rfl rfl (fun _ => ?_)) | (apply GL.isBuildS; first | refine GL.buildSlice1A rfl rfl rfl rfl rfl (fun _ => ?_) | refine GL.buildSlice1 rfl rfl rfl rfl rfl (fun _ => ?_)) | (apply GL.isCall; refine GL.append1 _ rfl rfl rfl rfl (by rfl) (by omega) (by omega) rfl (fun _ => ?_)) | (apply GL.isAlloc; refine GL.alloc rfl (fun _ => ?_))) | apply GL.nil | first | apply G.seq | apply G.region | apply G.block | apply G.skip | apply G.exit | apply G.ret | (apply G.isCond; first | refine G.condT rfl ?_ | refine G.condF rfl ?_) | refine G.draw (by kernel_rfl) (by kernel_rfl) ?_ | (apply GE.isAny; first | apply GE.again | apply GE.thenG | apply GE.blockN | apply GE.blockE | apply GE.thenE | apply GE.thenR | apply GE.blockR | refine GE.blockO rfl ?_ | apply GE.only) | (apply GD.isAny; first | refine GD.runA rfl ?_ | refine GD.guardY rfl rfl ?_ | refine GD.guardN rfl rfl rfl ?_ | refine GD.guardU rfl rfl rfl ?_) | apply GD.nilE | apply GD.nilL | (apply GT.isAny; refine GT.runA rfl rfl ?_) | ((first | (apply GL.isAny; refine GL.guard rfl rfl (fun hc => ?_) (fun hc => ?_)) | (apply G.isCond; refine G.cond rfl (fun hc => ?_) (fun hc => ?_)) | (apply GD.isAny; refine GD.guard rfl rfl (fun hc => ?_) (fun hc => ?_))) <;> ((try simp only [decide_eq_true_eq, decide_eq_false_iff_not, Bool.not_true, Bool.not_false, ne_eq, Classical.not_not, Int.not_lt, Int.not_le] at hc); (try (exfalso; first | omega | exact hc trivial | exact hc rfl)))))
    all_goals (first | (exfalso; omega) | (refine GE.resMany rfl (by (repeat (first | apply Res.nil | (apply Res.tmp; rfl) | (refine Res.cellA rfl rfl rfl ?_) | (refine Res.cell1 rfl rfl ?_)))) (fun w h => ?_); exact ⟨by rw [decide_eq_true hl, List.getLast?_eq_getElem?, List.getElem?_eq_getElem (by omega)]; rfl, h.sub⟩))
theorem stack_PushY (i : Nat) (hn : n ≤ 1048576) (hi : i < n) (hp : Stk.place pl i < 0) (hr : l.length < n) (w : World) (F : List HProp) (hw : holds w (blk s (.cells #[.slice (some ⟨r, n, none⟩) l.length n, .slice (some ⟨r, 0, none⟩) n n] 267 (0, 0)) :: stkB r n pl l jk :: F)) :
    Ct Tryz.prog 139 #[.pointer (some ⟨s, 0, none⟩), .int .i64 i] w fun e w' => e = .returned (.bool true) ∧ holds w' (blk s (.cells #[.slice (some ⟨r, n, none⟩) (l ++ [(i : Int)]).length n, .slice (some ⟨r, 0, none⟩) n n] 267 (0, 0)) :: stkB r n (pl.set i l.length) (l ++ [(i : Int)]) (jk.drop 1) :: F) := by
  obtain ⟨⟨e1, e2⟩, _⟩ := stkB.open hw.tail
  have hi2 : i < pl.length := by omega
  unfold Stk.place at hp
  have eg : pl.getD (i : Int).toNat 0 = pl[i] := by rw [List.getD_eq_getElem?_getD, Int.toNat_natCast, List.getElem?_eq_getElem hi2]; rfl
  rw [if_neg (by omega), eg] at hp
  rw [List.length_append, List.length_cons, List.length_nil, Nat.zero_add]
  refine Ct.go (args := [.pointer (some ⟨s, 0, none⟩), .int .i64 i]) Tryz.func139 rfl rfl rfl hw ?_
  repeat' (first | (first | (refine G.isRegion 3 ?_; refine G.drawTail 11 (by kernel_rfl) (by simp only [List.take_succ_cons, List.take_zero]; rfl) (by simp only [List.drop_succ_cons, List.drop_zero]; rfl) (by kernel_rfl) ?_) | (apply GL.isAny; refine GL.buildR (enc := encI1) [(i : Int)] (parts := [(0, .tmp 46)]) rfl rfl rfl rfl rfl (fun l hl => match l, hl with | [_], _ => rfl) rfl (fun g0 => ?_)) | (apply GL.isStore; refine GL.storePl (r := r) (n := n) (pl := pl) (l := l) (jk := jk) (i := i) rfl rfl (by simp [rowO]) hi2 ?_) | (apply GL.isCall; refine GL.appendStk (r := r) (n := n) (pl := pl.set i l.length) (l := l) (jk := jk) (q := (i : Int)) rfl rfl rfl hr rfl ?_)) | first | (apply GL.isAny; first | refine GL.runA rfl ?_ | (apply GL.isStore; first | refine GL.storeBlk rfl rfl rfl rfl rfl ?_ | refine GL.storeWhole rfl rfl rfl rfl rfl ?_ | refine GL.storeBlkA rfl rfl rfl rfl rfl ?_) | refine GL.guardY rfl rfl ?_ | refine GL.guardN rfl rfl rfl ?_ | refine GL.guardU rfl rfl rfl ?_ | (apply GL.isBox; first | refine GL.boxA rfl rfl (fun _ => ?_) | refine GL.box1 rfl rfl rfl (fun _ => ?_) | refine GL.box rfl rfl (fun _ => ?_)) | (apply GL.isBuildS; first | refine GL.buildSlice1A rfl rfl rfl rfl rfl (fun _ => ?_) | refine GL.buildSlice1 rfl rfl rfl rfl rfl (fun _ => ?_)) | (apply GL.isCall; refine GL.append1 _ rfl rfl rfl rfl (by rfl) (by omega) (by omega) rfl (fun _ => ?_)) | (apply GL.isAlloc; refine GL.alloc rfl (fun _ => ?_))) | apply GL.nil | first | apply G.seq | apply G.region | apply G.block | apply G.skip | apply G.exit | apply G.ret | (apply G.isCond; first | refine G.condT rfl ?_ | refine G.condF rfl ?_) | refine G.draw (by kernel_rfl) (by kernel_rfl) ?_ | (apply GE.isAny; first | apply GE.again | apply GE.thenG | apply GE.blockN | apply GE.blockE | apply GE.thenE | apply GE.thenR | apply GE.blockR | refine GE.blockO rfl ?_ | apply GE.only) | (apply GD.isAny; first | refine GD.runA rfl ?_ | refine GD.guardY rfl rfl ?_ | refine GD.guardN rfl rfl rfl ?_ | refine GD.guardU rfl rfl rfl ?_) | apply GD.nilE | apply GD.nilL | (apply GT.isAny; refine GT.runA rfl rfl ?_) | ((first | (apply GL.isAny; refine GL.guard rfl rfl (fun hc => ?_) (fun hc => ?_)) | (apply G.isCond; refine G.cond rfl (fun hc => ?_) (fun hc => ?_)) | (apply GD.isAny; refine GD.guard rfl rfl (fun hc => ?_) (fun hc => ?_))) <;> ((try simp only [decide_eq_true_eq, decide_eq_false_iff_not, Bool.not_true, Bool.not_false, ne_eq, Classical.not_not, Int.not_lt, Int.not_le] at hc); (try (exfalso; first | omega | exact hc trivial | exact hc rfl)))))
  all_goals (first | (exfalso; omega) | (refine GE.resOne rfl (by (repeat (first | apply Res.nil | (apply Res.tmp; rfl) | (refine Res.cellA rfl rfl rfl ?_) | (refine Res.cell1 rfl rfl ?_)))) (fun w h => ?_); exact ⟨rfl, holds.sub (F := blk s (.cells #[.slice (some ⟨r, n, none⟩) (l.length + 1) n, .slice (some ⟨r, 0, none⟩) n n] 267 (0, 0)) :: stkB r n (pl.set i l.length) (l ++ [(i : Int)]) (jk.drop 1) :: owns 3 encI1 1 (.slice (some ⟨_, 0, none⟩) 1 1) [(i : Int)] :: F) h⟩))
end
end Go.Proofs.YtipkgamiejenaaaGreat
