import Derived.Test.YtipkgamiejenaaaGreatMg7
import Derived.Test.YtipkgamiejenaaaGreatTypes

import Derived.Test.YtipkgamiejenaaaGreatSepD
import Derived.Test.YtipkgamiejenaaaGreatLooseT
import Derived.Laws.BytesArg
import Derived.Laws.IdiomStrings
import Derived.Laws.DeepStrings4
import Derived.Test.YtipkgamiejenaaaGreatMg5
import Derived.Lib.OthersKept
import Derived.Laws.RangeString
import Derived.RangeFuncRecord
import Derived.RangeFuncBox
/- Package trims: what clients are asked for. -/
namespace Go.Proofs.YtipkgamiejenaaaGreat
open Go Go.RowKit Go.MapKept
set_option linter.unusedVariables false
set_option linter.unusedSectionVars false
set_option linter.unusedSimpArgs false
set_option maxRecDepth 100000
set_option maxHeartbeats 2000000
namespace Tr
def one (k p : Int) : Int := max (min p k) 0
def spread : Int → List Int → List Int
  | _, [] => []
  | k, p :: l => one k p :: spread (k - one k p) l
theorem spread_len : ∀ (l : List Int) (k : Int), (spread k l).length = l.length
  | [], _ => rfl
  | p :: l, k => by simp [spread, spread_len l]
def I64 (k : Int) : Prop := -9223372036854775808 ≤ k ∧ k ≤ 9223372036854775807
theorem one_in (k p : Int) (hk : I64 k) : I64 (k - one k p) := by unfold I64 one at *; omega
theorem one_b (k p : Int) (hk : I64 k) : 0 ≤ one k p ∧ one k p ≤ 9223372036854775807 := by unfold I64 one at *; omega
theorem spread_b : ∀ (l : List Int) (k : Int), I64 k → ∀ x ∈ spread k l, 0 ≤ x ∧ x ≤ 9223372036854775807
  | [], _, _, x, hx => by simp [spread] at hx
  | p :: l, k, hk, x, hx => by
    rcases List.mem_cons.1 hx with rfl | h
    · exact one_b k p hk
    · exact spread_b l _ (one_in k p hk) x h
/-- What clients are asked for then. -/
def ask (k : Int) (l : List Int) : List Int := spread k l ++ List.replicate (64 - l.length) 0
def paid (want : List Int) (c : Nat) (n : Int) : List Int := want.set c (max (want.getD c 0 - n) 0)
end Tr
def trimP (tb : Nat) (l : List Int) : HProp := fun f => ∃ a : Nat, sep [blk tb (.cells #[.slice (some ⟨a, 0, none⟩) (l).length (l).length] 239 (0, 0)), owns 3 encI1 1 (.slice (some ⟨a, 0, none⟩) (l).length (l).length) l] f
theorem trimP.open {w : World} {tb : Nat} {l : List Int} {F : List HProp} (h : holds w (trimP tb l :: F)) : ∃ a : Nat, holds w (blk tb (.cells #[.slice (some ⟨a, 0, none⟩) (l).length (l).length] 239 (0, 0)) :: owns 3 encI1 1 (.slice (some ⟨a, 0, none⟩) (l).length (l).length) l :: F) := by
  obtain ⟨a, h⟩ := holds.open_ex h
  exact ⟨a, holds_sep.1 h⟩
theorem trimP.shut {w : World} {tb a : Nat} {l l2 : List Int} {F : List HProp} (e : l2.length = l.length) (h : holds w (blk tb (.cells #[.slice (some ⟨a, 0, none⟩) (l).length (l).length] 239 (0, 0)) :: owns 3 encI1 1 (.slice (some ⟨a, 0, none⟩) (l).length (l).length) l2 :: F)) : holds w (trimP tb l2 :: F) := by
  rw [← e] at h
  exact (holds_sep (l := [_, _]).2 h).mono fun f hf => ⟨a, hf⟩
theorem trims_Spread1 (b : Nat) (k p : Int) (hk : Tr.I64 k) (w : World) (F : List HProp) (hw : holds w (blk b (.cells #[.int .i64 k] 3 (0, 0)) :: F)) :
    Ct Tryz.prog 218 #[.int .i64 p, .pointer (some ⟨b, 0, none⟩)] w fun e w' => e = .returned (.int .i64 (Tr.one k p)) ∧ holds w' (blk b (.cells #[.int .i64 (k - Tr.one k p)] 3 (0, 0)) :: F) := by
  refine Ct.go (args := [.int .i64 p, .pointer (some ⟨b, 0, none⟩)]) Tryz.func218 rfl rfl rfl hw ?_
  have hi := Tr.one_in k p hk
  obtain ⟨o, ho⟩ : ∃ o, max (min p k) 0 = o := ⟨_, rfl⟩
  unfold Tr.one Tr.I64 at *
  rw [ho] at hi ⊢
  repeat' (first | (first | (rw [ho])) | first | refine stp ?_ | (refine stpB ?_; intro _) | (refine spl ?_ ?_ <;> intro hc <;> ((try simp only [decide_eq_true_eq, decide_eq_false_iff_not, Bool.not_true, Bool.not_false, ne_eq, Classical.not_not, Int.not_lt, Int.not_le] at hc); (try (exfalso; first | omega | exact hc trivial | exact hc rfl)))))
  refine GE.resOne rfl (by (repeat (first | apply Res.nil | (apply Res.tmp; rfl) | (refine Res.cellA rfl rfl rfl ?_) | (refine Res.cell1 rfl rfl ?_)))) (fun w h => ?_)
  exact ⟨rfl, h⟩
theorem trims_New (w : World) (F : List HProp) (hw : holds w F) :
    Ct Tryz.prog 102 #[.int .i64 64] w fun e w' => ∃ tb : Nat, e = .returned (.pointer (some ⟨tb, 0, none⟩)) ∧ holds w' (trimP tb (List.replicate 64 0) :: F) := by
  refine Ct.go (args := [.int .i64 64]) Tryz.func102 rfl rfl rfl hw ?_
  repeat' (first | (first | (apply GL.isAny; refine GL.makeSl encI1 0 64 64 rfl rfl rfl rfl rfl (Nat.le_refl _) (by omega) (by unfold maxLen; omega) rfl (fun g => ?_)) | (apply GL.isBox; refine GL.boxA (cs := #[.slice (some ⟨g, 0, none⟩) 64 64]) rfl rfl (fun tb => ?_))) | first | refine stp ?_ | (refine stpB ?_; intro _) | (refine spl ?_ ?_ <;> intro hc <;> ((try simp only [decide_eq_true_eq, decide_eq_false_iff_not, Bool.not_true, Bool.not_false, ne_eq, Classical.not_not, Int.not_lt, Int.not_le] at hc); (try (exfalso; first | omega | exact hc trivial | exact hc rfl)))))
  all_goals (first | (exfalso; simp at hc; done) | skip)
  refine GE.resOne rfl (by (repeat (first | apply Res.nil | (apply Res.tmp; rfl) | (refine Res.cellA rfl rfl rfl ?_) | (refine Res.cell1 rfl rfl ?_)))) (fun w h => ?_)
  exact ⟨tb, rfl, trimP.shut (a := g) (l := List.replicate 64 0) rfl (holds.sub (H := blk tb (.cells #[.slice (some ⟨g, 0, none⟩) 64 64] 239 (0, 0)) :: owns 3 encI1 1 (.slice (some ⟨g, 0, none⟩) 64 64) (List.replicate 64 0) :: F) h)⟩
theorem set_next {d : List Int} {n i : Nat} {o : Int} (h : d.length = i) (hi : i < n) : (d ++ List.replicate (n - i) 0).set i o = d ++ [o] ++ List.replicate (n - (i + 1)) 0 := by
  rw [List.set_append_right _ _ (by omega), h, Nat.sub_self, show n - i = (n - (i + 1)) + 1 by omega, List.replicate_succ, List.set_cons_zero, List.append_assoc]; rfl
theorem trims_Spread (k : Int) (hk : Tr.I64 k) (v : Value) (l : List Int) (hl : l.length ≤ 1000) (w : World) (F : List HProp) [Reads F v encI1 1 l] (hw : holds w F) :
    Ct Tryz.prog 179 #[.int .i64 k, v] w fun e w' => ∃ a : Nat, e = .returned (.slice (some ⟨a, 0, none⟩) l.length l.length) ∧ holds w' (owns 3 encI1 1 (.slice (some ⟨a, 0, none⟩) l.length l.length) (Tr.spread k l) :: F) := by
  refine Ct.go (args := [.int .i64 k, v]) Tryz.func179 rfl rfl rfl hw ?_
  repeat' (first | (first | (apply GL.isBox; refine GL.box1 rfl rfl rfl (fun b2 => ?_)) | (apply GL.isAny; refine GL.makeSl encI1 0 l.length l.length rfl rfl rfl rfl rfl (Nat.le_refl _) (by omega) (by unfold maxLen; omega) rfl (fun g => ?_))) | first | refine stp ?_ | (refine stpB ?_; intro _) | (refine spl ?_ ?_ <;> intro hc <;> ((try simp only [decide_eq_true_eq, decide_eq_false_iff_not, Bool.not_true, Bool.not_false, ne_eq, Classical.not_not, Int.not_lt, Int.not_le] at hc); (try (exfalso; first | omega | exact hc trivial | exact hc rfl)))))
  refine G.loopK [5, 6, 13, 14] (Nat × Int × List Int) (fun y => [(15, .int .i64 (y.1 : Nat))]) (fun y => owns 3 encI1 1 (.slice (some ⟨g, 0, none⟩) l.length l.length) (y.2.2 ++ List.replicate (l.length - y.1) 0) :: blk b2 (.cells #[.int .i64 y.2.1] 3 (0, 0)) :: F) (fun y => y.1 ≤ l.length ∧ y.2.2.length = y.1 ∧ y.2.2 ++ Tr.spread y.2.1 (l.drop y.1) = Tr.spread k l ∧ Tr.I64 y.2.1) (fun y => l.length - y.1) ((0, k, [])) (⟨Nat.zero_le _, rfl, rfl, hk⟩) (by repeat (first | exact trivial | refine And.intro rfl ?_)) (fun w h => by (try dsimp only); first | exact h | exact h.sub | ((try simp only [List.take_zero, List.drop_zero, List.map_nil, List.nil_append, List.zipIdx_nil, List.filter_nil]); exact h.sub)) ?_
  rintro ⟨i, r, d⟩ ⟨hi, hd, he, hr⟩
  dsimp only at hi hd he hr ⊢
  by_cases hlt : i < l.length
  · have hdl : (d ++ List.replicate (l.length - i) 0).length = l.length := by simp; omega
    have hsn := set_next (o := Tr.one r l[i]) hd hlt
    have he2 : (d ++ [Tr.one r l[i]]) ++ Tr.spread (r - Tr.one r l[i]) (l.drop (i + 1)) = Tr.spread k l := by
      rw [← he, List.drop_eq_getElem_cons hlt, Tr.spread, List.append_assoc]; rfl
    repeat' (first | (first | (apply GL.isCall; refine GL.callVH1 (blk b2 (.cells #[.int .i64 r] 3 (0, 0))) (first := []) (captured := [.pointer (some ⟨b2, 0, none⟩)]) (vs := [.int .i64 l[i]]) (v := .int .i64 (Tr.one r l[i])) (F' := blk b2 (.cells #[.int .i64 (r - Tr.one r l[i])] 3 (0, 0)) :: owns 3 encI1 1 (.slice (some ⟨g, 0, none⟩) l.length l.length) (d ++ List.replicate (l.length - i) 0) :: F) rfl rfl rfl (fun w h => trims_Spread1 b2 r l[i] hr w _ h) ?_) | (apply GL.isAny; refine GL.run (by apply Runs.isIndexA; exact Runs.indexAddr (k := i) (l := d ++ List.replicate (l.length - i) 0) rfl rfl rfl rfl (by omega)) rfl ?_) | (apply GL.isStore; refine GL.setElem (i := i) (Tr.one r l[i]) rfl rfl (by kernel_rfl) (by omega) rfl ?_)) | first | refine stp ?_ | (refine stpB ?_; intro _) | (refine spl ?_ ?_ <;> intro hc <;> ((try simp only [decide_eq_true_eq, decide_eq_false_iff_not, Bool.not_true, Bool.not_false, ne_eq, Classical.not_not, Int.not_lt, Int.not_le] at hc); (try (exfalso; first | omega | exact hc trivial | exact hc rfl)))))
    all_goals (first | (exfalso; omega) | skip)
    refine GE.round (i + 1, r - Tr.one r l[i], d ++ [Tr.one r l[i]]) ⟨hlt, by dsimp only; rw [List.length_append, List.length_singleton, hd], he2, Tr.one_in r _ hr⟩ (by repeat (first | exact trivial | refine And.intro rfl ?_)) (fun w h => by (try dsimp only); rw [← hsn]; exact h.sub) (by (try dsimp only); omega)
  · obtain rfl : i = l.length := by omega
    repeat' (first | refine stp ?_ | (refine stpB ?_; intro _) | (refine spl ?_ ?_ <;> intro hc <;> ((try simp only [decide_eq_true_eq, decide_eq_false_iff_not, Bool.not_true, Bool.not_false, ne_eq, Classical.not_not, Int.not_lt, Int.not_le] at hc); (try (exfalso; first | omega | exact hc trivial | exact hc rfl)))))
    all_goals (first | (exfalso; omega) | skip)
    refine GE.resOne rfl (by (repeat (first | apply Res.nil | (apply Res.tmp; rfl) | (refine Res.cellA rfl rfl rfl ?_) | (refine Res.cell1 rfl rfl ?_)))) (fun w h => ?_)
    rw [List.drop_length, Tr.spread, List.append_nil] at he
    refine ⟨g, rfl, ?_⟩
    rw [← he]
    exact (holds.sub (H := owns 3 encI1 1 (.slice (some ⟨g, 0, none⟩) l.length l.length) (d ++ List.replicate (l.length - l.length) 0) :: F) h).mono fun f hf => by simpa using hf
end Go.Proofs.YtipkgamiejenaaaGreat

/- Package trims: Ask, Paid, Want. -/
namespace Go.Proofs.YtipkgamiejenaaaGreat
open Go Go.RowKit Go.MapKept
set_option linter.unusedVariables false
set_option linter.unusedSectionVars false
set_option linter.unusedSimpArgs false
set_option maxRecDepth 100000
set_option maxHeartbeats 2000000
theorem trims_Ask (tb : Nat) (l : List Int) (hl : l.length = 64) (k : Int) (hk : Tr.I64 k) (v : Value) (p : List Int) (hp : p.length ≤ 64) (w : World) (F : List HProp) [hrd : Reads F v encI1 1 p] (hw : holds w (trimP tb l :: F)) :
    Ct Tryz.prog 114 #[.pointer (some ⟨tb, 0, none⟩), .int .i64 k, v] w fun e w' => e = .returned (.int .i64 0) ∧ holds w' (trimP tb (Tr.ask k p) :: F) := by
  obtain ⟨a, h1⟩ := trimP.open hw
  refine Ct.go (args := [.pointer (some ⟨tb, 0, none⟩), .int .i64 k, v]) Tryz.func114 rfl rfl rfl h1 ?_
  have hsl := Tr.spread_len p k
  have hask : Tr.spread k p ++ (List.replicate l.length (0 : Int)).drop (Tr.spread k p).length = Tr.ask k p := by unfold Tr.ask; rw [List.drop_replicate, hsl, hl]
  have hal : (Tr.ask k p).length = l.length := by unfold Tr.ask; simp; omega
  repeat' (first | (first | (apply GL.isAny; refine GL.run (Runs.lenLit rfl) rfl ?_) | (apply GL.isCall; refine GL.clearAll (0 : Int) rfl rfl (by omega) rfl ?_) | (refine G.isRegion 6 ?_; refine G.drawW [⟨none, [], some 7, none, fun _ => True, fun _ => owns 3 encI1 1 (.slice (some ⟨a, 0, none⟩) l.length l.length) (List.replicate l.length (0 : Int))⟩, ⟨some 6, [], some 7, some 36, fun u => ∃ b : Nat, u = .slice (some ⟨b, 0, none⟩) p.length p.length, fun u => owns 3 encI1 1 u (Tr.spread k p)⟩, ⟨some 7, [0, 1], none, some 37, fun u => u = .int .i64 (Tr.spread k p).length, fun _ => owns 3 encI1 1 (.slice (some ⟨a, 0, none⟩) l.length l.length) (Tr.spread k p ++ (List.replicate l.length (0 : Int)).drop (Tr.spread k p).length)⟩] [] [0] [2] (by kernel_rfl) (by kernel_rfl) rfl ⟨⟨_, rfl, .inl rfl⟩, trivial⟩ ?_) | (apply GW.isAny; first | refine GW.runA rfl rfl ?_ | refine GW.seeA rfl rfl ⟨⟨_, rfl, .inl rfl⟩, trivial⟩ rfl ?_) | (apply GW.isAny; refine GW.run rfl (Runs.nilCheck rfl) rfl ?_) | (apply GW.isAny; refine GW.eff rfl rfl rfl rfl rfl trivial rfl trivial (fun u hu => by obtain ⟨b, rfl⟩ := hu; rfl) (DoesW.ofEx (blk tb (.cells #[.slice (some ⟨a, 0, none⟩) l.length l.length] 239 (0, 0))) (vs := [.int .i64 k, v]) (fun b : Nat => .slice (some ⟨b, 0, none⟩) p.length p.length) rfl (fun w G h => trims_Spread k hk v p (by omega) w _ h)) rfl (fun u hu => ?_); obtain ⟨u6, rfl⟩ := hu) | (apply GW.isAny; refine GW.eff rfl rfl rfl rfl rfl ⟨⟨_, rfl, .inl rfl⟩, ⟨_, rfl, .inr (.inr ⟨_, _, rfl, rfl, rfl⟩)⟩, trivial⟩ rfl trivial (fun u hu => by subst hu; rfl) (DoesW.copyPre rfl rfl rfl (by rw [hsl, List.length_replicate]; omega)) rfl (fun u hu => ?_); subst hu) | (refine GW.nilE rfl ⟨⟨_, rfl, .inr (.inr ⟨_, _, rfl, rfl, rfl⟩)⟩, trivial⟩ ?_; dsimp only [List.cons_append, List.nil_append])) | first | refine stp ?_ | (refine stpB ?_; intro _) | (refine spl ?_ ?_ <;> intro hc <;> ((try simp only [decide_eq_true_eq, decide_eq_false_iff_not, Bool.not_true, Bool.not_false, ne_eq, Classical.not_not, Int.not_lt, Int.not_le] at hc); (try (exfalso; first | omega | exact hc trivial | exact hc rfl)))))
  all_goals (first | (exfalso; omega) | (exfalso; simp at hc; done) | skip)
  refine GE.resOne rfl (by (repeat (first | apply Res.nil | (apply Res.tmp; rfl) | (refine Res.cellA rfl rfl rfl ?_) | (refine Res.cell1 rfl rfl ?_)))) (fun w h => ?_)
  rw [hask] at h
  exact ⟨rfl, trimP.shut (a := a) (l := l) hal h.sub⟩
end Go.Proofs.YtipkgamiejenaaaGreat

/- append(dst, src...) of an owned row, whatever the source holds; Go's copy of a slice of ints by append([]int.. , l...). What append of an owned row does, at an operation of such a region. Strings as lists of bytes; what a slice literal of bytes is as a string. -/
section
namespace Go.Proofs.YtipkgamiejenaaaGreat
open Go Go.RowKit Go.MapKept
set_option maxRecDepth 100000

section
variable {P : Program} {w : World} {l : List HProp}

end

end Go.Proofs.YtipkgamiejenaaaGreat
end
section
namespace Go.Proofs.YtipkgamiejenaaaGreat
open Go Go.RowKit
set_option linter.unusedVariables false

def sliceBlk : Value → Nat
  | .slice (some a) _ _ => a.block
  | _ => 0
def ptrBlk : Value → Nat
  | .pointer (some a) => a.block
  | _ => 0
def aggOf (u : Value) (j : Nat) : Value := match u with | .agg x => x.getD j undef | _ => undef
def tupOf (u : Value) (i : Nat) : Value := match u with | .tuple t => t.getD i undef | _ => undef

end Go.Proofs.YtipkgamiejenaaaGreat
end
section
namespace Go.Proofs.YtipkgamiejenaaaGreat
open Go Go.RowKit Go.MapKept
set_option maxRecDepth 100000
set_option linter.unusedVariables false

def bs (l : List UInt8) : ByteArray := ⟨l.toArray⟩
theorem bs_toList (l : List UInt8) : (bs l).toList = l := by rw [ByteArray.toList_eq]; simp [bs]
/-- A byte as a value. -/
def u8v (c : UInt8) : Value := .int .u8 (c.toNat : Int)

/-- A slice of bytes, owned. -/
def ownB (v : Value) (l : List UInt8) : HProp := ownRow 5 1 v l.length (l.map u8v)
end Go.Proofs.YtipkgamiejenaaaGreat
end

/- Strings by laws: joined, compared, cut, gone through rune by rune. -/
namespace Go.Proofs.YtipkgamiejenaaaGreat
open Go Go.RowKit Go.MapKept
set_option linter.unusedVariables false
set_option linter.unusedSectionVars false
set_option linter.unusedSimpArgs false

class StrT (P : Program) (t : TypeId) : Prop where
  ok : P.underlying t = some .string
section
variable {P : Program} {n : Nat} {Q : Exit → Act → World → Prop} {env : Env} {F : List HProp} {ops : Array Oper} {rest : List Oper} {d : Tmp} {ty xT yT : TypeId} {pos : String} {aft : Array Edge} {x y : Operand} {l m : List UInt8}
end
end Go.Proofs.YtipkgamiejenaaaGreat

/- `==` of structs and arrays whose cells are ints, strings and booleans. -/
namespace Go.Proofs.YtipkgamiejenaaaGreat
open Go Go.RowKit Go.MapKept
set_option linter.unusedVariables false
set_option linter.unusedSectionVars false
set_option linter.unusedSimpArgs false

/-- A cell's content, told plainly. -/
inductive CelV where
  | i (k : IntKind) (x : Int)
  | s (l : List UInt8)
  | b (x : Bool)
deriving DecidableEq
inductive CelK where
  | i (k : IntKind)
  | s
  | b
def CelV.v : CelV → Value
  | .i k x => .int k x
  | .s l => .string (bs l)
  | .b x => .bool x
def CelV.k : CelV → CelK
  | .i k _ => .i k
  | .s _ => .s
  | .b _ => .b
def ceqOf : TypeDesc → Option CelK
  | .int k => some (.i k)
  | .string => some .s
  | .bool => some .b
  | _ => none
def ceqF (P : Program) (g : TypeId → Option (List CelK)) : List Field → Nat → Option (List CelK)
  | [], _ => some []
  | f :: fs, off => if f.name = "_" ∨ f.offset ≠ off then none else match g f.type with
    | none => none
    | some ks => if (P.info? f.type).map (·.size) = some ks.length then (ceqF P g fs (off + ks.length)).map (ks ++ ·) else none
def ceqB (P : Program) : Nat → TypeId → Option (List CelK)
  | 0, _ => none
  | k + 1, t => match P.underlying t with
    | some (.struct fs) => if P.stoodInHeld t = true then none else ceqF P (ceqB P k) fs.toList 0
    | some (.array len e) => match ceqB P k e with
      | none => none
      | some ks => if (P.info? e).map (·.size) = some ks.length then some (List.replicate len ks).flatten else none
    | some d => (ceqOf d).map fun c => [c]
    | none => none
def cellsC (l : List CelV) : Array Value := (l.map CelV.v).toArray
def valC (P : Program) (t : TypeId) (l : List CelV) : Value := match P.underlying t with
  | some (.struct _) => .agg (cellsC l)
  | some (.array _ _) => .agg (cellsC l)
  | _ => match l with
    | [c] => c.v
    | _ => undef
theorem cellsC_extract (px q r : List CelV) (m : Nat) (hm : q.length = m) : (cellsC (px ++ (q ++ r))).extract px.length (px.length + m) = cellsC q := by
  subst hm
  apply Array.ext'
  simp [cellsC, List.extract_toArray, List.extract_eq_take_drop]
theorem map_app {α β : Type} {f : α → β} {q : List α} {a b : List β} (h : q.map f = a ++ b) : ∃ q1 q2, q = q1 ++ q2 ∧ q1.map f = a ∧ q2.map f = b := by
  obtain ⟨q1, q2, h1, h2, h3⟩ := List.map_eq_append_iff.1 h
  exact ⟨q1, q2, h1, h2, h3⟩
theorem ceq_scalar {d : TypeDesc} {c : CelK} (h : ceqOf d = some c) : aggDesc d = false := by
  cases d <;> first | rfl | cases h
theorem run_part_cells {P : Program} {k : Nat} {t : TypeId} {ks : List CelK} (hB : ceqB P k t = some ks) (hs : (P.info? t).map (·.size) = some ks.length) (px q r : List CelV) (hq : q.map CelV.k = ks) (w : World) :
    (part t (cellsC (px ++ (q ++ r))) px.length).run P w = .ok (valC P t q) w := by
  obtain ⟨i, h1, h2⟩ := info_size hs
  have hl : q.length = ks.length := by rw [← hq, List.length_map]
  cases k with
  | zero => cases hB
  | succ k =>
    unfold ceqB at hB
    split at hB
    · rename_i fs hu
      simp [part, isAgg, run_underlying hu, valC, hu, sizeOf, typeInfo, h1, h2, cellsC_extract _ _ _ _ hl, Result.andThen]
    · rename_i len e hu
      simp [part, isAgg, run_underlying hu, valC, hu, sizeOf, typeInfo, h1, h2, cellsC_extract _ _ _ _ hl, Result.andThen]
    · rename_i d hd1 hd2 hu
      cases hc : ceqOf d with
      | none => rw [hc] at hB; cases hB
      | some c =>
        rw [hc] at hB
        cases hB
        match q, hq with
        | [x], _ =>
          have hc1 : (cellsC (px ++ x :: r))[px.length]? = some x.v := by simp [cellsC]
          have ha := ceq_scalar hc
          cases d <;> first | (cases hc; done) | (cases ha; done) | simp [part, isAgg, run_underlying hu, valC, hu, Result.andThen, hc1]
    · cases hB
theorem eqFields_cells {P : Program} {k d : Nat} (ih : ∀ (t : TypeId) (ks : List CelK), ceqB P k t = some ks → ∀ (xs ys : List CelV), xs.map CelV.k = ks → ys.map CelV.k = ks → ∀ w, (Op.equalIn d t (valC P t xs) (valC P t ys)).run P w = .ok (decide (xs = ys)) w) :
    ∀ (fs : List Field) (off : Nat) (ks : List CelK), ceqF P (ceqB P k) fs off = some ks → ∀ (px py qx qy : List CelV), px.length = off → py.length = off → qx.map CelV.k = ks → qy.map CelV.k = ks → ∀ w, (Op.eqFields d (cellsC (px ++ qx)) (cellsC (py ++ qy)) fs).run P w = .ok (decide (qx = qy)) w
  | [], off, ks, h, px, py, qx, qy, l1, l2, h1, h2, w => by
    unfold ceqF at h
    cases h
    have e1 : qx = [] := by simpa using h1
    have e2 : qy = [] := by simpa using h2
    subst e1 e2
    simp [Op.eqFields]
  | f :: fs, off, ks, h, px, py, qx, qy, l1, l2, h1, h2, w => by
    unfold ceqF at h
    split at h
    · cases h
    · rename_i hn
      split at h
      · cases h
      · rename_i k1 hk1
        split at h
        · rename_i hs
          cases hr : ceqF P (ceqB P k) fs (off + k1.length) with
          | none => rw [hr] at h; cases h
          | some k2 =>
            rw [hr] at h
            cases h
            obtain ⟨x1, x2, rfl, a1, a2⟩ := map_app h1
            obtain ⟨y1, y2, rfl, b1, b2⟩ := map_app h2
            have lx : x1.length = k1.length := by rw [← a1, List.length_map]
            have ly : y1.length = k1.length := by rw [← b1, List.length_map]
            have hname : f.name ≠ "_" := fun e => hn (.inl e)
            have hoff : f.offset = off := Classical.not_not.1 fun e => hn (.inr e)
            have p1 := run_part_cells hk1 hs px x1 x2 a1 w
            have p2 := run_part_cells hk1 hs py y1 y2 b1 w
            have e1 := ih f.type k1 hk1 x1 y1 a1 b1 w
            have e2 := eqFields_cells ih fs (off + k1.length) k2 hr (px ++ x1) (py ++ y1) x2 y2 (by rw [List.length_append, l1, lx]) (by rw [List.length_append, l2, ly]) a2 b2 w
            rw [l1] at p1
            rw [l2] at p2
            rw [List.append_assoc, List.append_assoc] at e2
            rw [app_eq_iff (by rw [lx, ly])]
            simp only [Op.eqFields, if_pos hname, Sem.run_bind, hoff, p1, p2, Result.andThen_ok, e1]
            by_cases hh : x1 = y1
            · simp only [hh, decide_true, Bool.not_true, Bool.false_eq_true, if_false, Bool.true_and]
              rw [← e2, hh]
            · simp [hh]
        · cases h
theorem equalIn_cells {P : Program} : ∀ (k : Nat) (t : TypeId) (ks : List CelK), ceqB P k t = some ks → ∀ d, k ≤ d → ∀ (xs ys : List CelV), xs.map CelV.k = ks → ys.map CelV.k = ks → ∀ w,
    (Op.equalIn d t (valC P t xs) (valC P t ys)).run P w = .ok (decide (xs = ys)) w
  | 0, t, ks, h, _, _, _, _, _, _, _ => by cases h
  | k + 1, t, ks, h, 0, hd, _, _, _, _, _ => by omega
  | k + 1, t, ks, h, d + 1, hd, xs, ys, hx, hy, w => by
    have ih := fun (t : TypeId) (ks : List CelK) (h : ceqB P k t = some ks) (xs ys : List CelV) (hx : xs.map CelV.k = ks) (hy : ys.map CelV.k = ks) (w : World) => equalIn_cells k t ks h d (by omega) xs ys hx hy w
    unfold ceqB at h
    split at h
    · rename_i fs hu
      split at h
      · cases h
      · rename_i hp
        have hf : P.fieldsOf t = fs := by unfold Program.fieldsOf; rw [hu]
        simp only [valC, hu]
        rw [run_equalIn_struct w d t _ _ (by rw [hf]; exact hu) (by simpa using hp), hf]
        have := eqFields_cells ih fs.toList 0 ks h [] [] xs ys rfl rfl hx hy w
        simpa using this
    · rename_i len e hu
      split at h
      · cases h
      · rename_i k1 hk1
        split at h
        · rename_i hs
          cases h
          obtain ⟨i, h1, h2⟩ := info_size hs
          simp only [valC, hu]
          simp only [Op.equalIn, Sem.run_bind, run_underlying hu, Result.andThen_ok]
          have hsz : (sizeOf e).run P w = .ok k1.length w := by simp [sizeOf, typeInfo, h1, h2, Result.andThen]
          simp only [hsz, Result.andThen_ok]
          rw [Std.Legacy.Range.forIn_eq_forIn_range']
          have key : ∀ (q off : Nat) (px py qx qy : List CelV), px.length = off * k1.length → py.length = off * k1.length → qx.map CelV.k = (List.replicate q k1).flatten → qy.map CelV.k = (List.replicate q k1).flatten → ∀ w, (forIn (m := Sem) (List.range' off q 1) ((none : Option Bool), ()) fun i __s => do
              let __do_lift ← part e (cellsC (px ++ qx)) (i * k1.length)
              let __do_lift_1 ← part e (cellsC (py ++ qy)) (i * k1.length)
              let __do_lift ← Op.equalIn d e __do_lift __do_lift_1
              if (!__do_lift) = true then pure (ForInStep.done (some false, ())) else pure (ForInStep.yield (none, ()))).run P w = .ok (if qx = qy then (none, ()) else (some false, ())) w := by
            intro q
            induction q with
            | zero =>
              intro off px py qx qy l1 l2 g1 g2 w
              have e1 : qx = [] := by simpa using g1
              have e2 : qy = [] := by simpa using g2
              simp [e1, e2]
            | succ q ihq =>
              intro off px py qx qy l1 l2 g1 g2 w
              rw [List.replicate_succ, List.flatten_cons] at g1 g2
              obtain ⟨x1, x2, rfl, a1, a2⟩ := map_app g1
              obtain ⟨y1, y2, rfl, b1, b2⟩ := map_app g2
              have lx : x1.length = k1.length := by rw [← a1, List.length_map]
              have ly : y1.length = k1.length := by rw [← b1, List.length_map]
              have p1 := run_part_cells hk1 hs px x1 x2 a1 w
              have p2 := run_part_cells hk1 hs py y1 y2 b1 w
              have e1 := ih e k1 hk1 x1 y1 a1 b1 w
              have hrec := ihq (off + 1) (px ++ x1) (py ++ y1) x2 y2 (by rw [List.length_append, l1, lx, Nat.succ_mul]) (by rw [List.length_append, l2, ly, Nat.succ_mul]) a2 b2 w
              rw [l1] at p1
              rw [l2] at p2
              simp only [List.append_assoc] at hrec
              rw [List.range'_succ, List.forIn_cons]
              simp only [Sem.run_bind, p1, p2, Result.andThen_ok, e1]
              by_cases hh : x1 = y1
              · simp only [hh, decide_true, Bool.not_true, Bool.false_eq_true, if_false, Sem.run_pure, Result.andThen_ok]
                rw [← hh] at hrec ⊢
                rw [hrec]
                by_cases h3 : x2 = y2
                · rw [if_pos h3, if_pos (by rw [h3])]
                · rw [if_neg h3, if_neg (fun e => h3 (List.append_cancel_left e))]
              · have hne : ¬ x1 ++ x2 = y1 ++ y2 := fun e => hh (List.append_inj_left e (by rw [lx, ly]))
                simp [hh, hne]
          have hk := key len 0 [] [] xs ys (by simp) (by simp) hx hy w
          simp only [List.nil_append] at hk
          have hr : List.range' ([:len] : Std.Legacy.Range).start ([:len] : Std.Legacy.Range).size ([:len] : Std.Legacy.Range).step = List.range' 0 len 1 := by simp [Std.Legacy.Range.size]
          rw [hr, hk]
          by_cases h4 : xs = ys
          · simp [h4]
          · simp [h4]
        · cases h
    · rename_i dd hd1 hd2 hu
      cases hc : ceqOf dd with
      | none => rw [hc] at h; cases h
      | some c =>
        rw [hc] at h
        cases h
        obtain ⟨a, rfl⟩ := List.length_eq_one_iff.1 (show xs.length = 1 by have := congrArg List.length hx; simpa using this)
        obtain ⟨b, rfl⟩ := List.length_eq_one_iff.1 (show ys.length = 1 by have := congrArg List.length hy; simpa using this)
        · simp only [List.map_cons, List.map_nil, List.cons.injEq, and_true] at hx hy
          cases dd <;> first | (cases hc; done) | skip
          all_goals cases hc
          · cases a <;> cases hx
            cases b <;> cases hy
            simp only [valC, hu, CelV.v]
            rw [run_equalIn_bool' w d t _ _ hu]
            rename_i a b
            cases a <;> cases b <;> rfl
          · cases a <;> cases hx
            cases b <;> cases hy
            simp only [valC, hu, CelV.v]
            rw [run_equalIn_int w d t _ _ _ _ hu]
            rename_i a b
            by_cases e : a = b <;> simp [e]
          · cases a <;> cases hx
            cases b <;> cases hy
            simp only [valC, hu, CelV.v]
            rw [run_equalIn_string w d t _ _ hu, bs_toList, bs_toList]
            rename_i a b
            by_cases e : a = b <;> simp [e]
    · cases h
/-- A struct or an array of such cells. -/
class CellsT (P : Program) (t : TypeId) (ks : outParam (List CelK)) : Prop where
  ok : ceqB P 6 t = some ks ∧ P.eqGuardType P.depth t = false ∧ aggDesc <$> P.underlying t = some true
theorem valC_agg {P : Program} {t : TypeId} {ks : List CelK} [h : CellsT P t ks] (l : List CelV) : valC P t l = .agg (cellsC l) := by
  have := h.ok.2.2
  unfold valC
  split
  · rfl
  · rfl
  · rename_i d h1 h2
    cases hu : P.underlying t with
    | none => rw [hu] at this; cases this
    | some d =>
      rw [hu] at this
      cases d <;> first | (simp [aggDesc] at this; done) | (exact absurd hu (h1 _)) | (exact absurd hu (h2 _ _))
class CellsL (cs : List Value) (xs : outParam (List CelV)) : Prop where
  ok : cs = xs.map CelV.v
instance : CellsL [] [] := ⟨rfl⟩
instance {k : IntKind} {a : Int} {l : List Value} {xs : List CelV} [h : CellsL l xs] : CellsL (.int k a :: l) (.i k a :: xs) := ⟨by rw [h.ok]; rfl⟩
instance {a : List UInt8} {l : List Value} {xs : List CelV} [h : CellsL l xs] : CellsL (.string (bs a) :: l) (.s a :: xs) := ⟨by rw [h.ok]; rfl⟩
instance {a : Bool} {l : List Value} {xs : List CelV} [h : CellsL l xs] : CellsL (.bool a :: l) (.b a :: xs) := ⟨by rw [h.ok]; rfl⟩
class CellsA (cs : Array Value) (xs : outParam (List CelV)) : Prop where
  ok : cs = cellsC xs
instance {l : List Value} {xs : List CelV} [h : CellsL l xs] : CellsA l.toArray xs := ⟨by rw [h.ok]; rfl⟩
section
variable {P : Program} {n : Nat} {env : Env} {F : List HProp} {t u : TypeId} {x y : Operand} {cs ds : Array Value} {xs ys : List CelV} {ks : List CelK}
theorem Runs.eqlCells [ht : CellsT P t ks] (hx : opnd env x = some (.agg cs)) (hy : opnd env y = some (.agg ds)) [h1 : CellsA cs xs] [h2 : CellsA ds ys] (l1 : xs.map CelV.k = ks) (l2 : ys.map CelV.k = ks) : Runs P n env F (.binOp .eql t x y u) (.bool (decide (xs = ys))) := .mk fun a w ty pos aft g d hf hw => by
  have e := equalIn_cells 6 t ks ht.ok.1 10000 (by omega) xs ys l1 l2 w
  rw [valC_agg, valC_agg] at e
  have hg : (eqGuard .eql t x y (.agg (cellsC xs)) (.agg (cellsC ys))).run P w = .ok () w := run_eqGuard_agg w .eql t x y _ _ ht.ok.2.1
  have hb := run_eql_struct (P := P) w t (cellsC xs) (cellsC ys)
  rw [e] at hb
  simp only [execOp, hf.eval hx, hf.eval hy, h1.ok, h2.ok]
  simp only [Sem.run_bind, hg, Result.andThen_ok]
  simp [hb, Result.andThen]
end
end Go.Proofs.YtipkgamiejenaaaGreat

/- '==' and '!=' of bools. -/
namespace Go.Proofs.YtipkgamiejenaaaGreat
open Go Go.RowKit Go.MapKept
set_option linter.unusedVariables false
section
variable {P : Program} {n : Nat} {env : Env} {F : List HProp} {x y : Operand} {xT yT : TypeId}
class BoT (P : Program) (t : TypeId) : Prop where
  ok : P.underlying t = some .bool
theorem run_eq_bo {t : TypeId} (hm : P.underlying t = some .bool) (a b : Bool) (w : World) (d : Nat) : (Op.equalIn (d + 1) t (.bool a) (.bool b)).run P w = .ok (a == b) w := by
  simp [Op.equalIn, run_underlying hm, Result.andThen]
theorem Runs.neBl [ht : BoT P xT] {a b : Bool} (hx : opnd env x = some (.bool a)) (hy : opnd env y = some (.bool b)) : Runs P n env F (.binOp .neq xT x y yT) (.bool (decide (a ≠ b))) := .mk fun ac w ty pos aft g d hf hw => by
  have e2 : (Op.equal xT (.bool a) (.bool b)).run P w = .ok (a == b) w := run_eq_bo ht.ok a b w 9999
  simp [execOp, hf.eval hx, hf.eval hy, eqGuard, binOp, e2, Result.andThen]
  cases a <;> cases b <;> rfl
end
instance : BoT Tryz.prog 4 := ⟨by kernel_rfl⟩
end Go.Proofs.YtipkgamiejenaaaGreat

/- Package water. -/
namespace Go.Proofs.YtipkgamiejenaaaGreat
open Go Go.RowKit Go.MapKept
set_option linter.unusedVariables false
set_option linter.unusedSectionVars false
set_option linter.unusedSimpArgs false
set_option maxRecDepth 100000
set_option maxHeartbeats 2000000
namespace Wm
def low (mk : Int) : Option Int → Bool
  | none => false
  | some x => decide (x < mk)
def lack (mk : Int) : Option Int → Int
  | none => 0
  | some x => if x < mk then mk - x else 0
end Wm
instance : CellsT Tryz.prog 245 [.b, .b, .i .i64, .i .i64, .i .i64] := ⟨by kernel_rfl, by kernel_rfl, by kernel_rfl⟩
def markP (mb : Nat) (mk : Int) (lv : Option Int) (K : Nat) : HProp := fun f => ∃ lt : Int × Int, (0 ≤ lt.2 ∧ lt.2 ≤ K) ∧ blk mb (.cells #[.int .i64 mk, .bool (Wm.low mk lv), .bool lv.isSome, .int .i64 (lv.getD 0), .int .i64 lt.1, .int .i64 lt.2] 247 (0, 0)) f
theorem markP.open {w : World} {mb : Nat} {mk : Int} {lv : Option Int} {K : Nat} {F : List HProp} (h : holds w (markP mb mk lv K :: F)) : ∃ lt : Int × Int, (0 ≤ lt.2 ∧ lt.2 ≤ K) ∧ holds w (blk mb (.cells #[.int .i64 mk, .bool (Wm.low mk (lv)), .bool (lv).isSome, .int .i64 ((lv).getD 0), .int .i64 (lt.1), .int .i64 (lt.2)] 247 (0, 0)) :: F) := by
  obtain ⟨lt, h⟩ := holds.open_ex h
  obtain ⟨e, h⟩ := holds.open_pure h
  exact ⟨lt, e, h⟩
theorem markP.shut {w : World} {mb : Nat} {mk : Int} {lv : Option Int} {K : Nat} {a b : Int} {F : List HProp} (hb : 0 ≤ b ∧ b ≤ K) (h : holds w (blk mb (.cells #[.int .i64 mk, .bool (Wm.low mk (lv)), .bool (lv).isSome, .int .i64 ((lv).getD 0), .int .i64 (a), .int .i64 (b)] 247 (0, 0)) :: F)) : holds w (markP mb mk lv K :: F) := h.mono fun f hf => ⟨(a, b), hb, hf⟩
theorem water_New (mk : Int) (hm : 0 ≤ mk ∧ mk ≤ 1048576) (w : World) (F : List HProp) (hw : holds w F) :
    Ct Tryz.prog 104 #[.int .i64 mk] w fun e w' => ∃ mb : Nat, e = .returned (.pointer (some ⟨mb, 0, none⟩)) ∧ holds w' (markP mb mk none 0 :: F) := by
  refine Ct.go (args := [.int .i64 mk]) Tryz.func104 rfl rfl rfl hw ?_
  repeat' (first | ((apply GL.isBox; refine GL.boxA rfl rfl (fun mb => ?_))) | first | refine stp ?_ | (refine stpB ?_; intro _) | (refine spl ?_ ?_ <;> intro hc <;> ((try simp only [decide_eq_true_eq, decide_eq_false_iff_not, Bool.not_true, Bool.not_false, ne_eq, Classical.not_not, Int.not_lt, Int.not_le] at hc); (try (exfalso; first | omega | exact hc trivial | exact hc rfl)))))
  all_goals (first | (exfalso; omega) | skip)
  refine GE.resOne rfl (by (repeat (first | apply Res.nil | (apply Res.tmp; rfl) | (refine Res.cellA rfl rfl rfl ?_) | (refine Res.cell1 rfl rfl ?_)))) (fun w h => ?_)
  exact ⟨mb, rfl, markP.shut (lv := none) (a := 0) (b := 0) ⟨by omega, by omega⟩ h⟩
theorem water_Low (mb : Nat) (mk : Int) (lv : Option Int) (K : Nat) (w : World) (F : List HProp) (hw : holds w (markP mb mk lv K :: F)) :
    Ct Tryz.prog 126 #[.pointer (some ⟨mb, 0, none⟩)] w fun e w' => e = .returned (.bool (Wm.low mk lv)) ∧ holds w' (markP mb mk lv K :: F) := by
  obtain ⟨lt, hlt, h1⟩ := markP.open hw
  refine Ct.go (args := [.pointer (some ⟨mb, 0, none⟩)]) Tryz.func126 rfl rfl rfl h1 ?_
  repeat' (first | refine stp ?_ | (refine stpB ?_; intro _) | (refine spl ?_ ?_ <;> intro hc <;> ((try simp only [decide_eq_true_eq, decide_eq_false_iff_not, Bool.not_true, Bool.not_false, ne_eq, Classical.not_not, Int.not_lt, Int.not_le] at hc); (try (exfalso; first | omega | exact hc trivial | exact hc rfl)))))
  all_goals (first | (exfalso; simp at hc; done) | (refine GE.resOne rfl (by (repeat (first | apply Res.nil | (apply Res.tmp; rfl) | (refine Res.cellA rfl rfl rfl ?_) | (refine Res.cell1 rfl rfl ?_)))) (fun w h => ?_); exact ⟨rfl, markP.shut (lv := lv) (a := lt.1) hlt h.sub⟩))
theorem water_Lack (mb : Nat) (mk : Int) (hm : 0 ≤ mk ∧ mk ≤ 1048576) (lv : Option Int) (hl : ∀ x, lv = some x → 0 ≤ x ∧ x ≤ 9223372036854775807) (K : Nat) (w : World) (F : List HProp) (hw : holds w (markP mb mk lv K :: F)) :
    Ct Tryz.prog 115 #[.pointer (some ⟨mb, 0, none⟩)] w fun e w' => e = .returned (.int .i64 (Wm.lack mk lv)) ∧ holds w' (markP mb mk lv K :: F) := by
  have hL := fun w (F : List HProp) h => water_Low mb mk lv K w F h
  cases lv with
  | none =>
    refine Ct.go (args := [.pointer (some ⟨mb, 0, none⟩)]) Tryz.func115 rfl rfl rfl hw ?_
    repeat' (first | ((apply GL.isCall; refine GL.callH1 (markP mb mk none K) (vs := [.pointer (some ⟨mb, 0, none⟩)]) rfl rfl (fun w h => hL w _ h) ?_)) | first | refine stp ?_ | (refine stpB ?_; intro _) | (refine spl ?_ ?_ <;> intro hc <;> ((try simp only [decide_eq_true_eq, decide_eq_false_iff_not, Bool.not_true, Bool.not_false, ne_eq, Classical.not_not, Int.not_lt, Int.not_le] at hc); (try (exfalso; first | omega | exact hc trivial | exact hc rfl)))))
    all_goals (first | (exfalso; simp [Wm.low] at hc; done) | (refine GE.resOne rfl (by (repeat (first | apply Res.nil | (apply Res.tmp; rfl) | (refine Res.cellA rfl rfl rfl ?_) | (refine Res.cell1 rfl rfl ?_)))) (fun w h => ?_); exact ⟨rfl, h.sub⟩))
  | some x =>
    have hx := hl x rfl
    by_cases h0 : x < mk
    · rw [show Wm.lack mk (some x) = mk - x from if_pos h0]
      rw [show Wm.low mk (some x) = true from decide_eq_true h0] at hL
      refine Ct.go (args := [.pointer (some ⟨mb, 0, none⟩)]) Tryz.func115 rfl rfl rfl hw ?_
      repeat' (first | (first | (apply GL.isCall; refine GL.callH1 (markP mb mk (some x) K) (vs := [.pointer (some ⟨mb, 0, none⟩)]) rfl rfl (fun w h => hL w _ h) ?_) | (refine G.isRegion 3 ?_; refine G.case (F' := fun lt : {lt : Int × Int // 0 ≤ lt.2 ∧ lt.2 ≤ K} => blk mb (.cells #[.int .i64 mk, .bool (decide (x < mk)), .bool true, .int .i64 x, .int .i64 lt.1.1, .int .i64 lt.1.2] 247 (0, 0)) :: F) (fun lt => ?_) (fun w h => by obtain ⟨lt, h2, h3⟩ := markP.open h; exact ⟨⟨lt, h2⟩, h3⟩))) | first | refine stp ?_ | (refine stpB ?_; intro _) | (refine spl ?_ ?_ <;> intro hc <;> ((try simp only [decide_eq_true_eq, decide_eq_false_iff_not, Bool.not_true, Bool.not_false, ne_eq, Classical.not_not, Int.not_lt, Int.not_le] at hc); (try (exfalso; first | omega | exact hc trivial | exact hc rfl)))))
      all_goals (first | (exfalso; simp at hc; done) | (exfalso; omega) | skip)
      refine GE.resOne rfl (by (repeat (first | apply Res.nil | (apply Res.tmp; rfl) | (refine Res.cellA rfl rfl rfl ?_) | (refine Res.cell1 rfl rfl ?_)))) (fun w h => ?_)
      exact ⟨rfl, markP.shut (lv := some x) (a := lt.1.1) lt.2 h⟩
    · rw [show Wm.lack mk (some x) = 0 from if_neg h0]
      rw [show Wm.low mk (some x) = false from decide_eq_false h0] at hL
      refine Ct.go (args := [.pointer (some ⟨mb, 0, none⟩)]) Tryz.func115 rfl rfl rfl hw ?_
      repeat' (first | (first | (apply GL.isCall; refine GL.callH1 (markP mb mk (some x) K) (vs := [.pointer (some ⟨mb, 0, none⟩)]) rfl rfl (fun w h => hL w _ h) ?_)) | first | refine stp ?_ | (refine stpB ?_; intro _) | (refine spl ?_ ?_ <;> intro hc <;> ((try simp only [decide_eq_true_eq, decide_eq_false_iff_not, Bool.not_true, Bool.not_false, ne_eq, Classical.not_not, Int.not_lt, Int.not_le] at hc); (try (exfalso; first | omega | exact hc trivial | exact hc rfl)))))
      all_goals (first | (exfalso; simp at hc; done) | (refine GE.resOne rfl (by (repeat (first | apply Res.nil | (apply Res.tmp; rfl) | (refine Res.cellA rfl rfl rfl ?_) | (refine Res.cell1 rfl rfl ?_)))) (fun w h => ?_); exact ⟨rfl, h.sub⟩))
theorem water_Feed (mb : Nat) (mk : Int) (hm : 0 ≤ mk ∧ mk ≤ 1048576) (lv : Option Int) (K : Nat) (hK : K ≤ 1000000) (x : Int) (w : World) (F : List HProp) (hw : holds w (markP mb mk lv K :: F)) :
    Ct Tryz.prog 113 #[.pointer (some ⟨mb, 0, none⟩), .int .i64 x] w fun e w' => ∃ r : Int, e = .returned (.int .i64 r) ∧ holds w' (markP mb mk (some (max x 0)) (K + 1) :: F) := by
  obtain ⟨⟨la, ti⟩, hlt, h1⟩ := markP.open hw
  dsimp only at hlt h1
  obtain ⟨y, hy⟩ : ∃ y, max x 0 = y := ⟨_, rfl⟩
  rw [hy]
  obtain ⟨lo, hlo⟩ : ∃ lo, lo = Wm.low mk lv := ⟨_, rfl⟩
  rw [← hlo] at h1
  have hfin : ∀ (a b : Int) (w : World) (G : List HProp), (b = ti ∨ b = ti + 1) → holds w (blk mb (.cells #[.int .i64 mk, .bool (decide (y < mk)), .bool true, .int .i64 y, .int .i64 a, .int .i64 b] 247 (0, 0)) :: G) → holds w (markP mb mk (some y) (K + 1) :: G) := fun a b w G hb h => markP.shut (lv := some y) ⟨by omega, by omega⟩ h
  refine Ct.go (args := [.pointer (some ⟨mb, 0, none⟩), .int .i64 x]) Tryz.func113 rfl rfl rfl h1 ?_
  repeat' (first | (first | (rw [hy]) | (apply GL.isAny; refine GL.run (v := .agg #[.bool lo, .bool lv.isSome, .int .i64 (lv.getD 0), .int .i64 la, .int .i64 ti]) (by apply Runs.isLoad; first | exact Runs.loadBlkA rfl rfl rfl | exact Runs.loadWhole rfl rfl) rfl ?_) | (apply GL.isAny; refine GL.run (Runs.eqlCells (xs := [.b lo, .b lv.isSome, .i .i64 (lv.getD 0), .i .i64 la, .i .i64 ti]) (ys := [.b false, .b false, .i .i64 0, .i .i64 0, .i .i64 0]) rfl rfl rfl rfl) rfl ?_)) | first | refine stp ?_ | (refine stpB ?_; intro _) | (refine spl ?_ ?_ <;> intro hc <;> ((try simp only [decide_eq_true_eq, decide_eq_false_iff_not, Bool.not_true, Bool.not_false, ne_eq, Classical.not_not, Int.not_lt, Int.not_le] at hc); (try (exfalso; first | omega | exact hc trivial | exact hc rfl)))))
  all_goals (first | (exfalso; simp at hc; done) | skip)
  all_goals (refine GE.resOne rfl (by (repeat (first | apply Res.nil | (apply Res.tmp; rfl) | (refine Res.cellA rfl rfl rfl ?_) | (refine Res.cell1 rfl rfl ?_)))) (fun w h => ?_); first | exact ⟨_, rfl, (hfin _ _ _ _ (.inl rfl) h).sub⟩ | exact ⟨_, rfl, (hfin _ _ _ _ (.inr rfl) h).sub⟩)
end Go.Proofs.YtipkgamiejenaaaGreat
