import Derived.Test.YtipkgamiejenaaaGreatMg10
import Derived.Test.YtipkgamiejenaaaGreatTypes
import Derived.Test.YtipkgamiejenaaaGreatMg5
import Derived.Test.YtipkgamiejenaaaGreatMg0
import Derived.WalkSpells
/- Package bits: a set in words; the walks. -/
namespace Go.Proofs.YtipkgamiejenaaaGreat
open Go Go.RowKit Go.MapKept
set_option linter.unusedVariables false
set_option linter.unusedSimpArgs false
set_option maxRecDepth 100000
set_option maxHeartbeats 1000000
@[reducible] def encU (x : Int) : List Value := [.int .u64 x]
instance : Enc encU 1 := ⟨fun _ => rfl, fun _ => by simp [encU, Value.oneCell'], by omega⟩
section
variable (b n : Nat) (wv : Value) (rest : List Value) (ws : List Int) (p : Nat → Bool)
theorem bits_within (i : Int) (w : World) (F : List HProp) [SeesBlk F b (wv :: .int .i64 (n : Nat) :: rest).toArray] (hw : holds w F) :
    Ct Tryz.prog 196 #[.pointer (some ⟨b, 0, none⟩), .int .i64 i] w fun e w' => e = .returned (.bool (decide (0 ≤ i ∧ i < n))) ∧ holds w' F := by
  refine Ct.go (args := [.pointer (some ⟨b, 0, none⟩), .int .i64 i]) Tryz.func196 rfl rfl rfl hw ?_
  repeat' (first | refine stp ?_ | (refine stpB ?_; intro _) | (refine spl ?_ ?_ <;> intro hc <;> ((try simp only [decide_eq_true_eq, decide_eq_false_iff_not, Bool.not_true, Bool.not_false, ne_eq, Classical.not_not, Int.not_lt, Int.not_le] at hc); (try (exfalso; first | omega | exact hc trivial | exact hc rfl)))))
  all_goals (first | (exfalso; omega) | (refine GE.resOne rfl (by (repeat (first | apply Res.nil | (apply Res.tmp; rfl) | (refine Res.cellA rfl rfl rfl ?_) | (refine Res.cell1 rfl rfl ?_)))) (fun w h => ?_); exact ⟨by congr 2; (first | rfl | (rw [decide_eq_decide]; omega) | (symm; rw [decide_eq_false_iff_not]; omega) | (symm; rw [decide_eq_true_eq]; omega)), h⟩))
theorem bits_Has (hn : n ≤ 1048576) (hs : Bt.Spec n ws p) (i : Int) (w : World) (F : List HProp) [SeesBlk F b (wv :: .int .i64 (n : Nat) :: rest).toArray] [Reads F wv encU 1 ws] (hw : holds w F) :
    Ct Tryz.prog 197 #[.pointer (some ⟨b, 0, none⟩), .int .i64 i] w fun e w' => e = .returned (.bool (decide (0 ≤ i ∧ i < n) && p i.toNat)) ∧ holds w' F := by
  refine Ct.go (args := [.pointer (some ⟨b, 0, none⟩), .int .i64 i]) Tryz.func197 rfl rfl rfl hw ?_
  by_cases hi : 0 ≤ i ∧ i < n
  · obtain ⟨k, rfl⟩ : ∃ k : Nat, i = k := ⟨i.toNat, by omega⟩
    obtain ⟨hl, hb⟩ := hs.has k (by omega)
    have hin := hs.inn _ hl
    have hsb := Bt.shr_bit ws[k / 64] hin (k % 64)
    have e1 : ((k : Int) % 64).toNat = k % 64 := by omega
    rw [hb] at hsb
    rw [decide_eq_true hi, Bool.true_and, Int.toNat_natCast]
    repeat' (first | (first | first | (apply GL.isCall; refine GL.call1 rfl rfl (fun w h => bits_within b n wv rest k w _ h) ?_) | (apply GD.isAny; refine GD.call rfl rfl (fun w F' h => bits_within b n wv rest k w _ h) ?_) | (apply GL.isAny; refine GL.run (by apply Runs.isIndexA; exact Runs.indexAddr (k := k / 64) rfl rfl rfl (by omega) hl) rfl ?_) | (apply GL.isAny; refine GL.run (Runs.shrC rfl rfl (by omega)) rfl ?_) | (apply GL.isAny; refine GL.run (Runs.andU rfl rfl) rfl ?_)) | first | refine stp ?_ | (refine stpB ?_; intro _) | (refine spl ?_ ?_ <;> intro hc <;> ((try simp only [decide_eq_true_eq, decide_eq_false_iff_not, Bool.not_true, Bool.not_false, ne_eq, Classical.not_not, Int.not_lt, Int.not_le] at hc); (try (exfalso; first | omega | exact hc trivial | exact hc rfl)))))
    all_goals (first | (exfalso; omega) | (refine GE.resOne rfl (by (repeat (first | apply Res.nil | (apply Res.tmp; rfl) | (refine Res.cellA rfl rfl rfl ?_) | (refine Res.cell1 rfl rfl ?_)))) (fun w h => ?_); exact ⟨by rw [e1, hsb]; cases p k <;> rfl, h.sub⟩))
  · rw [decide_eq_false hi, Bool.false_and]
    repeat' (first | (first | (apply GL.isCall; refine GL.call1 rfl rfl (fun w h => bits_within b n wv rest i w _ h) ?_) | (apply GD.isAny; refine GD.call rfl rfl (fun w F' h => bits_within b n wv rest i w _ h) ?_)) | first | refine stp ?_ | (refine stpB ?_; intro _) | (refine spl ?_ ?_ <;> intro hc <;> ((try simp only [decide_eq_true_eq, decide_eq_false_iff_not, Bool.not_true, Bool.not_false, ne_eq, Classical.not_not, Int.not_lt, Int.not_le] at hc); (try (exfalso; first | omega | exact hc trivial | exact hc rfl)))))
    all_goals (first | (exfalso; omega) | (refine GE.resOne rfl (by (repeat (first | apply Res.nil | (apply Res.tmp; rfl) | (refine Res.cellA rfl rfl rfl ?_) | (refine Res.cell1 rfl rfl ?_)))) (fun w h => ?_); exact ⟨rfl, h.sub⟩))
/-- A number is put in. -/
theorem bits_Put (hn : n ≤ 1048576) (hs : Bt.Spec n ws p) (k : Nat) (hk : k < n) (hp : p k = false) (w : World) (F : List HProp) (hw : holds w (owns 265 encU 1 wv ws :: blk b (.cells (wv :: .int .i64 (n : Nat) :: rest).toArray 271 (0, 0)) :: F)) :
    Ct Tryz.prog 140 #[.pointer (some ⟨b, 0, none⟩), .int .i64 (k : Nat)] w fun e w' => ∃ ws' : {l : List Int // Bt.Spec n l (fun j => p j || decide (j = k))}, e = .returned (.bool true) ∧ holds w' (owns 265 encU 1 wv ws'.1 :: blk b (.cells (wv :: .int .i64 (n : Nat) :: rest).toArray 271 (0, 0)) :: F) := by
  refine Ct.go (args := [.pointer (some ⟨b, 0, none⟩), .int .i64 (k : Nat)]) Tryz.func140 rfl rfl rfl hw ?_
  obtain ⟨hl, hb⟩ := hs.has k hk
  have e1 : ((k : Int) % 64).toNat = k % 64 := by omega
  have ed : (decide (0 ≤ (k : Int) ∧ (k : Int) < n)) = true := by rw [decide_eq_true_eq]; omega
  have ed2 : (decide (0 ≤ (k : Int) ∧ (k : Int) < n) && p (k : Int).toNat) = false := by rw [Int.toNat_natCast, hp, Bool.and_false]
  have hW := fun w F [SeesBlk F b (wv :: .int .i64 (n : Nat) :: rest).toArray] h => bits_within b n wv rest k w F h
  have hH := fun w F [SeesBlk F b (wv :: .int .i64 (n : Nat) :: rest).toArray] [Reads F wv encU 1 ws] h => bits_Has b n wv rest ws p hn hs k w F h
  rw [ed] at hW
  rw [ed2] at hH
  repeat' (first | (first | first | (apply GL.isCall; refine GL.call1 rfl rfl (fun w h => hW w _ h) ?_) | (apply GD.isAny; refine GD.call rfl rfl (fun w F' h => hW w _ h) ?_) | first | (apply GL.isCall; refine GL.call1 rfl rfl (fun w h => hH w _ h) ?_) | (apply GD.isAny; refine GD.call rfl rfl (fun w F' h => hH w _ h) ?_) | refine G.drawTail 13 (by kernel_rfl) (by simp only [List.take_succ_cons, List.take_zero]; rfl) (by simp only [List.drop_succ_cons, List.drop_zero]; rfl) (by kernel_rfl) ?_ | (apply GD.isAny; refine GD.run (by apply Runs.isIndexA; exact Runs.indexAddr (k := k / 64) rfl rfl rfl (by omega) hl) rfl ?_) | (apply GD.isAny; refine GD.run (Runs.shlC rfl rfl (by omega)) rfl ?_) | (apply GD.isAny; refine GD.run (Runs.orU rfl rfl) rfl ?_) | (apply GL.isStore; refine GL.storeElem (f := 0) _ rfl rfl hl rfl rfl rfl rfl ?_)) | first | refine stp ?_ | (refine stpB ?_; intro _) | (refine spl ?_ ?_ <;> intro hc <;> ((try simp only [decide_eq_true_eq, decide_eq_false_iff_not, Bool.not_true, Bool.not_false, ne_eq, Classical.not_not, Int.not_lt, Int.not_le] at hc); (try (exfalso; first | omega | exact hc trivial | exact hc rfl)))))
  refine GE.resOne rfl (by (repeat (first | apply Res.nil | (apply Res.tmp; rfl) | (refine Res.cellA rfl rfl rfl ?_) | (refine Res.cell1 rfl rfl ?_)))) (fun w h => ?_)
  rw [e1] at h
  exact ⟨⟨_, hs.put k hk hl⟩, rfl, h.sub⟩
theorem bits_Drop (hn : n ≤ 1048576) (hs : Bt.Spec n ws p) (k : Nat) (hk : k < n) (hp : p k = true) (w : World) (F : List HProp) (hw : holds w (owns 265 encU 1 wv ws :: blk b (.cells (wv :: .int .i64 (n : Nat) :: rest).toArray 271 (0, 0)) :: F)) :
    Ct Tryz.prog 201 #[.pointer (some ⟨b, 0, none⟩), .int .i64 (k : Nat)] w fun e w' => ∃ ws' : {l : List Int // Bt.Spec n l (fun j => p j && !decide (j = k))}, e = .returned (.bool true) ∧ holds w' (owns 265 encU 1 wv ws'.1 :: blk b (.cells (wv :: .int .i64 (n : Nat) :: rest).toArray 271 (0, 0)) :: F) := by
  refine Ct.go (args := [.pointer (some ⟨b, 0, none⟩), .int .i64 (k : Nat)]) Tryz.func201 rfl rfl rfl hw ?_
  obtain ⟨hl, hb⟩ := hs.has k hk
  have e1 : ((k : Int) % 64).toNat = k % 64 := by omega
  have ed2 : (decide (0 ≤ (k : Int) ∧ (k : Int) < n) && p (k : Int).toNat) = true := by rw [Int.toNat_natCast, hp, Bool.and_true, decide_eq_true_eq]; omega
  have hH := fun w F [SeesBlk F b (wv :: .int .i64 (n : Nat) :: rest).toArray] [Reads F wv encU 1 ws] h => bits_Has b n wv rest ws p hn hs k w F h
  rw [ed2] at hH
  repeat' (first | (first | first | (apply GL.isCall; refine GL.call1 rfl rfl (fun w h => hH w _ h) ?_) | (apply GD.isAny; refine GD.call rfl rfl (fun w F' h => hH w _ h) ?_) | refine G.drawTail 13 (by kernel_rfl) (by simp only [List.take_succ_cons, List.take_zero]; rfl) (by simp only [List.drop_succ_cons, List.drop_zero]; rfl) (by kernel_rfl) ?_ | (apply GD.isAny; refine GD.run (by apply Runs.isIndexA; exact Runs.indexAddr (k := k / 64) rfl rfl rfl (by omega) hl) rfl ?_) | (apply GD.isAny; refine GD.run (Runs.shlC rfl rfl (by omega)) rfl ?_) | (apply GD.isAny; refine GD.run (Runs.andNotU rfl rfl) rfl ?_) | (apply GL.isStore; refine GL.storeElem (f := 0) _ rfl rfl hl rfl rfl rfl rfl ?_)) | first | refine stp ?_ | (refine stpB ?_; intro _) | (refine spl ?_ ?_ <;> intro hc <;> ((try simp only [decide_eq_true_eq, decide_eq_false_iff_not, Bool.not_true, Bool.not_false, ne_eq, Classical.not_not, Int.not_lt, Int.not_le] at hc); (try (exfalso; first | omega | exact hc trivial | exact hc rfl)))))
  refine GE.resOne rfl (by (repeat (first | apply Res.nil | (apply Res.tmp; rfl) | (refine Res.cellA rfl rfl rfl ?_) | (refine Res.cell1 rfl rfl ?_)))) (fun w h => ?_)
  rw [e1] at h
  exact ⟨⟨_, hs.drop k hk hl⟩, rfl, h.sub⟩
end
/-- What lies behind a set's words and size. -/
def btRest : List Value := .int .u32 0 :: .int .i32 0 :: .int .u32 0 :: List.replicate 256 (.int .u8 0)
theorem bits_New (n : Nat) (hn : n ≤ 1048576) (w : World) (F : List HProp) (hw : holds w F) :
    Ct Tryz.prog 138 #[.int .i64 (n : Nat)] w fun e w' => ∃ x : Nat × Nat, e = .returned (.pointer (some ⟨x.1, 0, none⟩)) ∧ holds w' (owns 265 encU 1 (.slice (some ⟨x.2, 0, none⟩) ((n + 63) / 64) ((n + 63) / 64)) (List.replicate ((n + 63) / 64) 0) :: blk x.1 (.cells (.slice (some ⟨x.2, 0, none⟩) ((n + 63) / 64) ((n + 63) / 64) :: .int .i64 (n : Nat) :: btRest).toArray 271 (0, 0)) :: F) := by
  refine Ct.go (args := [.int .i64 (n : Nat)]) Tryz.func138 rfl rfl rfl hw ?_
  repeat' (first | (first | (apply GL.isAny; refine GL.makeSl encU 0 ((n + 63) / 64) ((n + 63) / 64) rfl rfl rfl (by omega) (by omega) (by omega) (by omega) (by unfold maxLen; omega) rfl (fun g => ?_)) | (apply GL.isBox; refine GL.boxA (cs := (.slice (some ⟨g, 0, none⟩) ((n + 63) / 64) ((n + 63) / 64) :: .int .i64 (n : Nat) :: btRest).toArray) rfl rfl (fun bb => ?_))) | first | refine stp ?_ | (refine stpB ?_; intro _) | (refine spl ?_ ?_ <;> intro hc <;> ((try simp only [decide_eq_true_eq, decide_eq_false_iff_not, Bool.not_true, Bool.not_false, ne_eq, Classical.not_not, Int.not_lt, Int.not_le] at hc); (try (exfalso; first | omega | exact hc trivial | exact hc rfl)))))
  all_goals (first | (exfalso; omega) | skip)
  refine GE.resOne rfl (by (repeat (first | apply Res.nil | (apply Res.tmp; rfl) | (refine Res.cellA rfl rfl rfl ?_) | (refine Res.cell1 rfl rfl ?_)))) (fun w h => ?_)
  exact ⟨⟨bb, g⟩, rfl, h.sub⟩
end Go.Proofs.YtipkgamiejenaaaGreat

/- Package free: what is free: a stack and the set of the same numbers. -/
namespace Go.Proofs.YtipkgamiejenaaaGreat
open Go Go.RowKit Go.MapKept
set_option linter.unusedVariables false
set_option linter.unusedSimpArgs false
set_option maxRecDepth 100000
set_option maxHeartbeats 1000000
/-- The numbers l of those below n are free. -/
structure FrM where
  f : Nat
  s : Nat
  r : Nat
  b : Nat
  g : Nat
  pl : List Int
  jk : List Int
  ws : List Int
structure FrM.Ok (q : FrM) (n : Nat) (l : List Int) : Prop where
  st : Stk.Ok n q.pl l
  bt : Bt.Spec n q.ws (fun k => decide ((k : Int) ∈ l))
def freeP (v : Value) (n : Nat) (l : List Int) : HProp := fun f => ∃ q : FrM, (v = .pointer (some ⟨q.f, 0, none⟩) ∧ q.Ok n l) ∧ sep [blk q.f (.cells #[.pointer (some ⟨q.s, 0, none⟩), .pointer (some ⟨q.b, 0, none⟩)] 206 (0, 0)), blk q.s (.cells #[.slice (some ⟨q.r, n, none⟩) l.length n, .slice (some ⟨q.r, 0, none⟩) n n] 267 (0, 0)), stkB q.r n q.pl l q.jk, owns 265 encU 1 (.slice (some ⟨q.g, 0, none⟩) ((n + 63) / 64) ((n + 63) / 64)) q.ws, blk q.b (.cells (.slice (some ⟨q.g, 0, none⟩) ((n + 63) / 64) ((n + 63) / 64) :: .int .i64 (n : Nat) :: btRest).toArray 271 (0, 0))] f
theorem freeP.open {w : World} {v : Value} {n : Nat} {l : List Int} {F : List HProp} (h : holds w (freeP v n l :: F)) : ∃ q : FrM, v = .pointer (some ⟨q.f, 0, none⟩) ∧ q.Ok n l ∧ holds w (blk q.f (.cells #[.pointer (some ⟨q.s, 0, none⟩), .pointer (some ⟨q.b, 0, none⟩)] 206 (0, 0)) :: blk q.s (.cells #[.slice (some ⟨q.r, n, none⟩) l.length n, .slice (some ⟨q.r, 0, none⟩) n n] 267 (0, 0)) :: stkB q.r n q.pl l q.jk :: owns 265 encU 1 (.slice (some ⟨q.g, 0, none⟩) ((n + 63) / 64) ((n + 63) / 64)) q.ws :: blk q.b (.cells (.slice (some ⟨q.g, 0, none⟩) ((n + 63) / 64) ((n + 63) / 64) :: .int .i64 (n : Nat) :: btRest).toArray 271 (0, 0)) :: F) := by
  obtain ⟨q, h⟩ := holds.open_ex h
  obtain ⟨⟨e, ho⟩, h⟩ := holds.open_pure h
  exact ⟨q, e, ho, holds_sep.1 h⟩
theorem freeP.shut {w : World} {n : Nat} {l : List Int} {F : List HProp} (q : FrM) (ho : q.Ok n l) (h : holds w (blk q.f (.cells #[.pointer (some ⟨q.s, 0, none⟩), .pointer (some ⟨q.b, 0, none⟩)] 206 (0, 0)) :: blk q.s (.cells #[.slice (some ⟨q.r, n, none⟩) l.length n, .slice (some ⟨q.r, 0, none⟩) n n] 267 (0, 0)) :: stkB q.r n q.pl l q.jk :: owns 265 encU 1 (.slice (some ⟨q.g, 0, none⟩) ((n + 63) / 64) ((n + 63) / 64)) q.ws :: blk q.b (.cells (.slice (some ⟨q.g, 0, none⟩) ((n + 63) / 64) ((n + 63) / 64) :: .int .i64 (n : Nat) :: btRest).toArray 271 (0, 0)) :: F)) : holds w (freeP (.pointer (some ⟨q.f, 0, none⟩)) n l :: F) :=
  (holds_sep (l := [blk q.f (.cells #[.pointer (some ⟨q.s, 0, none⟩), .pointer (some ⟨q.b, 0, none⟩)] 206 (0, 0)), blk q.s (.cells #[.slice (some ⟨q.r, n, none⟩) l.length n, .slice (some ⟨q.r, 0, none⟩) n n] 267 (0, 0)), stkB q.r n q.pl l q.jk, owns 265 encU 1 (.slice (some ⟨q.g, 0, none⟩) ((n + 63) / 64) ((n + 63) / 64)) q.ws, blk q.b (.cells (.slice (some ⟨q.g, 0, none⟩) ((n + 63) / 64) ((n + 63) / 64) :: .int .i64 (n : Nat) :: btRest).toArray 271 (0, 0))]).2 h).mono fun f hf => ⟨q, ⟨rfl, ho⟩, hf⟩
theorem Bt.Spec.congr {n : Nat} {ws : List Int} {p p' : Nat → Bool} (h : Bt.Spec n ws p) (e : ∀ k, p k = p' k) : Bt.Spec n ws p' := by
  have : p = p' := funext e
  rw [← this]; exact h
section
variable (n : Nat) (hn : n ≤ 1048576) (l : List Int)
theorem free_is (q : FrM) (w : World) (F : List HProp) [SeesBlk F q.f #[.pointer (some ⟨q.s, 0, none⟩), .pointer (some ⟨q.b, 0, none⟩)]] (hw : holds w F) :
    Ct Tryz.prog 193 #[.pointer (some ⟨q.f, 0, none⟩)] w fun e w' => e = .returned (.bool true) ∧ holds w' F := by
  refine Ct.go (args := [.pointer (some ⟨q.f, 0, none⟩)]) Tryz.func193 rfl rfl rfl hw ?_
  repeat' (first | refine stp ?_ | (refine stpB ?_; intro _) | (refine spl ?_ ?_ <;> intro hc <;> ((try simp only [decide_eq_true_eq, decide_eq_false_iff_not, Bool.not_true, Bool.not_false, ne_eq, Classical.not_not, Int.not_lt, Int.not_le] at hc); (try (exfalso; first | omega | exact hc trivial | exact hc rfl)))))
  refine GE.resOne rfl (by (repeat (first | apply Res.nil | (apply Res.tmp; rfl) | (refine Res.cellA rfl rfl rfl ?_) | (refine Res.cell1 rfl rfl ?_)))) (fun w h => ?_); exact ⟨rfl, h.sub⟩
include hn
theorem free_Has (q : FrM) (ho : q.Ok n l) (x : Int) (w : World) (F : List HProp) (hw : holds w (blk q.f (.cells #[.pointer (some ⟨q.s, 0, none⟩), .pointer (some ⟨q.b, 0, none⟩)] 206 (0, 0)) :: blk q.s (.cells #[.slice (some ⟨q.r, n, none⟩) l.length n, .slice (some ⟨q.r, 0, none⟩) n n] 267 (0, 0)) :: stkB q.r n q.pl l q.jk :: owns 265 encU 1 (.slice (some ⟨q.g, 0, none⟩) ((n + 63) / 64) ((n + 63) / 64)) q.ws :: blk q.b (.cells (.slice (some ⟨q.g, 0, none⟩) ((n + 63) / 64) ((n + 63) / 64) :: .int .i64 (n : Nat) :: btRest).toArray 271 (0, 0)) :: F)) :
    Ct Tryz.prog 200 #[.pointer (some ⟨q.f, 0, none⟩), .int .i64 x] w fun e w' => e = .returned (.bool (decide (0 ≤ x ∧ x < n) && decide (((x.toNat : Nat) : Int) ∈ l))) ∧ holds w' (blk q.f (.cells #[.pointer (some ⟨q.s, 0, none⟩), .pointer (some ⟨q.b, 0, none⟩)] 206 (0, 0)) :: blk q.s (.cells #[.slice (some ⟨q.r, n, none⟩) l.length n, .slice (some ⟨q.r, 0, none⟩) n n] 267 (0, 0)) :: stkB q.r n q.pl l q.jk :: owns 265 encU 1 (.slice (some ⟨q.g, 0, none⟩) ((n + 63) / 64) ((n + 63) / 64)) q.ws :: blk q.b (.cells (.slice (some ⟨q.g, 0, none⟩) ((n + 63) / 64) ((n + 63) / 64) :: .int .i64 (n : Nat) :: btRest).toArray 271 (0, 0)) :: F) := by
  refine Ct.go (args := [.pointer (some ⟨q.f, 0, none⟩), .int .i64 x]) Tryz.func200 rfl rfl rfl hw ?_
  repeat' (first | (first | first | (apply GL.isCall; refine GL.call1 rfl rfl (fun w h => free_is q w _ h) ?_) | (apply GD.isAny; refine GD.call rfl rfl (fun w F' h => free_is q w _ h) ?_) | first | (apply GL.isCall; refine GL.call1 rfl rfl (fun w h => bits_Has q.b n (.slice (some ⟨q.g, 0, none⟩) ((n + 63) / 64) ((n + 63) / 64)) btRest q.ws _ hn ho.bt x w _ h) ?_) | (apply GD.isAny; refine GD.call rfl rfl (fun w F' h => bits_Has q.b n (.slice (some ⟨q.g, 0, none⟩) ((n + 63) / 64) ((n + 63) / 64)) btRest q.ws _ hn ho.bt x w _ h) ?_)) | first | refine stp ?_ | (refine stpB ?_; intro _) | (refine spl ?_ ?_ <;> intro hc <;> ((try simp only [decide_eq_true_eq, decide_eq_false_iff_not, Bool.not_true, Bool.not_false, ne_eq, Classical.not_not, Int.not_lt, Int.not_le] at hc); (try (exfalso; first | omega | exact hc trivial | exact hc rfl)))))
  all_goals (first | (exfalso; simp at hc; done) | (refine GE.resOne rfl (by (repeat (first | apply Res.nil | (apply Res.tmp; rfl) | (refine Res.cellA rfl rfl rfl ?_) | (refine Res.cell1 rfl rfl ?_)))) (fun w h => ?_); exact ⟨rfl, h.sub⟩))
theorem free_Peek (q : FrM) (ho : q.Ok n l) (w : World) (F : List HProp) (hw : holds w (blk q.f (.cells #[.pointer (some ⟨q.s, 0, none⟩), .pointer (some ⟨q.b, 0, none⟩)] 206 (0, 0)) :: blk q.s (.cells #[.slice (some ⟨q.r, n, none⟩) l.length n, .slice (some ⟨q.r, 0, none⟩) n n] 267 (0, 0)) :: stkB q.r n q.pl l q.jk :: owns 265 encU 1 (.slice (some ⟨q.g, 0, none⟩) ((n + 63) / 64) ((n + 63) / 64)) q.ws :: blk q.b (.cells (.slice (some ⟨q.g, 0, none⟩) ((n + 63) / 64) ((n + 63) / 64) :: .int .i64 (n : Nat) :: btRest).toArray 271 (0, 0)) :: F)) :
    Ct Tryz.prog 147 #[.pointer (some ⟨q.f, 0, none⟩)] w fun e w' => e = .returned (.tuple #[.int .i64 (l.getLast?.getD 0), .bool (decide (l ≠ []))]) ∧ holds w' (blk q.f (.cells #[.pointer (some ⟨q.s, 0, none⟩), .pointer (some ⟨q.b, 0, none⟩)] 206 (0, 0)) :: blk q.s (.cells #[.slice (some ⟨q.r, n, none⟩) l.length n, .slice (some ⟨q.r, 0, none⟩) n n] 267 (0, 0)) :: stkB q.r n q.pl l q.jk :: owns 265 encU 1 (.slice (some ⟨q.g, 0, none⟩) ((n + 63) / 64) ((n + 63) / 64)) q.ws :: blk q.b (.cells (.slice (some ⟨q.g, 0, none⟩) ((n + 63) / 64) ((n + 63) / 64) :: .int .i64 (n : Nat) :: btRest).toArray 271 (0, 0)) :: F) := by
  refine Ct.go (args := [.pointer (some ⟨q.f, 0, none⟩)]) Tryz.func147 rfl rfl rfl hw ?_
  repeat' (first | (first | first | (apply GL.isCall; refine GL.call1 rfl rfl (fun w h => free_is q w _ h) ?_) | (apply GD.isAny; refine GD.call rfl rfl (fun w F' h => free_is q w _ h) ?_) | (apply GL.isCall; refine GL.callH1 (blk q.s (.cells #[.slice (some ⟨q.r, n, none⟩) l.length n, .slice (some ⟨q.r, 0, none⟩) n n] 267 (0, 0))) rfl rfl (fun w h => stack_Top q.s q.r n q.pl l q.jk w _ hn (holds.sub (H := blk q.s (.cells #[.slice (some ⟨q.r, n, none⟩) l.length n, .slice (some ⟨q.r, 0, none⟩) n n] 267 (0, 0)) :: stkB q.r n q.pl l q.jk :: blk q.f (.cells #[.pointer (some ⟨q.s, 0, none⟩), .pointer (some ⟨q.b, 0, none⟩)] 206 (0, 0)) :: owns 265 encU 1 (.slice (some ⟨q.g, 0, none⟩) ((n + 63) / 64) ((n + 63) / 64)) q.ws :: blk q.b (.cells (.slice (some ⟨q.g, 0, none⟩) ((n + 63) / 64) ((n + 63) / 64) :: .int .i64 (n : Nat) :: btRest).toArray 271 (0, 0)) :: F) h)) ?_)) | first | refine stp ?_ | (refine stpB ?_; intro _) | (refine spl ?_ ?_ <;> intro hc <;> ((try simp only [decide_eq_true_eq, decide_eq_false_iff_not, Bool.not_true, Bool.not_false, ne_eq, Classical.not_not, Int.not_lt, Int.not_le] at hc); (try (exfalso; first | omega | exact hc trivial | exact hc rfl)))))
  all_goals (first | (exfalso; simp at hc; done) | (refine GE.resMany rfl (by (repeat (first | apply Res.nil | (apply Res.tmp; rfl) | (refine Res.cellA rfl rfl rfl ?_) | (refine Res.cell1 rfl rfl ?_)))) (fun w h => ?_); exact ⟨rfl, h.sub⟩))
/-- The top one is picked. -/
theorem free_Pick (q : FrM) (x : Nat) (hx : x < n) (ho : q.Ok n (l ++ [(x : Int)])) (w : World) (F : List HProp) (hw : holds w (blk q.f (.cells #[.pointer (some ⟨q.s, 0, none⟩), .pointer (some ⟨q.b, 0, none⟩)] 206 (0, 0)) :: blk q.s (.cells #[.slice (some ⟨q.r, n, none⟩) (l ++ [(x : Int)]).length n, .slice (some ⟨q.r, 0, none⟩) n n] 267 (0, 0)) :: stkB q.r n q.pl (l ++ [(x : Int)]) q.jk :: owns 265 encU 1 (.slice (some ⟨q.g, 0, none⟩) ((n + 63) / 64) ((n + 63) / 64)) q.ws :: blk q.b (.cells (.slice (some ⟨q.g, 0, none⟩) ((n + 63) / 64) ((n + 63) / 64) :: .int .i64 (n : Nat) :: btRest).toArray 271 (0, 0)) :: F)) :
    Ct Tryz.prog 148 #[.pointer (some ⟨q.f, 0, none⟩), .int .i64 (x : Nat)] w fun e w' => ∃ _ : Unit, e = .returned (.bool true) ∧ holds w' (freeP (.pointer (some ⟨q.f, 0, none⟩)) n l :: F) := by
  have hm : (x : Int) ∈ (l ++ [(x : Int)]) := by simp
  have hnx : (x : Int) ∉ l := fun hm => by
    have := ho.st.nodup
    rw [List.nodup_append] at this
    exact this.2.2 _ hm _ (by simp) rfl
  have hH := fun w F h => free_Has n hn (l ++ [(x : Int)]) q ho x w F h
  have e1 : (decide (0 ≤ (x : Int) ∧ (x : Int) < n) && decide ((((x : Int).toNat : Nat) : Int) ∈ (l ++ [(x : Int)]))) = true := by
    rw [Int.toNat_natCast, decide_eq_true hm, Bool.and_true, decide_eq_true_eq]; omega
  rw [e1] at hH
  have hD := fun w F h => bits_Drop q.b n (.slice (some ⟨q.g, 0, none⟩) ((n + 63) / 64) ((n + 63) / 64)) btRest q.ws _ hn ho.bt x hx (decide_eq_true hm) w F h
  have hS := fun w F h => stack_DropTop q.s q.r n q.pl l q.jk hn x hx ho.st.top w F h
  refine Ct.go (args := [.pointer (some ⟨q.f, 0, none⟩), .int .i64 (x : Nat)]) Tryz.func148 rfl rfl rfl hw ?_
  repeat' (first | (first | first | (apply GL.isCall; refine GL.call1 rfl rfl (fun w h => hH w _ h) ?_) | (apply GD.isAny; refine GD.call rfl rfl (fun w F' h => hH w _ h) ?_) | (apply GL.isCall; refine GL.call (vs := [.pointer (some ⟨q.b, 0, none⟩), .int .i64 (x : Nat)]) rfl rfl (fun w h => hD w (blk q.f (.cells #[.pointer (some ⟨q.s, 0, none⟩), .pointer (some ⟨q.b, 0, none⟩)] 206 (0, 0)) :: blk q.s (.cells #[.slice (some ⟨q.r, n, none⟩) (l ++ [(x : Int)]).length n, .slice (some ⟨q.r, 0, none⟩) n n] 267 (0, 0)) :: stkB q.r n q.pl (l ++ [(x : Int)]) q.jk :: F) h.sub) (fun ws => ?_)) | (apply GL.isCall; refine GL.call1 (vs := [.pointer (some ⟨q.s, 0, none⟩), .int .i64 (x : Nat)]) rfl rfl (fun w h => hS w (owns 265 encU 1 (.slice (some ⟨q.g, 0, none⟩) ((n + 63) / 64) ((n + 63) / 64)) ws.1 :: blk q.b (.cells (.slice (some ⟨q.g, 0, none⟩) ((n + 63) / 64) ((n + 63) / 64) :: .int .i64 (n : Nat) :: btRest).toArray 271 (0, 0)) :: blk q.f (.cells #[.pointer (some ⟨q.s, 0, none⟩), .pointer (some ⟨q.b, 0, none⟩)] 206 (0, 0)) :: F) h.sub) ?_)) | first | refine stp ?_ | (refine stpB ?_; intro _) | (refine spl ?_ ?_ <;> intro hc <;> ((try simp only [decide_eq_true_eq, decide_eq_false_iff_not, Bool.not_true, Bool.not_false, ne_eq, Classical.not_not, Int.not_lt, Int.not_le] at hc); (try (exfalso; first | omega | exact hc trivial | exact hc rfl)))))
  all_goals (first | (exfalso; simp at hc; done) | skip)
  refine GE.resOne rfl (by (repeat (first | apply Res.nil | (apply Res.tmp; rfl) | (refine Res.cellA rfl rfl rfl ?_) | (refine Res.cell1 rfl rfl ?_)))) (fun w h => ?_)
  exact ⟨(), rfl, freeP.shut (l := l) { q with ws := ws.1, pl := q.pl.set x (-1), jk := (x : Int) :: q.jk } ⟨ho.st.pop, ws.2.congr fun k => by
    by_cases hk : k = x
    · subst hk; simp [hnx]
    · have : (k : Int) ≠ x := by omega
      simp [hk, this]⟩ h.sub⟩
theorem free_Take (v : Value) (w : World) (F : List HProp) (hw : holds w (freeP v n l :: F)) :
    Ct Tryz.prog 81 #[v] w fun e w' => e = .returned (.tuple #[.int .i64 (l.getLast?.getD 0), .bool (decide (l ≠ []))]) ∧ holds w' (freeP v n l.dropLast :: F) := by
  obtain ⟨q, rfl, ho, h1⟩ := freeP.open hw
  refine Ct.go (args := [.pointer (some ⟨q.f, 0, none⟩)]) Tryz.func81 rfl rfl rfl h1 ?_
  have hP := fun w (F : List HProp) h => free_Peek n hn l q ho w F h
  cases hl : l.getLast? with
  | none =>
    have : l = [] := List.getLast?_eq_none_iff.1 hl
    subst this
    rw [show ([] : List Int).dropLast = [] from rfl]
    repeat' (first | (first | (apply GL.isCall; refine GL.call1 rfl rfl (fun w h => hP w _ h) ?_) | (apply GD.isAny; refine GD.call rfl rfl (fun w F' h => hP w _ h) ?_)) | first | refine stp ?_ | (refine stpB ?_; intro _) | (refine spl ?_ ?_ <;> intro hc <;> ((try simp only [decide_eq_true_eq, decide_eq_false_iff_not, Bool.not_true, Bool.not_false, ne_eq, Classical.not_not, Int.not_lt, Int.not_le] at hc); (try (exfalso; first | omega | exact hc trivial | exact hc rfl)))))
    all_goals (first | (exfalso; simp at hc; done) | (refine GE.resMany rfl (by (repeat (first | apply Res.nil | (apply Res.tmp; rfl) | (refine Res.cellA rfl rfl rfl ?_) | (refine Res.cell1 rfl rfl ?_)))) (fun w h => ?_); exact ⟨rfl, freeP.shut q ho h.sub⟩))
  | some y =>
    have hs := St.snoc_last hl
    have hy := ho.st.in_ y (by rw [← hs]; simp)
    obtain ⟨x, rfl⟩ : ∃ x : Nat, y = x := ⟨y.toNat, by omega⟩
    rw [hl] at hP
    generalize l.dropLast = l1 at hs ⊢
    subst hs
    have hne : decide ((l1 ++ [(x : Int)]) ≠ []) = true := by simp
    rw [hne] at hP
    simp only [Option.getD_some] at hP
    have hK := fun w (F : List HProp) h => free_Pick n hn l1 q x (by omega) ho w F h
    repeat' (first | (first | first | (apply GL.isCall; refine GL.call1 rfl rfl (fun w h => hP w _ h) ?_) | (apply GD.isAny; refine GD.call rfl rfl (fun w F' h => hP w _ h) ?_) | (apply GL.isCall; refine GL.call rfl rfl (fun w h => hK w _ h) (fun x => ?_))) | first | refine stp ?_ | (refine stpB ?_; intro _) | (refine spl ?_ ?_ <;> intro hc <;> ((try simp only [decide_eq_true_eq, decide_eq_false_iff_not, Bool.not_true, Bool.not_false, ne_eq, Classical.not_not, Int.not_lt, Int.not_le] at hc); (try (exfalso; first | omega | exact hc trivial | exact hc rfl)))))
    all_goals (first | (exfalso; simp at hc; done) | (refine GE.resMany rfl (by (repeat (first | apply Res.nil | (apply Res.tmp; rfl) | (refine Res.cellA rfl rfl rfl ?_) | (refine Res.cell1 rfl rfl ?_)))) (fun w h => ?_); exact ⟨by rw [hne]; rfl, h.sub⟩))
theorem free_Give (v : Value) (x : Nat) (hx : x < n) (hm : (x : Int) ∉ l) (w : World) (F : List HProp) (hw : holds w (freeP v n l :: F)) :
    Ct Tryz.prog 135 #[v, .int .i64 (x : Nat)] w fun e w' => ∃ _ : Unit, e = .returned (.bool true) ∧ holds w' (freeP v n (l ++ [(x : Int)]) :: F) := by
  obtain ⟨q, rfl, ho, h1⟩ := freeP.open hw
  have hroom := ho.st.room x hm ⟨by omega, by omega⟩
  have hP := fun w F h => bits_Put q.b n (.slice (some ⟨q.g, 0, none⟩) ((n + 63) / 64) ((n + 63) / 64)) btRest q.ws _ hn ho.bt x hx (decide_eq_false hm) w F h
  have hpl : Stk.place q.pl x < 0 := by
    unfold Stk.place
    rw [if_neg (by rw [ho.st.len]; omega), Int.toNat_natCast, ho.st.non x hx hm]; omega
  have hU := fun w F h => stack_PushY q.s q.r n q.pl l q.jk x hn hx hpl hroom w F h
  refine Ct.go (args := [.pointer (some ⟨q.f, 0, none⟩), .int .i64 (x : Nat)]) Tryz.func135 rfl rfl rfl h1 ?_
  repeat' (first | (first | first | (apply GL.isCall; refine GL.call1 rfl rfl (fun w h => free_is q w _ h) ?_) | (apply GD.isAny; refine GD.call rfl rfl (fun w F' h => free_is q w _ h) ?_) | (apply GL.isCall; refine GL.call (vs := [.pointer (some ⟨q.b, 0, none⟩), .int .i64 (x : Nat)]) rfl rfl (fun w h => hP w (blk q.f (.cells #[.pointer (some ⟨q.s, 0, none⟩), .pointer (some ⟨q.b, 0, none⟩)] 206 (0, 0)) :: blk q.s (.cells #[.slice (some ⟨q.r, n, none⟩) l.length n, .slice (some ⟨q.r, 0, none⟩) n n] 267 (0, 0)) :: stkB q.r n q.pl l q.jk :: F) h.sub) (fun ws => ?_)) | (apply GL.isCall; refine GL.call1 (vs := [.pointer (some ⟨q.s, 0, none⟩), .int .i64 (x : Nat)]) rfl rfl (fun w h => hU w (owns 265 encU 1 (.slice (some ⟨q.g, 0, none⟩) ((n + 63) / 64) ((n + 63) / 64)) ws.1 :: blk q.b (.cells (.slice (some ⟨q.g, 0, none⟩) ((n + 63) / 64) ((n + 63) / 64) :: .int .i64 (n : Nat) :: btRest).toArray 271 (0, 0)) :: blk q.f (.cells #[.pointer (some ⟨q.s, 0, none⟩), .pointer (some ⟨q.b, 0, none⟩)] 206 (0, 0)) :: F) h.sub) ?_)) | first | refine stp ?_ | (refine stpB ?_; intro _) | (refine spl ?_ ?_ <;> intro hc <;> ((try simp only [decide_eq_true_eq, decide_eq_false_iff_not, Bool.not_true, Bool.not_false, ne_eq, Classical.not_not, Int.not_lt, Int.not_le] at hc); (try (exfalso; first | omega | exact hc trivial | exact hc rfl)))))
  all_goals (first | (exfalso; simp at hc; done) | skip)
  refine GE.resOne rfl (by (repeat (first | apply Res.nil | (apply Res.tmp; rfl) | (refine Res.cellA rfl rfl rfl ?_) | (refine Res.cell1 rfl rfl ?_)))) (fun w h => ?_)
  exact ⟨(), rfl, freeP.shut (l := (l ++ [(x : Int)])) { q with ws := ws.1, pl := q.pl.set x l.length, jk := q.jk.drop 1 } ⟨ho.st.push x hm hx, ws.2.congr fun k => by
    by_cases hk : k = x
    · subst hk; simp
    · have : (k : Int) ≠ x := by omega
      simp [hk, this]⟩ h.sub⟩
end
/-- The first k of the numbers below n, from above. -/
def topN (n k : Nat) : List Int := (List.range k).map fun j => ((n - 1 - j : Nat) : Int)
theorem topN_succ (n k : Nat) : topN n (k + 1) = topN n k ++ [((n - 1 - k : Nat) : Int)] := by simp [topN, List.range_succ]
theorem topN_mem (n k : Nat) (hk : k ≤ n) (x : Nat) : (x : Int) ∈ topN n k ↔ x < n ∧ n ≤ x + k := by
  simp only [topN, List.mem_map, List.mem_range]
  constructor
  · rintro ⟨j, hj, e⟩; omega
  · rintro ⟨h1, h2⟩; exact ⟨n - 1 - x, by omega, by omega⟩
theorem topN_all (n : Nat) : topN n n = ((List.range n).reverse).map (Nat.cast : Nat → Int) := by
  apply List.ext_getElem
  · simp [topN]
  · intro i h1 h2
    simp only [topN, List.getElem_map, List.getElem_range, List.getElem_reverse, List.length_range]
theorem free_New (n : Nat) (h0 : 0 < n) (hn : n ≤ 1048576) (w : World) (F : List HProp) (hw : holds w F) :
    Ct Tryz.prog 66 #[.int .i64 (n : Nat)] w fun e w' => ∃ v : Nat, e = .returned (.pointer (some ⟨v, 0, none⟩)) ∧ holds w' (freeP (.pointer (some ⟨v, 0, none⟩)) n (((List.range n).reverse).map (Nat.cast : Nat → Int)) :: F) := by
  refine Ct.go (args := [.int .i64 (n : Nat)]) Tryz.func66 rfl rfl rfl hw ?_
  repeat' (first | (first | (apply GL.isCall; refine GL.call (vs := [.int .i64 (n : Nat)]) rfl rfl (fun w h => stack_New n h0 hn w _ h) (fun ⟨s, r⟩ => ?_); dsimp only) | (apply GL.isCall; refine GL.call (vs := [.int .i64 (n : Nat)]) rfl rfl (fun w h => bits_New n hn w _ h) (fun ⟨b, g⟩ => ?_); dsimp only)) | first | refine stp ?_ | (refine stpB ?_; intro _) | (refine spl ?_ ?_ <;> intro hc <;> ((try simp only [decide_eq_true_eq, decide_eq_false_iff_not, Bool.not_true, Bool.not_false, ne_eq, Classical.not_not, Int.not_lt, Int.not_le] at hc); (try (exfalso; first | omega | exact hc trivial | exact hc rfl)))))
  all_goals (first | (exfalso; simp at hc; done) | skip)
  show G _ _ _ _ _ (owns 265 encU 1 (.slice (some ⟨g, 0, none⟩) ((n + 63) / 64) ((n + 63) / 64)) (List.replicate ((n + 63) / 64) 0) :: blk b (.cells (.slice (some ⟨g, 0, none⟩) ((n + 63) / 64) ((n + 63) / 64) :: .int .i64 (n : Nat) :: btRest).toArray 271 (0, 0)) :: blk s (.cells #[.slice (some ⟨r, n, none⟩) (topN n 0).length n, .slice (some ⟨r, 0, none⟩) n n] 267 (0, 0)) :: stkB r n (List.replicate n (-1)) (topN n 0) (List.replicate n 0) :: F)
  refine G.loopK [3, 4] (Nat × List Int × List Int × List Int) (fun y => [(5, .int .i64 (((n - y.1 : Nat) : Int) - 1))]) (fun y => blk s (.cells #[.slice (some ⟨r, n, none⟩) (topN n y.1).length n, .slice (some ⟨r, 0, none⟩) n n] 267 (0, 0)) :: stkB r n y.2.1 (topN n y.1) y.2.2.1 :: owns 265 encU 1 (.slice (some ⟨g, 0, none⟩) ((n + 63) / 64) ((n + 63) / 64)) y.2.2.2 :: blk b (.cells (.slice (some ⟨g, 0, none⟩) ((n + 63) / 64) ((n + 63) / 64) :: .int .i64 (n : Nat) :: btRest).toArray 271 (0, 0)) :: F) (fun y => y.1 ≤ n ∧ Stk.Ok n y.2.1 (topN n y.1) ∧ Bt.Spec n y.2.2.2 (fun k => decide ((k : Int) ∈ topN n y.1))) (fun y => n - y.1) ((0, List.replicate n (-1), List.replicate n 0, List.replicate ((n + 63) / 64) 0)) (⟨Nat.zero_le _, Stk.Ok.new n, (Bt.Spec.new n).congr fun k => by simp [topN]⟩) (by repeat (first | exact trivial | refine And.intro rfl ?_)) (fun w h => by (try dsimp only); first | exact h | exact h.sub | ((try simp only [List.take_zero, List.drop_zero, List.map_nil, List.nil_append, List.zipIdx_nil, List.filter_nil]); exact h.sub)) ?_
  rintro ⟨k, pl, jk, ws⟩ ⟨hk, hO, hB⟩
  dsimp only at hk hO hB ⊢
  by_cases hlt : k < n
  · have e1 : ((n - k : Nat) : Int) - 1 = ((n - 1 - k : Nat) : Int) := by omega
    rw [e1]
    have hm : ((n - 1 - k : Nat) : Int) ∉ topN n k := fun hm => by have := (topN_mem n k hk _).1 hm; omega
    have hx : n - 1 - k < n := by omega
    have hroom := hO.room _ hm ⟨by omega, by omega⟩
    have hP := fun w F h => bits_Put b n (.slice (some ⟨g, 0, none⟩) ((n + 63) / 64) ((n + 63) / 64)) btRest ws _ hn hB (n - 1 - k) hx (decide_eq_false hm) w F h
    have hpl : Stk.place pl ((n - 1 - k : Nat) : Int) < 0 := by
      unfold Stk.place
      rw [if_neg (by rw [hO.len]; omega), Int.toNat_natCast, hO.non _ hx hm]; omega
    have hU := fun w F h => stack_PushY s r n pl (topN n k) jk (n - 1 - k) hn hx hpl hroom w F h
    repeat' (first | (first | (apply GL.isCall; refine GL.call (vs := [.pointer (some ⟨b, 0, none⟩), .int .i64 ((n - 1 - k : Nat) : Int)]) rfl rfl (fun w h => hP w (blk s (.cells #[.slice (some ⟨r, n, none⟩) (topN n k ++ [((n - 1 - k : Nat) : Int)]).length n, .slice (some ⟨r, 0, none⟩) n n] 267 (0, 0)) :: stkB r n (pl.set (n - 1 - k) (topN n k).length) (topN n k ++ [((n - 1 - k : Nat) : Int)]) (jk.drop 1) :: F) h.sub) (fun ws2 => ?_)) | (apply GL.isCall; refine GL.call1 (vs := [.pointer (some ⟨s, 0, none⟩), .int .i64 ((n - 1 - k : Nat) : Int)]) rfl rfl (fun w h => hU w _ h) ?_)) | first | refine stp ?_ | (refine stpB ?_; intro _) | (refine spl ?_ ?_ <;> intro hc <;> ((try simp only [decide_eq_true_eq, decide_eq_false_iff_not, Bool.not_true, Bool.not_false, ne_eq, Classical.not_not, Int.not_lt, Int.not_le] at hc); (try (exfalso; first | omega | exact hc trivial | exact hc rfl)))))
    all_goals (first | (exfalso; omega) | skip)
    have e2 : ((n - 1 - k : Nat) : Int) - 1 = ((n - (k + 1) : Nat) : Int) - 1 := by omega
    rw [e2, ← topN_succ]
    have hO2 := hO.push _ hm hx
    rw [← topN_succ] at hO2
    have hB2 : Bt.Spec n ws2.1 (fun j => decide ((j : Int) ∈ topN n (k + 1))) := ws2.2.congr fun j => by
      rw [topN_succ]
      by_cases hj : j = n - 1 - k
      · subst hj; simp
      · have : (j : Int) ≠ ((n - 1 - k : Nat) : Int) := by omega
        simp [hj, this]
    refine GE.round ((k + 1, pl.set (n - 1 - k) (topN n k).length, jk.drop 1, ws2.1)) (⟨hlt, hO2, hB2⟩) (by repeat (first | exact trivial | refine And.intro rfl ?_)) (fun w h => by (try dsimp only); exact h.sub) (by (try dsimp only); omega)
  · obtain rfl : k = n := by omega
    repeat' (first | ((apply GL.isBox; refine GL.boxA (cs := #[.pointer (some ⟨s, 0, none⟩), .pointer (some ⟨b, 0, none⟩)]) rfl rfl (fun f => ?_))) | first | refine stp ?_ | (refine stpB ?_; intro _) | (refine spl ?_ ?_ <;> intro hc <;> ((try simp only [decide_eq_true_eq, decide_eq_false_iff_not, Bool.not_true, Bool.not_false, ne_eq, Classical.not_not, Int.not_lt, Int.not_le] at hc); (try (exfalso; first | omega | exact hc trivial | exact hc rfl)))))
    all_goals (first | (exfalso; omega) | skip)
    refine GE.resOne rfl (by (repeat (first | apply Res.nil | (apply Res.tmp; rfl) | (refine Res.cellA rfl rfl rfl ?_) | (refine Res.cell1 rfl rfl ?_)))) (fun w h => ?_)
    refine ⟨f, rfl, ?_⟩
    rw [topN_all] at h hO hB
    exact freeP.shut ⟨f, s, r, b, g, pl, jk, ws⟩ ⟨hO, hB⟩ h.sub
end Go.Proofs.YtipkgamiejenaaaGreat

/- Package phase: the phase behind an event. -/
namespace Go.Proofs.YtipkgamiejenaaaGreat
open Go Go.RowKit Go.MapKept
set_option linter.unusedVariables false
set_option linter.unusedSimpArgs false
set_option maxRecDepth 100000
set_option maxHeartbeats 1000000
theorem phase_is (p : Int) (w : World) (F : List HProp) (hw : holds w F) :
    Ct Tryz.prog 207 #[.int .i64 p] w fun e w' => e = .returned (.bool (decide (0 ≤ p ∧ p < 4))) ∧ holds w' F := by
  refine Ct.go (args := [.int .i64 p]) Tryz.func207 rfl rfl rfl hw ?_
  repeat' (first | refine stp ?_ | (refine stpB ?_; intro _) | (refine spl ?_ ?_ <;> intro hc <;> ((try simp only [decide_eq_true_eq, decide_eq_false_iff_not, Bool.not_true, Bool.not_false, ne_eq, Classical.not_not, Int.not_lt, Int.not_le] at hc); (try (exfalso; first | omega | exact hc trivial | exact hc rfl)))))
  all_goals (first | (exfalso; omega) | (refine GE.resOne rfl (by (repeat (first | apply Res.nil | (apply Res.tmp; rfl) | (refine Res.cellA rfl rfl rfl ?_) | (refine Res.cell1 rfl rfl ?_)))) (fun w h => ?_); exact ⟨by congr 2; (first | rfl | (rw [decide_eq_decide]; omega) | (symm; rw [decide_eq_false_iff_not]; omega) | (symm; rw [decide_eq_true_eq]; omega)), h⟩))
/-- Of a phase p (0 to 3) and an event e (1 to 4): what is next, and whether. -/
theorem phase_Next (p e : Nat) (hp : p < 4) (he : 1 ≤ e ∧ e ≤ 4) (w : World) (F : List HProp) (hw : holds w F) :
    Ct Tryz.prog 152 #[.int .i64 (p : Nat), .int .i64 (e : Nat)] w fun r w' => r = .returned (.tuple #[.int .i64 (if p + 1 = e then ((e : Nat) : Int) % 4 else 0), .int .i64 (if p + 1 = e then 0 else 18)]) ∧ holds w' F := by
  refine Ct.go (args := [.int .i64 (p : Nat), .int .i64 (e : Nat)]) Tryz.func152 rfl rfl rfl hw ?_
  have ht : decide (0 ≤ (p : Int) ∧ (p : Int) < 4) = true := by rw [decide_eq_true_eq]; omega
  have hI := fun w (F : List HProp) h => phase_is p w F h
  rw [ht] at hI
  have hc4 : p = 0 ∨ p = 1 ∨ p = 2 ∨ p = 3 := by omega
  rcases hc4 with rfl | rfl | rfl | rfl
  all_goals (repeat' (first | (first | (apply GL.isCall; refine GL.call1 rfl rfl (fun w h => hI w _ h) ?_) | (apply GD.isAny; refine GD.call rfl rfl (fun w F' h => hI w _ h) ?_)) | first | refine stp ?_ | (refine stpB ?_; intro _) | (refine spl ?_ ?_ <;> intro hc <;> ((try simp only [decide_eq_true_eq, decide_eq_false_iff_not, Bool.not_true, Bool.not_false, ne_eq, Classical.not_not, Int.not_lt, Int.not_le] at hc); (try (exfalso; first | omega | exact hc trivial | exact hc rfl))))))
  all_goals (first | (exfalso; omega) | (refine GE.resMany rfl (by (repeat (first | apply Res.nil | (apply Res.tmp; rfl) | (refine Res.cellA rfl rfl rfl ?_) | (refine Res.cell1 rfl rfl ?_)))) (fun w h => ?_); exact ⟨by first | (rw [if_neg (by omega), if_neg (by omega)]) | (obtain rfl : e = 1 := (by omega); rfl) | (obtain rfl : e = 2 := (by omega); rfl) | (obtain rfl : e = 3 := (by omega); rfl) | (obtain rfl : e = 4 := (by omega); rfl), h.sub⟩))
end Go.Proofs.YtipkgamiejenaaaGreat

/- Contracts of package tags. -/
namespace Go.Proofs.YtipkgamiejenaaaGreat
open Go Go.RowKit Go.MapKept
set_option maxRecDepth 100000
set_option linter.unusedVariables false

def tagCells (t : Int × Int) : List Value := [.int .i64 t.1, .int .i64 t.2]
def tagArr (l : List (Int × Int)) : Array Value := (l.flatMap tagCells).toArray
theorem tagArr_at : ∀ (l : List (Int × Int)) (i : Nat) (hi : i < l.length), (tagArr l)[i * 2]? = some (.int .i64 l[i].1) ∧ (tagArr l)[i * 2 + 1]? = some (.int .i64 l[i].2)
  | t :: l, 0, _ => by simp [tagArr, tagCells]
  | t :: l, i + 1, hi => by
    have ih := tagArr_at l i (by simpa using hi)
    have e : ∀ j, (tagArr (t :: l))[(i + 1) * 2 + j]? = (tagArr l)[i * 2 + j]? := fun j => by
      simp only [tagArr, List.flatMap_cons, List.getElem?_toArray]
      rw [List.getElem?_append_right (by simp [tagCells]; omega)]
      congr 1
      simp [tagCells]; omega
    have e0 := e 0
    simp only [Nat.add_zero] at e0
    simp only [List.getElem_cons_succ, e0, e 1]
    exact ih
  | [], i, hi => by simp at hi
theorem tagArr_set1 : ∀ (l : List (Int × Int)) (i : Nat) (hi : i < l.length) (x : Int), (tagArr l).setIfInBounds (i * 2) (.int .i64 x) = tagArr (l.set i (x, l[i].2))
  | t :: l, 0, _, x => by simp [tagArr, tagCells]
  | t :: l, i + 1, hi, x => by
    have ih := tagArr_set1 l i (by simpa using hi) x
    have h1 := congrArg Array.toList ih
    apply Array.ext'
    simp only [tagArr, Array.toList_setIfInBounds, List.flatMap_cons, List.set_cons_succ, List.getElem_cons_succ] at h1 ⊢
    rw [List.set_append_right _ _ (by simp [tagCells]; omega), ← h1]
    congr 2
    simp [tagCells]; omega
  | [], i, hi, x => by simp at hi
theorem tagArr_set2 : ∀ (l : List (Int × Int)) (i : Nat) (hi : i < l.length) (x : Int), (tagArr l).setIfInBounds (i * 2 + 1) (.int .i64 x) = tagArr (l.set i (l[i].1, x))
  | t :: l, 0, _, x => by simp [tagArr, tagCells]
  | t :: l, i + 1, hi, x => by
    have ih := tagArr_set2 l i (by simpa using hi) x
    have h1 := congrArg Array.toList ih
    apply Array.ext'
    simp only [tagArr, Array.toList_setIfInBounds, List.flatMap_cons, List.set_cons_succ, List.getElem_cons_succ] at h1 ⊢
    rw [List.set_append_right _ _ (by simp [tagCells]; omega), ← h1]
    congr 2
    simp [tagCells]; omega
  | [], i, hi, x => by simp at hi
/-- How many chunks an owner has. -/
def cnt (l : List (Int × Int)) (o : Int) : Nat := if 0 < o then (l.filter fun t => t.1 == o).length else 0
theorem cnt_le (l : List (Int × Int)) (o : Int) : cnt l o ≤ l.length := by
  unfold cnt; split
  · exact List.length_filter_le _ _
  · omega
theorem filter_set (p : Int × Int → Bool) : ∀ (l : List (Int × Int)) (i : Nat) (hi : i < l.length) (t : Int × Int), ((l.set i t).filter p).length + (if p l[i] then 1 else 0) = (l.filter p).length + (if p t then 1 else 0)
  | [], i, hi, t => by simp at hi
  | u :: l, 0, _, t => by simp only [List.set_cons_zero, List.filter_cons, List.getElem_cons_zero]; split <;> split <;> simp <;> omega
  | u :: l, i + 1, hi, t => by
    have ih := filter_set p l i (by simpa using hi) t
    simp only [List.set_cons_succ, List.filter_cons, List.getElem_cons_succ]
    split
    · simp only [List.length_cons]; omega
    · exact ih
theorem cnt_set (l : List (Int × Int)) (i : Nat) (hi : i < l.length) (t : Int × Int) (o : Int) (ho : 0 < o) : cnt (l.set i t) o + (if l[i].1 = o then 1 else 0) = cnt l o + (if t.1 = o then 1 else 0) := by
  have := filter_set (fun t => t.1 == o) l i hi t
  simp only [cnt, ho, if_true]
  simpa using this

/-- The map tells how many each owner has. -/
structure ManyOk (l : List (Int × Int)) (m : List (Int × Int)) : Prop where
  get : ∀ o, alGet m o = if cnt l o = 0 then none else some ((cnt l o : Nat) : Int)
  nodup : (alKeys m).Nodup
  own : ∀ t ∈ l, 0 ≤ t.1
theorem set_own {l : List (Int × Int)} (h : ∀ t ∈ l, 0 ≤ t.1) (k : Nat) (t : Int × Int) (ht : 0 ≤ t.1) : ∀ u ∈ l.set k t, 0 ≤ u.1 := fun u hu => by
  rcases List.mem_or_eq_of_mem_set hu with h1 | h1
  · exact h u h1
  · rw [h1]; exact ht
theorem ManyOk.take {l m : List (Int × Int)} (h : ManyOk l m) (k : Nat) (hk : k < l.length) (h0 : l[k].1 = 0) (o : Int) (ho : 0 < o) : ManyOk (l.set k (o, l[k].2)) (alSet m o ((cnt l o : Nat) + 1)) := by
  refine ⟨fun x => ?_, alKeys_set_nodup _ _ _ h.nodup, set_own h.own _ _ (by simp; omega)⟩
  rw [alGet_set, h.get]
  by_cases hx : 0 < x
  · have hc := cnt_set l k hk (o, l[k].2) x hx
    rw [if_neg (show ¬ l[k].1 = x by omega)] at hc
    by_cases e : x = o
    · subst e
      simp only [if_true] at hc
      rw [if_pos rfl, if_neg (by omega)]
      congr 1; omega
    · rw [if_neg (fun h => e h.symm)] at hc
      simp only [Nat.add_zero] at hc
      rw [if_neg e, hc]
  · have e1 : ∀ l : List (Int × Int), cnt l x = 0 := fun l => by simp [cnt, hx]
    rw [e1, e1, if_neg (show ¬ x = o by omega)]
theorem ManyOk.leave {l m : List (Int × Int)} (h : ManyOk l m) (k : Nat) (hk : k < l.length) (h0 : 0 < l[k].1) : 0 < cnt l l[k].1 ∧
    ((cnt l l[k].1 = 1 → ManyOk (l.set k (0, l[k].2)) (alDel (alSet m l[k].1 ((cnt l l[k].1 : Nat) - 1)) l[k].1)) ∧
     (cnt l l[k].1 ≠ 1 → ManyOk (l.set k (0, l[k].2)) (alSet m l[k].1 ((cnt l l[k].1 : Nat) - 1)))) := by
  have hpos : 0 < cnt l l[k].1 := by
    have := cnt_set l k hk (0, l[k].2) l[k].1 h0
    simp only [if_true] at this
    rw [if_neg (show ¬ (0 : Int) = l[k].1 by omega)] at this
    omega
  have key : ∀ x, cnt (l.set k (0, l[k].2)) x = if x = l[k].1 then cnt l x - 1 else cnt l x := fun x => by
    by_cases hx : 0 < x
    · have hc := cnt_set l k hk (0, l[k].2) x hx
      rw [if_neg (show ¬ (0 : Int) = x by omega)] at hc
      by_cases e : x = l[k].1
      · rw [if_pos e.symm] at hc; rw [if_pos e]; omega
      · rw [if_neg (fun h => e h.symm)] at hc; rw [if_neg e]; omega
    · have e1 : ∀ l : List (Int × Int), cnt l x = 0 := fun l => by simp [cnt, hx]
      rw [e1, e1, if_neg (show ¬ x = l[k].1 by omega)]
  refine ⟨hpos, fun h1 => ⟨fun x => ?_, alKeys_del_nodup _ _ (alKeys_set_nodup _ _ _ h.nodup), set_own h.own _ _ (Int.le_refl _)⟩, fun h1 => ⟨fun x => ?_, alKeys_set_nodup _ _ _ h.nodup, set_own h.own _ _ (Int.le_refl _)⟩⟩
  · rw [alGet_del _ _ _ (alKeys_set_nodup _ _ _ h.nodup), alGet_set, h.get, key]
    by_cases e : x = l[k].1
    · rw [if_pos e, if_pos e, if_pos (by rw [e]; omega)]
    · rw [if_neg e, if_neg e, if_neg e]
  · rw [alGet_set, h.get, key]
    by_cases e : x = l[k].1
    · rw [if_pos e, if_pos e, e, if_neg (by omega)]
      congr 1; omega
    · rw [if_neg e, if_neg e]
theorem ManyOk.raise {l m : List (Int × Int)} (h : ManyOk l m) (k : Nat) (hk : k < l.length) (g : Int) : ManyOk (l.set k (l[k].1, g)) m := by
  refine ⟨fun x => ?_, h.nodup, set_own h.own _ _ (h.own l[k] (List.getElem_mem hk))⟩
  rw [h.get]
  by_cases hx : 0 < x
  · have hc := cnt_set l k hk (l[k].1, g) x hx
    have : cnt (l.set k (l[k].1, g)) x = cnt l x := Nat.add_right_cancel hc
    rw [this]
  · have e1 : ∀ l : List (Int × Int), cnt l x = 0 := fun l => by simp [cnt, hx]
    rw [e1, e1]
theorem ManyOk.getD {l m : List (Int × Int)} (h : ManyOk l m) (o : Int) : (alGet m o).getD 0 = ((cnt l o : Nat) : Int) := by
  rw [h.get]; by_cases hz : cnt l o = 0 <;> simp [hz]

def tagsAt (v : Value) (l : List (Int × Int)) : HProp := fun f => ∃ b g bm m, (v = .pointer (some ⟨b, 0, none⟩) ∧ ManyOk l m) ∧
  sep [blk b (.cells #[.slice (some ⟨g, 0, none⟩) l.length l.length, .map (some bm)] 200 (0, 0)), blk g (.cells (tagArr l) 215 (0, 0)), imap (.int .i64) bm m] f

theorem open_tags {w : World} {F : List HProp} {v : Value} {l : List (Int × Int)} (h : holds w (tagsAt v l :: F)) : ∃ b g bm m, v = .pointer (some ⟨b, 0, none⟩) ∧ ManyOk l m ∧
    holds w (blk b (.cells #[.slice (some ⟨g, 0, none⟩) l.length l.length, .map (some bm)] 200 (0, 0)) :: blk g (.cells (tagArr l) 215 (0, 0)) :: imap (.int .i64) bm m :: F) := by
  obtain ⟨b, h⟩ := h.open_ex
  obtain ⟨g, h⟩ := h.open_ex
  obtain ⟨bm, h⟩ := h.open_ex
  obtain ⟨m, h⟩ := h.open_ex
  obtain ⟨⟨h1, h2⟩, h⟩ := h.open_pure
  exact ⟨b, g, bm, m, h1, h2, holds_sep.1 h⟩
theorem shut_tags {w : World} {F : List HProp} {b g bm : Nat} {m l : List (Int × Int)} (hm : ManyOk l m)
    (h : holds w (blk b (.cells #[.slice (some ⟨g, 0, none⟩) l.length l.length, .map (some bm)] 200 (0, 0)) :: blk g (.cells (tagArr l) 215 (0, 0)) :: imap (.int .i64) bm m :: F)) :
    holds w (tagsAt (.pointer (some ⟨b, 0, none⟩)) l :: F) :=
  (holds_sep (l := [_, _, _]).2 h).mono fun _ hf => ⟨b, g, bm, m, ⟨rfl, hm⟩, hf⟩

theorem tags_set {w : World} {b g j : Nat} {C : Obj} {T : TypeId} {A A' : Array Value} {M : HProp} {F : List HProp} {val : Value} (h : holds w (blk b C :: blk g (.cells A T (0, 0)) :: M :: F)) (e : A.setIfInBounds j val = A') :
    holds (w.setCell ⟨g, j, none⟩ val) (blk b C :: blk g (.cells A' T (0, 0)) :: M :: F) := by
  have h2 := ((h.pick 1).setCell j val).order [1, 0, 2]
  rw [e] at h2
  exact h2

/-! ### What only reads -/
theorem tags_Owner (w : World) (v : Value) (l : List (Int × Int)) (i : Int) (F : List HProp) (hl : l.length ≤ 1048576) (hw : holds w (tagsAt v l :: F)) :
    Calls Tryz.prog 99 #[v, .int .i64 i] w fun e w' => e = .returned (.int .i64 (if 0 ≤ i ∧ i < l.length then (l.getD i.toNat (0, 0)).1 else 0)) ∧ holds w' (tagsAt v l :: F) := by
  obtain ⟨b, g, bm, m, rfl, hm, h⟩ := open_tags hw
  have c0 := cellAt h.get_blk 0
  simp at c0
  by_cases h0 : 0 ≤ i
  · by_cases h1 : i < l.length
    · rw [if_pos ⟨h0, h1⟩]
      obtain ⟨k, rfl⟩ := Int.eq_ofNat_of_zero_le h0
      have hk : k < l.length := by omega
      obtain ⟨c1, c2⟩ := tagArr_at l k hk
      rw [← cellAt (h.pick 1).get_blk] at c1 c2
      have e : (l.getD (k : Int).toNat (0, 0)).1 = l[k].1 := by simp [hk]
      rw [e]
      generalize l[k].1 = x at c1
      clear e c2
      go_enter Tryz.func99, Tryz.ntmps99
      go_wp2
      go_ret
      exact ⟨rfl, hw⟩
    · rw [if_neg (fun h => h1 h.2)]
      go_enter Tryz.func99, Tryz.ntmps99
      go_wp2
      go_ret
      exact ⟨rfl, hw⟩
  · rw [if_neg (fun h => h0 h.1)]
    go_enter Tryz.func99, Tryz.ntmps99
    go_wp2
    go_ret
    exact ⟨rfl, hw⟩

theorem tags_Gen (w : World) (v : Value) (l : List (Int × Int)) (i : Int) (F : List HProp) (hl : l.length ≤ 1048576) (hw : holds w (tagsAt v l :: F)) :
    Calls Tryz.prog 110 #[v, .int .i64 i] w fun e w' => e = .returned (.int .i64 (if 0 ≤ i ∧ i < l.length then (l.getD i.toNat (0, 0)).2 else -1)) ∧ holds w' (tagsAt v l :: F) := by
  obtain ⟨b, g, bm, m, rfl, hm, h⟩ := open_tags hw
  have c0 := cellAt h.get_blk 0
  simp at c0
  by_cases h0 : 0 ≤ i
  · by_cases h1 : i < l.length
    · rw [if_pos ⟨h0, h1⟩]
      obtain ⟨k, rfl⟩ := Int.eq_ofNat_of_zero_le h0
      have hk : k < l.length := by omega
      obtain ⟨c1, c2⟩ := tagArr_at l k hk
      rw [← cellAt (h.pick 1).get_blk] at c1 c2
      have e : (l.getD (k : Int).toNat (0, 0)).2 = l[k].2 := by simp [hk]
      rw [e]
      generalize l[k].2 = x at c2
      clear e c1
      go_enter Tryz.func110, Tryz.ntmps110
      go_wp2
      go_ret
      exact ⟨rfl, hw⟩
    · rw [if_neg (fun h => h1 h.2)]
      go_enter Tryz.func110, Tryz.ntmps110
      go_wp2
      go_ret
      exact ⟨rfl, hw⟩
  · rw [if_neg (fun h => h0 h.1)]
    go_enter Tryz.func110, Tryz.ntmps110
    go_wp2
    go_ret
    exact ⟨rfl, hw⟩

/-! ### What writes -/
def Tags.own (l : List (Int × Int)) (i o : Int) : Int × List (Int × Int) :=
  if i < 0 ∨ l.length ≤ i ∨ o < 1 then (2, l) else if (l.getD i.toNat (0, 0)).1 ≠ 0 then (19, l) else (0, l.set i.toNat (o, (l.getD i.toNat (0, 0)).2))
def Tags.leave (l : List (Int × Int)) (i : Int) : Int × List (Int × Int) :=
  if i < 0 ∨ l.length ≤ i then (2, l) else if (l.getD i.toNat (0, 0)).1 = 0 then (20, l) else (0, l.set i.toNat (0, (l.getD i.toNat (0, 0)).2))
def Tags.raise (l : List (Int × Int)) (i : Int) : Int × List (Int × Int) :=
  if i < 0 ∨ l.length ≤ i then (2, l) else if (l.getD i.toNat (0, 0)).1 ≠ 0 then (19, l) else if 1048575 ≤ (l.getD i.toNat (0, 0)).2 then (6, l) else (0, l.set i.toNat ((l.getD i.toNat (0, 0)).1, (l.getD i.toNat (0, 0)).2 + 1))

theorem tags_Own (w : World) (v : Value) (l : List (Int × Int)) (i o : Int) (F : List HProp) (hl : l.length ≤ 1048576) (hw : holds w (tagsAt v l :: F)) :
    Calls Tryz.prog 85 #[v, .int .i64 i, .int .i64 o] w fun e w' => e = .returned (.int .i64 (Tags.own l i o).1) ∧ holds w' (tagsAt v (Tags.own l i o).2 :: F) := by
  obtain ⟨b, g, bm, m, rfl, hm, h⟩ := open_tags hw
  have c0 := cellAt h.get_blk 0
  have c1 := cellAt h.get_blk 1
  simp at c0 c1
  have qT : ∀ (w : World) (r : Option Nat), (binOp .eql 156 (.map r) (.map none)).run Tryz.prog w = .ok (.bool r.isNone) w := fun w r => run_eql_map_nil w _ _ _ r Tryz.underlying156
  have HM := Lib.hid hm
  clear hm
  by_cases h0 : 0 ≤ i
  · by_cases h1 : i < l.length
    · obtain ⟨k, rfl⟩ := Int.eq_ofNat_of_zero_le h0
      have hk : k < l.length := by omega
      by_cases ho : o < 1
      · have e : Tags.own l k o = (2, l) := by simp [Tags.own, ho]
        rw [e]
        go_enter Tryz.func85, Tryz.ntmps85
        go_wp2
        go_ret
        exact ⟨rfl, hw⟩
      · obtain ⟨k1, k2⟩ := tagArr_at l k hk
        rw [← cellAt (h.pick 1).get_blk] at k1 k2
        have hf := frozen_of_row w g (k * 2) _ _ (h.pick 1).get_blk
        have hset := tagArr_set1 l k hk o
        have e : Tags.own l k o = if l[k].1 ≠ 0 then (19, l) else (0, l.set k (o, l[k].2)) := by
          unfold Tags.own; rw [if_neg (by omega)]; simp [hk]
        have hown : l[k].1 = 0 → ManyOk (l.set k (o, l[k].2)) (alSet m o ((cnt l o : Nat) + 1)) := fun h0 => HM.out.take k hk h0 o (by omega)
        rw [e]
        have HS := Lib.hid hset
        have HO := Lib.hid hown
        clear e hset hown k2
        by_cases hz : l[k].1 = 0
        · rw [hz] at k1
          have HO2 := Lib.hid (HO.out hz)
          rw [if_neg (by simpa using hz)]
          have hg := HM.out.getD o
          have hcl := cnt_le l o
          clear hz HO
          have h2 := tags_set h HS.out
          have d1 := cellAt h2.get_blk 1
          have hm2 := h2.pick 2
          simp at d1
          have hlk := run_lookup_sl (P := Tryz.prog) (t := 156) (z := (0 : Int)) Tryz.underlying156 Tryz.underlying3 (by kernel_rfl) (h2.pick 2) o false
          simp only [Bool.false_eq_true, if_false] at hlk
          rw [hg] at hlk
          clear hg
          go_enter Tryz.func85, Tryz.ntmps85
          go_wp2_with (first
            | (at_mapUpdate; refine wpList_mapUpdate_sl rfl rfl _ _ _ _ rfl Tryz.underlying156 Tryz.underlying3 rfl _ (((cnt l o : Nat) : Int) + 1) rfl rfl hm2 ?_; clear hlk d1; intro w3 h3)
            | go_in)
          go_ret
          refine ⟨rfl, ?_⟩
          have h4 := h3.order [1, 2, 0]
          refine shut_tags (g := g) (bm := bm) HO2.out ?_
          rw [List.length_set]
          exact h4
        · rw [if_pos hz]
          have hb : (l[k].1 != 0) = true := by simpa using hz
          generalize l[k].1 = x at k1 hb
          go_enter Tryz.func85, Tryz.ntmps85
          go_wp2
          go_ret
          exact ⟨rfl, hw⟩
    · have e : Tags.own l i o = (2, l) := by unfold Tags.own; rw [if_pos (by omega)]
      rw [e]
      go_enter Tryz.func85, Tryz.ntmps85
      go_wp2
      go_ret
      exact ⟨rfl, hw⟩
  · have e : Tags.own l i o = (2, l) := by unfold Tags.own; rw [if_pos (by omega)]
    rw [e]
    go_enter Tryz.func85, Tryz.ntmps85
    go_wp2
    go_ret
    exact ⟨rfl, hw⟩

end Go.Proofs.YtipkgamiejenaaaGreat
