import Derived.Test.YtipkgamiejenaaaGreatMg11
import Derived.Test.YtipkgamiejenaaaGreatTypes
import Derived.Test.YtipkgamiejenaaaGreatMg5
/- Sets of numbers in words: what is plain. -/
namespace Go.Proofs.YtipkgamiejenaaaGreat
open Go Go.RowKit Go.MapKept
set_option linter.unusedVariables false
set_option linter.unusedSimpArgs false
namespace Bt
def bit (w : Int) (k : Nat) : Bool := w.toNat.testBit k
theorem ofNat_eq (a : Nat) : BitVec.ofInt 64 (a : Int) = BitVec.ofNat 64 a := by simp
theorem or_bit (w : Int) (h : 0 ≤ w ∧ w < 18446744073709551616) (k j : Nat) (hk : k < 64) : bit (orI w (2 ^ k : Nat)) j = (bit w j || decide (j = k)) := by
  obtain ⟨n, rfl⟩ : ∃ n : Nat, w = n := ⟨w.toNat, by omega⟩
  unfold bit orI
  rw [ofNat_eq, ofNat_eq, BitVec.toNat_or, BitVec.toNat_ofNat, BitVec.toNat_ofNat, Int.toNat_natCast, Int.toNat_natCast, Nat.mod_eq_of_lt (by omega), Nat.mod_eq_of_lt (Nat.pow_lt_pow_right (by omega) hk), Nat.testBit_or, Nat.testBit_two_pow]
  congr 1
  rw [decide_eq_decide]; omega
theorem andNot_bit (w : Int) (h : 0 ≤ w ∧ w < 18446744073709551616) (k j : Nat) (hk : k < 64) : bit (andNotI w (2 ^ k : Nat)) j = (bit w j && !decide (j = k)) := by
  obtain ⟨n, rfl⟩ : ∃ n : Nat, w = n := ⟨w.toNat, by omega⟩
  unfold bit andNotI
  rw [ofNat_eq, ofNat_eq, Int.toNat_natCast, Int.toNat_natCast, ← BitVec.getLsbD, BitVec.getLsbD_and, BitVec.getLsbD_not, BitVec.getLsbD_ofNat, BitVec.getLsbD_ofNat, Nat.testBit_two_pow]
  by_cases hj : j < 64
  · simp [hj]
    congr 2
    rw [decide_eq_decide]; exact eq_comm
  · have : n.testBit j = false := Nat.testBit_lt_two_pow (Nat.lt_of_lt_of_le (by omega : n < 2 ^ 64) (Nat.pow_le_pow_right (by omega) (by omega)))
    simp [hj, this]
theorem andNotI_in (i j : Int) : 0 ≤ andNotI i j ∧ andNotI i j < 18446744073709551616 := by have := (BitVec.ofInt 64 i &&& ~~~BitVec.ofInt 64 j).isLt; unfold andNotI; omega
theorem orI_in' (i j : Int) : 0 ≤ orI i j ∧ orI i j < 18446744073709551616 := by have := (BitVec.ofInt 64 i ||| BitVec.ofInt 64 j).isLt; unfold orI; omega
/-- The lowest bit of what is shifted down. -/
theorem shr_bit (w : Int) (h : 0 ≤ w ∧ w < 18446744073709551616) (k : Nat) : andI (w / (2 ^ k : Int)) 1 = if bit w k then 1 else 0 := by
  obtain ⟨n, rfl⟩ : ∃ n : Nat, w = n := ⟨w.toNat, by omega⟩
  unfold bit andI
  have e : ((n : Int) / (2 ^ k : Int)) = ((n / 2 ^ k : Nat) : Int) := by simp
  have e2 : n / 2 ^ k ≤ n := Nat.div_le_self _ _
  rw [e, ofNat_eq, show (1 : Int) = ((1 : Nat) : Int) from rfl, ofNat_eq, BitVec.toNat_and, BitVec.toNat_ofNat, BitVec.toNat_ofNat, Int.toNat_natCast, Nat.mod_eq_of_lt (by omega), Nat.mod_eq_of_lt (by omega), Nat.and_one_is_mod, Nat.testBit, Nat.shiftRight_eq_div_pow]
  by_cases h2 : n / 2 ^ k % 2 = 1
  · simp [h2]
  · have : n / 2 ^ k % 2 = 0 := by omega
    simp [this]
/-- What words stand for which numbers below n. -/
structure Spec (n : Nat) (ws : List Int) (p : Nat → Bool) : Prop where
  len : ws.length = (n + 63) / 64
  inn : ∀ (i : Nat) (h : i < ws.length), 0 ≤ ws[i] ∧ ws[i] < 18446744073709551616
  at_ : ∀ (i : Nat) (h : i < ws.length) (j : Nat), j < 64 → bit ws[i] j = p (64 * i + j)
theorem Spec.new (n : Nat) : Spec n (List.replicate ((n + 63) / 64) 0) (fun _ => false) := by
  refine ⟨by simp, fun i h => by simp, fun i h j _ => ?_⟩
  simp [bit]
theorem Spec.has {n : Nat} {ws : List Int} {p : Nat → Bool} (h : Spec n ws p) (i : Nat) (hi : i < n) : ∃ hl : i / 64 < ws.length, bit ws[i / 64] (i % 64) = p i := by
  have hl : i / 64 < ws.length := by rw [h.len]; omega
  refine ⟨hl, ?_⟩
  rw [h.at_ _ hl _ (by omega)]
  congr 1; omega
theorem Spec.put {n : Nat} {ws : List Int} {p : Nat → Bool} (h : Spec n ws p) (i : Nat) (hi : i < n) (hl : i / 64 < ws.length) : Spec n (ws.set (i / 64) (orI ws[i / 64] (2 ^ (i % 64) : Nat))) (fun k => p k || decide (k = i)) := by
  refine ⟨by simpa using h.len, fun k hk => ?_, fun k hk j hj => ?_⟩
  · rw [List.getElem_set]; split
    · exact orI_in' _ _
    · exact h.inn k (by simpa using hk)
  · rw [List.length_set] at hk
    rw [List.getElem_set]; split
    · rename_i e
      rw [or_bit _ (h.inn _ hl) _ _ (by omega), h.at_ _ hl _ hj]
      subst e
      congr 1
      rw [decide_eq_decide]; omega
    · rename_i e
      rw [h.at_ _ hk _ hj]
      have : ¬ (64 * k + j = i) := by omega
      simp [this]
theorem Spec.drop {n : Nat} {ws : List Int} {p : Nat → Bool} (h : Spec n ws p) (i : Nat) (hi : i < n) (hl : i / 64 < ws.length) : Spec n (ws.set (i / 64) (andNotI ws[i / 64] (2 ^ (i % 64) : Nat))) (fun k => p k && !decide (k = i)) := by
  refine ⟨by simpa using h.len, fun k hk => ?_, fun k hk j hj => ?_⟩
  · rw [List.getElem_set]; split
    · exact andNotI_in _ _
    · exact h.inn k (by simpa using hk)
  · rw [List.length_set] at hk
    rw [List.getElem_set]; split
    · rename_i e
      rw [andNot_bit _ (h.inn _ hl) _ _ (by omega), h.at_ _ hl _ hj]
      subst e
      congr 2
      rw [decide_eq_decide]; omega
    · rename_i e
      rw [h.at_ _ hk _ hj]
      have : ¬ (64 * k + j = i) := by omega
      simp [this]
end Bt
end Go.Proofs.YtipkgamiejenaaaGreat

/- Package bits: a set in words; the walks. -/
namespace Go.Proofs.YtipkgamiejenaaaGreat
open Go Go.RowKit Go.MapKept
set_option linter.unusedVariables false
set_option linter.unusedSimpArgs false
set_option maxRecDepth 100000
set_option maxHeartbeats 1000000
@[reducible] def encU (x : Int) : List Value := [.int .u64 x]
instance : Enc encU 1 := ⟨fun _ => rfl, fun _ => by simp [encU, Value.oneCell'], by omega⟩
section
variable (b n : Nat) (wv : Value) (rest : List Value) (ws : List Int) (p : Nat → Bool)
theorem bits_within (i : Int) (w : World) (F : List HProp) [SeesBlk F b (wv :: .int .i64 (n : Nat) :: rest).toArray] (hw : holds w F) :
    Ct Tryz.prog 196 #[.pointer (some ⟨b, 0, none⟩), .int .i64 i] w fun e w' => e = .returned (.bool (decide (0 ≤ i ∧ i < n))) ∧ holds w' F := by
  refine Ct.go (args := [.pointer (some ⟨b, 0, none⟩), .int .i64 i]) Tryz.func196 rfl rfl rfl hw ?_
  repeat' (first | refine stp ?_ | (refine stpB ?_; intro _) | (refine spl ?_ ?_ <;> intro hc <;> ((try simp only [decide_eq_true_eq, decide_eq_false_iff_not, Bool.not_true, Bool.not_false, ne_eq, Classical.not_not, Int.not_lt, Int.not_le] at hc); (try (exfalso; first | omega | exact hc trivial | exact hc rfl)))))
  all_goals (first | (exfalso; omega) | (refine GE.resOne rfl (by (repeat (first | apply Res.nil | (apply Res.tmp; rfl) | (refine Res.cellA rfl rfl rfl ?_) | (refine Res.cell1 rfl rfl ?_)))) (fun w h => ?_); exact ⟨by congr 2; (first | rfl | (rw [decide_eq_decide]; omega) | (symm; rw [decide_eq_false_iff_not]; omega) | (symm; rw [decide_eq_true_eq]; omega)), h⟩))
theorem bits_Has (hn : n ≤ 1048576) (hs : Bt.Spec n ws p) (i : Int) (w : World) (F : List HProp) [SeesBlk F b (wv :: .int .i64 (n : Nat) :: rest).toArray] [Reads F wv encU 1 ws] (hw : holds w F) :
    Ct Tryz.prog 197 #[.pointer (some ⟨b, 0, none⟩), .int .i64 i] w fun e w' => e = .returned (.bool (decide (0 ≤ i ∧ i < n) && p i.toNat)) ∧ holds w' F := by
  refine Ct.go (args := [.pointer (some ⟨b, 0, none⟩), .int .i64 i]) Tryz.func197 rfl rfl rfl hw ?_
  by_cases hi : 0 ≤ i ∧ i < n
  · obtain ⟨k, rfl⟩ : ∃ k : Nat, i = k := ⟨i.toNat, by omega⟩
    obtain ⟨hl, hb⟩ := hs.has k (by omega)
    have hin := hs.inn _ hl
    have hsb := Bt.shr_bit ws[k / 64] hin (k % 64)
    have e1 : ((k : Int) % 64).toNat = k % 64 := by omega
    rw [hb] at hsb
    rw [decide_eq_true hi, Bool.true_and, Int.toNat_natCast]
    repeat' (first | (first | first | (apply GL.isCall; refine GL.call1 rfl rfl (fun w h => bits_within b n wv rest k w _ h) ?_) | (apply GD.isAny; refine GD.call rfl rfl (fun w F' h => bits_within b n wv rest k w _ h) ?_) | (apply GL.isAny; refine GL.run (by apply Runs.isIndexA; exact Runs.indexAddr (k := k / 64) rfl rfl rfl (by omega) hl) rfl ?_) | (apply GL.isAny; refine GL.run (Runs.shrC rfl rfl (by omega)) rfl ?_) | (apply GL.isAny; refine GL.run (Runs.andU rfl rfl) rfl ?_)) | first | refine stp ?_ | (refine stpB ?_; intro _) | (refine spl ?_ ?_ <;> intro hc <;> ((try simp only [decide_eq_true_eq, decide_eq_false_iff_not, Bool.not_true, Bool.not_false, ne_eq, Classical.not_not, Int.not_lt, Int.not_le] at hc); (try (exfalso; first | omega | exact hc trivial | exact hc rfl)))))
    all_goals (first | (exfalso; omega) | (refine GE.resOne rfl (by (repeat (first | apply Res.nil | (apply Res.tmp; rfl) | (refine Res.cellA rfl rfl rfl ?_) | (refine Res.cell1 rfl rfl ?_)))) (fun w h => ?_); exact ⟨by rw [e1, hsb]; cases p k <;> rfl, h.sub⟩))
  · rw [decide_eq_false hi, Bool.false_and]
    repeat' (first | (first | (apply GL.isCall; refine GL.call1 rfl rfl (fun w h => bits_within b n wv rest i w _ h) ?_) | (apply GD.isAny; refine GD.call rfl rfl (fun w F' h => bits_within b n wv rest i w _ h) ?_)) | first | refine stp ?_ | (refine stpB ?_; intro _) | (refine spl ?_ ?_ <;> intro hc <;> ((try simp only [decide_eq_true_eq, decide_eq_false_iff_not, Bool.not_true, Bool.not_false, ne_eq, Classical.not_not, Int.not_lt, Int.not_le] at hc); (try (exfalso; first | omega | exact hc trivial | exact hc rfl)))))
    all_goals (first | (exfalso; omega) | (refine GE.resOne rfl (by (repeat (first | apply Res.nil | (apply Res.tmp; rfl) | (refine Res.cellA rfl rfl rfl ?_) | (refine Res.cell1 rfl rfl ?_)))) (fun w h => ?_); exact ⟨rfl, h.sub⟩))
/-- A number is put in. -/
theorem bits_Put (hn : n ≤ 1048576) (hs : Bt.Spec n ws p) (k : Nat) (hk : k < n) (hp : p k = false) (w : World) (F : List HProp) (hw : holds w (owns 265 encU 1 wv ws :: blk b (.cells (wv :: .int .i64 (n : Nat) :: rest).toArray 271 (0, 0)) :: F)) :
    Ct Tryz.prog 140 #[.pointer (some ⟨b, 0, none⟩), .int .i64 (k : Nat)] w fun e w' => ∃ ws' : {l : List Int // Bt.Spec n l (fun j => p j || decide (j = k))}, e = .returned (.bool true) ∧ holds w' (owns 265 encU 1 wv ws'.1 :: blk b (.cells (wv :: .int .i64 (n : Nat) :: rest).toArray 271 (0, 0)) :: F) := by
  refine Ct.go (args := [.pointer (some ⟨b, 0, none⟩), .int .i64 (k : Nat)]) Tryz.func140 rfl rfl rfl hw ?_
  obtain ⟨hl, hb⟩ := hs.has k hk
  have e1 : ((k : Int) % 64).toNat = k % 64 := by omega
  have ed : (decide (0 ≤ (k : Int) ∧ (k : Int) < n)) = true := by rw [decide_eq_true_eq]; omega
  have ed2 : (decide (0 ≤ (k : Int) ∧ (k : Int) < n) && p (k : Int).toNat) = false := by rw [Int.toNat_natCast, hp, Bool.and_false]
  have hW := fun w F [SeesBlk F b (wv :: .int .i64 (n : Nat) :: rest).toArray] h => bits_within b n wv rest k w F h
  have hH := fun w F [SeesBlk F b (wv :: .int .i64 (n : Nat) :: rest).toArray] [Reads F wv encU 1 ws] h => bits_Has b n wv rest ws p hn hs k w F h
  rw [ed] at hW
  rw [ed2] at hH
  repeat' (first | (first | first | (apply GL.isCall; refine GL.call1 rfl rfl (fun w h => hW w _ h) ?_) | (apply GD.isAny; refine GD.call rfl rfl (fun w F' h => hW w _ h) ?_) | first | (apply GL.isCall; refine GL.call1 rfl rfl (fun w h => hH w _ h) ?_) | (apply GD.isAny; refine GD.call rfl rfl (fun w F' h => hH w _ h) ?_) | refine G.drawTail 13 (by kernel_rfl) (by simp only [List.take_succ_cons, List.take_zero]; rfl) (by simp only [List.drop_succ_cons, List.drop_zero]; rfl) (by kernel_rfl) ?_ | (apply GD.isAny; refine GD.run (by apply Runs.isIndexA; exact Runs.indexAddr (k := k / 64) rfl rfl rfl (by omega) hl) rfl ?_) | (apply GD.isAny; refine GD.run (Runs.shlC rfl rfl (by omega)) rfl ?_) | (apply GD.isAny; refine GD.run (Runs.orU rfl rfl) rfl ?_) | (apply GL.isStore; refine GL.storeElem (f := 0) _ rfl rfl hl rfl rfl rfl rfl ?_)) | first | refine stp ?_ | (refine stpB ?_; intro _) | (refine spl ?_ ?_ <;> intro hc <;> ((try simp only [decide_eq_true_eq, decide_eq_false_iff_not, Bool.not_true, Bool.not_false, ne_eq, Classical.not_not, Int.not_lt, Int.not_le] at hc); (try (exfalso; first | omega | exact hc trivial | exact hc rfl)))))
  refine GE.resOne rfl (by (repeat (first | apply Res.nil | (apply Res.tmp; rfl) | (refine Res.cellA rfl rfl rfl ?_) | (refine Res.cell1 rfl rfl ?_)))) (fun w h => ?_)
  rw [e1] at h
  exact ⟨⟨_, hs.put k hk hl⟩, rfl, h.sub⟩
theorem bits_Drop (hn : n ≤ 1048576) (hs : Bt.Spec n ws p) (k : Nat) (hk : k < n) (hp : p k = true) (w : World) (F : List HProp) (hw : holds w (owns 265 encU 1 wv ws :: blk b (.cells (wv :: .int .i64 (n : Nat) :: rest).toArray 271 (0, 0)) :: F)) :
    Ct Tryz.prog 201 #[.pointer (some ⟨b, 0, none⟩), .int .i64 (k : Nat)] w fun e w' => ∃ ws' : {l : List Int // Bt.Spec n l (fun j => p j && !decide (j = k))}, e = .returned (.bool true) ∧ holds w' (owns 265 encU 1 wv ws'.1 :: blk b (.cells (wv :: .int .i64 (n : Nat) :: rest).toArray 271 (0, 0)) :: F) := by
  refine Ct.go (args := [.pointer (some ⟨b, 0, none⟩), .int .i64 (k : Nat)]) Tryz.func201 rfl rfl rfl hw ?_
  obtain ⟨hl, hb⟩ := hs.has k hk
  have e1 : ((k : Int) % 64).toNat = k % 64 := by omega
  have ed2 : (decide (0 ≤ (k : Int) ∧ (k : Int) < n) && p (k : Int).toNat) = true := by rw [Int.toNat_natCast, hp, Bool.and_true, decide_eq_true_eq]; omega
  have hH := fun w F [SeesBlk F b (wv :: .int .i64 (n : Nat) :: rest).toArray] [Reads F wv encU 1 ws] h => bits_Has b n wv rest ws p hn hs k w F h
  rw [ed2] at hH
  repeat' (first | (first | first | (apply GL.isCall; refine GL.call1 rfl rfl (fun w h => hH w _ h) ?_) | (apply GD.isAny; refine GD.call rfl rfl (fun w F' h => hH w _ h) ?_) | refine G.drawTail 13 (by kernel_rfl) (by simp only [List.take_succ_cons, List.take_zero]; rfl) (by simp only [List.drop_succ_cons, List.drop_zero]; rfl) (by kernel_rfl) ?_ | (apply GD.isAny; refine GD.run (by apply Runs.isIndexA; exact Runs.indexAddr (k := k / 64) rfl rfl rfl (by omega) hl) rfl ?_) | (apply GD.isAny; refine GD.run (Runs.shlC rfl rfl (by omega)) rfl ?_) | (apply GD.isAny; refine GD.run (Runs.andNotU rfl rfl) rfl ?_) | (apply GL.isStore; refine GL.storeElem (f := 0) _ rfl rfl hl rfl rfl rfl rfl ?_)) | first | refine stp ?_ | (refine stpB ?_; intro _) | (refine spl ?_ ?_ <;> intro hc <;> ((try simp only [decide_eq_true_eq, decide_eq_false_iff_not, Bool.not_true, Bool.not_false, ne_eq, Classical.not_not, Int.not_lt, Int.not_le] at hc); (try (exfalso; first | omega | exact hc trivial | exact hc rfl)))))
  refine GE.resOne rfl (by (repeat (first | apply Res.nil | (apply Res.tmp; rfl) | (refine Res.cellA rfl rfl rfl ?_) | (refine Res.cell1 rfl rfl ?_)))) (fun w h => ?_)
  rw [e1] at h
  exact ⟨⟨_, hs.drop k hk hl⟩, rfl, h.sub⟩
end
/-- What lies behind a set's words and size. -/
def btRest : List Value := .int .u32 0 :: .int .i32 0 :: .int .u32 0 :: List.replicate 256 (.int .u8 0)
theorem bits_New (n : Nat) (hn : n ≤ 1048576) (w : World) (F : List HProp) (hw : holds w F) :
    Ct Tryz.prog 138 #[.int .i64 (n : Nat)] w fun e w' => ∃ x : Nat × Nat, e = .returned (.pointer (some ⟨x.1, 0, none⟩)) ∧ holds w' (owns 265 encU 1 (.slice (some ⟨x.2, 0, none⟩) ((n + 63) / 64) ((n + 63) / 64)) (List.replicate ((n + 63) / 64) 0) :: blk x.1 (.cells (.slice (some ⟨x.2, 0, none⟩) ((n + 63) / 64) ((n + 63) / 64) :: .int .i64 (n : Nat) :: btRest).toArray 271 (0, 0)) :: F) := by
  refine Ct.go (args := [.int .i64 (n : Nat)]) Tryz.func138 rfl rfl rfl hw ?_
  repeat' (first | (first | (apply GL.isAny; refine GL.makeSl encU 0 ((n + 63) / 64) ((n + 63) / 64) rfl rfl rfl (by omega) (by omega) (by omega) (by omega) (by unfold maxLen; omega) rfl (fun g => ?_)) | (apply GL.isBox; refine GL.boxA (cs := (.slice (some ⟨g, 0, none⟩) ((n + 63) / 64) ((n + 63) / 64) :: .int .i64 (n : Nat) :: btRest).toArray) rfl rfl (fun bb => ?_))) | first | refine stp ?_ | (refine stpB ?_; intro _) | (refine spl ?_ ?_ <;> intro hc <;> ((try simp only [decide_eq_true_eq, decide_eq_false_iff_not, Bool.not_true, Bool.not_false, ne_eq, Classical.not_not, Int.not_lt, Int.not_le] at hc); (try (exfalso; first | omega | exact hc trivial | exact hc rfl)))))
  all_goals (first | (exfalso; omega) | skip)
  refine GE.resOne rfl (by (repeat (first | apply Res.nil | (apply Res.tmp; rfl) | (refine Res.cellA rfl rfl rfl ?_) | (refine Res.cell1 rfl rfl ?_)))) (fun w h => ?_)
  exact ⟨⟨bb, g⟩, rfl, h.sub⟩
end Go.Proofs.YtipkgamiejenaaaGreat

/- Package free: what is free: a stack and the set of the same numbers. -/
namespace Go.Proofs.YtipkgamiejenaaaGreat
open Go Go.RowKit Go.MapKept
set_option linter.unusedVariables false
set_option linter.unusedSimpArgs false
set_option maxRecDepth 100000
set_option maxHeartbeats 1000000
/-- The numbers l of those below n are free. -/
structure FrM where
  f : Nat
  s : Nat
  r : Nat
  b : Nat
  g : Nat
  pl : List Int
  jk : List Int
  ws : List Int
structure FrM.Ok (q : FrM) (n : Nat) (l : List Int) : Prop where
  st : Stk.Ok n q.pl l
  bt : Bt.Spec n q.ws (fun k => decide ((k : Int) ∈ l))
def freeP (v : Value) (n : Nat) (l : List Int) : HProp := fun f => ∃ q : FrM, (v = .pointer (some ⟨q.f, 0, none⟩) ∧ q.Ok n l) ∧ sep [blk q.f (.cells #[.pointer (some ⟨q.s, 0, none⟩), .pointer (some ⟨q.b, 0, none⟩)] 206 (0, 0)), blk q.s (.cells #[.slice (some ⟨q.r, n, none⟩) l.length n, .slice (some ⟨q.r, 0, none⟩) n n] 267 (0, 0)), stkB q.r n q.pl l q.jk, owns 265 encU 1 (.slice (some ⟨q.g, 0, none⟩) ((n + 63) / 64) ((n + 63) / 64)) q.ws, blk q.b (.cells (.slice (some ⟨q.g, 0, none⟩) ((n + 63) / 64) ((n + 63) / 64) :: .int .i64 (n : Nat) :: btRest).toArray 271 (0, 0))] f
theorem freeP.open {w : World} {v : Value} {n : Nat} {l : List Int} {F : List HProp} (h : holds w (freeP v n l :: F)) : ∃ q : FrM, v = .pointer (some ⟨q.f, 0, none⟩) ∧ q.Ok n l ∧ holds w (blk q.f (.cells #[.pointer (some ⟨q.s, 0, none⟩), .pointer (some ⟨q.b, 0, none⟩)] 206 (0, 0)) :: blk q.s (.cells #[.slice (some ⟨q.r, n, none⟩) l.length n, .slice (some ⟨q.r, 0, none⟩) n n] 267 (0, 0)) :: stkB q.r n q.pl l q.jk :: owns 265 encU 1 (.slice (some ⟨q.g, 0, none⟩) ((n + 63) / 64) ((n + 63) / 64)) q.ws :: blk q.b (.cells (.slice (some ⟨q.g, 0, none⟩) ((n + 63) / 64) ((n + 63) / 64) :: .int .i64 (n : Nat) :: btRest).toArray 271 (0, 0)) :: F) := by
  obtain ⟨q, h⟩ := holds.open_ex h
  obtain ⟨⟨e, ho⟩, h⟩ := holds.open_pure h
  exact ⟨q, e, ho, holds_sep.1 h⟩
theorem freeP.shut {w : World} {n : Nat} {l : List Int} {F : List HProp} (q : FrM) (ho : q.Ok n l) (h : holds w (blk q.f (.cells #[.pointer (some ⟨q.s, 0, none⟩), .pointer (some ⟨q.b, 0, none⟩)] 206 (0, 0)) :: blk q.s (.cells #[.slice (some ⟨q.r, n, none⟩) l.length n, .slice (some ⟨q.r, 0, none⟩) n n] 267 (0, 0)) :: stkB q.r n q.pl l q.jk :: owns 265 encU 1 (.slice (some ⟨q.g, 0, none⟩) ((n + 63) / 64) ((n + 63) / 64)) q.ws :: blk q.b (.cells (.slice (some ⟨q.g, 0, none⟩) ((n + 63) / 64) ((n + 63) / 64) :: .int .i64 (n : Nat) :: btRest).toArray 271 (0, 0)) :: F)) : holds w (freeP (.pointer (some ⟨q.f, 0, none⟩)) n l :: F) :=
  (holds_sep (l := [blk q.f (.cells #[.pointer (some ⟨q.s, 0, none⟩), .pointer (some ⟨q.b, 0, none⟩)] 206 (0, 0)), blk q.s (.cells #[.slice (some ⟨q.r, n, none⟩) l.length n, .slice (some ⟨q.r, 0, none⟩) n n] 267 (0, 0)), stkB q.r n q.pl l q.jk, owns 265 encU 1 (.slice (some ⟨q.g, 0, none⟩) ((n + 63) / 64) ((n + 63) / 64)) q.ws, blk q.b (.cells (.slice (some ⟨q.g, 0, none⟩) ((n + 63) / 64) ((n + 63) / 64) :: .int .i64 (n : Nat) :: btRest).toArray 271 (0, 0))]).2 h).mono fun f hf => ⟨q, ⟨rfl, ho⟩, hf⟩
theorem Bt.Spec.congr {n : Nat} {ws : List Int} {p p' : Nat → Bool} (h : Bt.Spec n ws p) (e : ∀ k, p k = p' k) : Bt.Spec n ws p' := by
  have : p = p' := funext e
  rw [← this]; exact h
section
variable (n : Nat) (hn : n ≤ 1048576) (l : List Int)
theorem free_is (q : FrM) (w : World) (F : List HProp) [SeesBlk F q.f #[.pointer (some ⟨q.s, 0, none⟩), .pointer (some ⟨q.b, 0, none⟩)]] (hw : holds w F) :
    Ct Tryz.prog 193 #[.pointer (some ⟨q.f, 0, none⟩)] w fun e w' => e = .returned (.bool true) ∧ holds w' F := by
  refine Ct.go (args := [.pointer (some ⟨q.f, 0, none⟩)]) Tryz.func193 rfl rfl rfl hw ?_
  repeat' (first | refine stp ?_ | (refine stpB ?_; intro _) | (refine spl ?_ ?_ <;> intro hc <;> ((try simp only [decide_eq_true_eq, decide_eq_false_iff_not, Bool.not_true, Bool.not_false, ne_eq, Classical.not_not, Int.not_lt, Int.not_le] at hc); (try (exfalso; first | omega | exact hc trivial | exact hc rfl)))))
  refine GE.resOne rfl (by (repeat (first | apply Res.nil | (apply Res.tmp; rfl) | (refine Res.cellA rfl rfl rfl ?_) | (refine Res.cell1 rfl rfl ?_)))) (fun w h => ?_); exact ⟨rfl, h.sub⟩
include hn
theorem free_Has (q : FrM) (ho : q.Ok n l) (x : Int) (w : World) (F : List HProp) (hw : holds w (blk q.f (.cells #[.pointer (some ⟨q.s, 0, none⟩), .pointer (some ⟨q.b, 0, none⟩)] 206 (0, 0)) :: blk q.s (.cells #[.slice (some ⟨q.r, n, none⟩) l.length n, .slice (some ⟨q.r, 0, none⟩) n n] 267 (0, 0)) :: stkB q.r n q.pl l q.jk :: owns 265 encU 1 (.slice (some ⟨q.g, 0, none⟩) ((n + 63) / 64) ((n + 63) / 64)) q.ws :: blk q.b (.cells (.slice (some ⟨q.g, 0, none⟩) ((n + 63) / 64) ((n + 63) / 64) :: .int .i64 (n : Nat) :: btRest).toArray 271 (0, 0)) :: F)) :
    Ct Tryz.prog 200 #[.pointer (some ⟨q.f, 0, none⟩), .int .i64 x] w fun e w' => e = .returned (.bool (decide (0 ≤ x ∧ x < n) && decide (((x.toNat : Nat) : Int) ∈ l))) ∧ holds w' (blk q.f (.cells #[.pointer (some ⟨q.s, 0, none⟩), .pointer (some ⟨q.b, 0, none⟩)] 206 (0, 0)) :: blk q.s (.cells #[.slice (some ⟨q.r, n, none⟩) l.length n, .slice (some ⟨q.r, 0, none⟩) n n] 267 (0, 0)) :: stkB q.r n q.pl l q.jk :: owns 265 encU 1 (.slice (some ⟨q.g, 0, none⟩) ((n + 63) / 64) ((n + 63) / 64)) q.ws :: blk q.b (.cells (.slice (some ⟨q.g, 0, none⟩) ((n + 63) / 64) ((n + 63) / 64) :: .int .i64 (n : Nat) :: btRest).toArray 271 (0, 0)) :: F) := by
  refine Ct.go (args := [.pointer (some ⟨q.f, 0, none⟩), .int .i64 x]) Tryz.func200 rfl rfl rfl hw ?_
  repeat' (first | (first | first | (apply GL.isCall; refine GL.call1 rfl rfl (fun w h => free_is q w _ h) ?_) | (apply GD.isAny; refine GD.call rfl rfl (fun w F' h => free_is q w _ h) ?_) | first | (apply GL.isCall; refine GL.call1 rfl rfl (fun w h => bits_Has q.b n (.slice (some ⟨q.g, 0, none⟩) ((n + 63) / 64) ((n + 63) / 64)) btRest q.ws _ hn ho.bt x w _ h) ?_) | (apply GD.isAny; refine GD.call rfl rfl (fun w F' h => bits_Has q.b n (.slice (some ⟨q.g, 0, none⟩) ((n + 63) / 64) ((n + 63) / 64)) btRest q.ws _ hn ho.bt x w _ h) ?_)) | first | refine stp ?_ | (refine stpB ?_; intro _) | (refine spl ?_ ?_ <;> intro hc <;> ((try simp only [decide_eq_true_eq, decide_eq_false_iff_not, Bool.not_true, Bool.not_false, ne_eq, Classical.not_not, Int.not_lt, Int.not_le] at hc); (try (exfalso; first | omega | exact hc trivial | exact hc rfl)))))
  all_goals (first | (exfalso; simp at hc; done) | (refine GE.resOne rfl (by (repeat (first | apply Res.nil | (apply Res.tmp; rfl) | (refine Res.cellA rfl rfl rfl ?_) | (refine Res.cell1 rfl rfl ?_)))) (fun w h => ?_); exact ⟨rfl, h.sub⟩))
theorem free_Peek (q : FrM) (ho : q.Ok n l) (w : World) (F : List HProp) (hw : holds w (blk q.f (.cells #[.pointer (some ⟨q.s, 0, none⟩), .pointer (some ⟨q.b, 0, none⟩)] 206 (0, 0)) :: blk q.s (.cells #[.slice (some ⟨q.r, n, none⟩) l.length n, .slice (some ⟨q.r, 0, none⟩) n n] 267 (0, 0)) :: stkB q.r n q.pl l q.jk :: owns 265 encU 1 (.slice (some ⟨q.g, 0, none⟩) ((n + 63) / 64) ((n + 63) / 64)) q.ws :: blk q.b (.cells (.slice (some ⟨q.g, 0, none⟩) ((n + 63) / 64) ((n + 63) / 64) :: .int .i64 (n : Nat) :: btRest).toArray 271 (0, 0)) :: F)) :
    Ct Tryz.prog 147 #[.pointer (some ⟨q.f, 0, none⟩)] w fun e w' => e = .returned (.tuple #[.int .i64 (l.getLast?.getD 0), .bool (decide (l ≠ []))]) ∧ holds w' (blk q.f (.cells #[.pointer (some ⟨q.s, 0, none⟩), .pointer (some ⟨q.b, 0, none⟩)] 206 (0, 0)) :: blk q.s (.cells #[.slice (some ⟨q.r, n, none⟩) l.length n, .slice (some ⟨q.r, 0, none⟩) n n] 267 (0, 0)) :: stkB q.r n q.pl l q.jk :: owns 265 encU 1 (.slice (some ⟨q.g, 0, none⟩) ((n + 63) / 64) ((n + 63) / 64)) q.ws :: blk q.b (.cells (.slice (some ⟨q.g, 0, none⟩) ((n + 63) / 64) ((n + 63) / 64) :: .int .i64 (n : Nat) :: btRest).toArray 271 (0, 0)) :: F) := by
  refine Ct.go (args := [.pointer (some ⟨q.f, 0, none⟩)]) Tryz.func147 rfl rfl rfl hw ?_
  repeat' (first | (first | first | (apply GL.isCall; refine GL.call1 rfl rfl (fun w h => free_is q w _ h) ?_) | (apply GD.isAny; refine GD.call rfl rfl (fun w F' h => free_is q w _ h) ?_) | (apply GL.isCall; refine GL.callH1 (blk q.s (.cells #[.slice (some ⟨q.r, n, none⟩) l.length n, .slice (some ⟨q.r, 0, none⟩) n n] 267 (0, 0))) rfl rfl (fun w h => stack_Top q.s q.r n q.pl l q.jk w _ hn (holds.sub (H := blk q.s (.cells #[.slice (some ⟨q.r, n, none⟩) l.length n, .slice (some ⟨q.r, 0, none⟩) n n] 267 (0, 0)) :: stkB q.r n q.pl l q.jk :: blk q.f (.cells #[.pointer (some ⟨q.s, 0, none⟩), .pointer (some ⟨q.b, 0, none⟩)] 206 (0, 0)) :: owns 265 encU 1 (.slice (some ⟨q.g, 0, none⟩) ((n + 63) / 64) ((n + 63) / 64)) q.ws :: blk q.b (.cells (.slice (some ⟨q.g, 0, none⟩) ((n + 63) / 64) ((n + 63) / 64) :: .int .i64 (n : Nat) :: btRest).toArray 271 (0, 0)) :: F) h)) ?_)) | first | refine stp ?_ | (refine stpB ?_; intro _) | (refine spl ?_ ?_ <;> intro hc <;> ((try simp only [decide_eq_true_eq, decide_eq_false_iff_not, Bool.not_true, Bool.not_false, ne_eq, Classical.not_not, Int.not_lt, Int.not_le] at hc); (try (exfalso; first | omega | exact hc trivial | exact hc rfl)))))
  all_goals (first | (exfalso; simp at hc; done) | (refine GE.resMany rfl (by (repeat (first | apply Res.nil | (apply Res.tmp; rfl) | (refine Res.cellA rfl rfl rfl ?_) | (refine Res.cell1 rfl rfl ?_)))) (fun w h => ?_); exact ⟨rfl, h.sub⟩))
/-- The top one is picked. -/
theorem free_Pick (q : FrM) (x : Nat) (hx : x < n) (ho : q.Ok n (l ++ [(x : Int)])) (w : World) (F : List HProp) (hw : holds w (blk q.f (.cells #[.pointer (some ⟨q.s, 0, none⟩), .pointer (some ⟨q.b, 0, none⟩)] 206 (0, 0)) :: blk q.s (.cells #[.slice (some ⟨q.r, n, none⟩) (l ++ [(x : Int)]).length n, .slice (some ⟨q.r, 0, none⟩) n n] 267 (0, 0)) :: stkB q.r n q.pl (l ++ [(x : Int)]) q.jk :: owns 265 encU 1 (.slice (some ⟨q.g, 0, none⟩) ((n + 63) / 64) ((n + 63) / 64)) q.ws :: blk q.b (.cells (.slice (some ⟨q.g, 0, none⟩) ((n + 63) / 64) ((n + 63) / 64) :: .int .i64 (n : Nat) :: btRest).toArray 271 (0, 0)) :: F)) :
    Ct Tryz.prog 148 #[.pointer (some ⟨q.f, 0, none⟩), .int .i64 (x : Nat)] w fun e w' => ∃ _ : Unit, e = .returned (.bool true) ∧ holds w' (freeP (.pointer (some ⟨q.f, 0, none⟩)) n l :: F) := by
  have hm : (x : Int) ∈ (l ++ [(x : Int)]) := by simp
  have hnx : (x : Int) ∉ l := fun hm => by
    have := ho.st.nodup
    rw [List.nodup_append] at this
    exact this.2.2 _ hm _ (by simp) rfl
  have hH := fun w F h => free_Has n hn (l ++ [(x : Int)]) q ho x w F h
  have e1 : (decide (0 ≤ (x : Int) ∧ (x : Int) < n) && decide ((((x : Int).toNat : Nat) : Int) ∈ (l ++ [(x : Int)]))) = true := by
    rw [Int.toNat_natCast, decide_eq_true hm, Bool.and_true, decide_eq_true_eq]; omega
  rw [e1] at hH
  have hD := fun w F h => bits_Drop q.b n (.slice (some ⟨q.g, 0, none⟩) ((n + 63) / 64) ((n + 63) / 64)) btRest q.ws _ hn ho.bt x hx (decide_eq_true hm) w F h
  have hS := fun w F h => stack_DropTop q.s q.r n q.pl l q.jk hn x hx ho.st.top w F h
  refine Ct.go (args := [.pointer (some ⟨q.f, 0, none⟩), .int .i64 (x : Nat)]) Tryz.func148 rfl rfl rfl hw ?_
  repeat' (first | (first | first | (apply GL.isCall; refine GL.call1 rfl rfl (fun w h => hH w _ h) ?_) | (apply GD.isAny; refine GD.call rfl rfl (fun w F' h => hH w _ h) ?_) | (apply GL.isCall; refine GL.call (vs := [.pointer (some ⟨q.b, 0, none⟩), .int .i64 (x : Nat)]) rfl rfl (fun w h => hD w (blk q.f (.cells #[.pointer (some ⟨q.s, 0, none⟩), .pointer (some ⟨q.b, 0, none⟩)] 206 (0, 0)) :: blk q.s (.cells #[.slice (some ⟨q.r, n, none⟩) (l ++ [(x : Int)]).length n, .slice (some ⟨q.r, 0, none⟩) n n] 267 (0, 0)) :: stkB q.r n q.pl (l ++ [(x : Int)]) q.jk :: F) h.sub) (fun ws => ?_)) | (apply GL.isCall; refine GL.call1 (vs := [.pointer (some ⟨q.s, 0, none⟩), .int .i64 (x : Nat)]) rfl rfl (fun w h => hS w (owns 265 encU 1 (.slice (some ⟨q.g, 0, none⟩) ((n + 63) / 64) ((n + 63) / 64)) ws.1 :: blk q.b (.cells (.slice (some ⟨q.g, 0, none⟩) ((n + 63) / 64) ((n + 63) / 64) :: .int .i64 (n : Nat) :: btRest).toArray 271 (0, 0)) :: blk q.f (.cells #[.pointer (some ⟨q.s, 0, none⟩), .pointer (some ⟨q.b, 0, none⟩)] 206 (0, 0)) :: F) h.sub) ?_)) | first | refine stp ?_ | (refine stpB ?_; intro _) | (refine spl ?_ ?_ <;> intro hc <;> ((try simp only [decide_eq_true_eq, decide_eq_false_iff_not, Bool.not_true, Bool.not_false, ne_eq, Classical.not_not, Int.not_lt, Int.not_le] at hc); (try (exfalso; first | omega | exact hc trivial | exact hc rfl)))))
  all_goals (first | (exfalso; simp at hc; done) | skip)
  refine GE.resOne rfl (by (repeat (first | apply Res.nil | (apply Res.tmp; rfl) | (refine Res.cellA rfl rfl rfl ?_) | (refine Res.cell1 rfl rfl ?_)))) (fun w h => ?_)
  exact ⟨(), rfl, freeP.shut (l := l) { q with ws := ws.1, pl := q.pl.set x (-1), jk := (x : Int) :: q.jk } ⟨ho.st.pop, ws.2.congr fun k => by
    by_cases hk : k = x
    · subst hk; simp [hnx]
    · have : (k : Int) ≠ x := by omega
      simp [hk, this]⟩ h.sub⟩
theorem free_Take (v : Value) (w : World) (F : List HProp) (hw : holds w (freeP v n l :: F)) :
    Ct Tryz.prog 81 #[v] w fun e w' => e = .returned (.tuple #[.int .i64 (l.getLast?.getD 0), .bool (decide (l ≠ []))]) ∧ holds w' (freeP v n l.dropLast :: F) := by
  obtain ⟨q, rfl, ho, h1⟩ := freeP.open hw
  refine Ct.go (args := [.pointer (some ⟨q.f, 0, none⟩)]) Tryz.func81 rfl rfl rfl h1 ?_
  have hP := fun w (F : List HProp) h => free_Peek n hn l q ho w F h
  cases hl : l.getLast? with
  | none =>
    have : l = [] := List.getLast?_eq_none_iff.1 hl
    subst this
    rw [show ([] : List Int).dropLast = [] from rfl]
    repeat' (first | (first | (apply GL.isCall; refine GL.call1 rfl rfl (fun w h => hP w _ h) ?_) | (apply GD.isAny; refine GD.call rfl rfl (fun w F' h => hP w _ h) ?_)) | first | refine stp ?_ | (refine stpB ?_; intro _) | (refine spl ?_ ?_ <;> intro hc <;> ((try simp only [decide_eq_true_eq, decide_eq_false_iff_not, Bool.not_true, Bool.not_false, ne_eq, Classical.not_not, Int.not_lt, Int.not_le] at hc); (try (exfalso; first | omega | exact hc trivial | exact hc rfl)))))
    all_goals (first | (exfalso; simp at hc; done) | (refine GE.resMany rfl (by (repeat (first | apply Res.nil | (apply Res.tmp; rfl) | (refine Res.cellA rfl rfl rfl ?_) | (refine Res.cell1 rfl rfl ?_)))) (fun w h => ?_); exact ⟨rfl, freeP.shut q ho h.sub⟩))
  | some y =>
    have hs := St.snoc_last hl
    have hy := ho.st.in_ y (by rw [← hs]; simp)
    obtain ⟨x, rfl⟩ : ∃ x : Nat, y = x := ⟨y.toNat, by omega⟩
    rw [hl] at hP
    generalize l.dropLast = l1 at hs ⊢
    subst hs
    have hne : decide ((l1 ++ [(x : Int)]) ≠ []) = true := by simp
    rw [hne] at hP
    simp only [Option.getD_some] at hP
    have hK := fun w (F : List HProp) h => free_Pick n hn l1 q x (by omega) ho w F h
    repeat' (first | (first | first | (apply GL.isCall; refine GL.call1 rfl rfl (fun w h => hP w _ h) ?_) | (apply GD.isAny; refine GD.call rfl rfl (fun w F' h => hP w _ h) ?_) | (apply GL.isCall; refine GL.call rfl rfl (fun w h => hK w _ h) (fun x => ?_))) | first | refine stp ?_ | (refine stpB ?_; intro _) | (refine spl ?_ ?_ <;> intro hc <;> ((try simp only [decide_eq_true_eq, decide_eq_false_iff_not, Bool.not_true, Bool.not_false, ne_eq, Classical.not_not, Int.not_lt, Int.not_le] at hc); (try (exfalso; first | omega | exact hc trivial | exact hc rfl)))))
    all_goals (first | (exfalso; simp at hc; done) | (refine GE.resMany rfl (by (repeat (first | apply Res.nil | (apply Res.tmp; rfl) | (refine Res.cellA rfl rfl rfl ?_) | (refine Res.cell1 rfl rfl ?_)))) (fun w h => ?_); exact ⟨by rw [hne]; rfl, h.sub⟩))
theorem free_Give (v : Value) (x : Nat) (hx : x < n) (hm : (x : Int) ∉ l) (w : World) (F : List HProp) (hw : holds w (freeP v n l :: F)) :
    Ct Tryz.prog 135 #[v, .int .i64 (x : Nat)] w fun e w' => ∃ _ : Unit, e = .returned (.bool true) ∧ holds w' (freeP v n (l ++ [(x : Int)]) :: F) := by
  obtain ⟨q, rfl, ho, h1⟩ := freeP.open hw
  have hroom := ho.st.room x hm ⟨by omega, by omega⟩
  have hP := fun w F h => bits_Put q.b n (.slice (some ⟨q.g, 0, none⟩) ((n + 63) / 64) ((n + 63) / 64)) btRest q.ws _ hn ho.bt x hx (decide_eq_false hm) w F h
  have hpl : Stk.place q.pl x < 0 := by
    unfold Stk.place
    rw [if_neg (by rw [ho.st.len]; omega), Int.toNat_natCast, ho.st.non x hx hm]; omega
  have hU := fun w F h => stack_PushY q.s q.r n q.pl l q.jk x hn hx hpl hroom w F h
  refine Ct.go (args := [.pointer (some ⟨q.f, 0, none⟩), .int .i64 (x : Nat)]) Tryz.func135 rfl rfl rfl h1 ?_
  repeat' (first | (first | first | (apply GL.isCall; refine GL.call1 rfl rfl (fun w h => free_is q w _ h) ?_) | (apply GD.isAny; refine GD.call rfl rfl (fun w F' h => free_is q w _ h) ?_) | (apply GL.isCall; refine GL.call (vs := [.pointer (some ⟨q.b, 0, none⟩), .int .i64 (x : Nat)]) rfl rfl (fun w h => hP w (blk q.f (.cells #[.pointer (some ⟨q.s, 0, none⟩), .pointer (some ⟨q.b, 0, none⟩)] 206 (0, 0)) :: blk q.s (.cells #[.slice (some ⟨q.r, n, none⟩) l.length n, .slice (some ⟨q.r, 0, none⟩) n n] 267 (0, 0)) :: stkB q.r n q.pl l q.jk :: F) h.sub) (fun ws => ?_)) | (apply GL.isCall; refine GL.call1 (vs := [.pointer (some ⟨q.s, 0, none⟩), .int .i64 (x : Nat)]) rfl rfl (fun w h => hU w (owns 265 encU 1 (.slice (some ⟨q.g, 0, none⟩) ((n + 63) / 64) ((n + 63) / 64)) ws.1 :: blk q.b (.cells (.slice (some ⟨q.g, 0, none⟩) ((n + 63) / 64) ((n + 63) / 64) :: .int .i64 (n : Nat) :: btRest).toArray 271 (0, 0)) :: blk q.f (.cells #[.pointer (some ⟨q.s, 0, none⟩), .pointer (some ⟨q.b, 0, none⟩)] 206 (0, 0)) :: F) h.sub) ?_)) | first | refine stp ?_ | (refine stpB ?_; intro _) | (refine spl ?_ ?_ <;> intro hc <;> ((try simp only [decide_eq_true_eq, decide_eq_false_iff_not, Bool.not_true, Bool.not_false, ne_eq, Classical.not_not, Int.not_lt, Int.not_le] at hc); (try (exfalso; first | omega | exact hc trivial | exact hc rfl)))))
  all_goals (first | (exfalso; simp at hc; done) | skip)
  refine GE.resOne rfl (by (repeat (first | apply Res.nil | (apply Res.tmp; rfl) | (refine Res.cellA rfl rfl rfl ?_) | (refine Res.cell1 rfl rfl ?_)))) (fun w h => ?_)
  exact ⟨(), rfl, freeP.shut (l := (l ++ [(x : Int)])) { q with ws := ws.1, pl := q.pl.set x l.length, jk := q.jk.drop 1 } ⟨ho.st.push x hm hx, ws.2.congr fun k => by
    by_cases hk : k = x
    · subst hk; simp
    · have : (k : Int) ≠ x := by omega
      simp [hk, this]⟩ h.sub⟩
end
/-- The first k of the numbers below n, from above. -/
def topN (n k : Nat) : List Int := (List.range k).map fun j => ((n - 1 - j : Nat) : Int)
theorem topN_succ (n k : Nat) : topN n (k + 1) = topN n k ++ [((n - 1 - k : Nat) : Int)] := by simp [topN, List.range_succ]
theorem topN_mem (n k : Nat) (hk : k ≤ n) (x : Nat) : (x : Int) ∈ topN n k ↔ x < n ∧ n ≤ x + k := by
  simp only [topN, List.mem_map, List.mem_range]
  constructor
  · rintro ⟨j, hj, e⟩; omega
  · rintro ⟨h1, h2⟩; exact ⟨n - 1 - x, by omega, by omega⟩
theorem topN_all (n : Nat) : topN n n = ((List.range n).reverse).map (Nat.cast : Nat → Int) := by
  apply List.ext_getElem
  · simp [topN]
  · intro i h1 h2
    simp only [topN, List.getElem_map, List.getElem_range, List.getElem_reverse, List.length_range]
theorem free_New (n : Nat) (h0 : 0 < n) (hn : n ≤ 1048576) (w : World) (F : List HProp) (hw : holds w F) :
    Ct Tryz.prog 66 #[.int .i64 (n : Nat)] w fun e w' => ∃ v : Nat, e = .returned (.pointer (some ⟨v, 0, none⟩)) ∧ holds w' (freeP (.pointer (some ⟨v, 0, none⟩)) n (((List.range n).reverse).map (Nat.cast : Nat → Int)) :: F) := by
  refine Ct.go (args := [.int .i64 (n : Nat)]) Tryz.func66 rfl rfl rfl hw ?_
  repeat' (first | (first | (apply GL.isCall; refine GL.call (vs := [.int .i64 (n : Nat)]) rfl rfl (fun w h => stack_New n h0 hn w _ h) (fun ⟨s, r⟩ => ?_); dsimp only) | (apply GL.isCall; refine GL.call (vs := [.int .i64 (n : Nat)]) rfl rfl (fun w h => bits_New n hn w _ h) (fun ⟨b, g⟩ => ?_); dsimp only)) | first | refine stp ?_ | (refine stpB ?_; intro _) | (refine spl ?_ ?_ <;> intro hc <;> ((try simp only [decide_eq_true_eq, decide_eq_false_iff_not, Bool.not_true, Bool.not_false, ne_eq, Classical.not_not, Int.not_lt, Int.not_le] at hc); (try (exfalso; first | omega | exact hc trivial | exact hc rfl)))))
  all_goals (first | (exfalso; simp at hc; done) | skip)
  show G _ _ _ _ _ (owns 265 encU 1 (.slice (some ⟨g, 0, none⟩) ((n + 63) / 64) ((n + 63) / 64)) (List.replicate ((n + 63) / 64) 0) :: blk b (.cells (.slice (some ⟨g, 0, none⟩) ((n + 63) / 64) ((n + 63) / 64) :: .int .i64 (n : Nat) :: btRest).toArray 271 (0, 0)) :: blk s (.cells #[.slice (some ⟨r, n, none⟩) (topN n 0).length n, .slice (some ⟨r, 0, none⟩) n n] 267 (0, 0)) :: stkB r n (List.replicate n (-1)) (topN n 0) (List.replicate n 0) :: F)
  refine G.loopK [3, 4] (Nat × List Int × List Int × List Int) (fun y => [(5, .int .i64 (((n - y.1 : Nat) : Int) - 1))]) (fun y => blk s (.cells #[.slice (some ⟨r, n, none⟩) (topN n y.1).length n, .slice (some ⟨r, 0, none⟩) n n] 267 (0, 0)) :: stkB r n y.2.1 (topN n y.1) y.2.2.1 :: owns 265 encU 1 (.slice (some ⟨g, 0, none⟩) ((n + 63) / 64) ((n + 63) / 64)) y.2.2.2 :: blk b (.cells (.slice (some ⟨g, 0, none⟩) ((n + 63) / 64) ((n + 63) / 64) :: .int .i64 (n : Nat) :: btRest).toArray 271 (0, 0)) :: F) (fun y => y.1 ≤ n ∧ Stk.Ok n y.2.1 (topN n y.1) ∧ Bt.Spec n y.2.2.2 (fun k => decide ((k : Int) ∈ topN n y.1))) (fun y => n - y.1) ((0, List.replicate n (-1), List.replicate n 0, List.replicate ((n + 63) / 64) 0)) (⟨Nat.zero_le _, Stk.Ok.new n, (Bt.Spec.new n).congr fun k => by simp [topN]⟩) (by repeat (first | exact trivial | refine And.intro rfl ?_)) (fun w h => by (try dsimp only); first | exact h | exact h.sub | ((try simp only [List.take_zero, List.drop_zero, List.map_nil, List.nil_append, List.zipIdx_nil, List.filter_nil]); exact h.sub)) ?_
  rintro ⟨k, pl, jk, ws⟩ ⟨hk, hO, hB⟩
  dsimp only at hk hO hB ⊢
  by_cases hlt : k < n
  · have e1 : ((n - k : Nat) : Int) - 1 = ((n - 1 - k : Nat) : Int) := by omega
    rw [e1]
    have hm : ((n - 1 - k : Nat) : Int) ∉ topN n k := fun hm => by have := (topN_mem n k hk _).1 hm; omega
    have hx : n - 1 - k < n := by omega
    have hroom := hO.room _ hm ⟨by omega, by omega⟩
    have hP := fun w F h => bits_Put b n (.slice (some ⟨g, 0, none⟩) ((n + 63) / 64) ((n + 63) / 64)) btRest ws _ hn hB (n - 1 - k) hx (decide_eq_false hm) w F h
    have hpl : Stk.place pl ((n - 1 - k : Nat) : Int) < 0 := by
      unfold Stk.place
      rw [if_neg (by rw [hO.len]; omega), Int.toNat_natCast, hO.non _ hx hm]; omega
    have hU := fun w F h => stack_PushY s r n pl (topN n k) jk (n - 1 - k) hn hx hpl hroom w F h
    repeat' (first | (first | (apply GL.isCall; refine GL.call (vs := [.pointer (some ⟨b, 0, none⟩), .int .i64 ((n - 1 - k : Nat) : Int)]) rfl rfl (fun w h => hP w (blk s (.cells #[.slice (some ⟨r, n, none⟩) (topN n k ++ [((n - 1 - k : Nat) : Int)]).length n, .slice (some ⟨r, 0, none⟩) n n] 267 (0, 0)) :: stkB r n (pl.set (n - 1 - k) (topN n k).length) (topN n k ++ [((n - 1 - k : Nat) : Int)]) (jk.drop 1) :: F) h.sub) (fun ws2 => ?_)) | (apply GL.isCall; refine GL.call1 (vs := [.pointer (some ⟨s, 0, none⟩), .int .i64 ((n - 1 - k : Nat) : Int)]) rfl rfl (fun w h => hU w _ h) ?_)) | first | refine stp ?_ | (refine stpB ?_; intro _) | (refine spl ?_ ?_ <;> intro hc <;> ((try simp only [decide_eq_true_eq, decide_eq_false_iff_not, Bool.not_true, Bool.not_false, ne_eq, Classical.not_not, Int.not_lt, Int.not_le] at hc); (try (exfalso; first | omega | exact hc trivial | exact hc rfl)))))
    all_goals (first | (exfalso; omega) | skip)
    have e2 : ((n - 1 - k : Nat) : Int) - 1 = ((n - (k + 1) : Nat) : Int) - 1 := by omega
    rw [e2, ← topN_succ]
    have hO2 := hO.push _ hm hx
    rw [← topN_succ] at hO2
    have hB2 : Bt.Spec n ws2.1 (fun j => decide ((j : Int) ∈ topN n (k + 1))) := ws2.2.congr fun j => by
      rw [topN_succ]
      by_cases hj : j = n - 1 - k
      · subst hj; simp
      · have : (j : Int) ≠ ((n - 1 - k : Nat) : Int) := by omega
        simp [hj, this]
    refine GE.round ((k + 1, pl.set (n - 1 - k) (topN n k).length, jk.drop 1, ws2.1)) (⟨hlt, hO2, hB2⟩) (by repeat (first | exact trivial | refine And.intro rfl ?_)) (fun w h => by (try dsimp only); exact h.sub) (by (try dsimp only); omega)
  · obtain rfl : k = n := by omega
    repeat' (first | ((apply GL.isBox; refine GL.boxA (cs := #[.pointer (some ⟨s, 0, none⟩), .pointer (some ⟨b, 0, none⟩)]) rfl rfl (fun f => ?_))) | first | refine stp ?_ | (refine stpB ?_; intro _) | (refine spl ?_ ?_ <;> intro hc <;> ((try simp only [decide_eq_true_eq, decide_eq_false_iff_not, Bool.not_true, Bool.not_false, ne_eq, Classical.not_not, Int.not_lt, Int.not_le] at hc); (try (exfalso; first | omega | exact hc trivial | exact hc rfl)))))
    all_goals (first | (exfalso; omega) | skip)
    refine GE.resOne rfl (by (repeat (first | apply Res.nil | (apply Res.tmp; rfl) | (refine Res.cellA rfl rfl rfl ?_) | (refine Res.cell1 rfl rfl ?_)))) (fun w h => ?_)
    refine ⟨f, rfl, ?_⟩
    rw [topN_all] at h hO hB
    exact freeP.shut ⟨f, s, r, b, g, pl, jk, ws⟩ ⟨hO, hB⟩ h.sub
end Go.Proofs.YtipkgamiejenaaaGreat

/- Package phase: the phase behind an event. -/
namespace Go.Proofs.YtipkgamiejenaaaGreat
open Go Go.RowKit Go.MapKept
set_option linter.unusedVariables false
set_option linter.unusedSimpArgs false
set_option maxRecDepth 100000
set_option maxHeartbeats 1000000
theorem phase_is (p : Int) (w : World) (F : List HProp) (hw : holds w F) :
    Ct Tryz.prog 207 #[.int .i64 p] w fun e w' => e = .returned (.bool (decide (0 ≤ p ∧ p < 4))) ∧ holds w' F := by
  refine Ct.go (args := [.int .i64 p]) Tryz.func207 rfl rfl rfl hw ?_
  repeat' (first | refine stp ?_ | (refine stpB ?_; intro _) | (refine spl ?_ ?_ <;> intro hc <;> ((try simp only [decide_eq_true_eq, decide_eq_false_iff_not, Bool.not_true, Bool.not_false, ne_eq, Classical.not_not, Int.not_lt, Int.not_le] at hc); (try (exfalso; first | omega | exact hc trivial | exact hc rfl)))))
  all_goals (first | (exfalso; omega) | (refine GE.resOne rfl (by (repeat (first | apply Res.nil | (apply Res.tmp; rfl) | (refine Res.cellA rfl rfl rfl ?_) | (refine Res.cell1 rfl rfl ?_)))) (fun w h => ?_); exact ⟨by congr 2; (first | rfl | (rw [decide_eq_decide]; omega) | (symm; rw [decide_eq_false_iff_not]; omega) | (symm; rw [decide_eq_true_eq]; omega)), h⟩))
/-- Of a phase p (0 to 3) and an event e (1 to 4): what is next, and whether. -/
theorem phase_Next (p e : Nat) (hp : p < 4) (he : 1 ≤ e ∧ e ≤ 4) (w : World) (F : List HProp) (hw : holds w F) :
    Ct Tryz.prog 152 #[.int .i64 (p : Nat), .int .i64 (e : Nat)] w fun r w' => r = .returned (.tuple #[.int .i64 (if p + 1 = e then ((e : Nat) : Int) % 4 else 0), .int .i64 (if p + 1 = e then 0 else 18)]) ∧ holds w' F := by
  refine Ct.go (args := [.int .i64 (p : Nat), .int .i64 (e : Nat)]) Tryz.func152 rfl rfl rfl hw ?_
  have ht : decide (0 ≤ (p : Int) ∧ (p : Int) < 4) = true := by rw [decide_eq_true_eq]; omega
  have hI := fun w (F : List HProp) h => phase_is p w F h
  rw [ht] at hI
  have hc4 : p = 0 ∨ p = 1 ∨ p = 2 ∨ p = 3 := by omega
  rcases hc4 with rfl | rfl | rfl | rfl
  all_goals (repeat' (first | (first | (apply GL.isCall; refine GL.call1 rfl rfl (fun w h => hI w _ h) ?_) | (apply GD.isAny; refine GD.call rfl rfl (fun w F' h => hI w _ h) ?_)) | first | refine stp ?_ | (refine stpB ?_; intro _) | (refine spl ?_ ?_ <;> intro hc <;> ((try simp only [decide_eq_true_eq, decide_eq_false_iff_not, Bool.not_true, Bool.not_false, ne_eq, Classical.not_not, Int.not_lt, Int.not_le] at hc); (try (exfalso; first | omega | exact hc trivial | exact hc rfl))))))
  all_goals (first | (exfalso; omega) | (refine GE.resMany rfl (by (repeat (first | apply Res.nil | (apply Res.tmp; rfl) | (refine Res.cellA rfl rfl rfl ?_) | (refine Res.cell1 rfl rfl ?_)))) (fun w h => ?_); exact ⟨by first | (rw [if_neg (by omega), if_neg (by omega)]) | (obtain rfl : e = 1 := (by omega); rfl) | (obtain rfl : e = 2 := (by omega); rfl) | (obtain rfl : e = 3 := (by omega); rfl) | (obtain rfl : e = 4 := (by omega); rfl), h.sub⟩))
end Go.Proofs.YtipkgamiejenaaaGreat
