/- Digits to the base 16: the program's walks. -/
import Derived.Test.YtoafajooffhimaaDoorHxW
import Derived.Test.YtoafajooffhimaaDoorLayS
import Derived.Test.YtoafajooffhimaaDoorGoJ
namespace Go.Proofs.YtoafajooffhimaaDoor
open Go Go.RowKit Go.MapKept
set_option linter.unusedVariables false
set_option linter.unusedSectionVars false
set_option linter.unusedSimpArgs false
set_option maxRecDepth 100000
set_option maxHeartbeats 4000000
namespace Hx
/-- What a rune past 127 is as bytes. -/
theorem enc_high (c : Nat) (hc : 128 ≤ c) : ∃ (l : List UInt8) (hl : 2 ≤ l.length), Utf8.encode (c : Int) = bs l ∧ l.length ≤ 4 ∧ 128 ≤ (l[l.length - 1]'(by omega)).toNat := by
  have key : ∀ m : Nat, 128 ≤ (UInt8.ofNat (0x80 + m % 64)).toNat := fun m => by
    rw [UInt8.toNat_ofNat']; omega
  unfold Utf8.encode
  dsimp only
  generalize hcc : (if Utf8.valid (c : Int) then ((c : Int)).toNat else Utf8.runeError) = d
  have hd : 128 ≤ d := by
    rw [← hcc]; split
    · simpa using hc
    · decide
  rw [if_neg (by omega)]
  by_cases h1 : d < 0x800
  · rw [if_pos h1]; exact ⟨[_, _], by simp, rfl, by simp, key d⟩
  · rw [if_neg h1]
    by_cases h2 : d < 0x10000
    · rw [if_pos h2]; exact ⟨[_, _, _], by simp, rfl, by simp, key d⟩
    · rw [if_neg h2]; exact ⟨[_, _, _, _], by simp, rfl, by simp, key d⟩
theorem hexL_low : ∀ k : Fin 16, (hexL[k.val]'k.isLt).toNat < 128 := by decide +kernel
theorem hexL_lt (k : Nat) (h : k < hexL.length) : (hexL[k]'h).toNat < 128 := hexL_low ⟨k, h⟩
theorem hexL_mem (x : UInt8) (h : x ∈ hexL) : x.toNat < 128 := by
  obtain ⟨k, hk, rfl⟩ := List.getElem_of_mem h
  exact hexL_lt k hk
theorem no_high (j : Nat) (c : UInt8) (hc : 128 ≤ c.toNat) : Lib.indexByte (hexL.drop j) c = -1 := by
  have : ∀ l : List UInt8, (∀ x ∈ l, x.toNat < 128) → Lib.indexByte l c = -1 := by
    intro l
    induction l with
    | nil => intro _; rfl
    | cons x l ih =>
      intro h
      have hx := h x (List.mem_cons_self)
      have := ih fun y hy => h y (List.mem_cons_of_mem _ hy)
      have hne : x ≠ c := fun e => by subst e; omega
      simp [Lib.indexByte, hne, this]
  exact this _ fun x hx => hexL_mem x (List.mem_of_mem_drop hx)
end Hx
section
variable {W : World}
theorem hx_formatInt (hL : LibH W) (u : Nat) (hu : u < 9223372036854775808) (w : World) (F : List HProp) {F' : List HProp} [hp : Has F (allOf W) F'] (hw : holds w F) :
    Ct Tryd.prog 44 #[.int .i64 (u : Nat), .int .i64 16] w fun e w' => e = .returned (.string (bs (Hx.hexD u))) ∧ holds w' F := by
  refine Ct.go (args := [.int .i64 (u : Nat), .int .i64 16]) Tryd.func44 rfl rfl rfl hw ?_
  have hneg : decide ((u : Int) < 0) = false := by rw [decide_eq_false_iff_not]; omega
  repeat' (first | (first | (rw [hneg]) | (apply GL.isAny; refine GL.run (v := .int .u64 ((u : Nat) : Int)) (Runs.convE rfl (by rw [wrapU]; omega)) rfl ?_) | (apply GL.isCall; refine GL.call1 rfl rfl (fun w h => sc_formatBits hL u hu w _ h) ?_)) | first | refine stp ?_ | (refine stpB ?_; intro _) | (refine spl ?_ ?_ <;> intro hc <;> ((try simp only [decide_eq_true_eq, decide_eq_false_iff_not, Bool.not_true, Bool.not_false, ne_eq, Classical.not_not, Int.not_lt, Int.not_le] at hc); (try (exfalso; first | omega | exact hc trivial | exact hc rfl)))))
  all_goals (first | (exfalso; simp at hc; done) | (exfalso; omega) | skip)
  refine GE.resOne rfl (by (repeat (first | apply Res.nil | (apply Res.tmp; rfl) | (refine Res.cellA rfl rfl rfl ?_) | (refine Res.cell1 rfl rfl ?_)))) (fun w h => ?_); exact ⟨rfl, h.sub⟩
theorem hx_FormatInt (hL : LibH W) (u : Nat) (hu : u < 9223372036854775808) (w : World) (F : List HProp) {F' : List HProp} [hp : Has F (allOf W) F'] (hw : holds w F) :
    Ct Tryd.prog 31 #[.int .i64 (u : Nat), .int .i64 16] w fun e w' => e = .returned (.string (bs (Hx.hexD u))) ∧ holds w' F := by
  refine Ct.go (args := [.int .i64 (u : Nat), .int .i64 16]) Tryd.func31 rfl rfl rfl hw ?_
  repeat' (first | ((apply GL.isCall; refine GL.call1 rfl rfl (fun w h => hx_formatInt hL u hu w _ h) ?_)) | first | refine stp ?_ | (refine stpB ?_; intro _) | (refine spl ?_ ?_ <;> intro hc <;> ((try simp only [decide_eq_true_eq, decide_eq_false_iff_not, Bool.not_true, Bool.not_false, ne_eq, Classical.not_not, Int.not_lt, Int.not_le] at hc); (try (exfalso; first | omega | exact hc trivial | exact hc rfl)))))
  refine GE.resOne rfl (by (repeat (first | apply Res.nil | (apply Res.tmp; rfl) | (refine Res.cellA rfl rfl rfl ?_) | (refine Res.cell1 rfl rfl ?_)))) (fun w h => ?_); exact ⟨rfl, h.sub⟩
theorem hx_byte (l : List UInt8) (c : UInt8) (w : World) (F : List HProp) (hw : holds w F) :
    Ct Tryd.prog 40 #[.string (bs l), .int .u8 (c.toNat : Int)] w fun e w' => e = .returned (.int .i64 (Lib.indexByte l c)) ∧ holds w' F :=
  ⟨(Any.strings_IndexByte Tryd.lays137 (bs l) (c.toNat : Int) w).mono fun e w' ⟨he, hk⟩ => ⟨by rw [he, bs_data]; simp, hk ▸ hw⟩⟩
theorem hx_valid (x : Int) (w : World) (F : List HProp) (hw : holds w F) :
    Ct Tryd.prog 41 #[.int .i32 x] w fun e w' => ∃ b : Bool, e = .returned (.bool b) ∧ holds w' F := by
  refine Ct.go (args := [.int .i32 x]) Tryd.func41 rfl rfl rfl hw ?_
  repeat' (first | refine stp ?_ | (refine stpB ?_; intro _) | (refine spl ?_ ?_ <;> intro hc <;> ((try simp only [decide_eq_true_eq, decide_eq_false_iff_not, Bool.not_true, Bool.not_false, ne_eq, Classical.not_not, Int.not_lt, Int.not_le] at hc); (try (exfalso; first | omega | exact hc trivial | exact hc rfl)))))
  all_goals (refine GE.resOne rfl (by (repeat (first | apply Res.nil | (apply Res.tmp; rfl) | (refine Res.cellA rfl rfl rfl ?_) | (refine Res.cell1 rfl rfl ?_)))) (fun w h => ?_); exact ⟨_, rfl, h.sub⟩)
theorem hx_low (r : UInt8) (hr : r.toNat < 128) (w : World) (F : List HProp) (hw : holds w F) :
    Ct Tryd.prog 30 #[.string (bs Hx.hexL), .int .i32 (r.toNat : Int)] w fun e w' => e = .returned (.int .i64 (Hx.idx r)) ∧ holds w' F :=
  ⟨(Any.strings_IndexRune_ascii Tryd.lays152 (bs Hx.hexL) (r.toNat : Int) w (by omega) (by omega)).mono fun e w' ⟨he, hk⟩ => ⟨by rw [he, bs_data]; simp [Hx.idx], hk ▸ hw⟩⟩
theorem hx_high (c : Nat) (hc : 128 ≤ c) (w : World) (F : List HProp) (hw : holds w F) :
    Ct Tryd.prog 30 #[.string (bs Hx.hexL), .int .i32 (c : Int)] w fun e w' => e = .returned (.int .i64 (-1)) ∧ holds w' F := by
  refine Ct.go (args := [.string (bs Hx.hexL), .int .i32 (c : Int)]) Tryd.func30 rfl rfl rfl hw ?_
  obtain ⟨l, hl, he, hl4, hlast⟩ := Hx.enc_high c hc
  have h16 : Hx.hexL.length = 16 := rfl
  have hi1 : Hx.hexL[l.length - 1] = (Hx.hexL[l.length - 1]'(by omega)) := rfl
  have hlow := Hx.hexL_lt (l.length - 1) (by omega)
  have hno := Hx.no_high (l.length - 1 + 1) (l[l.length - 1]'(by omega)) hlast
  repeat' (first | (first | (apply GL.isAny; refine GL.run (by first | exact Runs.strEq rfl rfl | exact Runs.strNe rfl rfl | exact Runs.strLen rfl | exact Runs.strAdd rfl rfl (by omega) | exact Runs.strAt rfl rfl rfl (by omega)) rfl ?_) | first | apply G.scope | apply G.label | apply GE.nogN | apply GE.nogE | apply GE.nogR | (refine G.isRegion 6 ?_; refine G.drawTail 6 (by kernel_rfl) (by simp only [List.take_succ_cons, List.take_zero]; rfl) (by simp only [List.drop_succ_cons, List.drop_zero]; rfl) (by kernel_rfl) ?_) | (refine G.isRegion 7 ?_; refine G.drawTail 7 (by kernel_rfl) (by simp only [List.take_succ_cons, List.take_zero]; rfl) (by simp only [List.drop_succ_cons, List.drop_zero]; rfl) (by kernel_rfl) ?_) | (apply GL.isAny; refine GL.rangeStr rfl rfl (fun b => ?_)) | (apply GL.isAny; refine GL.run (v := .string (bs l)) (he ▸ Runs.convRune rfl) rfl ?_) | (apply GL.isCall; refine GL.call rfl rfl (fun w h => hx_valid c w _ h) (fun x => ?_)) | (apply GD.isAny; refine GD.run (by first | exact Runs.strAt (k := l.length - 1) rfl rfl (by omega) (by omega) | exact Runs.strFrom (a := l.length - 1 + 1) rfl rfl (by omega) (by omega)) rfl ?_) | (apply GL.isCall; refine GL.call1 rfl rfl (fun w h => hx_byte (Hx.hexL.drop (l.length - 1 + 1)) (l[l.length - 1]'(by omega)) w _ h) ?_)) | first | refine stp ?_ | (refine stpB ?_; intro _) | (refine spl ?_ ?_ <;> intro hc <;> ((try simp only [decide_eq_true_eq, decide_eq_false_iff_not, Bool.not_true, Bool.not_false, ne_eq, Classical.not_not, Int.not_lt, Int.not_le] at hc); (try (exfalso; first | omega | exact hc trivial | exact hc rfl)))))
  · refine G.loopK [0, 1, 4, 175] (Nat) (fun _ => []) (fun k => blk b (.stringIter (bs Hx.hexL) k) :: F) (fun k => k ≤ 16) (fun k => 16 - k) (0) (Nat.zero_le _) (by repeat (first | exact trivial | refine And.intro rfl ?_)) (fun w h => by (try dsimp only); first | exact h | exact h.sub | ((try simp only [List.take_zero, List.drop_zero, List.map_nil, List.nil_append, List.zipIdx_nil, List.filter_nil]); exact h.sub)) ?_
    intro k hk
    (try dsimp only at hk)
    by_cases hlt : k < 16
    · have ha := Hx.hexL_lt k (by omega)
      repeat' (first | (first | (apply GL.isAny; refine GL.nextA (l := Hx.hexL) rfl rfl (by omega) ha ?_) | first | apply G.scope | apply G.label | apply GE.nogN | apply GE.nogE | apply GE.nogR) | first | refine stp ?_ | (refine stpB ?_; intro _) | (refine spl ?_ ?_ <;> intro hc <;> ((try simp only [decide_eq_true_eq, decide_eq_false_iff_not, Bool.not_true, Bool.not_false, ne_eq, Classical.not_not, Int.not_lt, Int.not_le] at hc); (try (exfalso; first | omega | exact hc trivial | exact hc rfl)))))
      refine GE.round (k + 1) (hlt) (by repeat (first | exact trivial | refine And.intro rfl ?_)) (fun w h => by (try dsimp only); exact h.sub) (by (try dsimp only); omega)
    · repeat' (first | (first | (apply GL.isAny; refine GL.nextE (l := Hx.hexL) (k := k) rfl rfl (by omega) ?_) | first | apply G.scope | apply G.label | apply GE.nogN | apply GE.nogE | apply GE.nogR) | first | refine stp ?_ | (refine stpB ?_; intro _) | (refine spl ?_ ?_ <;> intro hc <;> ((try simp only [decide_eq_true_eq, decide_eq_false_iff_not, Bool.not_true, Bool.not_false, ne_eq, Classical.not_not, Int.not_lt, Int.not_le] at hc); (try (exfalso; first | omega | exact hc trivial | exact hc rfl)))))
      refine GE.resOne rfl (by (repeat (first | apply Res.nil | (apply Res.tmp; rfl) | (refine Res.cellA rfl rfl rfl ?_) | (refine Res.cell1 rfl rfl ?_)))) (fun w h => ?_); exact ⟨rfl, h.sub⟩
  · refine GE.resOne rfl (by (repeat (first | apply Res.nil | (apply Res.tmp; rfl) | (refine Res.cellA rfl rfl rfl ?_) | (refine Res.cell1 rfl rfl ?_)))) (fun w h => ?_); exact ⟨rfl, h.sub⟩
  · refine G.loopK [0, 1, 4, 7, 8] (Unit) (fun _ => [(9, .int .i64 ((l.length : Int) - 1)), (10, .int .i64 0)]) (fun _ => F) (fun _ => True) (fun _ => 0) (()) (trivial) (by repeat (first | exact trivial | refine And.intro rfl ?_)) (fun w h => by (try dsimp only); first | exact h | exact h.sub | ((try simp only [List.take_zero, List.drop_zero, List.map_nil, List.nil_append, List.zipIdx_nil, List.filter_nil]); exact h.sub)) ?_
    intro _ _
    repeat' (first | (first | (apply GL.isAny; refine GL.run (by first | exact Runs.strEq rfl rfl | exact Runs.strNe rfl rfl | exact Runs.strLen rfl | exact Runs.strAdd rfl rfl (by omega) | exact Runs.strAt rfl rfl rfl (by omega)) rfl ?_) | first | apply G.scope | apply G.label | apply GE.nogN | apply GE.nogE | apply GE.nogR | (refine G.isRegion 6 ?_; refine G.drawTail 6 (by kernel_rfl) (by simp only [List.take_succ_cons, List.take_zero]; rfl) (by simp only [List.drop_succ_cons, List.drop_zero]; rfl) (by kernel_rfl) ?_) | (refine G.isRegion 7 ?_; refine G.drawTail 7 (by kernel_rfl) (by simp only [List.take_succ_cons, List.take_zero]; rfl) (by simp only [List.drop_succ_cons, List.drop_zero]; rfl) (by kernel_rfl) ?_) | (apply GL.isAny; refine GL.rangeStr rfl rfl (fun b => ?_)) | (apply GL.isAny; refine GL.run (v := .string (bs l)) (he ▸ Runs.convRune rfl) rfl ?_) | (apply GL.isCall; refine GL.call rfl rfl (fun w h => hx_valid c w _ h) (fun x => ?_)) | (apply GD.isAny; refine GD.run (by first | exact Runs.strAt (k := l.length - 1) rfl rfl (by omega) (by omega) | exact Runs.strFrom (a := l.length - 1 + 1) rfl rfl (by omega) (by omega)) rfl ?_) | (apply GL.isCall; refine GL.call1 rfl rfl (fun w h => hx_byte (Hx.hexL.drop (l.length - 1 + 1)) (l[l.length - 1]'(by omega)) w _ h) ?_)) | first | refine stp ?_ | (refine stpB ?_; intro _) | (refine spl ?_ ?_ <;> intro hc <;> ((try simp only [decide_eq_true_eq, decide_eq_false_iff_not, Bool.not_true, Bool.not_false, ne_eq, Classical.not_not, Int.not_lt, Int.not_le] at hc); (try (exfalso; first | omega | exact hc trivial | exact hc rfl)))))
    refine GE.resOne rfl (by (repeat (first | apply Res.nil | (apply Res.tmp; rfl) | (refine Res.cellA rfl rfl rfl ?_) | (refine Res.cell1 rfl rfl ?_)))) (fun w h => ?_); exact ⟨rfl, h.sub⟩
end
end Go.Proofs.YtoafajooffhimaaDoor
