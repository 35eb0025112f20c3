import Derived.Test.YtipkgamiejenaaaGreatMg17
import Derived.Test.YtipkgamiejenaaaGreatMg16
import Derived.Test.YtipkgamiejenaaaGreatMg19
import Derived.Test.YtipkgamiejenaaaGreatMg6
import Derived.Test.YtipkgamiejenaaaGreatMg8
import Derived.Test.YtipkgamiejenaaaGreatGoMem

import Derived.Test.YtipkgamiejenaaaGreatLooseT
import Derived.Test.YtipkgamiejenaaaGreatMg0
/- Package memory and its reference: find, Write, Read, Room. -/
namespace Go.Proofs.YtipkgamiejenaaaGreat
open Go Go.RowKit Go.MapKept
set_option linter.unusedVariables false
set_option linter.unusedSectionVars false
set_option linter.unusedSimpArgs false
set_option maxRecDepth 100000
set_option maxHeartbeats 4000000
namespace Me
def zL : LaidM := ⟨0, 0, 0, 0, 0⟩
/-- What may be asked of a piece that was found. -/
def chk (f : LaidM × Int) (o n : Int) : Int := if f.2 ≠ 0 then f.2 else if 4096 < n then 5 else if o < 0 ∨ n < 0 ∨ f.1.len < o ∨ f.1.len - o < n then 15 else 0
def got (f : LaidM × Int) (o n : Int) : LaidM := if chk f o n = 0 then f.1 else zL
def write (t : St.S) (f : LaidM × Int) (o : Int) (s : List UInt8) : St.S × Int := if chk f o s.length = 0 then St.put t f.1.chunk f.1.gen (f.1.pos + o) s else (t, chk f o s.length)
def read (t : St.S) (f : LaidM × Int) (o n : Int) : List UInt8 × Int := if chk f o n = 0 then St.load t f.1.chunk f.1.gen (f.1.pos + o) n else ([], chk f o n)
def room (f : LaidM × Int) (o : Int) : Int := if f.2 ≠ 0 ∨ o < 0 ∨ f.1.len < o then 0 else f.1.len - o
/-- What is found is a piece. -/
def Fits (f : LaidM × Int) : Prop := f.2 = 0 → (0 ≤ f.1.pos ∧ f.1.pos ≤ 1048576) ∧ 0 ≤ f.1.len ∧ f.1.len ≤ 1048576
theorem chk_fit {f : LaidM × Int} {o n : Int} (h : chk f o n = 0) : f.2 = 0 ∧ n ≤ 4096 ∧ 0 ≤ o ∧ 0 ≤ n ∧ o + n ≤ f.1.len := by
  unfold chk at h
  split at h
  · contradiction
  · split at h
    · omega
    · split at h
      · omega
      · omega
end Me
section
variable (sb : Nat) (t : St.S) (K : Nat) (hI : St.Inv t K) (hK : K ≤ 1000000) (p : Nat) (M : LvM) (hM : Lv.Ok M) (x : Int) (hx : x < 9223372036854775808) (hf : Me.Fits (Lv.find M x))
include hI hK hM hx hf
theorem mem_find (o n : Int) (w : World) (F : List HProp) (hw : holds w (storeP sb t :: livP p M :: F)) :
    Ct Tryz.prog 91 #[.pointer (some ⟨sb, 0, none⟩), .pointer (some ⟨p, 0, none⟩), .int .i64 x, .int .i64 o, .int .i64 n] w fun e w' => e = .returned (.tuple #[.agg (encLaid (Me.got (Lv.find M x) o n)).toArray, .int .i64 (Me.chk (Lv.find M x) o n)]) ∧ holds w' (storeP sb t :: livP p M :: F) := by
  have hsz := hI.sz
  have hS := fun w (F : List HProp) h => store_Size sb t K hI hK w F h
  have hF := fun w (F : List HProp) h => live_Find p M hM x hx w F h
  obtain ⟨f, hfe⟩ : ∃ f, f = (Lv.find M x) := ⟨_, rfl⟩
  rw [← hfe] at hF hf ⊢
  obtain ⟨l, e⟩ := f
  unfold Me.got Me.Fits at *
  dsimp only at hF hf ⊢
  refine Ct.go (args := [.pointer (some ⟨sb, 0, none⟩), .pointer (some ⟨p, 0, none⟩), .int .i64 x, .int .i64 o, .int .i64 n]) Tryz.func91 rfl rfl rfl hw ?_
  by_cases h0 : e = 0
  · subst h0
    have hf := hf rfl
    by_cases h1 : 4096 < n
    · have hc0 : Me.chk (l, 0) o n = 5 := by simp [Me.chk, h1]
      rw [hc0, if_neg (by omega)]
      repeat' (first | (first | (apply GL.isCall; refine GL.callH1 (storeP sb t) (vs := [.pointer (some ⟨sb, 0, none⟩)]) rfl rfl (fun w h => hS w _ h) ?_) | (apply GL.isCall; refine GL.callH1 (livP p M) (vs := [.pointer (some ⟨p, 0, none⟩), .int .i64 x]) rfl rfl (fun w h => hF w _ h) ?_)) | first | (apply GL.isAny; first | refine GL.runA rfl ?_ | (apply GL.isStore; first | refine GL.storeBlk rfl rfl rfl rfl rfl ?_ | refine GL.storeWhole rfl rfl rfl rfl rfl ?_ | refine GL.storeBlkA rfl rfl rfl rfl rfl ?_) | refine GL.guardY rfl rfl ?_ | refine GL.guardN rfl rfl rfl ?_ | refine GL.guardU rfl rfl rfl ?_ | (apply GL.isBox; first | refine GL.boxA rfl rfl (fun _ => ?_) | refine GL.box1 rfl rfl rfl (fun _ => ?_) | refine GL.box rfl rfl (fun _ => ?_)) | (apply GL.isBuildS; first | refine GL.buildSlice1A rfl rfl rfl rfl rfl (fun _ => ?_) | refine GL.buildSlice1 rfl rfl rfl rfl rfl (fun _ => ?_)) | (apply GL.isCall; refine GL.append1 _ rfl rfl rfl rfl (by rfl) (by omega) (by omega) rfl (fun _ => ?_)) | (apply GL.isAlloc; refine GL.alloc rfl (fun _ => ?_))) | apply GL.nil | first | apply G.seq | apply G.region | apply G.block | apply G.skip | apply G.exit | apply G.ret | (apply G.isCond; first | refine G.condT rfl ?_ | refine G.condF rfl ?_) | refine G.draw (by kernel_rfl) (by kernel_rfl) ?_ | (apply GE.isAny; first | apply GE.again | apply GE.thenG | apply GE.blockN | apply GE.blockE | apply GE.thenE | apply GE.thenR | apply GE.blockR | refine GE.blockO rfl ?_ | apply GE.only) | (apply GD.isAny; first | refine GD.runA rfl ?_ | refine GD.guardY rfl rfl ?_ | refine GD.guardN rfl rfl rfl ?_ | refine GD.guardU rfl rfl rfl ?_) | apply GD.nilE | apply GD.nilL | (apply GT.isAny; refine GT.runA rfl rfl ?_) | ((first | (apply GL.isAny; refine GL.guard rfl rfl (fun hc => ?_) (fun hc => ?_)) | (apply G.isCond; refine G.cond rfl (fun hc => ?_) (fun hc => ?_)) | (apply GD.isAny; refine GD.guard rfl rfl (fun hc => ?_) (fun hc => ?_))) <;> ((try simp only [decide_eq_true_eq, decide_eq_false_iff_not, Bool.not_true, Bool.not_false, ne_eq, Classical.not_not, Int.not_lt, Int.not_le] at hc); (try (exfalso; first | omega | exact hc trivial | exact hc rfl)))))
      all_goals (first | (exfalso; omega) | (refine GE.resMany rfl (by (repeat (first | apply Res.nil | (apply Res.tmp; rfl) | (refine Res.cellA rfl rfl rfl ?_) | (refine Res.cell1 rfl rfl ?_)))) (fun w h => ?_); exact ⟨rfl, h.sub⟩))
    by_cases h2 : o < 0 ∨ n < 0 ∨ l.len < o ∨ l.len - o < n
    · have hc0 : Me.chk (l, 0) o n = 15 := by simp only [Me.chk]; rw [if_neg (by simp), if_neg h1, if_pos h2]
      rw [hc0, if_neg (by omega)]
      repeat' (first | (first | (apply GL.isCall; refine GL.callH1 (storeP sb t) (vs := [.pointer (some ⟨sb, 0, none⟩)]) rfl rfl (fun w h => hS w _ h) ?_) | (apply GL.isCall; refine GL.callH1 (livP p M) (vs := [.pointer (some ⟨p, 0, none⟩), .int .i64 x]) rfl rfl (fun w h => hF w _ h) ?_)) | first | (apply GL.isAny; first | refine GL.runA rfl ?_ | (apply GL.isStore; first | refine GL.storeBlk rfl rfl rfl rfl rfl ?_ | refine GL.storeWhole rfl rfl rfl rfl rfl ?_ | refine GL.storeBlkA rfl rfl rfl rfl rfl ?_) | refine GL.guardY rfl rfl ?_ | refine GL.guardN rfl rfl rfl ?_ | refine GL.guardU rfl rfl rfl ?_ | (apply GL.isBox; first | refine GL.boxA rfl rfl (fun _ => ?_) | refine GL.box1 rfl rfl rfl (fun _ => ?_) | refine GL.box rfl rfl (fun _ => ?_)) | (apply GL.isBuildS; first | refine GL.buildSlice1A rfl rfl rfl rfl rfl (fun _ => ?_) | refine GL.buildSlice1 rfl rfl rfl rfl rfl (fun _ => ?_)) | (apply GL.isCall; refine GL.append1 _ rfl rfl rfl rfl (by rfl) (by omega) (by omega) rfl (fun _ => ?_)) | (apply GL.isAlloc; refine GL.alloc rfl (fun _ => ?_))) | apply GL.nil | first | apply G.seq | apply G.region | apply G.block | apply G.skip | apply G.exit | apply G.ret | (apply G.isCond; first | refine G.condT rfl ?_ | refine G.condF rfl ?_) | refine G.draw (by kernel_rfl) (by kernel_rfl) ?_ | (apply GE.isAny; first | apply GE.again | apply GE.thenG | apply GE.blockN | apply GE.blockE | apply GE.thenE | apply GE.thenR | apply GE.blockR | refine GE.blockO rfl ?_ | apply GE.only) | (apply GD.isAny; first | refine GD.runA rfl ?_ | refine GD.guardY rfl rfl ?_ | refine GD.guardN rfl rfl rfl ?_ | refine GD.guardU rfl rfl rfl ?_) | apply GD.nilE | apply GD.nilL | (apply GT.isAny; refine GT.runA rfl rfl ?_) | ((first | (apply GL.isAny; refine GL.guard rfl rfl (fun hc => ?_) (fun hc => ?_)) | (apply G.isCond; refine G.cond rfl (fun hc => ?_) (fun hc => ?_)) | (apply GD.isAny; refine GD.guard rfl rfl (fun hc => ?_) (fun hc => ?_))) <;> ((try simp only [decide_eq_true_eq, decide_eq_false_iff_not, Bool.not_true, Bool.not_false, ne_eq, Classical.not_not, Int.not_lt, Int.not_le] at hc); (try (exfalso; first | omega | exact hc trivial | exact hc rfl)))))
      all_goals (first | (exfalso; omega) | (refine GE.resMany rfl (by (repeat (first | apply Res.nil | (apply Res.tmp; rfl) | (refine Res.cellA rfl rfl rfl ?_) | (refine Res.cell1 rfl rfl ?_)))) (fun w h => ?_); exact ⟨rfl, h.sub⟩))
    · have hc0 : Me.chk (l, 0) o n = 0 := by simp only [Me.chk]; rw [if_neg (by simp), if_neg h1, if_neg h2]
      rw [hc0, if_pos rfl]
      repeat' (first | (first | (apply GL.isCall; refine GL.callH1 (storeP sb t) (vs := [.pointer (some ⟨sb, 0, none⟩)]) rfl rfl (fun w h => hS w _ h) ?_) | (apply GL.isCall; refine GL.callH1 (livP p M) (vs := [.pointer (some ⟨p, 0, none⟩), .int .i64 x]) rfl rfl (fun w h => hF w _ h) ?_)) | first | (apply GL.isAny; first | refine GL.runA rfl ?_ | (apply GL.isStore; first | refine GL.storeBlk rfl rfl rfl rfl rfl ?_ | refine GL.storeWhole rfl rfl rfl rfl rfl ?_ | refine GL.storeBlkA rfl rfl rfl rfl rfl ?_) | refine GL.guardY rfl rfl ?_ | refine GL.guardN rfl rfl rfl ?_ | refine GL.guardU rfl rfl rfl ?_ | (apply GL.isBox; first | refine GL.boxA rfl rfl (fun _ => ?_) | refine GL.box1 rfl rfl rfl (fun _ => ?_) | refine GL.box rfl rfl (fun _ => ?_)) | (apply GL.isBuildS; first | refine GL.buildSlice1A rfl rfl rfl rfl rfl (fun _ => ?_) | refine GL.buildSlice1 rfl rfl rfl rfl rfl (fun _ => ?_)) | (apply GL.isCall; refine GL.append1 _ rfl rfl rfl rfl (by rfl) (by omega) (by omega) rfl (fun _ => ?_)) | (apply GL.isAlloc; refine GL.alloc rfl (fun _ => ?_))) | apply GL.nil | first | apply G.seq | apply G.region | apply G.block | apply G.skip | apply G.exit | apply G.ret | (apply G.isCond; first | refine G.condT rfl ?_ | refine G.condF rfl ?_) | refine G.draw (by kernel_rfl) (by kernel_rfl) ?_ | (apply GE.isAny; first | apply GE.again | apply GE.thenG | apply GE.blockN | apply GE.blockE | apply GE.thenE | apply GE.thenR | apply GE.blockR | refine GE.blockO rfl ?_ | apply GE.only) | (apply GD.isAny; first | refine GD.runA rfl ?_ | refine GD.guardY rfl rfl ?_ | refine GD.guardN rfl rfl rfl ?_ | refine GD.guardU rfl rfl rfl ?_) | apply GD.nilE | apply GD.nilL | (apply GT.isAny; refine GT.runA rfl rfl ?_) | ((first | (apply GL.isAny; refine GL.guard rfl rfl (fun hc => ?_) (fun hc => ?_)) | (apply G.isCond; refine G.cond rfl (fun hc => ?_) (fun hc => ?_)) | (apply GD.isAny; refine GD.guard rfl rfl (fun hc => ?_) (fun hc => ?_))) <;> ((try simp only [decide_eq_true_eq, decide_eq_false_iff_not, Bool.not_true, Bool.not_false, ne_eq, Classical.not_not, Int.not_lt, Int.not_le] at hc); (try (exfalso; first | omega | exact hc trivial | exact hc rfl)))))
      all_goals (first | (exfalso; omega) | (refine GE.resMany rfl (by (repeat (first | apply Res.nil | (apply Res.tmp; rfl) | (refine Res.cellA rfl rfl rfl ?_) | (refine Res.cell1 rfl rfl ?_)))) (fun w h => ?_); exact ⟨rfl, h.sub⟩))
  · have hc0 : Me.chk (l, e) o n = e := by simp [Me.chk, h0]
    rw [hc0, if_neg h0]
    repeat' (first | (first | (apply GL.isCall; refine GL.callH1 (storeP sb t) (vs := [.pointer (some ⟨sb, 0, none⟩)]) rfl rfl (fun w h => hS w _ h) ?_) | (apply GL.isCall; refine GL.callH1 (livP p M) (vs := [.pointer (some ⟨p, 0, none⟩), .int .i64 x]) rfl rfl (fun w h => hF w _ h) ?_)) | first | (apply GL.isAny; first | refine GL.runA rfl ?_ | (apply GL.isStore; first | refine GL.storeBlk rfl rfl rfl rfl rfl ?_ | refine GL.storeWhole rfl rfl rfl rfl rfl ?_ | refine GL.storeBlkA rfl rfl rfl rfl rfl ?_) | refine GL.guardY rfl rfl ?_ | refine GL.guardN rfl rfl rfl ?_ | refine GL.guardU rfl rfl rfl ?_ | (apply GL.isBox; first | refine GL.boxA rfl rfl (fun _ => ?_) | refine GL.box1 rfl rfl rfl (fun _ => ?_) | refine GL.box rfl rfl (fun _ => ?_)) | (apply GL.isBuildS; first | refine GL.buildSlice1A rfl rfl rfl rfl rfl (fun _ => ?_) | refine GL.buildSlice1 rfl rfl rfl rfl rfl (fun _ => ?_)) | (apply GL.isCall; refine GL.append1 _ rfl rfl rfl rfl (by rfl) (by omega) (by omega) rfl (fun _ => ?_)) | (apply GL.isAlloc; refine GL.alloc rfl (fun _ => ?_))) | apply GL.nil | first | apply G.seq | apply G.region | apply G.block | apply G.skip | apply G.exit | apply G.ret | (apply G.isCond; first | refine G.condT rfl ?_ | refine G.condF rfl ?_) | refine G.draw (by kernel_rfl) (by kernel_rfl) ?_ | (apply GE.isAny; first | apply GE.again | apply GE.thenG | apply GE.blockN | apply GE.blockE | apply GE.thenE | apply GE.thenR | apply GE.blockR | refine GE.blockO rfl ?_ | apply GE.only) | (apply GD.isAny; first | refine GD.runA rfl ?_ | refine GD.guardY rfl rfl ?_ | refine GD.guardN rfl rfl rfl ?_ | refine GD.guardU rfl rfl rfl ?_) | apply GD.nilE | apply GD.nilL | (apply GT.isAny; refine GT.runA rfl rfl ?_) | ((first | (apply GL.isAny; refine GL.guard rfl rfl (fun hc => ?_) (fun hc => ?_)) | (apply G.isCond; refine G.cond rfl (fun hc => ?_) (fun hc => ?_)) | (apply GD.isAny; refine GD.guard rfl rfl (fun hc => ?_) (fun hc => ?_))) <;> ((try simp only [decide_eq_true_eq, decide_eq_false_iff_not, Bool.not_true, Bool.not_false, ne_eq, Classical.not_not, Int.not_lt, Int.not_le] at hc); (try (exfalso; first | omega | exact hc trivial | exact hc rfl)))))
    all_goals (first | (exfalso; omega) | (refine GE.resMany rfl (by (repeat (first | apply Res.nil | (apply Res.tmp; rfl) | (refine Res.cellA rfl rfl rfl ?_) | (refine Res.cell1 rfl rfl ?_)))) (fun w h => ?_); exact ⟨rfl, h.sub⟩))
theorem mem_Room (o : Int) (w : World) (F : List HProp) (hw : holds w (livP p M :: F)) :
    Ct Tryz.prog 29 #[.pointer (some ⟨p, 0, none⟩), .int .i64 x, .int .i64 o] w fun e w' => e = .returned (.int .i64 (Me.room (Lv.find M x) o)) ∧ holds w' (livP p M :: F) := by
  have hF := fun w (F : List HProp) h => live_Find p M hM x hx w F h
  obtain ⟨f, hfe⟩ : ∃ f, f = (Lv.find M x) := ⟨_, rfl⟩
  rw [← hfe] at hF hf ⊢
  obtain ⟨l, e⟩ := f
  unfold Me.Fits at hf
  unfold Me.room
  dsimp only at hF hf ⊢
  refine Ct.go (args := [.pointer (some ⟨p, 0, none⟩), .int .i64 x, .int .i64 o]) Tryz.func29 rfl rfl rfl hw ?_
  by_cases h0 : e ≠ 0 ∨ o < 0 ∨ l.len < o
  · rw [if_pos h0]
    by_cases h3 : e = 0
    · subst h3
      have hf := hf rfl
      have h1 : o < 0 ∨ l.len < o := by rcases h0 with h | h; exact absurd rfl h; exact h
      repeat' (first | ((apply GL.isCall; refine GL.callH1 (livP p M) (vs := [.pointer (some ⟨p, 0, none⟩), .int .i64 x]) rfl rfl (fun w h => hF w _ h) ?_)) | first | (apply GL.isAny; first | refine GL.runA rfl ?_ | (apply GL.isStore; first | refine GL.storeBlk rfl rfl rfl rfl rfl ?_ | refine GL.storeWhole rfl rfl rfl rfl rfl ?_ | refine GL.storeBlkA rfl rfl rfl rfl rfl ?_) | refine GL.guardY rfl rfl ?_ | refine GL.guardN rfl rfl rfl ?_ | refine GL.guardU rfl rfl rfl ?_ | (apply GL.isBox; first | refine GL.boxA rfl rfl (fun _ => ?_) | refine GL.box1 rfl rfl rfl (fun _ => ?_) | refine GL.box rfl rfl (fun _ => ?_)) | (apply GL.isBuildS; first | refine GL.buildSlice1A rfl rfl rfl rfl rfl (fun _ => ?_) | refine GL.buildSlice1 rfl rfl rfl rfl rfl (fun _ => ?_)) | (apply GL.isCall; refine GL.append1 _ rfl rfl rfl rfl (by rfl) (by omega) (by omega) rfl (fun _ => ?_)) | (apply GL.isAlloc; refine GL.alloc rfl (fun _ => ?_))) | apply GL.nil | first | apply G.seq | apply G.region | apply G.block | apply G.skip | apply G.exit | apply G.ret | (apply G.isCond; first | refine G.condT rfl ?_ | refine G.condF rfl ?_) | refine G.draw (by kernel_rfl) (by kernel_rfl) ?_ | (apply GE.isAny; first | apply GE.again | apply GE.thenG | apply GE.blockN | apply GE.blockE | apply GE.thenE | apply GE.thenR | apply GE.blockR | refine GE.blockO rfl ?_ | apply GE.only) | (apply GD.isAny; first | refine GD.runA rfl ?_ | refine GD.guardY rfl rfl ?_ | refine GD.guardN rfl rfl rfl ?_ | refine GD.guardU rfl rfl rfl ?_) | apply GD.nilE | apply GD.nilL | (apply GT.isAny; refine GT.runA rfl rfl ?_) | ((first | (apply GL.isAny; refine GL.guard rfl rfl (fun hc => ?_) (fun hc => ?_)) | (apply G.isCond; refine G.cond rfl (fun hc => ?_) (fun hc => ?_)) | (apply GD.isAny; refine GD.guard rfl rfl (fun hc => ?_) (fun hc => ?_))) <;> ((try simp only [decide_eq_true_eq, decide_eq_false_iff_not, Bool.not_true, Bool.not_false, ne_eq, Classical.not_not, Int.not_lt, Int.not_le] at hc); (try (exfalso; first | omega | exact hc trivial | exact hc rfl)))))
      all_goals (first | (exfalso; omega) | (refine GE.resOne rfl (by (repeat (first | apply Res.nil | (apply Res.tmp; rfl) | (refine Res.cellA rfl rfl rfl ?_) | (refine Res.cell1 rfl rfl ?_)))) (fun w h => ?_); exact ⟨rfl, h.sub⟩))
    · repeat' (first | ((apply GL.isCall; refine GL.callH1 (livP p M) (vs := [.pointer (some ⟨p, 0, none⟩), .int .i64 x]) rfl rfl (fun w h => hF w _ h) ?_)) | first | (apply GL.isAny; first | refine GL.runA rfl ?_ | (apply GL.isStore; first | refine GL.storeBlk rfl rfl rfl rfl rfl ?_ | refine GL.storeWhole rfl rfl rfl rfl rfl ?_ | refine GL.storeBlkA rfl rfl rfl rfl rfl ?_) | refine GL.guardY rfl rfl ?_ | refine GL.guardN rfl rfl rfl ?_ | refine GL.guardU rfl rfl rfl ?_ | (apply GL.isBox; first | refine GL.boxA rfl rfl (fun _ => ?_) | refine GL.box1 rfl rfl rfl (fun _ => ?_) | refine GL.box rfl rfl (fun _ => ?_)) | (apply GL.isBuildS; first | refine GL.buildSlice1A rfl rfl rfl rfl rfl (fun _ => ?_) | refine GL.buildSlice1 rfl rfl rfl rfl rfl (fun _ => ?_)) | (apply GL.isCall; refine GL.append1 _ rfl rfl rfl rfl (by rfl) (by omega) (by omega) rfl (fun _ => ?_)) | (apply GL.isAlloc; refine GL.alloc rfl (fun _ => ?_))) | apply GL.nil | first | apply G.seq | apply G.region | apply G.block | apply G.skip | apply G.exit | apply G.ret | (apply G.isCond; first | refine G.condT rfl ?_ | refine G.condF rfl ?_) | refine G.draw (by kernel_rfl) (by kernel_rfl) ?_ | (apply GE.isAny; first | apply GE.again | apply GE.thenG | apply GE.blockN | apply GE.blockE | apply GE.thenE | apply GE.thenR | apply GE.blockR | refine GE.blockO rfl ?_ | apply GE.only) | (apply GD.isAny; first | refine GD.runA rfl ?_ | refine GD.guardY rfl rfl ?_ | refine GD.guardN rfl rfl rfl ?_ | refine GD.guardU rfl rfl rfl ?_) | apply GD.nilE | apply GD.nilL | (apply GT.isAny; refine GT.runA rfl rfl ?_) | ((first | (apply GL.isAny; refine GL.guard rfl rfl (fun hc => ?_) (fun hc => ?_)) | (apply G.isCond; refine G.cond rfl (fun hc => ?_) (fun hc => ?_)) | (apply GD.isAny; refine GD.guard rfl rfl (fun hc => ?_) (fun hc => ?_))) <;> ((try simp only [decide_eq_true_eq, decide_eq_false_iff_not, Bool.not_true, Bool.not_false, ne_eq, Classical.not_not, Int.not_lt, Int.not_le] at hc); (try (exfalso; first | omega | exact hc trivial | exact hc rfl)))))
      all_goals (first | (exfalso; omega) | (refine GE.resOne rfl (by (repeat (first | apply Res.nil | (apply Res.tmp; rfl) | (refine Res.cellA rfl rfl rfl ?_) | (refine Res.cell1 rfl rfl ?_)))) (fun w h => ?_); exact ⟨rfl, h.sub⟩))
  · rw [if_neg h0]
    have h3 : e = 0 := Classical.not_not.1 fun h => h0 (.inl h)
    subst h3
    have hf := hf rfl
    have h1 : ¬ (o < 0 ∨ l.len < o) := fun h => h0 (.inr h)
    repeat' (first | ((apply GL.isCall; refine GL.callH1 (livP p M) (vs := [.pointer (some ⟨p, 0, none⟩), .int .i64 x]) rfl rfl (fun w h => hF w _ h) ?_)) | first | (apply GL.isAny; first | refine GL.runA rfl ?_ | (apply GL.isStore; first | refine GL.storeBlk rfl rfl rfl rfl rfl ?_ | refine GL.storeWhole rfl rfl rfl rfl rfl ?_ | refine GL.storeBlkA rfl rfl rfl rfl rfl ?_) | refine GL.guardY rfl rfl ?_ | refine GL.guardN rfl rfl rfl ?_ | refine GL.guardU rfl rfl rfl ?_ | (apply GL.isBox; first | refine GL.boxA rfl rfl (fun _ => ?_) | refine GL.box1 rfl rfl rfl (fun _ => ?_) | refine GL.box rfl rfl (fun _ => ?_)) | (apply GL.isBuildS; first | refine GL.buildSlice1A rfl rfl rfl rfl rfl (fun _ => ?_) | refine GL.buildSlice1 rfl rfl rfl rfl rfl (fun _ => ?_)) | (apply GL.isCall; refine GL.append1 _ rfl rfl rfl rfl (by rfl) (by omega) (by omega) rfl (fun _ => ?_)) | (apply GL.isAlloc; refine GL.alloc rfl (fun _ => ?_))) | apply GL.nil | first | apply G.seq | apply G.region | apply G.block | apply G.skip | apply G.exit | apply G.ret | (apply G.isCond; first | refine G.condT rfl ?_ | refine G.condF rfl ?_) | refine G.draw (by kernel_rfl) (by kernel_rfl) ?_ | (apply GE.isAny; first | apply GE.again | apply GE.thenG | apply GE.blockN | apply GE.blockE | apply GE.thenE | apply GE.thenR | apply GE.blockR | refine GE.blockO rfl ?_ | apply GE.only) | (apply GD.isAny; first | refine GD.runA rfl ?_ | refine GD.guardY rfl rfl ?_ | refine GD.guardN rfl rfl rfl ?_ | refine GD.guardU rfl rfl rfl ?_) | apply GD.nilE | apply GD.nilL | (apply GT.isAny; refine GT.runA rfl rfl ?_) | ((first | (apply GL.isAny; refine GL.guard rfl rfl (fun hc => ?_) (fun hc => ?_)) | (apply G.isCond; refine G.cond rfl (fun hc => ?_) (fun hc => ?_)) | (apply GD.isAny; refine GD.guard rfl rfl (fun hc => ?_) (fun hc => ?_))) <;> ((try simp only [decide_eq_true_eq, decide_eq_false_iff_not, Bool.not_true, Bool.not_false, ne_eq, Classical.not_not, Int.not_lt, Int.not_le] at hc); (try (exfalso; first | omega | exact hc trivial | exact hc rfl)))))
    all_goals (first | (exfalso; omega) | (refine GE.resOne rfl (by (repeat (first | apply Res.nil | (apply Res.tmp; rfl) | (refine Res.cellA rfl rfl rfl ?_) | (refine Res.cell1 rfl rfl ?_)))) (fun w h => ?_); exact ⟨rfl, h.sub⟩))
end
end Go.Proofs.YtipkgamiejenaaaGreat

/- Drawn regions: a call that takes a piece and makes another; a store of a whole struct. -/
namespace Go.Proofs.YtipkgamiejenaaaGreat
open Go Go.RowKit Go.MapKept
set_option linter.unusedVariables false
set_option linter.unusedSectionVars false
set_option linter.unusedSimpArgs false
section
variable {P : Program} {n : Nat} {env : Env} {F : List HProp}
theorem DoesW.storeWhole {L : List HProp} {t T : TypeId} {x y : Operand} {b size : Nat} {c : Array Value} {vs : Array Value} (hx : opnd env x = some (.pointer (some ⟨b, 0, none⟩))) (hy : opnd env y = some (.agg vs)) [ht : AggT P t size] (hs : Nat.beq vs.size size = true) (h1 : vs.toList.all (·.oneCell') = true) (ho : Nat.beq c.size size = true) :
    DoesW P n env F [blk b (.cells c T (0, 0))] L (.store t x y) (fun _ => True) (fun _ => blk b (.cells vs T (0, 0))) := ⟨fun a w F' ty pos aft g d hf hw => by
  obtain ⟨i, ds, g1, g2, g3, g4⟩ := ht.ok
  have hs : vs.size = size := Nat.eq_of_beq_eq_true hs
  have ho : c.size = size := Nat.eq_of_beq_eq_true ho
  obtain ⟨w', hr, hh⟩ := run_storeVar_sl (P := P) (t := t) (val := .agg vs) (off := 0) (by simp [g1, g2, hs, Value.cells]) (by have h1' := List.all_eq_true.1 h1; simpa [Value.cells] using h1') (show holds w (blk b (.cells c T (0, 0)) :: (L ++ (F ++ F'))) from by simpa using hw) (by simp [Value.cells, hs, ho])
  have e : (c.toList.take 0 ++ (Value.agg vs).cells.toList ++ c.toList.drop (0 + (Value.agg vs).cells.size)).toArray = vs := by
    simp only [Value.cells]
    rw [List.take_zero, List.nil_append, List.drop_eq_nil_of_le (by rw [Array.length_toList]; omega), List.append_nil, Array.toArray_toList]
  rw [e] at hh
  simp [execOp, hf.eval hx, hf.eval hy, Instr.storeAt, Instr.sureAddr, hr, Result.andThen, looseUpon]
  exact hh⟩
end
section
variable {P : Program} {n : Nat} {env : Env} {F F0 : List HProp}
end
section
variable {P : Program} {n k d : Nat} {env : Env} {F F0 : List HProp} {ops : Array Oper} {rest : List Oper} {ty : TypeId} {pos : String} {aft : Array Edge} {Z : Act → Prop}
end
instance (priority := 400) SeesBlk.appendLg {F F2 : List HProp} {b : Nat} {c : Array Value} [h : SeesBlk F b c] : SeesBlk (F ++ F2) b c := ⟨fun w hw => h.at_ w (by obtain ⟨f, hf, hs⟩ := hw; obtain ⟨f1, f2, h1, h2, j⟩ := (sep_append F F2 f).1 hs; exact ⟨f, hf, sep_sub F f1 f j h1⟩)⟩
instance (priority := 300) SeesBlk.appendRg {F F2 : List HProp} {b : Nat} {c : Array Value} [h : SeesBlk F2 b c] : SeesBlk (F ++ F2) b c := ⟨fun w hw => h.at_ w (by obtain ⟨f, hf, hs⟩ := hw; obtain ⟨f1, f2, h1, h2, j⟩ := (sep_append F F2 f).1 hs; exact ⟨f, hf, sep_sub F2 f2 f j.symm h2⟩)⟩
section
variable {P : Program} {n : Nat} {env : Env} {F : List HProp}
theorem Runs.neqIF {xT yT : TypeId} {x y : Operand} {i j : Int} {kk : IntKind} (h : i = j) (hx : opnd env x = some (.int kk i)) (hy : opnd env y = some (.int kk j)) : Runs P n env F (.binOp .neq xT x y yT) (.bool false) := by
  have := Runs.neq (P := P) (n := n) (F := F) (xT := xT) (yT := yT) hx hy
  subst h
  rwa [decide_eq_false (by simp)] at this
end
end Go.Proofs.YtipkgamiejenaaaGreat

/- Calls that take two pieces. -/
namespace Go.Proofs.YtipkgamiejenaaaGreat
open Go Go.RowKit Go.MapKept
set_option linter.unusedVariables false
set_option linter.unusedSectionVars false
set_option linter.unusedSimpArgs false
section
variable {P : Program} {n d : Nat} {Q : Exit → Act → World → Prop} {env : Env} {F : List HProp} {ops : Array Oper} {rest : List Oper} {ty : TypeId} {pos : String} {aft : Array Edge}
theorem GL.callHH1 {f : FuncId} {xs : List Operand} {ts : Array TypeId} {vs : List Value} {v : Value} {F0 F1 F' : List HProp} (X Y : HProp) [hX : Has F X F0] [hY : Has F0 Y F1] [ho : Own P f] (hx : opnds env xs = some vs) (hd : Nat.blt d n = true)
    (hc : ∀ w, holds w (X :: Y :: F1) → Ct P f vs.toArray w fun e w' => e = .returned v ∧ holds w' F') (h : GL P n ops Q rest ((d, v) :: env) F') :
    GL P n ops Q (⟨some d, .call { callee := .value (.func f), args := xs.toArray, argTypes := ts }, ty, pos, aft, none⟩ :: rest) env F :=
  GL.call1 hx hd (fun w hw => hc w (hw.perm (hX.perm.trans (hY.perm.cons X)))) h
end
end Go.Proofs.YtipkgamiejenaaaGreat

/- Package memory: Write, Read. -/
namespace Go.Proofs.YtipkgamiejenaaaGreat
open Go Go.RowKit Go.MapKept
set_option linter.unusedVariables false
set_option linter.unusedSectionVars false
set_option linter.unusedSimpArgs false
set_option maxRecDepth 100000
set_option maxHeartbeats 4000000
section
variable (sb : Nat) (t : St.S) (K : Nat) (hI : St.Inv t K) (hK : K ≤ 1000000) (p : Nat) (M : LvM) (hM : Lv.Ok M) (x : Int) (hx : x < 9223372036854775808) (hf : Me.Fits (Lv.find M x))
include hI hK hM hx hf
theorem mem_Write (o : Int) (s : List UInt8) (hs : s.length ≤ 10000) (w : World) (F : List HProp) (hw : holds w (storeP sb t :: livP p M :: F)) :
    Ct Tryz.prog 28 #[.pointer (some ⟨sb, 0, none⟩), .pointer (some ⟨p, 0, none⟩), .int .i64 x, .int .i64 o, .string (bs s)] w fun e w' => e = .returned (.int .i64 (Me.write t (Lv.find M x) o s).2) ∧ holds w' (storeP sb (Me.write t (Lv.find M x) o s).1 :: livP p M :: F) := by
  have hF := fun w (F : List HProp) h => mem_find sb t K hI hK p M hM x hx hf o s.length w F h
  obtain ⟨f, hfe⟩ : ∃ f, f = (Lv.find M x) := ⟨_, rfl⟩
  rw [← hfe] at hF hf ⊢
  unfold Me.write Me.got at *
  refine Ct.go (args := [.pointer (some ⟨sb, 0, none⟩), .pointer (some ⟨p, 0, none⟩), .int .i64 x, .int .i64 o, .string (bs s)]) Tryz.func28 rfl rfl rfl hw ?_
  by_cases h0 : Me.chk f o s.length = 0
  · obtain ⟨e1, e2, e3, e4, e5⟩ := Me.chk_fit h0
    have hf := hf e1
    rw [if_pos h0] at hF ⊢
    rw [h0] at hF
    have hS := fun w (F : List HProp) h => store_Store sb t K hI hK f.1.chunk f.1.gen (f.1.pos + o) s (by omega) w F h
    repeat' (first | (first | (apply GL.isAny; refine GL.run (Runs.strLen rfl) rfl ?_) | (apply GL.isCall; refine GL.callHH1 (storeP sb t) (livP p M) (vs := [.pointer (some ⟨sb, 0, none⟩), .pointer (some ⟨p, 0, none⟩), .int .i64 x, .int .i64 o, .int .i64 s.length]) rfl rfl (fun w h => hF w _ h) ?_) | (apply GL.isCall; refine GL.callVH1 (storeP sb t) (first := [.pointer (some ⟨sb, 0, none⟩)]) (captured := []) (vs := [.int .i64 f.1.chunk, .int .i64 f.1.gen, .int .i64 (f.1.pos + o), .string (bs s)]) rfl rfl rfl (fun w h => hS w _ h) ?_)) | first | (apply GL.isAny; first | refine GL.runA rfl ?_ | (apply GL.isStore; first | refine GL.storeBlk rfl rfl rfl rfl rfl ?_ | refine GL.storeWhole rfl rfl rfl rfl rfl ?_ | refine GL.storeBlkA rfl rfl rfl rfl rfl ?_) | refine GL.guardY rfl rfl ?_ | refine GL.guardN rfl rfl rfl ?_ | refine GL.guardU rfl rfl rfl ?_ | (apply GL.isBox; first | refine GL.boxA rfl rfl (fun _ => ?_) | refine GL.box1 rfl rfl rfl (fun _ => ?_) | refine GL.box rfl rfl (fun _ => ?_)) | (apply GL.isBuildS; first | refine GL.buildSlice1A rfl rfl rfl rfl rfl (fun _ => ?_) | refine GL.buildSlice1 rfl rfl rfl rfl rfl (fun _ => ?_)) | (apply GL.isCall; refine GL.append1 _ rfl rfl rfl rfl (by rfl) (by omega) (by omega) rfl (fun _ => ?_)) | (apply GL.isAlloc; refine GL.alloc rfl (fun _ => ?_))) | apply GL.nil | first | apply G.seq | apply G.region | apply G.block | apply G.skip | apply G.exit | apply G.ret | (apply G.isCond; first | refine G.condT rfl ?_ | refine G.condF rfl ?_) | refine G.draw (by kernel_rfl) (by kernel_rfl) ?_ | (apply GE.isAny; first | apply GE.again | apply GE.thenG | apply GE.blockN | apply GE.blockE | apply GE.thenE | apply GE.thenR | apply GE.blockR | refine GE.blockO rfl ?_ | apply GE.only) | (apply GD.isAny; first | refine GD.runA rfl ?_ | refine GD.guardY rfl rfl ?_ | refine GD.guardN rfl rfl rfl ?_ | refine GD.guardU rfl rfl rfl ?_) | apply GD.nilE | apply GD.nilL | (apply GT.isAny; refine GT.runA rfl rfl ?_) | ((first | (apply GL.isAny; refine GL.guard rfl rfl (fun hc => ?_) (fun hc => ?_)) | (apply G.isCond; refine G.cond rfl (fun hc => ?_) (fun hc => ?_)) | (apply GD.isAny; refine GD.guard rfl rfl (fun hc => ?_) (fun hc => ?_))) <;> ((try simp only [decide_eq_true_eq, decide_eq_false_iff_not, Bool.not_true, Bool.not_false, ne_eq, Classical.not_not, Int.not_lt, Int.not_le] at hc); (try (exfalso; first | omega | exact hc trivial | exact hc rfl)))))
    all_goals (first | (exfalso; omega) | (exfalso; simp at hc; done) | skip)
    all_goals (refine GE.resOne rfl (by (repeat (first | apply Res.nil | (apply Res.tmp; rfl) | (refine Res.cellA rfl rfl rfl ?_) | (refine Res.cell1 rfl rfl ?_)))) (fun w h => ?_); exact ⟨rfl, h.sub⟩)
  · rw [if_neg h0] at hF ⊢
    repeat' (first | (first | (apply GL.isAny; refine GL.run (Runs.strLen rfl) rfl ?_) | (apply GL.isCall; refine GL.callHH1 (storeP sb t) (livP p M) (vs := [.pointer (some ⟨sb, 0, none⟩), .pointer (some ⟨p, 0, none⟩), .int .i64 x, .int .i64 o, .int .i64 s.length]) rfl rfl (fun w h => hF w _ h) ?_)) | first | (apply GL.isAny; first | refine GL.runA rfl ?_ | (apply GL.isStore; first | refine GL.storeBlk rfl rfl rfl rfl rfl ?_ | refine GL.storeWhole rfl rfl rfl rfl rfl ?_ | refine GL.storeBlkA rfl rfl rfl rfl rfl ?_) | refine GL.guardY rfl rfl ?_ | refine GL.guardN rfl rfl rfl ?_ | refine GL.guardU rfl rfl rfl ?_ | (apply GL.isBox; first | refine GL.boxA rfl rfl (fun _ => ?_) | refine GL.box1 rfl rfl rfl (fun _ => ?_) | refine GL.box rfl rfl (fun _ => ?_)) | (apply GL.isBuildS; first | refine GL.buildSlice1A rfl rfl rfl rfl rfl (fun _ => ?_) | refine GL.buildSlice1 rfl rfl rfl rfl rfl (fun _ => ?_)) | (apply GL.isCall; refine GL.append1 _ rfl rfl rfl rfl (by rfl) (by omega) (by omega) rfl (fun _ => ?_)) | (apply GL.isAlloc; refine GL.alloc rfl (fun _ => ?_))) | apply GL.nil | first | apply G.seq | apply G.region | apply G.block | apply G.skip | apply G.exit | apply G.ret | (apply G.isCond; first | refine G.condT rfl ?_ | refine G.condF rfl ?_) | refine G.draw (by kernel_rfl) (by kernel_rfl) ?_ | (apply GE.isAny; first | apply GE.again | apply GE.thenG | apply GE.blockN | apply GE.blockE | apply GE.thenE | apply GE.thenR | apply GE.blockR | refine GE.blockO rfl ?_ | apply GE.only) | (apply GD.isAny; first | refine GD.runA rfl ?_ | refine GD.guardY rfl rfl ?_ | refine GD.guardN rfl rfl rfl ?_ | refine GD.guardU rfl rfl rfl ?_) | apply GD.nilE | apply GD.nilL | (apply GT.isAny; refine GT.runA rfl rfl ?_) | ((first | (apply GL.isAny; refine GL.guard rfl rfl (fun hc => ?_) (fun hc => ?_)) | (apply G.isCond; refine G.cond rfl (fun hc => ?_) (fun hc => ?_)) | (apply GD.isAny; refine GD.guard rfl rfl (fun hc => ?_) (fun hc => ?_))) <;> ((try simp only [decide_eq_true_eq, decide_eq_false_iff_not, Bool.not_true, Bool.not_false, ne_eq, Classical.not_not, Int.not_lt, Int.not_le] at hc); (try (exfalso; first | omega | exact hc trivial | exact hc rfl)))))
    all_goals (first | (exfalso; omega) | (exfalso; exact h0 hc) | skip)
    all_goals (refine GE.resOne rfl (by (repeat (first | apply Res.nil | (apply Res.tmp; rfl) | (refine Res.cellA rfl rfl rfl ?_) | (refine Res.cell1 rfl rfl ?_)))) (fun w h => ?_); exact ⟨rfl, h.sub⟩)
theorem mem_Read (o n : Int) (w : World) (F : List HProp) (hw : holds w (storeP sb t :: livP p M :: F)) :
    Ct Tryz.prog 30 #[.pointer (some ⟨sb, 0, none⟩), .pointer (some ⟨p, 0, none⟩), .int .i64 x, .int .i64 o, .int .i64 n] w fun e w' => e = .returned (.tuple #[.string (bs (Me.read t (Lv.find M x) o n).1), .int .i64 (Me.read t (Lv.find M x) o n).2]) ∧ holds w' (storeP sb t :: livP p M :: F) := by
  have hF := fun w (F : List HProp) h => mem_find sb t K hI hK p M hM x hx hf o n w F h
  obtain ⟨f, hfe⟩ : ∃ f, f = (Lv.find M x) := ⟨_, rfl⟩
  rw [← hfe] at hF hf ⊢
  unfold Me.read Me.got at *
  refine Ct.go (args := [.pointer (some ⟨sb, 0, none⟩), .pointer (some ⟨p, 0, none⟩), .int .i64 x, .int .i64 o, .int .i64 n]) Tryz.func30 rfl rfl rfl hw ?_
  by_cases h0 : Me.chk f o n = 0
  · obtain ⟨e1, e2, e3, e4, e5⟩ := Me.chk_fit h0
    have hf := hf e1
    rw [if_pos h0] at hF ⊢
    rw [h0] at hF
    have hS := fun w (F : List HProp) h => store_Load sb t K hI hK f.1.chunk f.1.gen (f.1.pos + o) n w F h
    repeat' (first | (first | (apply GL.isCall; refine GL.callHH1 (storeP sb t) (livP p M) (vs := [.pointer (some ⟨sb, 0, none⟩), .pointer (some ⟨p, 0, none⟩), .int .i64 x, .int .i64 o, .int .i64 n]) rfl rfl (fun w h => hF w _ h) ?_) | (apply GL.isCall; refine GL.callVH1 (storeP sb t) (first := [.pointer (some ⟨sb, 0, none⟩)]) (captured := []) (vs := [.int .i64 f.1.chunk, .int .i64 f.1.gen, .int .i64 (f.1.pos + o), .int .i64 n]) rfl rfl rfl (fun w h => hS w _ h) ?_)) | first | (apply GL.isAny; first | refine GL.runA rfl ?_ | (apply GL.isStore; first | refine GL.storeBlk rfl rfl rfl rfl rfl ?_ | refine GL.storeWhole rfl rfl rfl rfl rfl ?_ | refine GL.storeBlkA rfl rfl rfl rfl rfl ?_) | refine GL.guardY rfl rfl ?_ | refine GL.guardN rfl rfl rfl ?_ | refine GL.guardU rfl rfl rfl ?_ | (apply GL.isBox; first | refine GL.boxA rfl rfl (fun _ => ?_) | refine GL.box1 rfl rfl rfl (fun _ => ?_) | refine GL.box rfl rfl (fun _ => ?_)) | (apply GL.isBuildS; first | refine GL.buildSlice1A rfl rfl rfl rfl rfl (fun _ => ?_) | refine GL.buildSlice1 rfl rfl rfl rfl rfl (fun _ => ?_)) | (apply GL.isCall; refine GL.append1 _ rfl rfl rfl rfl (by rfl) (by omega) (by omega) rfl (fun _ => ?_)) | (apply GL.isAlloc; refine GL.alloc rfl (fun _ => ?_))) | apply GL.nil | first | apply G.seq | apply G.region | apply G.block | apply G.skip | apply G.exit | apply G.ret | (apply G.isCond; first | refine G.condT rfl ?_ | refine G.condF rfl ?_) | refine G.draw (by kernel_rfl) (by kernel_rfl) ?_ | (apply GE.isAny; first | apply GE.again | apply GE.thenG | apply GE.blockN | apply GE.blockE | apply GE.thenE | apply GE.thenR | apply GE.blockR | refine GE.blockO rfl ?_ | apply GE.only) | (apply GD.isAny; first | refine GD.runA rfl ?_ | refine GD.guardY rfl rfl ?_ | refine GD.guardN rfl rfl rfl ?_ | refine GD.guardU rfl rfl rfl ?_) | apply GD.nilE | apply GD.nilL | (apply GT.isAny; refine GT.runA rfl rfl ?_) | ((first | (apply GL.isAny; refine GL.guard rfl rfl (fun hc => ?_) (fun hc => ?_)) | (apply G.isCond; refine G.cond rfl (fun hc => ?_) (fun hc => ?_)) | (apply GD.isAny; refine GD.guard rfl rfl (fun hc => ?_) (fun hc => ?_))) <;> ((try simp only [decide_eq_true_eq, decide_eq_false_iff_not, Bool.not_true, Bool.not_false, ne_eq, Classical.not_not, Int.not_lt, Int.not_le] at hc); (try (exfalso; first | omega | exact hc trivial | exact hc rfl)))))
    all_goals (first | (exfalso; omega) | (exfalso; simp at hc; done) | skip)
    all_goals (refine GE.resMany rfl (by (repeat (first | apply Res.nil | (apply Res.tmp; rfl) | (refine Res.cellA rfl rfl rfl ?_) | (refine Res.cell1 rfl rfl ?_)))) (fun w h => ?_); exact ⟨rfl, h.sub⟩)
  · rw [if_neg h0] at hF ⊢
    repeat' (first | ((apply GL.isCall; refine GL.callHH1 (storeP sb t) (livP p M) (vs := [.pointer (some ⟨sb, 0, none⟩), .pointer (some ⟨p, 0, none⟩), .int .i64 x, .int .i64 o, .int .i64 n]) rfl rfl (fun w h => hF w _ h) ?_)) | first | (apply GL.isAny; first | refine GL.runA rfl ?_ | (apply GL.isStore; first | refine GL.storeBlk rfl rfl rfl rfl rfl ?_ | refine GL.storeWhole rfl rfl rfl rfl rfl ?_ | refine GL.storeBlkA rfl rfl rfl rfl rfl ?_) | refine GL.guardY rfl rfl ?_ | refine GL.guardN rfl rfl rfl ?_ | refine GL.guardU rfl rfl rfl ?_ | (apply GL.isBox; first | refine GL.boxA rfl rfl (fun _ => ?_) | refine GL.box1 rfl rfl rfl (fun _ => ?_) | refine GL.box rfl rfl (fun _ => ?_)) | (apply GL.isBuildS; first | refine GL.buildSlice1A rfl rfl rfl rfl rfl (fun _ => ?_) | refine GL.buildSlice1 rfl rfl rfl rfl rfl (fun _ => ?_)) | (apply GL.isCall; refine GL.append1 _ rfl rfl rfl rfl (by rfl) (by omega) (by omega) rfl (fun _ => ?_)) | (apply GL.isAlloc; refine GL.alloc rfl (fun _ => ?_))) | apply GL.nil | first | apply G.seq | apply G.region | apply G.block | apply G.skip | apply G.exit | apply G.ret | (apply G.isCond; first | refine G.condT rfl ?_ | refine G.condF rfl ?_) | refine G.draw (by kernel_rfl) (by kernel_rfl) ?_ | (apply GE.isAny; first | apply GE.again | apply GE.thenG | apply GE.blockN | apply GE.blockE | apply GE.thenE | apply GE.thenR | apply GE.blockR | refine GE.blockO rfl ?_ | apply GE.only) | (apply GD.isAny; first | refine GD.runA rfl ?_ | refine GD.guardY rfl rfl ?_ | refine GD.guardN rfl rfl rfl ?_ | refine GD.guardU rfl rfl rfl ?_) | apply GD.nilE | apply GD.nilL | (apply GT.isAny; refine GT.runA rfl rfl ?_) | ((first | (apply GL.isAny; refine GL.guard rfl rfl (fun hc => ?_) (fun hc => ?_)) | (apply G.isCond; refine G.cond rfl (fun hc => ?_) (fun hc => ?_)) | (apply GD.isAny; refine GD.guard rfl rfl (fun hc => ?_) (fun hc => ?_))) <;> ((try simp only [decide_eq_true_eq, decide_eq_false_iff_not, Bool.not_true, Bool.not_false, ne_eq, Classical.not_not, Int.not_lt, Int.not_le] at hc); (try (exfalso; first | omega | exact hc trivial | exact hc rfl)))))
    all_goals (first | (exfalso; omega) | (exfalso; exact h0 hc) | skip)
    all_goals (refine GE.resMany rfl (by (repeat (first | apply Res.nil | (apply Res.tmp; rfl) | (refine Res.cellA rfl rfl rfl ?_) | (refine Res.cell1 rfl rfl ?_)))) (fun w h => ?_); exact ⟨rfl, h.sub⟩)
end
end Go.Proofs.YtipkgamiejenaaaGreat

/- Reference 19: Many. -/
namespace Go.Proofs.YtipkgamiejenaaaGreat
open Go Go.RowKit Go.MapKept
set_option linter.unusedVariables false
set_option linter.unusedSectionVars false
set_option linter.unusedSimpArgs false
set_option maxRecDepth 100000
set_option maxHeartbeats 4000000
section
variable (v : Value) (t : St.S) (K : Nat) (hI : St.Inv t K) (hK : K ≤ 1000000)
include hI hK
end
end Go.Proofs.YtipkgamiejenaaaGreat

/- Reference 17: New. -/
namespace Go.Proofs.YtipkgamiejenaaaGreat
open Go Go.RowKit Go.MapKept
set_option linter.unusedVariables false
set_option linter.unusedSectionVars false
set_option linter.unusedSimpArgs false
set_option maxRecDepth 100000
set_option maxHeartbeats 4000000
def dn (n : Nat) : List Int := ((List.range n).reverse).map (Nat.cast : Nat → Int)
end Go.Proofs.YtipkgamiejenaaaGreat

/- Reference 19: Owned. -/
namespace Go.Proofs.YtipkgamiejenaaaGreat
open Go Go.RowKit Go.MapKept
set_option linter.unusedVariables false
set_option linter.unusedSectionVars false
set_option linter.unusedSimpArgs false
set_option maxRecDepth 100000
set_option maxHeartbeats 4000000
section
variable (v : Value) (t : St.S) (K : Nat) (hI : St.Inv t K) (hK : K ≤ 1000000)
include hI hK
end
end Go.Proofs.YtipkgamiejenaaaGreat

/- Reference 19: Make. -/
namespace Go.Proofs.YtipkgamiejenaaaGreat
open Go Go.RowKit Go.MapKept
set_option linter.unusedVariables false
set_option linter.unusedSectionVars false
set_option linter.unusedSimpArgs false
set_option maxRecDepth 100000
set_option maxHeartbeats 4000000
structure RfK where
  k : Nat
  ca : Option Addr
  cc : Nat
  xa : Option Addr
  xc : Nat
  wa : Option Addr
  wc : Nat
end Go.Proofs.YtipkgamiejenaaaGreat

/- A drawn region where one operation that only moves a value is taken ahead of all; then a head that only reads; the rest comes up in one order. -/
namespace Go.Proofs.YtipkgamiejenaaaGreat
open Go Go.RowKit Go.MapKept
set_option linter.unusedVariables false
set_option linter.unusedSectionVars false
set_option linter.unusedSimpArgs false

def seqL (md : Region.Mode) (ops : Array Oper) : List Nat → Array Bool → Bool
  | [], l => (Region.ready md ops l).isEmpty
  | i :: is, l => decide (Region.ready md ops l = [i]) && seqL md ops is (l.setIfInBounds i true)
section
variable {P : Program} {n : Nat} {ops : Array Oper} {md : Region.Mode} {F : List HProp} {Z : Act → Prop} {Q : Exit → Act → World → Prop} {env : Env} {ty : TypeId} {pos : String} {aft : Array Edge}
def nthO : List Oper → Nat → Option Oper
  | [], _ => none
  | a :: l, n => bif Nat.beq n 0 then some a else nthO l (n - 1)
theorem nthO_eq : ∀ (l : List Oper) (n : Nat), nthO l n = l[n]?
  | [], n => by simp [nthO]
  | a :: l, 0 => rfl
  | a :: l, n + 1 => by
    show (bif Nat.beq (n + 1) 0 then some a else nthO l (n + 1 - 1)) = _
    rw [show Nat.beq (n + 1) 0 = false from rfl, cond_false, Nat.add_sub_cancel, nthO_eq l n]; rfl
theorem nthO_arr {l : List Oper} {o : Nat} {u : Oper} (h : nthO l o = some u) : l.toArray[o]? = some u := by rw [nthO_eq] at h; simpa using h
inductive PickIs (l : List Oper) : List Nat → List Oper → Prop where
  | nil : PickIs l [] []
  | cons {i : Nat} {o : Oper} {is : List Nat} {os : List Oper} (h : nthO l i = some o) (t : PickIs l is os) : PickIs l (i :: is) (o :: os)
theorem PickIs.eq {l : List Oper} {is : List Nat} {os : List Oper} (h : PickIs l is os) : (is.map fun i => l.toArray[i]?) = os.map some := by
  induction h with
  | nil => rfl
  | cons h t ih => rw [List.map_cons, List.map_cons, ih, nthO_arr h]
/-- A walk stands here. -/
structure GStop (p : Prop) : Prop where
  out : p
end
end Go.Proofs.YtipkgamiejenaaaGreat

/- Reference 19: Take. -/
namespace Go.Proofs.YtipkgamiejenaaaGreat
open Go Go.RowKit Go.MapKept
set_option linter.unusedVariables false
set_option linter.unusedSimpArgs false
set_option maxRecDepth 100000
set_option maxHeartbeats 4000000
section
variable (v : Value) (t : St.S) (K : Nat) (hI : St.Inv t K) (hK : K ≤ 1000000)
include hI hK
end
end Go.Proofs.YtipkgamiejenaaaGreat

/- Reference 19: Step. -/
namespace Go.Proofs.YtipkgamiejenaaaGreat
open Go Go.RowKit Go.MapKept
set_option linter.unusedVariables false
set_option linter.unusedSectionVars false
set_option linter.unusedSimpArgs false
set_option maxRecDepth 100000
set_option maxHeartbeats 4000000
section
variable (v : Value) (t : St.S) (K : Nat) (hI : St.Inv t K) (hK : K ≤ 1000000)
include hI hK
end
end Go.Proofs.YtipkgamiejenaaaGreat

/- The law StorePlays of chapter 19: a call on both. -/
namespace Go.Proofs.YtipkgamiejenaaaGreat
open Go Go.RowKit Go.MapKept
set_option linter.unusedVariables false
set_option linter.unusedSectionVars false
set_option linter.unusedSimpArgs false
set_option maxRecDepth 100000
set_option maxHeartbeats 4000000
section
variable {P : Program} {n : Nat} {env : Env} {F : List HProp} {xT yT : TypeId} {x y : Operand}
theorem Runs.strEqR {l : List UInt8} (hx : opnd env x = some (.string (bs l))) (hy : opnd env y = some (.string (bs l))) : Runs P n env F (.binOp .eql xT x y yT) (.bool true) := by
  have := Runs.strEq (P := P) (n := n) (F := F) (xT := xT) (yT := yT) hx hy
  rwa [decide_eq_true rfl] at this
end
def St.act (t : St.S) (a : ActM) : St.S :=
  if a.kd = 0 then (St.take t a.ow).1 else if a.kd = 1 then (St.give t a.i a.ow).1 else if a.kd = 2 then (St.start t a.i).1 else if a.kd = 3 then (St.step t a.i a.n).1 else if a.kd = 4 then t else (St.put t a.i a.ge a.at_ a.tx).1
section
variable (sb : Nat) (v : Value) (t : St.S) (K : Nat) (hI : St.Inv t K) (hK : K ≤ 1000000)
include hI hK
end
end Go.Proofs.YtipkgamiejenaaaGreat

/- The law StorePlays of chapter 19: reference 10's Dirty; what both tell of a chunk; rows that are alike. -/
namespace Go.Proofs.YtipkgamiejenaaaGreat
open Go Go.RowKit Go.MapKept
set_option linter.unusedVariables false
set_option linter.unusedSectionVars false
set_option linter.unusedSimpArgs false
set_option maxRecDepth 100000
set_option maxHeartbeats 4000000
def dirt (b : List UInt8) : Nat := (b.filter fun y => decide (y ≠ 0)).length
instance {c : ChunkM} : IntsL (encCk c) [c.phase, c.owner, c.gen] := ⟨rfl⟩
theorem ChunkM.ext3 {a b : ChunkM} : a = b ↔ a.phase = b.phase ∧ a.owner = b.owner ∧ a.gen = b.gen := by
  cases a; cases b; simp
instance : DecidableEq ChunkM := fun a b => decidable_of_iff _ ChunkM.ext3.symm
section
variable (sb : Nat) (v : Value) (t : St.S) (K : Nat) (hI : St.Inv t K) (hK : K ≤ 1000000)
include hI hK
end
end Go.Proofs.YtipkgamiejenaaaGreat

/- The law StorePlays of chapter 19. -/
namespace Go.Proofs.YtipkgamiejenaaaGreat
open Go Go.RowKit Go.MapKept
set_option linter.unusedVariables false
set_option linter.unusedSectionVars false
set_option linter.unusedSimpArgs false
set_option maxRecDepth 100000
set_option maxHeartbeats 4000000
structure PlS where
  i : Nat
  t : St.S
  q : RfM
def tup0 : Value → Value
  | .tuple t => t.getD 0 undef
  | v => v
def ActR (t : St.S) (u : Value) : Prop := ∃ q : RfM, u = .tuple #[.agg #[.int .i64 ((t).size : Nat), .slice (q).ca (t).ch.length (q).cc, .slice (q).xa (t).tx.length (q).xc, .slice (q).wa (t).wi.length (q).wc, .slice (q).sa (t).stack.length (q).sc, .int .i64 (q).e0, .int .i64 (q).e1, .int .i64 (q).e2, .int .i64 (q).e3], .bool true]
theorem ActR.defd {t : St.S} {u : Value} (h : ActR t u) : isUndef u = false := by obtain ⟨q, rfl⟩ := h; rfl
def actP (sb : Nat) (t : St.S) (u : Value) : HProp := sep [storeP sb t, refS (tup0 u) t]
def actQ (sb : Nat) (t : St.S) (b : Nat) : HProp := fun f => ∃ q : RfM, sep [blk b (.cells #[.int .i64 ((t).size : Nat), .slice (q).ca (t).ch.length (q).cc, .slice (q).xa (t).tx.length (q).xc, .slice (q).wa (t).wi.length (q).wc, .slice (q).sa (t).stack.length (q).sc, .int .i64 (q).e0, .int .i64 (q).e1, .int .i64 (q).e2, .int .i64 (q).e3] 34 (0, 0)), storeP sb t, refS (.agg #[.int .i64 ((t).size : Nat), .slice (q).ca (t).ch.length (q).cc, .slice (q).xa (t).tx.length (q).xc, .slice (q).wa (t).wi.length (q).wc, .slice (q).sa (t).stack.length (q).sc, .int .i64 (q).e0, .int .i64 (q).e1, .int .i64 (q).e2, .int .i64 (q).e3]) t] f
theorem St.Inv.act {t : St.S} {K : Nat} (h : St.Inv t K) (a : ActM) : St.Inv (St.act t a) (K + 1) := by
  unfold St.act
  split; exact h.take _
  split; exact h.give _ _
  split; exact h.start _
  split; exact h.step _ _
  split; exact h.mono (by omega)
  exact h.put _ _ _ _
theorem actQ.shut {w : World} {sb b : Nat} {t : St.S} {q : RfM} {G : List HProp} (h : holds w (blk b (.cells #[.int .i64 ((t).size : Nat), .slice (q).ca (t).ch.length (q).cc, .slice (q).xa (t).tx.length (q).xc, .slice (q).wa (t).wi.length (q).wc, .slice (q).sa (t).stack.length (q).sc, .int .i64 (q).e0, .int .i64 (q).e1, .int .i64 (q).e2, .int .i64 (q).e3] 34 (0, 0)) :: ([actP sb t (.tuple #[.agg #[.int .i64 ((t).size : Nat), .slice (q).ca (t).ch.length (q).cc, .slice (q).xa (t).tx.length (q).xc, .slice (q).wa (t).wi.length (q).wc, .slice (q).sa (t).stack.length (q).sc, .int .i64 (q).e0, .int .i64 (q).e1, .int .i64 (q).e2, .int .i64 (q).e3], .bool true])] ++ G))) : holds w (actQ sb t b :: G) := by
  have h2 : holds w (storeP sb t :: refS (.agg #[.int .i64 ((t).size : Nat), .slice (q).ca (t).ch.length (q).cc, .slice (q).xa (t).tx.length (q).xc, .slice (q).wa (t).wi.length (q).wc, .slice (q).sa (t).stack.length (q).sc, .int .i64 (q).e0, .int .i64 (q).e1, .int .i64 (q).e2, .int .i64 (q).e3]) t :: blk b (.cells #[.int .i64 ((t).size : Nat), .slice (q).ca (t).ch.length (q).cc, .slice (q).xa (t).tx.length (q).xc, .slice (q).wa (t).wi.length (q).wc, .slice (q).sa (t).stack.length (q).sc, .int .i64 (q).e0, .int .i64 (q).e1, .int .i64 (q).e2, .int .i64 (q).e3] 34 (0, 0)) :: G) := holds_sep.1 (show holds w (sep [storeP sb t, refS (.agg #[.int .i64 ((t).size : Nat), .slice (q).ca (t).ch.length (q).cc, .slice (q).xa (t).tx.length (q).xc, .slice (q).wa (t).wi.length (q).wc, .slice (q).sa (t).stack.length (q).sc, .int .i64 (q).e0, .int .i64 (q).e1, .int .i64 (q).e2, .int .i64 (q).e3]) t] :: blk b (.cells #[.int .i64 ((t).size : Nat), .slice (q).ca (t).ch.length (q).cc, .slice (q).xa (t).tx.length (q).xc, .slice (q).wa (t).wi.length (q).wc, .slice (q).sa (t).stack.length (q).sc, .int .i64 (q).e0, .int .i64 (q).e1, .int .i64 (q).e2, .int .i64 (q).e3] 34 (0, 0)) :: G) from (show holds w (blk b (.cells #[.int .i64 ((t).size : Nat), .slice (q).ca (t).ch.length (q).cc, .slice (q).xa (t).tx.length (q).xc, .slice (q).wa (t).wi.length (q).wc, .slice (q).sa (t).stack.length (q).sc, .int .i64 (q).e0, .int .i64 (q).e1, .int .i64 (q).e2, .int .i64 (q).e3] 34 (0, 0)) :: sep [storeP sb t, refS (.agg #[.int .i64 ((t).size : Nat), .slice (q).ca (t).ch.length (q).cc, .slice (q).xa (t).tx.length (q).xc, .slice (q).wa (t).wi.length (q).wc, .slice (q).sa (t).stack.length (q).sc, .int .i64 (q).e0, .int .i64 (q).e1, .int .i64 (q).e2, .int .i64 (q).e3]) t] :: G) from h).order [1, 0])
  exact (holds_sep.2 (show holds w ([blk b (.cells #[.int .i64 ((t).size : Nat), .slice (q).ca (t).ch.length (q).cc, .slice (q).xa (t).tx.length (q).xc, .slice (q).wa (t).wi.length (q).wc, .slice (q).sa (t).stack.length (q).sc, .int .i64 (q).e0, .int .i64 (q).e1, .int .i64 (q).e2, .int .i64 (q).e3] 34 (0, 0)), storeP sb t, refS (.agg #[.int .i64 ((t).size : Nat), .slice (q).ca (t).ch.length (q).cc, .slice (q).xa (t).tx.length (q).xc, .slice (q).wa (t).wi.length (q).wc, .slice (q).sa (t).stack.length (q).sc, .int .i64 (q).e0, .int .i64 (q).e1, .int .i64 (q).e2, .int .i64 (q).e3]) t] ++ G) from h2.order [2, 0, 1])).mono fun f hf => ⟨q, hf⟩
theorem actQ.open {w : World} {sb b : Nat} {t : St.S} {G : List HProp} (h : holds w (actQ sb t b :: G)) : ∃ q : RfM, holds w (blk b (.cells #[.int .i64 ((t).size : Nat), .slice (q).ca (t).ch.length (q).cc, .slice (q).xa (t).tx.length (q).xc, .slice (q).wa (t).wi.length (q).wc, .slice (q).sa (t).stack.length (q).sc, .int .i64 (q).e0, .int .i64 (q).e1, .int .i64 (q).e2, .int .i64 (q).e3] 34 (0, 0)) :: storeP sb t :: refS (.agg #[.int .i64 ((t).size : Nat), .slice (q).ca (t).ch.length (q).cc, .slice (q).xa (t).tx.length (q).xc, .slice (q).wa (t).wi.length (q).wc, .slice (q).sa (t).stack.length (q).sc, .int .i64 (q).e0, .int .i64 (q).e1, .int .i64 (q).e2, .int .i64 (q).e3]) t :: G) := by
  obtain ⟨q, h⟩ := holds.open_ex h
  exact ⟨q, holds_sep.1 h⟩
end Go.Proofs.YtipkgamiejenaaaGreat

/- Reference 42. -/
namespace Go.Proofs.YtipkgamiejenaaaGreat
open Go Go.RowKit Go.MapKept
set_option linter.unusedVariables false
set_option linter.unusedSectionVars false
set_option linter.unusedSimpArgs false
set_option maxRecDepth 100000
set_option maxHeartbeats 4000000
section
variable (v : Value) (l : List LaidM) (hl : l.length < 1099511627776) (x : Int) (hx : x < 9223372036854775808) (f : LaidM × Int) (hfe : f = Live.find l x) (hf : Me.Fits f)
include hl hx hfe hf
variable (rv : Value) (t : St.S) (K : Nat) (hI : St.Inv t K) (hK : K ≤ 1000000)
include hI hK
end
end Go.Proofs.YtipkgamiejenaaaGreat

/- Contracts of the reference of chapter 41: Add. -/
namespace Go.Proofs.YtipkgamiejenaaaGreat
open Go Go.RowKit Go.MapKept
set_option linter.unusedVariables false
set_option linter.unusedSimpArgs false
set_option maxRecDepth 100000
set_option maxHeartbeats 4000000

namespace Live
abbrev Bad (x : LaidM) : Prop := ¬ (Hdl.put 3 x.chunk x.gen x.pos).2 = 0 ∨ x.len < 1 ∨ 1048576 < x.len ∨ x.region < 0
abbrev Old (x y : LaidM) : Prop := y.chunk = x.chunk ∧ ¬ y.gen = x.gen
abbrev Twice (x y : LaidM) : Prop := y.chunk = x.chunk ∧ Spn.Meet ⟨y.pos, y.len⟩ ⟨x.pos, x.len⟩
abbrev Less (x y : LaidM) : Prop := y.chunk < x.chunk ∨ y.chunk = x.chunk ∧ y.pos < x.pos
end Live
end Go.Proofs.YtipkgamiejenaaaGreat

/- Contracts of the reference of chapter 41: Add that adds. (Under way: does not build yet.) -/
namespace Go.Proofs.YtipkgamiejenaaaGreat
open Go Go.RowKit Go.MapKept
set_option linter.unusedVariables false
set_option linter.unusedSimpArgs false
set_option maxRecDepth 100000
set_option maxHeartbeats 4000000

namespace Live
/-- The place that the reference finds for x. -/
structure IsPlace (l : List LaidM) (x : LaidM) (n a : Nat) : Prop where
  le : a ≤ n
  up : ∀ (j : Nat) (h : j < l.length), j < n → Less x l[j] → j < a
  at_ : ∀ (h : a - 1 < l.length), 0 < a → Less x l[a - 1]
theorem IsPlace.zero (l : List LaidM) (x : LaidM) : IsPlace l x 0 0 := ⟨Nat.le_refl _, fun j h hj => absurd hj (Nat.not_lt_zero j), fun h h0 => absurd h0 (Nat.lt_irrefl 0)⟩
theorem IsPlace.yes {l : List LaidM} {x : LaidM} {k a : Nat} (hp : IsPlace l x k a) (h : k < l.length) (hc : Less x l[k]) : IsPlace l x (k + 1) (k + 1) :=
  ⟨Nat.le_refl _, fun j h hj _ => hj, fun h0 h1 => by simpa using hc⟩
theorem IsPlace.no {l : List LaidM} {x : LaidM} {k a : Nat} (hp : IsPlace l x k a) (h : k < l.length) (hc : ¬ Less x l[k]) : IsPlace l x (k + 1) a :=
  ⟨Nat.le_succ_of_le hp.le, fun j hj hjk hl => by
    rcases Nat.lt_or_ge j k with h1 | h1
    · exact hp.up j hj h1 hl
    · obtain rfl : j = k := by omega
      exact absurd hl hc, hp.at_⟩
end Live
end Go.Proofs.YtipkgamiejenaaaGreat

/- Whole numbers, ascending: plain. -/
namespace Go.Proofs.YtipkgamiejenaaaGreat
open Go Go.RowKit Go.MapKept

/-- The keys of a map, ascending. -/
def sortInts (l : List Int) : List Int := l.mergeSort (fun x y => decide (x ≤ y))
end Go.Proofs.YtipkgamiejenaaaGreat
