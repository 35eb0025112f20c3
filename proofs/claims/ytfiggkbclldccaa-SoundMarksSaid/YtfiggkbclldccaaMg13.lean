import Derived.Test.YtfiggkbclldccaaMg10
import Derived.DeepKeys4
import Derived.Test.YtfiggkbclldccaaMg5
/- Which chunks are not the same: the walks. -/
namespace Go.Proofs.Ytfiggkbclldccaa
open Go Go.RowKit Go.MapKept
set_option linter.unusedVariables false
set_option linter.unusedSimpArgs false
set_option maxRecDepth 100000
set_option maxHeartbeats 2000000
theorem base_SameIntsT (v u : Value) (l m : List Int) (hn : l.length ≤ 1048576) (hm : m.length ≤ 1048576) (w : World) (F : List HProp) [Reads F v encI1 1 l] [Reads F u encI1 1 m] (hw : holds w F) :
    Ct Try.prog 13 #[v, u] w fun e w' => e = .returned (.bool (decide (l = m))) ∧ holds w' F := by
  refine Ct.go (args := [v, u]) Try.func13 rfl rfl rfl hw ?_
  repeat' (first | (apply GL.isAny; first | refine GL.runA rfl ?_ | (apply GL.isStore; first | refine GL.storeBlk rfl rfl rfl rfl rfl ?_ | refine GL.storeWhole rfl rfl rfl rfl rfl ?_ | refine GL.storeBlkA rfl rfl rfl rfl rfl ?_) | refine GL.guardY rfl rfl ?_ | refine GL.guardN rfl rfl rfl ?_ | refine GL.guardU rfl rfl rfl ?_ | (apply GL.isBox; first | refine GL.boxA rfl rfl (fun _ => ?_) | refine GL.box1 rfl rfl rfl (fun _ => ?_) | refine GL.box rfl rfl (fun _ => ?_)) | (apply GL.isBuildS; first | refine GL.buildSlice1A rfl rfl rfl rfl rfl (fun _ => ?_) | refine GL.buildSlice1 rfl rfl rfl rfl rfl (fun _ => ?_)) | (apply GL.isCall; refine GL.append1 _ rfl rfl rfl rfl (by rfl) (by omega) (by omega) rfl (fun _ => ?_)) | (apply GL.isAlloc; refine GL.alloc rfl (fun _ => ?_))) | apply GL.nil | first | apply G.seq | apply G.region | apply G.block | apply G.skip | apply G.exit | apply G.ret | (apply G.isCond; first | refine G.condT rfl ?_ | refine G.condF rfl ?_) | refine G.draw (by kernel_rfl) (by kernel_rfl) ?_ | (apply GE.isAny; first | apply GE.again | apply GE.thenG | apply GE.blockN | apply GE.blockE | apply GE.thenE | apply GE.thenR | apply GE.blockR | refine GE.blockO rfl ?_ | apply GE.only) | (apply GD.isAny; first | refine GD.runA rfl ?_ | refine GD.guardY rfl rfl ?_ | refine GD.guardN rfl rfl rfl ?_ | refine GD.guardU rfl rfl rfl ?_) | apply GD.nilE | apply GD.nilL | (apply GT.isAny; refine GT.runA rfl rfl ?_) | ((first | (apply GL.isAny; refine GL.guard rfl rfl (fun hc => ?_) (fun hc => ?_)) | (apply G.isCond; refine G.cond rfl (fun hc => ?_) (fun hc => ?_)) | (apply GD.isAny; refine GD.guard rfl rfl (fun hc => ?_) (fun hc => ?_))) <;> ((try simp only [decide_eq_true_eq, decide_eq_false_iff_not, Bool.not_true, Bool.not_false, ne_eq, Classical.not_not, Int.not_lt, Int.not_le] at hc); (try (exfalso; first | omega | exact hc trivial | exact hc rfl)))))
  · refine GE.resOne rfl (by (repeat (first | apply Res.nil | (apply Res.tmp; rfl) | (refine Res.cellA rfl rfl rfl ?_) | (refine Res.cell1 rfl rfl ?_)))) (fun w h => ?_)
    rw [decide_eq_false (fun e => by subst e; omega)]
    exact ⟨rfl, h.sub⟩
  refine G.loop (α := Nat) (fun i => [(0, v), (1, u), (5, .int .i64 i)]) (fun i => F) (fun i => i ≤ l.length ∧ l.take i = m.take i) (fun i => l.length - i) 0 ⟨by omega, by simp⟩ ⟨rfl, rfl, rfl, trivial⟩ (fun w h => h) ?_
  rintro i ⟨hi, hlo⟩
  repeat' (first | (apply GL.isAny; first | refine GL.runA rfl ?_ | (apply GL.isStore; first | refine GL.storeBlk rfl rfl rfl rfl rfl ?_ | refine GL.storeWhole rfl rfl rfl rfl rfl ?_ | refine GL.storeBlkA rfl rfl rfl rfl rfl ?_) | refine GL.guardY rfl rfl ?_ | refine GL.guardN rfl rfl rfl ?_ | refine GL.guardU rfl rfl rfl ?_ | (apply GL.isBox; first | refine GL.boxA rfl rfl (fun _ => ?_) | refine GL.box1 rfl rfl rfl (fun _ => ?_) | refine GL.box rfl rfl (fun _ => ?_)) | (apply GL.isBuildS; first | refine GL.buildSlice1A rfl rfl rfl rfl rfl (fun _ => ?_) | refine GL.buildSlice1 rfl rfl rfl rfl rfl (fun _ => ?_)) | (apply GL.isCall; refine GL.append1 _ rfl rfl rfl rfl (by rfl) (by omega) (by omega) rfl (fun _ => ?_)) | (apply GL.isAlloc; refine GL.alloc rfl (fun _ => ?_))) | apply GL.nil | first | apply G.seq | apply G.region | apply G.block | apply G.skip | apply G.exit | apply G.ret | (apply G.isCond; first | refine G.condT rfl ?_ | refine G.condF rfl ?_) | refine G.draw (by kernel_rfl) (by kernel_rfl) ?_ | (apply GE.isAny; first | apply GE.again | apply GE.thenG | apply GE.blockN | apply GE.blockE | apply GE.thenE | apply GE.thenR | apply GE.blockR | refine GE.blockO rfl ?_ | apply GE.only) | (apply GD.isAny; first | refine GD.runA rfl ?_ | refine GD.guardY rfl rfl ?_ | refine GD.guardN rfl rfl rfl ?_ | refine GD.guardU rfl rfl rfl ?_) | apply GD.nilE | apply GD.nilL | (apply GT.isAny; refine GT.runA rfl rfl ?_) | ((first | (apply GL.isAny; refine GL.guard rfl rfl (fun hc => ?_) (fun hc => ?_)) | (apply G.isCond; refine G.cond rfl (fun hc => ?_) (fun hc => ?_)) | (apply GD.isAny; refine GD.guard rfl rfl (fun hc => ?_) (fun hc => ?_))) <;> ((try simp only [decide_eq_true_eq, decide_eq_false_iff_not, Bool.not_true, Bool.not_false, ne_eq, Classical.not_not, Int.not_lt, Int.not_le] at hc); (try (exfalso; first | omega | exact hc trivial | exact hc rfl)))))
  · refine GE.resOne rfl (by (repeat (first | apply Res.nil | (apply Res.tmp; rfl) | (refine Res.cellA rfl rfl rfl ?_) | (refine Res.cell1 rfl rfl ?_)))) (fun w h => ?_)
    rename_i hc1 _ _ _ _
    rw [decide_eq_false (fun e => by subst e; exact hc rfl)]
    exact ⟨rfl, h.sub⟩
  · refine GE.round (i + 1) ⟨by omega, ?_⟩ ⟨rfl, rfl, rfl, trivial⟩ (fun w h => h.sub) (by omega)
    rw [List.take_succ_eq_append_getElem (by omega), List.take_succ_eq_append_getElem (by omega), hlo, hc]
  · refine GE.resOne rfl (by (repeat (first | apply Res.nil | (apply Res.tmp; rfl) | (refine Res.cellA rfl rfl rfl ?_) | (refine Res.cell1 rfl rfl ?_)))) (fun w h => ?_)
    rw [List.take_of_length_le (by omega), List.take_of_length_le (by omega)] at hlo
    rw [decide_eq_true hlo]
    exact ⟨rfl, h.sub⟩
theorem LaidM.ext_iff2 {a b : LaidM} : a = b ↔ a.chunk = b.chunk ∧ a.gen = b.gen ∧ a.region = b.region ∧ a.pos = b.pos ∧ a.len = b.len := by
  cases a; cases b; simp
theorem base_SameLaidT (va vb : Value) (la lb : List LaidM) (hl : la.length ≤ 1099511627776) (hl2 : lb.length ≤ 1099511627776) (w : World) (F : List HProp) [Reads F va encLaid 5 la] [Reads F vb encLaid 5 lb] (hw : holds w F) :
    Ct Try.prog 16 #[va, vb] w fun e w' => e = .returned (.bool (decide (la = lb))) ∧ holds w' F := by
  refine Ct.go (args := [va, vb]) Try.func16 rfl rfl rfl hw ?_
  by_cases hlen : la.length = lb.length
  · repeat' (first | (apply GL.isAny; first | refine GL.runA rfl ?_ | (apply GL.isStore; first | refine GL.storeBlk rfl rfl rfl rfl rfl ?_ | refine GL.storeWhole rfl rfl rfl rfl rfl ?_ | refine GL.storeBlkA rfl rfl rfl rfl rfl ?_) | refine GL.guardY rfl rfl ?_ | refine GL.guardN rfl rfl rfl ?_ | refine GL.guardU rfl rfl rfl ?_ | (apply GL.isBox; first | refine GL.boxA rfl rfl (fun _ => ?_) | refine GL.box1 rfl rfl rfl (fun _ => ?_) | refine GL.box rfl rfl (fun _ => ?_)) | (apply GL.isBuildS; first | refine GL.buildSlice1A rfl rfl rfl rfl rfl (fun _ => ?_) | refine GL.buildSlice1 rfl rfl rfl rfl rfl (fun _ => ?_)) | (apply GL.isCall; refine GL.append1 _ rfl rfl rfl rfl (by rfl) (by omega) (by omega) rfl (fun _ => ?_)) | (apply GL.isAlloc; refine GL.alloc rfl (fun _ => ?_))) | apply GL.nil | first | apply G.seq | apply G.region | apply G.block | apply G.skip | apply G.exit | apply G.ret | (apply G.isCond; first | refine G.condT rfl ?_ | refine G.condF rfl ?_) | refine G.draw (by kernel_rfl) (by kernel_rfl) ?_ | (apply GE.isAny; first | apply GE.again | apply GE.thenG | apply GE.blockN | apply GE.blockE | apply GE.thenE | apply GE.thenR | apply GE.blockR | refine GE.blockO rfl ?_ | apply GE.only) | (apply GD.isAny; first | refine GD.runA rfl ?_ | refine GD.guardY rfl rfl ?_ | refine GD.guardN rfl rfl rfl ?_ | refine GD.guardU rfl rfl rfl ?_) | apply GD.nilE | apply GD.nilL | (apply GT.isAny; refine GT.runA rfl rfl ?_) | ((first | (apply GL.isAny; refine GL.guard rfl rfl (fun hc => ?_) (fun hc => ?_)) | (apply G.isCond; refine G.cond rfl (fun hc => ?_) (fun hc => ?_)) | (apply GD.isAny; refine GD.guard rfl rfl (fun hc => ?_) (fun hc => ?_))) <;> ((try simp only [decide_eq_true_eq, decide_eq_false_iff_not, Bool.not_true, Bool.not_false, ne_eq, Classical.not_not, Int.not_lt, Int.not_le] at hc); (try (exfalso; first | omega | exact hc trivial | exact hc rfl)))))
    refine G.loop (α := Nat) (fun k => [(0, va), (1, vb), (5, .int .i64 k)]) (fun k => F) (fun k => k ≤ la.length ∧ la.take k = lb.take k) (fun k => la.length - k) 0 ⟨Nat.zero_le _, rfl⟩ ⟨rfl, rfl, rfl, trivial⟩ (fun w h => h) ?_
    rintro k ⟨hk, hn⟩
    by_cases hlt : k < la.length
    · have hlt2 : k < lb.length := by omega
      repeat' (first | (apply GL.isAny; first | refine GL.runA rfl ?_ | (apply GL.isStore; first | refine GL.storeBlk rfl rfl rfl rfl rfl ?_ | refine GL.storeWhole rfl rfl rfl rfl rfl ?_ | refine GL.storeBlkA rfl rfl rfl rfl rfl ?_) | refine GL.guardY rfl rfl ?_ | refine GL.guardN rfl rfl rfl ?_ | refine GL.guardU rfl rfl rfl ?_ | (apply GL.isBox; first | refine GL.boxA rfl rfl (fun _ => ?_) | refine GL.box1 rfl rfl rfl (fun _ => ?_) | refine GL.box rfl rfl (fun _ => ?_)) | (apply GL.isBuildS; first | refine GL.buildSlice1A rfl rfl rfl rfl rfl (fun _ => ?_) | refine GL.buildSlice1 rfl rfl rfl rfl rfl (fun _ => ?_)) | (apply GL.isCall; refine GL.append1 _ rfl rfl rfl rfl (by rfl) (by omega) (by omega) rfl (fun _ => ?_)) | (apply GL.isAlloc; refine GL.alloc rfl (fun _ => ?_))) | apply GL.nil | first | apply G.seq | apply G.region | apply G.block | apply G.skip | apply G.exit | apply G.ret | (apply G.isCond; first | refine G.condT rfl ?_ | refine G.condF rfl ?_) | refine G.draw (by kernel_rfl) (by kernel_rfl) ?_ | (apply GE.isAny; first | apply GE.again | apply GE.thenG | apply GE.blockN | apply GE.blockE | apply GE.thenE | apply GE.thenR | apply GE.blockR | refine GE.blockO rfl ?_ | apply GE.only) | (apply GD.isAny; first | refine GD.runA rfl ?_ | refine GD.guardY rfl rfl ?_ | refine GD.guardN rfl rfl rfl ?_ | refine GD.guardU rfl rfl rfl ?_) | apply GD.nilE | apply GD.nilL | (apply GT.isAny; refine GT.runA rfl rfl ?_) | ((first | (apply GL.isAny; refine GL.guard rfl rfl (fun hc => ?_) (fun hc => ?_)) | (apply G.isCond; refine G.cond rfl (fun hc => ?_) (fun hc => ?_)) | (apply GD.isAny; refine GD.guard rfl rfl (fun hc => ?_) (fun hc => ?_))) <;> ((try simp only [decide_eq_true_eq, decide_eq_false_iff_not, Bool.not_true, Bool.not_false, ne_eq, Classical.not_not, Int.not_lt, Int.not_le] at hc); (try (exfalso; first | omega | exact hc trivial | exact hc rfl)))))
      · refine GE.resOne rfl (by (repeat (first | apply Res.nil | (apply Res.tmp; rfl) | (refine Res.cellA rfl rfl rfl ?_) | (refine Res.cell1 rfl rfl ?_)))) (fun w h => ?_)
        refine ⟨?_, h.sub⟩
        have hne : ¬ la = lb := fun e => by subst e; simp at hc
        rw [decide_eq_false hne]
      · have he : la[k] = lb[k] := by simpa [LaidM.ext_iff2] using hc
        exact GE.round (k + 1) ⟨by omega, by rw [List.take_succ_eq_append_getElem hlt, List.take_succ_eq_append_getElem hlt2, hn, he]⟩ ⟨rfl, rfl, rfl, trivial⟩ (fun w h => h.sub) (by omega)
    · repeat' (first | (apply GL.isAny; first | refine GL.runA rfl ?_ | (apply GL.isStore; first | refine GL.storeBlk rfl rfl rfl rfl rfl ?_ | refine GL.storeWhole rfl rfl rfl rfl rfl ?_ | refine GL.storeBlkA rfl rfl rfl rfl rfl ?_) | refine GL.guardY rfl rfl ?_ | refine GL.guardN rfl rfl rfl ?_ | refine GL.guardU rfl rfl rfl ?_ | (apply GL.isBox; first | refine GL.boxA rfl rfl (fun _ => ?_) | refine GL.box1 rfl rfl rfl (fun _ => ?_) | refine GL.box rfl rfl (fun _ => ?_)) | (apply GL.isBuildS; first | refine GL.buildSlice1A rfl rfl rfl rfl rfl (fun _ => ?_) | refine GL.buildSlice1 rfl rfl rfl rfl rfl (fun _ => ?_)) | (apply GL.isCall; refine GL.append1 _ rfl rfl rfl rfl (by rfl) (by omega) (by omega) rfl (fun _ => ?_)) | (apply GL.isAlloc; refine GL.alloc rfl (fun _ => ?_))) | apply GL.nil | first | apply G.seq | apply G.region | apply G.block | apply G.skip | apply G.exit | apply G.ret | (apply G.isCond; first | refine G.condT rfl ?_ | refine G.condF rfl ?_) | refine G.draw (by kernel_rfl) (by kernel_rfl) ?_ | (apply GE.isAny; first | apply GE.again | apply GE.thenG | apply GE.blockN | apply GE.blockE | apply GE.thenE | apply GE.thenR | apply GE.blockR | refine GE.blockO rfl ?_ | apply GE.only) | (apply GD.isAny; first | refine GD.runA rfl ?_ | refine GD.guardY rfl rfl ?_ | refine GD.guardN rfl rfl rfl ?_ | refine GD.guardU rfl rfl rfl ?_) | apply GD.nilE | apply GD.nilL | (apply GT.isAny; refine GT.runA rfl rfl ?_) | ((first | (apply GL.isAny; refine GL.guard rfl rfl (fun hc => ?_) (fun hc => ?_)) | (apply G.isCond; refine G.cond rfl (fun hc => ?_) (fun hc => ?_)) | (apply GD.isAny; refine GD.guard rfl rfl (fun hc => ?_) (fun hc => ?_))) <;> ((try simp only [decide_eq_true_eq, decide_eq_false_iff_not, Bool.not_true, Bool.not_false, ne_eq, Classical.not_not, Int.not_lt, Int.not_le] at hc); (try (exfalso; first | omega | exact hc trivial | exact hc rfl)))))
      refine GE.resOne rfl (by (repeat (first | apply Res.nil | (apply Res.tmp; rfl) | (refine Res.cellA rfl rfl rfl ?_) | (refine Res.cell1 rfl rfl ?_)))) (fun w h => ?_)
      obtain rfl : k = la.length := by omega
      rw [List.take_length, hlen, List.take_length] at hn
      subst hn
      exact ⟨by rw [decide_eq_true rfl], h.sub⟩
  · repeat' (first | (apply GL.isAny; first | refine GL.runA rfl ?_ | (apply GL.isStore; first | refine GL.storeBlk rfl rfl rfl rfl rfl ?_ | refine GL.storeWhole rfl rfl rfl rfl rfl ?_ | refine GL.storeBlkA rfl rfl rfl rfl rfl ?_) | refine GL.guardY rfl rfl ?_ | refine GL.guardN rfl rfl rfl ?_ | refine GL.guardU rfl rfl rfl ?_ | (apply GL.isBox; first | refine GL.boxA rfl rfl (fun _ => ?_) | refine GL.box1 rfl rfl rfl (fun _ => ?_) | refine GL.box rfl rfl (fun _ => ?_)) | (apply GL.isBuildS; first | refine GL.buildSlice1A rfl rfl rfl rfl rfl (fun _ => ?_) | refine GL.buildSlice1 rfl rfl rfl rfl rfl (fun _ => ?_)) | (apply GL.isCall; refine GL.append1 _ rfl rfl rfl rfl (by rfl) (by omega) (by omega) rfl (fun _ => ?_)) | (apply GL.isAlloc; refine GL.alloc rfl (fun _ => ?_))) | apply GL.nil | first | apply G.seq | apply G.region | apply G.block | apply G.skip | apply G.exit | apply G.ret | (apply G.isCond; first | refine G.condT rfl ?_ | refine G.condF rfl ?_) | refine G.draw (by kernel_rfl) (by kernel_rfl) ?_ | (apply GE.isAny; first | apply GE.again | apply GE.thenG | apply GE.blockN | apply GE.blockE | apply GE.thenE | apply GE.thenR | apply GE.blockR | refine GE.blockO rfl ?_ | apply GE.only) | (apply GD.isAny; first | refine GD.runA rfl ?_ | refine GD.guardY rfl rfl ?_ | refine GD.guardN rfl rfl rfl ?_ | refine GD.guardU rfl rfl rfl ?_) | apply GD.nilE | apply GD.nilL | (apply GT.isAny; refine GT.runA rfl rfl ?_) | ((first | (apply GL.isAny; refine GL.guard rfl rfl (fun hc => ?_) (fun hc => ?_)) | (apply G.isCond; refine G.cond rfl (fun hc => ?_) (fun hc => ?_)) | (apply GD.isAny; refine GD.guard rfl rfl (fun hc => ?_) (fun hc => ?_))) <;> ((try simp only [decide_eq_true_eq, decide_eq_false_iff_not, Bool.not_true, Bool.not_false, ne_eq, Classical.not_not, Int.not_lt, Int.not_le] at hc); (try (exfalso; first | omega | exact hc trivial | exact hc rfl)))))
    refine GE.resOne rfl (by (repeat (first | apply Res.nil | (apply Res.tmp; rfl) | (refine Res.cellA rfl rfl rfl ?_) | (refine Res.cell1 rfl rfl ?_)))) (fun w h => ?_)
    have hne : ¬ la = lb := fun e => hlen (by rw [e])
    exact ⟨by rw [decide_eq_false hne], h.sub⟩
instance {c : ChunkM} : IntsL (chunkCells c) [c.phase, c.owner, c.gen] := ⟨rfl⟩
namespace Snd
def differ (C D : List ChunkM) (i : Nat) : Bool := match C[i]?, D[i]? with
  | some c, some d => !decide ([c.phase, c.owner, c.gen] = [d.phase, d.owner, d.gen])
  | _, _ => true
def chg (C D : List ChunkM) (k : Nat) : List Int := ((List.range k).filter (differ C D)).map fun (i : Nat) => (i : Int)
def changed (C D : List ChunkM) : List Int := chg C D (max C.length D.length)
theorem chg_succ (C D : List ChunkM) (k : Nat) : chg C D (k + 1) = chg C D k ++ (if differ C D k then [(k : Int)] else []) := by
  unfold chg
  rw [List.range_succ, List.filter_append, List.map_append]
  congr 1
  cases h : differ C D k <;> simp [h]
theorem chg_len (C D : List ChunkM) (k : Nat) : (chg C D k).length ≤ k := by
  unfold chg
  rw [List.length_map]
  have := List.length_filter_le (differ C D) (List.range k)
  rwa [List.length_range] at this
theorem changed_self (C : List ChunkM) : changed C C = [] := by
  unfold changed chg
  rw [Nat.max_self, List.map_eq_nil_iff, List.filter_eq_nil_iff]
  intro i hi
  have hi := List.mem_range.1 hi
  simp [differ, List.getElem?_eq_getElem hi]
theorem differ_o1 {C D : List ChunkM} {i : Nat} (h : ¬ i < C.length) : differ C D i = true := by
  unfold differ; rw [List.getElem?_eq_none (by omega)]
theorem differ_o2 {C D : List ChunkM} {i : Nat} (h : ¬ i < D.length) : differ C D i = true := by
  unfold differ; rw [List.getElem?_eq_none (l := D) (by omega)]; cases C[i]? <;> rfl
theorem differ_in {C D : List ChunkM} {i : Nat} (h : i < C.length) (h2 : i < D.length) : differ C D i = !decide ([(C[i]).phase, (C[i]).owner, (C[i]).gen] = [(D[i]).phase, (D[i]).owner, (D[i]).gen]) := by
  unfold differ; rw [List.getElem?_eq_getElem h, List.getElem?_eq_getElem h2]
end Snd
section
variable (tk tk2 : Int) (ac aw am ap al ac2 aw2 am2 ap2 al2 : Option Addr) (kc kw km kp kl cc cw cm cp cl kc2 kw2 km2 kp2 kl2 cc2 cw2 cm2 cp2 cl2 : Nat) (C D : List ChunkM)
theorem sound_Changed (hC : C.length ≤ 100000) (hD : D.length ≤ 100000) (w : World) (F : List HProp) [hr1 : Reads F (.slice ac C.length cc) chunkCells 3 C] [hr2 : Reads F (.slice ac2 D.length cc2) chunkCells 3 D] (hw : holds w F) :
    Ct Try.prog 14 #[.agg (st5 tk ac aw am ap al C.length kw km kp kl cc cw cm cp cl), .agg (st5 tk2 ac2 aw2 am2 ap2 al2 D.length kw2 km2 kp2 kl2 cc2 cw2 cm2 cp2 cl2)] w fun e w' => ∃ v, e = .returned v ∧ holds w' (owns 3 encI1 1 v (Snd.changed C D) :: F) := by
  unfold Snd.changed
  refine Ct.go (args := [.agg (st5 tk ac aw am ap al C.length kw km kp kl cc cw cm cp cl), .agg (st5 tk2 ac2 aw2 am2 ap2 al2 D.length kw2 km2 kp2 kl2 cc2 cw2 cm2 cp2 cl2)]) Try.func14 rfl rfl rfl hw ?_
  repeat' (first | ((apply GL.isBox; first | refine GL.boxA rfl rfl (fun bx => ?_))) | first | (apply GL.isAny; first | refine GL.runA rfl ?_ | (apply GL.isStore; first | refine GL.storeBlk rfl rfl rfl rfl rfl ?_ | refine GL.storeWhole rfl rfl rfl rfl rfl ?_ | refine GL.storeBlkA rfl rfl rfl rfl rfl ?_) | refine GL.guardY rfl rfl ?_ | refine GL.guardN rfl rfl rfl ?_ | refine GL.guardU rfl rfl rfl ?_ | (apply GL.isBox; first | refine GL.boxA rfl rfl (fun _ => ?_) | refine GL.box1 rfl rfl rfl (fun _ => ?_) | refine GL.box rfl rfl (fun _ => ?_)) | (apply GL.isBuildS; first | refine GL.buildSlice1A rfl rfl rfl rfl rfl (fun _ => ?_) | refine GL.buildSlice1 rfl rfl rfl rfl rfl (fun _ => ?_)) | (apply GL.isCall; refine GL.append1 _ rfl rfl rfl rfl (by rfl) (by omega) (by omega) rfl (fun _ => ?_)) | (apply GL.isAlloc; refine GL.alloc rfl (fun _ => ?_))) | apply GL.nil | first | apply G.seq | apply G.region | apply G.block | apply G.skip | apply G.exit | apply G.ret | (apply G.isCond; first | refine G.condT rfl ?_ | refine G.condF rfl ?_) | refine G.draw (by kernel_rfl) (by kernel_rfl) ?_ | (apply GE.isAny; first | apply GE.again | apply GE.thenG | apply GE.blockN | apply GE.blockE | apply GE.thenE | apply GE.thenR | apply GE.blockR | refine GE.blockO rfl ?_ | apply GE.only) | (apply GD.isAny; first | refine GD.runA rfl ?_ | refine GD.guardY rfl rfl ?_ | refine GD.guardN rfl rfl rfl ?_ | refine GD.guardU rfl rfl rfl ?_) | apply GD.nilE | apply GD.nilL | (apply GT.isAny; refine GT.runA rfl rfl ?_) | ((first | (apply GL.isAny; refine GL.guard rfl rfl (fun hc => ?_) (fun hc => ?_)) | (apply G.isCond; refine G.cond rfl (fun hc => ?_) (fun hc => ?_)) | (apply GD.isAny; refine GD.guard rfl rfl (fun hc => ?_) (fun hc => ?_))) <;> ((try simp only [decide_eq_true_eq, decide_eq_false_iff_not, Bool.not_true, Bool.not_false, ne_eq, Classical.not_not, Int.not_lt, Int.not_le] at hc); (try (exfalso; first | omega | exact hc trivial | exact hc rfl)))))
  rename_i b1
  refine G.nilOwn 3 encI1 1 ?_
  refine G.loopK [2, 3, 13] (Nat × Value × List Int) (fun y => [(14, .int .i64 y.1), (5, y.2.1)]) (fun y => owns 3 encI1 1 y.2.1 y.2.2 :: blk bx (.cells (st5 tk2 ac2 aw2 am2 ap2 al2 D.length kw2 km2 kp2 kl2 cc2 cw2 cm2 cp2 cl2) 30 (0, 0)) :: blk b1 (.cells (st5 tk ac aw am ap al C.length kw km kp kl cc cw cm cp cl) 30 (0, 0)) :: F) (fun y => y.1 ≤ max C.length D.length ∧ y.2.2 = Snd.chg C D y.1) (fun y => max C.length D.length - y.1) ((0, .slice none 0 0, [])) (⟨Nat.zero_le _, rfl⟩) (by repeat (first | exact trivial | refine And.intro rfl ?_)) (fun w h => by (try dsimp only); first | exact h | exact h.sub | ((try simp only [List.take_zero, List.drop_zero, List.map_nil, List.nil_append, List.zipIdx_nil, List.filter_nil]); exact h.sub)) ?_
  rintro ⟨k, v, out⟩ ⟨hk, ho⟩
  dsimp only at hk ho ⊢
  have hs := Snd.chg_succ C D k
  have hl := Snd.chg_len C D k
  rw [← ho] at hs hl
  have hyes : Snd.differ C D k = true → Snd.chg C D (k + 1) = out ++ [(k : Int)] := fun e => by rw [hs, e]; rfl
  have hno : Snd.differ C D k = false → Snd.chg C D (k + 1) = out := fun e => by rw [hs, e]; exact List.append_nil _
  by_cases hlt : k < max C.length D.length
  · by_cases h1 : k < C.length
    · by_cases h2 : k < D.length
      · have hd := Snd.differ_in h1 h2
        repeat' (first | (refine GL.append1 ((k : Int)) rfl rfl rfl rfl (by rfl) (by omega) (by omega) rfl (fun _ => ?_)) | first | (apply GL.isAny; first | refine GL.runA rfl ?_ | (apply GL.isStore; first | refine GL.storeBlk rfl rfl rfl rfl rfl ?_ | refine GL.storeWhole rfl rfl rfl rfl rfl ?_ | refine GL.storeBlkA rfl rfl rfl rfl rfl ?_) | refine GL.guardY rfl rfl ?_ | refine GL.guardN rfl rfl rfl ?_ | refine GL.guardU rfl rfl rfl ?_ | (apply GL.isBox; first | refine GL.boxA rfl rfl (fun _ => ?_) | refine GL.box1 rfl rfl rfl (fun _ => ?_) | refine GL.box rfl rfl (fun _ => ?_)) | (apply GL.isBuildS; first | refine GL.buildSlice1A rfl rfl rfl rfl rfl (fun _ => ?_) | refine GL.buildSlice1 rfl rfl rfl rfl rfl (fun _ => ?_)) | (apply GL.isCall; refine GL.append1 _ rfl rfl rfl rfl (by rfl) (by omega) (by omega) rfl (fun _ => ?_)) | (apply GL.isAlloc; refine GL.alloc rfl (fun _ => ?_))) | apply GL.nil | first | apply G.seq | apply G.region | apply G.block | apply G.skip | apply G.exit | apply G.ret | (apply G.isCond; first | refine G.condT rfl ?_ | refine G.condF rfl ?_) | refine G.draw (by kernel_rfl) (by kernel_rfl) ?_ | (apply GE.isAny; first | apply GE.again | apply GE.thenG | apply GE.blockN | apply GE.blockE | apply GE.thenE | apply GE.thenR | apply GE.blockR | refine GE.blockO rfl ?_ | apply GE.only) | (apply GD.isAny; first | refine GD.runA rfl ?_ | refine GD.guardY rfl rfl ?_ | refine GD.guardN rfl rfl rfl ?_ | refine GD.guardU rfl rfl rfl ?_) | apply GD.nilE | apply GD.nilL | (apply GT.isAny; refine GT.runA rfl rfl ?_) | ((first | (apply GL.isAny; refine GL.guard rfl rfl (fun hc => ?_) (fun hc => ?_)) | (apply G.isCond; refine G.cond rfl (fun hc => ?_) (fun hc => ?_)) | (apply GD.isAny; refine GD.guard rfl rfl (fun hc => ?_) (fun hc => ?_))) <;> ((try simp only [decide_eq_true_eq, decide_eq_false_iff_not, Bool.not_true, Bool.not_false, ne_eq, Classical.not_not, Int.not_lt, Int.not_le] at hc); (try (exfalso; first | omega | exact hc trivial | exact hc rfl)))))
        all_goals (first | (exfalso; omega) | (exfalso; simp at hc; omega) | (refine GE.round ((k + 1, v, out)) (⟨by dsimp only; omega, (hno (hd.trans hc)).symm⟩) (by repeat (first | exact trivial | refine And.intro rfl ?_)) (fun w h => by (try dsimp only); exact h.sub) (by (try dsimp only); omega)) | (rename_i v1; refine GE.round ((k + 1, v1, out ++ [(k : Int)])) (⟨by dsimp only; omega, (hyes (hd.trans hc)).symm⟩) (by repeat (first | exact trivial | refine And.intro rfl ?_)) (fun w h => by (try dsimp only); exact h.sub) (by (try dsimp only); omega)))
      · have hd := Snd.differ_o2 (C := C) h2
        repeat' (first | (refine GL.append1 ((k : Int)) rfl rfl rfl rfl (by rfl) (by omega) (by omega) rfl (fun _ => ?_)) | first | (apply GL.isAny; first | refine GL.runA rfl ?_ | (apply GL.isStore; first | refine GL.storeBlk rfl rfl rfl rfl rfl ?_ | refine GL.storeWhole rfl rfl rfl rfl rfl ?_ | refine GL.storeBlkA rfl rfl rfl rfl rfl ?_) | refine GL.guardY rfl rfl ?_ | refine GL.guardN rfl rfl rfl ?_ | refine GL.guardU rfl rfl rfl ?_ | (apply GL.isBox; first | refine GL.boxA rfl rfl (fun _ => ?_) | refine GL.box1 rfl rfl rfl (fun _ => ?_) | refine GL.box rfl rfl (fun _ => ?_)) | (apply GL.isBuildS; first | refine GL.buildSlice1A rfl rfl rfl rfl rfl (fun _ => ?_) | refine GL.buildSlice1 rfl rfl rfl rfl rfl (fun _ => ?_)) | (apply GL.isCall; refine GL.append1 _ rfl rfl rfl rfl (by rfl) (by omega) (by omega) rfl (fun _ => ?_)) | (apply GL.isAlloc; refine GL.alloc rfl (fun _ => ?_))) | apply GL.nil | first | apply G.seq | apply G.region | apply G.block | apply G.skip | apply G.exit | apply G.ret | (apply G.isCond; first | refine G.condT rfl ?_ | refine G.condF rfl ?_) | refine G.draw (by kernel_rfl) (by kernel_rfl) ?_ | (apply GE.isAny; first | apply GE.again | apply GE.thenG | apply GE.blockN | apply GE.blockE | apply GE.thenE | apply GE.thenR | apply GE.blockR | refine GE.blockO rfl ?_ | apply GE.only) | (apply GD.isAny; first | refine GD.runA rfl ?_ | refine GD.guardY rfl rfl ?_ | refine GD.guardN rfl rfl rfl ?_ | refine GD.guardU rfl rfl rfl ?_) | apply GD.nilE | apply GD.nilL | (apply GT.isAny; refine GT.runA rfl rfl ?_) | ((first | (apply GL.isAny; refine GL.guard rfl rfl (fun hc => ?_) (fun hc => ?_)) | (apply G.isCond; refine G.cond rfl (fun hc => ?_) (fun hc => ?_)) | (apply GD.isAny; refine GD.guard rfl rfl (fun hc => ?_) (fun hc => ?_))) <;> ((try simp only [decide_eq_true_eq, decide_eq_false_iff_not, Bool.not_true, Bool.not_false, ne_eq, Classical.not_not, Int.not_lt, Int.not_le] at hc); (try (exfalso; first | omega | exact hc trivial | exact hc rfl)))))
        all_goals (first | (exfalso; omega) | (exfalso; simp at hc; omega) | (rename_i v1; refine GE.round ((k + 1, v1, out ++ [(k : Int)])) (⟨by dsimp only; omega, (hyes hd).symm⟩) (by repeat (first | exact trivial | refine And.intro rfl ?_)) (fun w h => by (try dsimp only); exact h.sub) (by (try dsimp only); omega)))
    · have hd := Snd.differ_o1 (D := D) h1
      repeat' (first | (refine GL.append1 ((k : Int)) rfl rfl rfl rfl (by rfl) (by omega) (by omega) rfl (fun _ => ?_)) | first | (apply GL.isAny; first | refine GL.runA rfl ?_ | (apply GL.isStore; first | refine GL.storeBlk rfl rfl rfl rfl rfl ?_ | refine GL.storeWhole rfl rfl rfl rfl rfl ?_ | refine GL.storeBlkA rfl rfl rfl rfl rfl ?_) | refine GL.guardY rfl rfl ?_ | refine GL.guardN rfl rfl rfl ?_ | refine GL.guardU rfl rfl rfl ?_ | (apply GL.isBox; first | refine GL.boxA rfl rfl (fun _ => ?_) | refine GL.box1 rfl rfl rfl (fun _ => ?_) | refine GL.box rfl rfl (fun _ => ?_)) | (apply GL.isBuildS; first | refine GL.buildSlice1A rfl rfl rfl rfl rfl (fun _ => ?_) | refine GL.buildSlice1 rfl rfl rfl rfl rfl (fun _ => ?_)) | (apply GL.isCall; refine GL.append1 _ rfl rfl rfl rfl (by rfl) (by omega) (by omega) rfl (fun _ => ?_)) | (apply GL.isAlloc; refine GL.alloc rfl (fun _ => ?_))) | apply GL.nil | first | apply G.seq | apply G.region | apply G.block | apply G.skip | apply G.exit | apply G.ret | (apply G.isCond; first | refine G.condT rfl ?_ | refine G.condF rfl ?_) | refine G.draw (by kernel_rfl) (by kernel_rfl) ?_ | (apply GE.isAny; first | apply GE.again | apply GE.thenG | apply GE.blockN | apply GE.blockE | apply GE.thenE | apply GE.thenR | apply GE.blockR | refine GE.blockO rfl ?_ | apply GE.only) | (apply GD.isAny; first | refine GD.runA rfl ?_ | refine GD.guardY rfl rfl ?_ | refine GD.guardN rfl rfl rfl ?_ | refine GD.guardU rfl rfl rfl ?_) | apply GD.nilE | apply GD.nilL | (apply GT.isAny; refine GT.runA rfl rfl ?_) | ((first | (apply GL.isAny; refine GL.guard rfl rfl (fun hc => ?_) (fun hc => ?_)) | (apply G.isCond; refine G.cond rfl (fun hc => ?_) (fun hc => ?_)) | (apply GD.isAny; refine GD.guard rfl rfl (fun hc => ?_) (fun hc => ?_))) <;> ((try simp only [decide_eq_true_eq, decide_eq_false_iff_not, Bool.not_true, Bool.not_false, ne_eq, Classical.not_not, Int.not_lt, Int.not_le] at hc); (try (exfalso; first | omega | exact hc trivial | exact hc rfl)))))
      all_goals (first | (exfalso; omega) | (exfalso; simp at hc; omega) | (rename_i v1; refine GE.round ((k + 1, v1, out ++ [(k : Int)])) (⟨by dsimp only; omega, (hyes hd).symm⟩) (by repeat (first | exact trivial | refine And.intro rfl ?_)) (fun w h => by (try dsimp only); exact h.sub) (by (try dsimp only); omega)))
  · obtain rfl : k = max C.length D.length := by omega
    subst ho
    repeat' (first | (apply GL.isAny; first | refine GL.runA rfl ?_ | (apply GL.isStore; first | refine GL.storeBlk rfl rfl rfl rfl rfl ?_ | refine GL.storeWhole rfl rfl rfl rfl rfl ?_ | refine GL.storeBlkA rfl rfl rfl rfl rfl ?_) | refine GL.guardY rfl rfl ?_ | refine GL.guardN rfl rfl rfl ?_ | refine GL.guardU rfl rfl rfl ?_ | (apply GL.isBox; first | refine GL.boxA rfl rfl (fun _ => ?_) | refine GL.box1 rfl rfl rfl (fun _ => ?_) | refine GL.box rfl rfl (fun _ => ?_)) | (apply GL.isBuildS; first | refine GL.buildSlice1A rfl rfl rfl rfl rfl (fun _ => ?_) | refine GL.buildSlice1 rfl rfl rfl rfl rfl (fun _ => ?_)) | (apply GL.isCall; refine GL.append1 _ rfl rfl rfl rfl (by rfl) (by omega) (by omega) rfl (fun _ => ?_)) | (apply GL.isAlloc; refine GL.alloc rfl (fun _ => ?_))) | apply GL.nil | first | apply G.seq | apply G.region | apply G.block | apply G.skip | apply G.exit | apply G.ret | (apply G.isCond; first | refine G.condT rfl ?_ | refine G.condF rfl ?_) | refine G.draw (by kernel_rfl) (by kernel_rfl) ?_ | (apply GE.isAny; first | apply GE.again | apply GE.thenG | apply GE.blockN | apply GE.blockE | apply GE.thenE | apply GE.thenR | apply GE.blockR | refine GE.blockO rfl ?_ | apply GE.only) | (apply GD.isAny; first | refine GD.runA rfl ?_ | refine GD.guardY rfl rfl ?_ | refine GD.guardN rfl rfl rfl ?_ | refine GD.guardU rfl rfl rfl ?_) | apply GD.nilE | apply GD.nilL | (apply GT.isAny; refine GT.runA rfl rfl ?_) | ((first | (apply GL.isAny; refine GL.guard rfl rfl (fun hc => ?_) (fun hc => ?_)) | (apply G.isCond; refine G.cond rfl (fun hc => ?_) (fun hc => ?_)) | (apply GD.isAny; refine GD.guard rfl rfl (fun hc => ?_) (fun hc => ?_))) <;> ((try simp only [decide_eq_true_eq, decide_eq_false_iff_not, Bool.not_true, Bool.not_false, ne_eq, Classical.not_not, Int.not_lt, Int.not_le] at hc); (try (exfalso; first | omega | exact hc trivial | exact hc rfl)))))
    all_goals (first | (exfalso; omega) | (refine GE.resOne rfl (by (repeat (first | apply Res.nil | (apply Res.tmp; rfl) | (refine Res.cellA rfl rfl rfl ?_) | (refine Res.cell1 rfl rfl ?_)))) (fun w h => ?_); exact ⟨_, rfl, h.sub⟩))
theorem ref49_Changed (hC : C.length ≤ 100000) (hD : D.length ≤ 100000) (w : World) (F : List HProp) [hr1 : Reads F (.slice ac C.length cc) chunkCells 3 C] [hr2 : Reads F (.slice ac2 D.length cc2) chunkCells 3 D] (hw : holds w F) :
    Ct Try.prog 15 #[.agg (st5 tk ac aw am ap al C.length kw km kp kl cc cw cm cp cl), .agg (st5 tk2 ac2 aw2 am2 ap2 al2 D.length kw2 km2 kp2 kl2 cc2 cw2 cm2 cp2 cl2)] w fun e w' => ∃ v, e = .returned v ∧ holds w' (owns 3 encI1 1 v (Snd.changed C D) :: F) := by
  unfold Snd.changed
  refine Ct.go (args := [.agg (st5 tk ac aw am ap al C.length kw km kp kl cc cw cm cp cl), .agg (st5 tk2 ac2 aw2 am2 ap2 al2 D.length kw2 km2 kp2 kl2 cc2 cw2 cm2 cp2 cl2)]) Try.func15 rfl rfl rfl hw ?_
  repeat' (first | ((apply GL.isBox; first | refine GL.boxA rfl rfl (fun bx => ?_))) | first | (apply GL.isAny; first | refine GL.runA rfl ?_ | (apply GL.isStore; first | refine GL.storeBlk rfl rfl rfl rfl rfl ?_ | refine GL.storeWhole rfl rfl rfl rfl rfl ?_ | refine GL.storeBlkA rfl rfl rfl rfl rfl ?_) | refine GL.guardY rfl rfl ?_ | refine GL.guardN rfl rfl rfl ?_ | refine GL.guardU rfl rfl rfl ?_ | (apply GL.isBox; first | refine GL.boxA rfl rfl (fun _ => ?_) | refine GL.box1 rfl rfl rfl (fun _ => ?_) | refine GL.box rfl rfl (fun _ => ?_)) | (apply GL.isBuildS; first | refine GL.buildSlice1A rfl rfl rfl rfl rfl (fun _ => ?_) | refine GL.buildSlice1 rfl rfl rfl rfl rfl (fun _ => ?_)) | (apply GL.isCall; refine GL.append1 _ rfl rfl rfl rfl (by rfl) (by omega) (by omega) rfl (fun _ => ?_)) | (apply GL.isAlloc; refine GL.alloc rfl (fun _ => ?_))) | apply GL.nil | first | apply G.seq | apply G.region | apply G.block | apply G.skip | apply G.exit | apply G.ret | (apply G.isCond; first | refine G.condT rfl ?_ | refine G.condF rfl ?_) | refine G.draw (by kernel_rfl) (by kernel_rfl) ?_ | (apply GE.isAny; first | apply GE.again | apply GE.thenG | apply GE.blockN | apply GE.blockE | apply GE.thenE | apply GE.thenR | apply GE.blockR | refine GE.blockO rfl ?_ | apply GE.only) | (apply GD.isAny; first | refine GD.runA rfl ?_ | refine GD.guardY rfl rfl ?_ | refine GD.guardN rfl rfl rfl ?_ | refine GD.guardU rfl rfl rfl ?_) | apply GD.nilE | apply GD.nilL | (apply GT.isAny; refine GT.runA rfl rfl ?_) | ((first | (apply GL.isAny; refine GL.guard rfl rfl (fun hc => ?_) (fun hc => ?_)) | (apply G.isCond; refine G.cond rfl (fun hc => ?_) (fun hc => ?_)) | (apply GD.isAny; refine GD.guard rfl rfl (fun hc => ?_) (fun hc => ?_))) <;> ((try simp only [decide_eq_true_eq, decide_eq_false_iff_not, Bool.not_true, Bool.not_false, ne_eq, Classical.not_not, Int.not_lt, Int.not_le] at hc); (try (exfalso; first | omega | exact hc trivial | exact hc rfl)))))
  rename_i b1
  refine G.nilOwn 3 encI1 1 ?_
  refine G.loopK [2, 3] (Nat × Value × List Int) (fun y => [(6, .int .i64 y.1), (5, y.2.1)]) (fun y => owns 3 encI1 1 y.2.1 y.2.2 :: blk bx (.cells (st5 tk2 ac2 aw2 am2 ap2 al2 D.length kw2 km2 kp2 kl2 cc2 cw2 cm2 cp2 cl2) 30 (0, 0)) :: blk b1 (.cells (st5 tk ac aw am ap al C.length kw km kp kl cc cw cm cp cl) 30 (0, 0)) :: F) (fun y => y.1 ≤ max C.length D.length ∧ y.2.2 = Snd.chg C D y.1) (fun y => max C.length D.length - y.1) ((0, .slice none 0 0, [])) (⟨Nat.zero_le _, rfl⟩) (by repeat (first | exact trivial | refine And.intro rfl ?_)) (fun w h => by (try dsimp only); first | exact h | exact h.sub | ((try simp only [List.take_zero, List.drop_zero, List.map_nil, List.nil_append, List.zipIdx_nil, List.filter_nil]); exact h.sub)) ?_
  rintro ⟨k, v, out⟩ ⟨hk, ho⟩
  dsimp only at hk ho ⊢
  have hs := Snd.chg_succ C D k
  have hl := Snd.chg_len C D k
  rw [← ho] at hs hl
  have hyes : Snd.differ C D k = true → Snd.chg C D (k + 1) = out ++ [(k : Int)] := fun e => by rw [hs, e]; rfl
  have hno : Snd.differ C D k = false → Snd.chg C D (k + 1) = out := fun e => by rw [hs, e]; exact List.append_nil _
  by_cases hlt : k < max C.length D.length
  · by_cases h1 : k < C.length
    · by_cases h2 : k < D.length
      · have hd := Snd.differ_in h1 h2
        repeat' (first | (refine GL.append1 ((k : Int)) rfl rfl rfl rfl (by rfl) (by omega) (by omega) rfl (fun _ => ?_)) | first | (apply GL.isAny; first | refine GL.runA rfl ?_ | (apply GL.isStore; first | refine GL.storeBlk rfl rfl rfl rfl rfl ?_ | refine GL.storeWhole rfl rfl rfl rfl rfl ?_ | refine GL.storeBlkA rfl rfl rfl rfl rfl ?_) | refine GL.guardY rfl rfl ?_ | refine GL.guardN rfl rfl rfl ?_ | refine GL.guardU rfl rfl rfl ?_ | (apply GL.isBox; first | refine GL.boxA rfl rfl (fun _ => ?_) | refine GL.box1 rfl rfl rfl (fun _ => ?_) | refine GL.box rfl rfl (fun _ => ?_)) | (apply GL.isBuildS; first | refine GL.buildSlice1A rfl rfl rfl rfl rfl (fun _ => ?_) | refine GL.buildSlice1 rfl rfl rfl rfl rfl (fun _ => ?_)) | (apply GL.isCall; refine GL.append1 _ rfl rfl rfl rfl (by rfl) (by omega) (by omega) rfl (fun _ => ?_)) | (apply GL.isAlloc; refine GL.alloc rfl (fun _ => ?_))) | apply GL.nil | first | apply G.seq | apply G.region | apply G.block | apply G.skip | apply G.exit | apply G.ret | (apply G.isCond; first | refine G.condT rfl ?_ | refine G.condF rfl ?_) | refine G.draw (by kernel_rfl) (by kernel_rfl) ?_ | (apply GE.isAny; first | apply GE.again | apply GE.thenG | apply GE.blockN | apply GE.blockE | apply GE.thenE | apply GE.thenR | apply GE.blockR | refine GE.blockO rfl ?_ | apply GE.only) | (apply GD.isAny; first | refine GD.runA rfl ?_ | refine GD.guardY rfl rfl ?_ | refine GD.guardN rfl rfl rfl ?_ | refine GD.guardU rfl rfl rfl ?_) | apply GD.nilE | apply GD.nilL | (apply GT.isAny; refine GT.runA rfl rfl ?_) | ((first | (apply GL.isAny; refine GL.guard rfl rfl (fun hc => ?_) (fun hc => ?_)) | (apply G.isCond; refine G.cond rfl (fun hc => ?_) (fun hc => ?_)) | (apply GD.isAny; refine GD.guard rfl rfl (fun hc => ?_) (fun hc => ?_))) <;> ((try simp only [decide_eq_true_eq, decide_eq_false_iff_not, Bool.not_true, Bool.not_false, ne_eq, Classical.not_not, Int.not_lt, Int.not_le] at hc); (try (exfalso; first | omega | exact hc trivial | exact hc rfl)))))
        all_goals (first | (exfalso; omega) | (exfalso; simp at hc; omega) | (refine GE.round ((k + 1, v, out)) (⟨by dsimp only; omega, (hno (hd.trans hc)).symm⟩) (by repeat (first | exact trivial | refine And.intro rfl ?_)) (fun w h => by (try dsimp only); exact h.sub) (by (try dsimp only); omega)) | (rename_i v1; refine GE.round ((k + 1, v1, out ++ [(k : Int)])) (⟨by dsimp only; omega, (hyes (hd.trans hc)).symm⟩) (by repeat (first | exact trivial | refine And.intro rfl ?_)) (fun w h => by (try dsimp only); exact h.sub) (by (try dsimp only); omega)))
      · have hd := Snd.differ_o2 (C := C) h2
        repeat' (first | (refine GL.append1 ((k : Int)) rfl rfl rfl rfl (by rfl) (by omega) (by omega) rfl (fun _ => ?_)) | first | (apply GL.isAny; first | refine GL.runA rfl ?_ | (apply GL.isStore; first | refine GL.storeBlk rfl rfl rfl rfl rfl ?_ | refine GL.storeWhole rfl rfl rfl rfl rfl ?_ | refine GL.storeBlkA rfl rfl rfl rfl rfl ?_) | refine GL.guardY rfl rfl ?_ | refine GL.guardN rfl rfl rfl ?_ | refine GL.guardU rfl rfl rfl ?_ | (apply GL.isBox; first | refine GL.boxA rfl rfl (fun _ => ?_) | refine GL.box1 rfl rfl rfl (fun _ => ?_) | refine GL.box rfl rfl (fun _ => ?_)) | (apply GL.isBuildS; first | refine GL.buildSlice1A rfl rfl rfl rfl rfl (fun _ => ?_) | refine GL.buildSlice1 rfl rfl rfl rfl rfl (fun _ => ?_)) | (apply GL.isCall; refine GL.append1 _ rfl rfl rfl rfl (by rfl) (by omega) (by omega) rfl (fun _ => ?_)) | (apply GL.isAlloc; refine GL.alloc rfl (fun _ => ?_))) | apply GL.nil | first | apply G.seq | apply G.region | apply G.block | apply G.skip | apply G.exit | apply G.ret | (apply G.isCond; first | refine G.condT rfl ?_ | refine G.condF rfl ?_) | refine G.draw (by kernel_rfl) (by kernel_rfl) ?_ | (apply GE.isAny; first | apply GE.again | apply GE.thenG | apply GE.blockN | apply GE.blockE | apply GE.thenE | apply GE.thenR | apply GE.blockR | refine GE.blockO rfl ?_ | apply GE.only) | (apply GD.isAny; first | refine GD.runA rfl ?_ | refine GD.guardY rfl rfl ?_ | refine GD.guardN rfl rfl rfl ?_ | refine GD.guardU rfl rfl rfl ?_) | apply GD.nilE | apply GD.nilL | (apply GT.isAny; refine GT.runA rfl rfl ?_) | ((first | (apply GL.isAny; refine GL.guard rfl rfl (fun hc => ?_) (fun hc => ?_)) | (apply G.isCond; refine G.cond rfl (fun hc => ?_) (fun hc => ?_)) | (apply GD.isAny; refine GD.guard rfl rfl (fun hc => ?_) (fun hc => ?_))) <;> ((try simp only [decide_eq_true_eq, decide_eq_false_iff_not, Bool.not_true, Bool.not_false, ne_eq, Classical.not_not, Int.not_lt, Int.not_le] at hc); (try (exfalso; first | omega | exact hc trivial | exact hc rfl)))))
        all_goals (first | (exfalso; omega) | (exfalso; simp at hc; omega) | (rename_i v1; refine GE.round ((k + 1, v1, out ++ [(k : Int)])) (⟨by dsimp only; omega, (hyes hd).symm⟩) (by repeat (first | exact trivial | refine And.intro rfl ?_)) (fun w h => by (try dsimp only); exact h.sub) (by (try dsimp only); omega)))
    · have hd := Snd.differ_o1 (D := D) h1
      repeat' (first | (refine GL.append1 ((k : Int)) rfl rfl rfl rfl (by rfl) (by omega) (by omega) rfl (fun _ => ?_)) | first | (apply GL.isAny; first | refine GL.runA rfl ?_ | (apply GL.isStore; first | refine GL.storeBlk rfl rfl rfl rfl rfl ?_ | refine GL.storeWhole rfl rfl rfl rfl rfl ?_ | refine GL.storeBlkA rfl rfl rfl rfl rfl ?_) | refine GL.guardY rfl rfl ?_ | refine GL.guardN rfl rfl rfl ?_ | refine GL.guardU rfl rfl rfl ?_ | (apply GL.isBox; first | refine GL.boxA rfl rfl (fun _ => ?_) | refine GL.box1 rfl rfl rfl (fun _ => ?_) | refine GL.box rfl rfl (fun _ => ?_)) | (apply GL.isBuildS; first | refine GL.buildSlice1A rfl rfl rfl rfl rfl (fun _ => ?_) | refine GL.buildSlice1 rfl rfl rfl rfl rfl (fun _ => ?_)) | (apply GL.isCall; refine GL.append1 _ rfl rfl rfl rfl (by rfl) (by omega) (by omega) rfl (fun _ => ?_)) | (apply GL.isAlloc; refine GL.alloc rfl (fun _ => ?_))) | apply GL.nil | first | apply G.seq | apply G.region | apply G.block | apply G.skip | apply G.exit | apply G.ret | (apply G.isCond; first | refine G.condT rfl ?_ | refine G.condF rfl ?_) | refine G.draw (by kernel_rfl) (by kernel_rfl) ?_ | (apply GE.isAny; first | apply GE.again | apply GE.thenG | apply GE.blockN | apply GE.blockE | apply GE.thenE | apply GE.thenR | apply GE.blockR | refine GE.blockO rfl ?_ | apply GE.only) | (apply GD.isAny; first | refine GD.runA rfl ?_ | refine GD.guardY rfl rfl ?_ | refine GD.guardN rfl rfl rfl ?_ | refine GD.guardU rfl rfl rfl ?_) | apply GD.nilE | apply GD.nilL | (apply GT.isAny; refine GT.runA rfl rfl ?_) | ((first | (apply GL.isAny; refine GL.guard rfl rfl (fun hc => ?_) (fun hc => ?_)) | (apply G.isCond; refine G.cond rfl (fun hc => ?_) (fun hc => ?_)) | (apply GD.isAny; refine GD.guard rfl rfl (fun hc => ?_) (fun hc => ?_))) <;> ((try simp only [decide_eq_true_eq, decide_eq_false_iff_not, Bool.not_true, Bool.not_false, ne_eq, Classical.not_not, Int.not_lt, Int.not_le] at hc); (try (exfalso; first | omega | exact hc trivial | exact hc rfl)))))
      all_goals (first | (exfalso; omega) | (exfalso; simp at hc; omega) | (rename_i v1; refine GE.round ((k + 1, v1, out ++ [(k : Int)])) (⟨by dsimp only; omega, (hyes hd).symm⟩) (by repeat (first | exact trivial | refine And.intro rfl ?_)) (fun w h => by (try dsimp only); exact h.sub) (by (try dsimp only); omega)))
  · obtain rfl : k = max C.length D.length := by omega
    subst ho
    repeat' (first | (apply GL.isAny; first | refine GL.runA rfl ?_ | (apply GL.isStore; first | refine GL.storeBlk rfl rfl rfl rfl rfl ?_ | refine GL.storeWhole rfl rfl rfl rfl rfl ?_ | refine GL.storeBlkA rfl rfl rfl rfl rfl ?_) | refine GL.guardY rfl rfl ?_ | refine GL.guardN rfl rfl rfl ?_ | refine GL.guardU rfl rfl rfl ?_ | (apply GL.isBox; first | refine GL.boxA rfl rfl (fun _ => ?_) | refine GL.box1 rfl rfl rfl (fun _ => ?_) | refine GL.box rfl rfl (fun _ => ?_)) | (apply GL.isBuildS; first | refine GL.buildSlice1A rfl rfl rfl rfl rfl (fun _ => ?_) | refine GL.buildSlice1 rfl rfl rfl rfl rfl (fun _ => ?_)) | (apply GL.isCall; refine GL.append1 _ rfl rfl rfl rfl (by rfl) (by omega) (by omega) rfl (fun _ => ?_)) | (apply GL.isAlloc; refine GL.alloc rfl (fun _ => ?_))) | apply GL.nil | first | apply G.seq | apply G.region | apply G.block | apply G.skip | apply G.exit | apply G.ret | (apply G.isCond; first | refine G.condT rfl ?_ | refine G.condF rfl ?_) | refine G.draw (by kernel_rfl) (by kernel_rfl) ?_ | (apply GE.isAny; first | apply GE.again | apply GE.thenG | apply GE.blockN | apply GE.blockE | apply GE.thenE | apply GE.thenR | apply GE.blockR | refine GE.blockO rfl ?_ | apply GE.only) | (apply GD.isAny; first | refine GD.runA rfl ?_ | refine GD.guardY rfl rfl ?_ | refine GD.guardN rfl rfl rfl ?_ | refine GD.guardU rfl rfl rfl ?_) | apply GD.nilE | apply GD.nilL | (apply GT.isAny; refine GT.runA rfl rfl ?_) | ((first | (apply GL.isAny; refine GL.guard rfl rfl (fun hc => ?_) (fun hc => ?_)) | (apply G.isCond; refine G.cond rfl (fun hc => ?_) (fun hc => ?_)) | (apply GD.isAny; refine GD.guard rfl rfl (fun hc => ?_) (fun hc => ?_))) <;> ((try simp only [decide_eq_true_eq, decide_eq_false_iff_not, Bool.not_true, Bool.not_false, ne_eq, Classical.not_not, Int.not_lt, Int.not_le] at hc); (try (exfalso; first | omega | exact hc trivial | exact hc rfl)))))
    all_goals (first | (exfalso; omega) | (refine GE.resOne rfl (by (repeat (first | apply Res.nil | (apply Res.tmp; rfl) | (refine Res.cellA rfl rfl rfl ?_) | (refine Res.cell1 rfl rfl ?_)))) (fun w h => ?_); exact ⟨_, rfl, h.sub⟩))
end
end Go.Proofs.Ytfiggkbclldccaa

/- Maps whose keys are structs, all of whose values are true. -/
namespace Go.Proofs.Ytfiggkbclldccaa
open Go Go.RowKit Go.MapKept
set_option linter.unusedVariables false
set_option linter.unusedSimpArgs false
structure KsOk (P : Program) (k : TypeId) (es : Array MapEntry) (S : List Value) : Prop where
  all : ∀ e ∈ es.toList, e.key ∈ S ∧ e.val = .bool true
  has : ∀ x ∈ S, ∃ e ∈ es.toList, e.key = x
  key : ∀ x ∈ S, ∃ l, keyOf P k x = some l
/-- Block b is a map of which the keys S are true. -/
def kset (P : Program) (k : TypeId) (b : Nat) (S : List Value) : HProp := fun f => ∃ es clock, KsOk P k es S ∧ blk b (.map es clock) f
theorem holds.open_kset {P : Program} {k : TypeId} {w : World} {F : List HProp} {b : Nat} {S : List Value} (h : holds w (kset P k b S :: F)) : ∃ es clock, KsOk P k es S ∧ holds w (blk b (.map es clock) :: F) := by
  obtain ⟨es, h⟩ := h.open_ex
  obtain ⟨clock, h⟩ := h.open_ex
  obtain ⟨h1, h⟩ := h.open_pure
  exact ⟨es, clock, h1, h⟩
theorem holds.mkKset {P : Program} {k : TypeId} {w : World} {F : List HProp} {b : Nat} {es : Array MapEntry} {clock : Nat} {S : List Value} (h : holds w (blk b (.map es clock) :: F)) (h1 : KsOk P k es S) : holds w (kset P k b S :: F) := h.mono fun _ hf => ⟨es, clock, h1, hf⟩
class KeyT (P : Program) (k : TypeId) : Prop where
  law : WideMaps.KeyLaw P k
class HasKset (P : Program) (F : List HProp) (b : Nat) (k : outParam TypeId) (S : outParam (List Value)) (F' : outParam (List HProp)) : Prop where
  perm : F.Perm (kset P k b S :: F')
instance HasKset.here {P : Program} {F : List HProp} {b : Nat} {k : TypeId} {S : List Value} : HasKset P (kset P k b S :: F) b k S F := ⟨.refl _⟩
instance (priority := 500) HasKset.there {P : Program} {F F' : List HProp} {b : Nat} {k : TypeId} {S : List Value} {X : HProp} [h : HasKset P F b k S F'] : HasKset P (X :: F) b k S (X :: F') := ⟨(h.perm.cons X).trans (.swap _ _ _)⟩
theorem kset_find {P : Program} {k : TypeId} (K : WideMaps.KeyLaw P k) (w : World) {x : Value} {l : Lit} (hx : keyOf P k x = some l) {es : Array MapEntry} {S : List Value} (h : KsOk P k es S) :
    ((Instr.findKey k x es.toList).run P w = .ok none w ∧ x ∉ S) ∨ ∃ j e, (Instr.findKey k x es.toList).run P w = .ok (some (j, .bool true)) w ∧ es[j]? = some e ∧ e.key = x ∧ e.val = .bool true ∧ x ∈ S := by
  rcases K.find w hx es.toList (fun e he => h.key _ (h.all e he).1) with ⟨h3, h4⟩ | ⟨j, e, h3, h4, h5⟩
  · refine .inl ⟨h3, fun hm => ?_⟩
    obtain ⟨e, he, e3⟩ := h.has x hm
    exact h4 e he e3
  · have he : e ∈ es.toList := List.mem_of_getElem? h4
    obtain ⟨h6, h7⟩ := h.all e he
    rw [h7] at h3
    exact .inr ⟨j, e, h3, by simpa using h4, h5, h7, h5 ▸ h6⟩
theorem run_updateK {P : Program} {t k e : TypeId} {b : Nat} {v : Value} {l : Lit} {S : List Value} {w : World} {F : List HProp} (hm : P.underlying t = some (.map k e)) (K : WideMaps.KeyLaw P k) (hv : keyOf P k v = some l) (h : holds w (kset P k b S :: F)) :
    ∃ w', (Instr.mapUpdate t (.map (some b)) v (.bool true)).run P w = .ok () w' ∧ holds w' (kset P k b (S ++ [v]) :: F) := by
  obtain ⟨es, clock, h1, h3⟩ := h.open_kset
  have hck := K.check w false hv
  have hlt : b < w.heap.size := (Array.getElem?_eq_some_iff.1 h3.get_blk).1
  have hkey : ∀ x ∈ S ++ [v], ∃ l, keyOf P k x = some l := fun x hx => by
    rcases List.mem_append.1 hx with hx | hx
    · exact h1.key x hx
    · rw [List.mem_singleton] at hx; subst hx; exact ⟨l, hv⟩
  rcases kset_find K w hv h1 with ⟨hf, hn⟩ | ⟨j, e0, hf, he0, hk0, hv0, hn⟩
  · refine ⟨{ w with heap := w.heap.setIfInBounds b (.map (es.push { key := v, val := .bool true, born := clock }) (clock + 1)) }, ?_, ?_⟩
    · simp [Instr.mapUpdate, run_underlying hm, MapKept.run_getObj_map h3.get_blk, hck, hf, MapKept.run_setObj_map _ h3.get_blk, Result.andThen]
    · have h4 := h3.turn (w' := { w with heap := w.heap.setIfInBounds b (.map (es.push { key := v, val := .bool true, born := clock }) (clock + 1)) })
        ⟨rfl, rfl, rfl, by simp, fun i _ hi => by simp at hi; simp [Ne.symm hi]⟩ (o' := .map (es.push { key := v, val := .bool true, born := clock }) (clock + 1)) (by simp [hlt])
      refine h4.mkKset ⟨fun e he => ?_, fun x hx => ?_, hkey⟩
      · rw [Array.toList_push] at he
        rcases List.mem_append.1 he with he | he
        · exact ⟨List.mem_append_left _ (h1.all e he).1, (h1.all e he).2⟩
        · rw [List.mem_singleton] at he; subst he; exact ⟨by simp, rfl⟩
      · rw [Array.toList_push]
        rcases List.mem_append.1 hx with hx | hx
        · obtain ⟨e, he, e1⟩ := h1.has x hx
          exact ⟨e, List.mem_append_left _ he, e1⟩
        · rw [List.mem_singleton] at hx; subst hx
          exact ⟨{ key := x, val := .bool true, born := clock }, by simp, rfl⟩
  · refine ⟨{ w with heap := w.heap.setIfInBounds b (.map (es.modify j fun e => { e with key := v, val := .bool true }) clock) }, ?_, ?_⟩
    · have hs := K.stays w hv
      simp [Instr.mapUpdate, run_underlying hm, MapKept.run_getObj_map h3.get_blk, hck, hf, MapKept.run_setObj_map _ h3.get_blk, Result.andThen, he0, hk0, hs]
    · have h4 := h3.turn (w' := { w with heap := w.heap.setIfInBounds b (.map (es.modify j fun e => { e with key := v, val := .bool true }) clock) })
        ⟨rfl, rfl, rfl, by simp, fun i _ hi => by simp at hi; simp [Ne.symm hi]⟩ (o' := .map (es.modify j fun e => { e with key := v, val := .bool true }) clock) (by simp [hlt])
      have e0 : es.modify j (fun e => { e with key := v, val := .bool true }) = es := by
        apply Array.ext_getElem?
        intro i
        rw [Array.getElem?_modify]
        by_cases hij : j = i
        · subst hij
          rw [if_pos rfl, he0]
          cases e0; simp at hk0 hv0; subst hk0 hv0; rfl
        · rw [if_neg hij]
      rw [e0] at h4
      rw [e0]
      refine h4.mkKset ⟨fun e he => ⟨List.mem_append_left _ (h1.all e he).1, (h1.all e he).2⟩, fun x hx => ?_, hkey⟩
      rcases List.mem_append.1 hx with hx | hx
      · exact h1.has x hx
      · rw [List.mem_singleton] at hx; subst hx; exact h1.has x hn
section
variable {P : Program} {n d : Nat} {Q : Exit → Act → World → Prop} {env : Env} {F F' : List HProp} {ops : Array Oper} {rest : List Oper} {ty : TypeId} {pos : String} {aft : Array Edge}
theorem Runs.lookupK {t k e : TypeId} {x y : Operand} {b size bytes : Nat} {v : Value} {S : List Value} {c : Bool} (hc : c = true ↔ v ∈ S) [hm : MapT P t k e] [hk : KeyT P k] [hz : ZeroT P e (.bool false) size bytes] (hx : opnd env x = some (.map (some b))) (hy : opnd env y = some v) {l : Lit} (hv : keyOf P k v = some l) [hr : HasKset P F b k S F'] :
    Runs P n env F (.lookup t x y false) (.bool c) := .mk fun a w ty pos aft g d hf hw => by
  obtain ⟨es, clock, h1, h3⟩ := (hw.perm hr.perm).open_kset
  obtain ⟨iz, g1, g2, _⟩ := hz.ok
  have hzr : (zeroValue e).run P w = .ok (.bool false) w := by simp [zeroValue, typeInfo, g1, g2, Result.andThen]
  have hck := hk.law.check w es.isEmpty hv
  have : (Instr.lookup t (.map (some b)) v false).run P w = .ok (.bool c) w := by
    rcases kset_find hk.law w hv h1 with ⟨hf, hn⟩ | ⟨j, e, hf, _, _, _, hn⟩
    · have hcf : c = false := by cases c <;> simp_all
      simp [Instr.lookup, run_underlying hm.ok, MapKept.run_getObj_map h3.get_blk, hck, hf, hzr, hcf, Result.andThen]
    · have hct : c = true := hc.2 hn
      simp [Instr.lookup, run_underlying hm.ok, MapKept.run_getObj_map h3.get_blk, hck, hf, hct, Result.andThen]
  simp only [execOp, hf.eval hx, hf.eval hy, Sem.run_bind, Sem.run_pure]
  rw [this]
  rfl
theorem GL.updateK {t k e : TypeId} {x y u : Operand} {b : Nat} {v : Value} {S : List Value} [hm : MapT P t k e] [hk : KeyT P k] (hx : opnd env x = some (.map (some b))) (hy : opnd env y = some v) (hu : opnd env u = some (.bool true)) {l : Lit} (hv : keyOf P k v = some l) [hr : HasKset P F b k S F']
    (h : GL P n ops Q rest env (kset P k b (S ++ [v]) :: F')) : GL P n ops Q (⟨none, .mapUpdate t x y u, ty, pos, aft, none⟩ :: rest) env F := .mk fun a w hf hw => by
  refine wpList_plain rfl fun K' hK' => ?_
  obtain ⟨w', hrun, r1⟩ := run_updateK hm.ok hk.law hv (hw.perm hr.perm)
  unfold Oper.wp
  simp [execOp, hf.eval hx, hf.eval hy, hf.eval hu, hrun, Result.andThen]
  exact hK' _ _ (h a w' hf r1)
theorem GL.makeKset {t k e : TypeId} {x : Operand} {i : Int} [hm : MapT P t k e] (hx : opnd env x = some (.int .i64 i)) (hd : Nat.blt d n = true) (h : ∀ b, GL P n ops Q rest ((d, .map (some b)) :: env) (kset P k b [] :: F)) :
    GL P n ops Q (⟨some d, .makeMap t (some x), ty, pos, aft, none⟩ :: rest) env F := .mk fun a w hf hw => by
  refine wpList_plain rfl fun K hK => ?_
  unfold Oper.wp
  have hr : (execOp a.eval ⟨some d, .makeMap t (some x), ty, pos, aft, none⟩).run P w = .ok (.value (.map (some w.heap.size))) (w.alloc (.map #[] 0)) := by
    simp [execOp, Instr.makeMap, run_newObj, hf.eval hx, run_underlying hm.ok, asInt, asIntOf, Result.andThen]
  rw [hr]
  refine hK _ _ (h _ _ _ (hf.put hd _) ?_)
  exact (hw.alloc (.map #[] 0)).mkKset ⟨by simp, by simp, by simp⟩
end
end Go.Proofs.Ytfiggkbclldccaa

/- '==' and '!=' of bools. -/
namespace Go.Proofs.Ytfiggkbclldccaa
open Go Go.RowKit Go.MapKept
set_option linter.unusedVariables false
section
variable {P : Program} {n : Nat} {env : Env} {F : List HProp} {x y : Operand} {xT yT : TypeId}
class BoT (P : Program) (t : TypeId) : Prop where
  ok : P.underlying t = some .bool
end
instance : BoT Try.prog 4 := ⟨by kernel_rfl⟩
end Go.Proofs.Ytfiggkbclldccaa
