import Derived.Test.YtfiggkbclldccaaMg13
import Derived.Test.YtfiggkbclldccaaMg12
import Derived.Laws.LoneSync
import Derived.Test.YtfiggkbclldccaaMg5
/- Which pieces are no more: the walks. -/
namespace Go.Proofs.Ytfiggkbclldccaa
open Go Go.RowKit Go.MapKept
set_option linter.unusedVariables false
set_option linter.unusedSimpArgs false
set_option maxRecDepth 100000
set_option maxHeartbeats 2000000
theorem Try.laidOutSd : laidOutB Try.prog = true := by kernel_rfl
instance : KeyT Try.prog 71 := ⟨deep_law_laid Try.laidOutSd (m := 5) (by decide) (of_decide_eq_true (by kernel_rfl)) (by kernel_rfl) (by kernel_rfl)⟩
def LaidM.Wf (x : LaidM) : Prop := (Lit.int .i64 x.chunk).wf = true ∧ (Lit.int .i64 x.gen).wf = true ∧ (Lit.int .i64 x.region).wf = true ∧ (Lit.int .i64 x.pos).wf = true ∧ (Lit.int .i64 x.len).wf = true
theorem LaidM.key {x : LaidM} (h : x.Wf) : ∃ l, keyOf Try.prog 71 (.agg (encLaid x).toArray) = some l := by
  obtain ⟨h1, h2, h3, h4, h5⟩ := h
  have hk : Try.prog.keyType 71 = true := by kernel_rfl
  have hi : ∀ (d : Nat) (n : Int), (Lit.int .i64 n).wf = true → Try.prog.keyLits (d + 1) 3 [.int .i64 n] = some [.int .i64 n] := fun d n hn => by
    simp [Program.keyLits, Try.underlying3, hn]
  have hc : Try.prog.cellsOf 3 = 1 := by kernel_rfl
  have hcl : Try.prog.cellsOf 71 = 5 := by kernel_rfl
  obtain ⟨d, hd⟩ : ∃ d, Try.prog.types.size + 1 = d + 2 := ⟨Try.prog.types.size - 1, by have : 1 ≤ Try.prog.types.size := of_decide_eq_true (by kernel_rfl); omega⟩
  unfold keyOf
  rw [Try.underlying71]
  dsimp only
  rw [hk, hd]
  simp [Value.formed, Try.underlying71, hcl, encLaid, Program.keyLits, hc, hi _ _ h1, hi _ _ h2, hi _ _ h3, hi _ _ h4, hi _ _ h5, Value.cells, h1, h2, h3, h4, h5]
namespace Snd
def gone (A B : List LaidM) : List LaidM := A.filter fun x => !decide (x ∈ B)
theorem gone_self (A : List LaidM) : gone A A = [] := by
  unfold gone
  rw [List.filter_eq_nil_iff]
  intro x hx
  simp [hx]
theorem gone_take (A B : List LaidM) (k : Nat) (h : k < A.length) : gone (A.take (k + 1)) B = gone (A.take k) B ++ (if A[k] ∈ B then [] else [A[k]]) := by
  unfold gone
  rw [List.take_succ_eq_append_getElem h, List.filter_append]
  congr 1
  by_cases hm : A[k] ∈ B <;> simp [hm]
theorem gone_len (A B : List LaidM) : (gone A B).length ≤ A.length := List.length_filter_le _ _
end Snd
theorem encLaid_inj {x y : LaidM} (h : Value.agg (encLaid x).toArray = Value.agg (encLaid y).toArray) : x = y := by
  cases x; cases y
  simp [encLaid] at h
  simp [h]
theorem mem_encLaid {x : LaidM} {B : List LaidM} : Value.agg (encLaid x).toArray ∈ B.map (fun y => Value.agg (encLaid y).toArray) ↔ x ∈ B := by
  constructor
  · intro h
    obtain ⟨y, hy, e⟩ := List.mem_map.1 h
    rw [← encLaid_inj e]; exact hy
  · exact fun h => List.mem_map.2 ⟨x, h, rfl⟩
section
variable (tk tk2 : Int) (ac aw am ap al ac2 aw2 am2 ap2 al2 : Option Addr) (kc kw km kp kl cc cw cm cp cl kc2 kw2 km2 kp2 kl2 cc2 cw2 cm2 cp2 cl2 : Nat) (L D : List LaidM)
theorem sound_Gone (hL : L.length ≤ 100000) (hD : D.length ≤ 100000) (wL : ∀ x ∈ L, x.Wf) (wD : ∀ x ∈ D, x.Wf) (w : World) (F : List HProp) [hr1 : Reads F (.slice al L.length cl) encLaid 5 L] [hr2 : Reads F (.slice al2 D.length cl2) encLaid 5 D] (hw : holds w F) :
    Ct Try.prog 17 #[.agg (st5 tk ac aw am ap al kc kw km kp L.length cc cw cm cp cl), .agg (st5 tk2 ac2 aw2 am2 ap2 al2 kc2 kw2 km2 kp2 D.length cc2 cw2 cm2 cp2 cl2)] w fun e w' => ∃ v, e = .returned v ∧ holds w' (owns 71 encLaid 5 v (Snd.gone L D) :: F) := by
  refine Ct.go (args := [.agg (st5 tk ac aw am ap al kc kw km kp L.length cc cw cm cp cl), .agg (st5 tk2 ac2 aw2 am2 ap2 al2 kc2 kw2 km2 kp2 D.length cc2 cw2 cm2 cp2 cl2)]) Try.func17 rfl rfl rfl hw ?_
  repeat' (first | (first | (apply GL.isBox; first | refine GL.boxA rfl rfl (fun bx => ?_)) | refine GL.makeKset rfl rfl (fun bm => ?_)) | first | (apply GL.isAny; first | refine GL.runA rfl ?_ | (apply GL.isStore; first | refine GL.storeBlk rfl rfl rfl rfl rfl ?_ | refine GL.storeWhole rfl rfl rfl rfl rfl ?_ | refine GL.storeBlkA rfl rfl rfl rfl rfl ?_) | refine GL.guardY rfl rfl ?_ | refine GL.guardN rfl rfl rfl ?_ | refine GL.guardU rfl rfl rfl ?_ | (apply GL.isBox; first | refine GL.boxA rfl rfl (fun _ => ?_) | refine GL.box1 rfl rfl rfl (fun _ => ?_) | refine GL.box rfl rfl (fun _ => ?_)) | (apply GL.isBuildS; first | refine GL.buildSlice1A rfl rfl rfl rfl rfl (fun _ => ?_) | refine GL.buildSlice1 rfl rfl rfl rfl rfl (fun _ => ?_)) | (apply GL.isCall; refine GL.append1 _ rfl rfl rfl rfl (by rfl) (by omega) (by omega) rfl (fun _ => ?_)) | (apply GL.isAlloc; refine GL.alloc rfl (fun _ => ?_))) | apply GL.nil | first | apply G.seq | apply G.region | apply G.block | apply G.skip | apply G.exit | apply G.ret | (apply G.isCond; first | refine G.condT rfl ?_ | refine G.condF rfl ?_) | refine G.draw (by kernel_rfl) (by kernel_rfl) ?_ | (apply GE.isAny; first | apply GE.again | apply GE.thenG | apply GE.blockN | apply GE.blockE | apply GE.thenE | apply GE.thenR | apply GE.blockR | refine GE.blockO rfl ?_ | apply GE.only) | (apply GD.isAny; first | refine GD.runA rfl ?_ | refine GD.guardY rfl rfl ?_ | refine GD.guardN rfl rfl rfl ?_ | refine GD.guardU rfl rfl rfl ?_) | apply GD.nilE | apply GD.nilL | (apply GT.isAny; refine GT.runA rfl rfl ?_) | ((first | (apply GL.isAny; refine GL.guard rfl rfl (fun hc => ?_) (fun hc => ?_)) | (apply G.isCond; refine G.cond rfl (fun hc => ?_) (fun hc => ?_)) | (apply GD.isAny; refine GD.guard rfl rfl (fun hc => ?_) (fun hc => ?_))) <;> ((try simp only [decide_eq_true_eq, decide_eq_false_iff_not, Bool.not_true, Bool.not_false, ne_eq, Classical.not_not, Int.not_lt, Int.not_le] at hc); (try (exfalso; first | omega | exact hc trivial | exact hc rfl)))))
  rename_i b1
  refine G.loopK [2, 3, 5, 16, 17] (Nat) (fun k => [(18, .int .i64 k)]) (fun k => kset Try.prog 71 bm ((D.take k).map (fun y : LaidM => Value.agg (encLaid y).toArray)) :: blk bx (.cells (st5 tk2 ac2 aw2 am2 ap2 al2 kc2 kw2 km2 kp2 D.length cc2 cw2 cm2 cp2 cl2) 30 (0, 0)) :: blk b1 (.cells (st5 tk ac aw am ap al kc kw km kp L.length cc cw cm cp cl) 30 (0, 0)) :: F) (fun k => k ≤ D.length) (fun k => D.length - k) (0) (Nat.zero_le _) (by repeat (first | exact trivial | refine And.intro rfl ?_)) (fun w h => by (try dsimp only); first | exact h | exact h.sub | ((try simp only [List.take_zero, List.drop_zero, List.map_nil, List.nil_append, List.zipIdx_nil, List.filter_nil]); exact h.sub)) ?_
  intro k hk
  by_cases hlt : k < D.length
  · obtain ⟨kl, hkey⟩ := LaidM.key (wD _ (List.getElem_mem hlt))
    repeat' (first | ((apply GL.isAny; refine GL.updateK rfl rfl rfl hkey ?_)) | first | (apply GL.isAny; first | refine GL.runA rfl ?_ | (apply GL.isStore; first | refine GL.storeBlk rfl rfl rfl rfl rfl ?_ | refine GL.storeWhole rfl rfl rfl rfl rfl ?_ | refine GL.storeBlkA rfl rfl rfl rfl rfl ?_) | refine GL.guardY rfl rfl ?_ | refine GL.guardN rfl rfl rfl ?_ | refine GL.guardU rfl rfl rfl ?_ | (apply GL.isBox; first | refine GL.boxA rfl rfl (fun _ => ?_) | refine GL.box1 rfl rfl rfl (fun _ => ?_) | refine GL.box rfl rfl (fun _ => ?_)) | (apply GL.isBuildS; first | refine GL.buildSlice1A rfl rfl rfl rfl rfl (fun _ => ?_) | refine GL.buildSlice1 rfl rfl rfl rfl rfl (fun _ => ?_)) | (apply GL.isCall; refine GL.append1 _ rfl rfl rfl rfl (by rfl) (by omega) (by omega) rfl (fun _ => ?_)) | (apply GL.isAlloc; refine GL.alloc rfl (fun _ => ?_))) | apply GL.nil | first | apply G.seq | apply G.region | apply G.block | apply G.skip | apply G.exit | apply G.ret | (apply G.isCond; first | refine G.condT rfl ?_ | refine G.condF rfl ?_) | refine G.draw (by kernel_rfl) (by kernel_rfl) ?_ | (apply GE.isAny; first | apply GE.again | apply GE.thenG | apply GE.blockN | apply GE.blockE | apply GE.thenE | apply GE.thenR | apply GE.blockR | refine GE.blockO rfl ?_ | apply GE.only) | (apply GD.isAny; first | refine GD.runA rfl ?_ | refine GD.guardY rfl rfl ?_ | refine GD.guardN rfl rfl rfl ?_ | refine GD.guardU rfl rfl rfl ?_) | apply GD.nilE | apply GD.nilL | (apply GT.isAny; refine GT.runA rfl rfl ?_) | ((first | (apply GL.isAny; refine GL.guard rfl rfl (fun hc => ?_) (fun hc => ?_)) | (apply G.isCond; refine G.cond rfl (fun hc => ?_) (fun hc => ?_)) | (apply GD.isAny; refine GD.guard rfl rfl (fun hc => ?_) (fun hc => ?_))) <;> ((try simp only [decide_eq_true_eq, decide_eq_false_iff_not, Bool.not_true, Bool.not_false, ne_eq, Classical.not_not, Int.not_lt, Int.not_le] at hc); (try (exfalso; first | omega | exact hc trivial | exact hc rfl)))))
    have e1 : (D.take (k + 1)).map (fun y : LaidM => Value.agg (encLaid y).toArray) = (D.take k).map (fun y : LaidM => Value.agg (encLaid y).toArray) ++ [.agg (encLaid D[k]).toArray] := by rw [List.take_succ_eq_append_getElem hlt, List.map_append]; rfl
    rw [← e1]
    refine GE.round (k + 1) (hlt) (by repeat (first | exact trivial | refine And.intro rfl ?_)) (fun w h => by (try dsimp only); exact h.sub) (by (try dsimp only); omega)
  obtain rfl : k = D.length := by omega
  rw [List.take_length]
  repeat' (first | (apply GL.isAny; first | refine GL.runA rfl ?_ | (apply GL.isStore; first | refine GL.storeBlk rfl rfl rfl rfl rfl ?_ | refine GL.storeWhole rfl rfl rfl rfl rfl ?_ | refine GL.storeBlkA rfl rfl rfl rfl rfl ?_) | refine GL.guardY rfl rfl ?_ | refine GL.guardN rfl rfl rfl ?_ | refine GL.guardU rfl rfl rfl ?_ | (apply GL.isBox; first | refine GL.boxA rfl rfl (fun _ => ?_) | refine GL.box1 rfl rfl rfl (fun _ => ?_) | refine GL.box rfl rfl (fun _ => ?_)) | (apply GL.isBuildS; first | refine GL.buildSlice1A rfl rfl rfl rfl rfl (fun _ => ?_) | refine GL.buildSlice1 rfl rfl rfl rfl rfl (fun _ => ?_)) | (apply GL.isCall; refine GL.append1 _ rfl rfl rfl rfl (by rfl) (by omega) (by omega) rfl (fun _ => ?_)) | (apply GL.isAlloc; refine GL.alloc rfl (fun _ => ?_))) | apply GL.nil | first | apply G.seq | apply G.region | apply G.block | apply G.skip | apply G.exit | apply G.ret | (apply G.isCond; first | refine G.condT rfl ?_ | refine G.condF rfl ?_) | refine G.draw (by kernel_rfl) (by kernel_rfl) ?_ | (apply GE.isAny; first | apply GE.again | apply GE.thenG | apply GE.blockN | apply GE.blockE | apply GE.thenE | apply GE.thenR | apply GE.blockR | refine GE.blockO rfl ?_ | apply GE.only) | (apply GD.isAny; first | refine GD.runA rfl ?_ | refine GD.guardY rfl rfl ?_ | refine GD.guardN rfl rfl rfl ?_ | refine GD.guardU rfl rfl rfl ?_) | apply GD.nilE | apply GD.nilL | (apply GT.isAny; refine GT.runA rfl rfl ?_) | ((first | (apply GL.isAny; refine GL.guard rfl rfl (fun hc => ?_) (fun hc => ?_)) | (apply G.isCond; refine G.cond rfl (fun hc => ?_) (fun hc => ?_)) | (apply GD.isAny; refine GD.guard rfl rfl (fun hc => ?_) (fun hc => ?_))) <;> ((try simp only [decide_eq_true_eq, decide_eq_false_iff_not, Bool.not_true, Bool.not_false, ne_eq, Classical.not_not, Int.not_lt, Int.not_le] at hc); (try (exfalso; first | omega | exact hc trivial | exact hc rfl)))))
  all_goals (first | (exfalso; omega) | skip)
  refine G.nilOwn 71 encLaid 5 ?_
  refine G.loopK [2, 3, 5, 26, 27] (Nat × Value × List LaidM) (fun y => [(28, .int .i64 y.1), (8, y.2.1)]) (fun y => owns 71 encLaid 5 y.2.1 y.2.2 :: kset Try.prog 71 bm (D.map (fun y : LaidM => Value.agg (encLaid y).toArray)) :: blk bx (.cells (st5 tk2 ac2 aw2 am2 ap2 al2 kc2 kw2 km2 kp2 D.length cc2 cw2 cm2 cp2 cl2) 30 (0, 0)) :: blk b1 (.cells (st5 tk ac aw am ap al kc kw km kp L.length cc cw cm cp cl) 30 (0, 0)) :: F) (fun y => y.1 ≤ L.length ∧ y.2.2 = Snd.gone (L.take y.1) D) (fun y => L.length - y.1) ((0, .slice none 0 0, [])) (⟨Nat.zero_le _, rfl⟩) (by repeat (first | exact trivial | refine And.intro rfl ?_)) (fun w h => by (try dsimp only); first | exact h | exact h.sub | ((try simp only [List.take_zero, List.drop_zero, List.map_nil, List.nil_append, List.zipIdx_nil, List.filter_nil]); exact h.sub)) ?_
  rintro ⟨k, v, out⟩ ⟨hk2, ho⟩
  dsimp only at hk2 ho ⊢
  have hol : out.length ≤ k := by
    have h1 := Snd.gone_len (L.take k) D
    rw [List.length_take] at h1
    rw [ho]; omega
  by_cases hlt2 : k < L.length
  · obtain ⟨kl, hkey⟩ := LaidM.key (wL _ (List.getElem_mem hlt2))
    have hs := Snd.gone_take L D k hlt2
    rw [← ho] at hs
    by_cases hm : L[k] ∈ D
    · rw [if_pos hm, List.append_nil] at hs
      repeat' (first | ((apply GL.isAny; refine GL.run (Runs.lookupK (c := true) (by rw [mem_encLaid]; simp [hm]) rfl rfl hkey) rfl ?_)) | first | (apply GL.isAny; first | refine GL.runA rfl ?_ | (apply GL.isStore; first | refine GL.storeBlk rfl rfl rfl rfl rfl ?_ | refine GL.storeWhole rfl rfl rfl rfl rfl ?_ | refine GL.storeBlkA rfl rfl rfl rfl rfl ?_) | refine GL.guardY rfl rfl ?_ | refine GL.guardN rfl rfl rfl ?_ | refine GL.guardU rfl rfl rfl ?_ | (apply GL.isBox; first | refine GL.boxA rfl rfl (fun _ => ?_) | refine GL.box1 rfl rfl rfl (fun _ => ?_) | refine GL.box rfl rfl (fun _ => ?_)) | (apply GL.isBuildS; first | refine GL.buildSlice1A rfl rfl rfl rfl rfl (fun _ => ?_) | refine GL.buildSlice1 rfl rfl rfl rfl rfl (fun _ => ?_)) | (apply GL.isCall; refine GL.append1 _ rfl rfl rfl rfl (by rfl) (by omega) (by omega) rfl (fun _ => ?_)) | (apply GL.isAlloc; refine GL.alloc rfl (fun _ => ?_))) | apply GL.nil | first | apply G.seq | apply G.region | apply G.block | apply G.skip | apply G.exit | apply G.ret | (apply G.isCond; first | refine G.condT rfl ?_ | refine G.condF rfl ?_) | refine G.draw (by kernel_rfl) (by kernel_rfl) ?_ | (apply GE.isAny; first | apply GE.again | apply GE.thenG | apply GE.blockN | apply GE.blockE | apply GE.thenE | apply GE.thenR | apply GE.blockR | refine GE.blockO rfl ?_ | apply GE.only) | (apply GD.isAny; first | refine GD.runA rfl ?_ | refine GD.guardY rfl rfl ?_ | refine GD.guardN rfl rfl rfl ?_ | refine GD.guardU rfl rfl rfl ?_) | apply GD.nilE | apply GD.nilL | (apply GT.isAny; refine GT.runA rfl rfl ?_) | ((first | (apply GL.isAny; refine GL.guard rfl rfl (fun hc => ?_) (fun hc => ?_)) | (apply G.isCond; refine G.cond rfl (fun hc => ?_) (fun hc => ?_)) | (apply GD.isAny; refine GD.guard rfl rfl (fun hc => ?_) (fun hc => ?_))) <;> ((try simp only [decide_eq_true_eq, decide_eq_false_iff_not, Bool.not_true, Bool.not_false, ne_eq, Classical.not_not, Int.not_lt, Int.not_le] at hc); (try (exfalso; first | omega | exact hc trivial | exact hc rfl)))))
      all_goals (first | (exfalso; omega) | (refine GE.round ((k + 1, v, out)) (⟨hlt2, hs.symm⟩) (by repeat (first | exact trivial | refine And.intro rfl ?_)) (fun w h => by (try dsimp only); exact h.sub) (by (try dsimp only); omega)))
    · rw [if_neg hm] at hs
      repeat' (first | (first | (apply GL.isAny; refine GL.run (Runs.lookupK (c := false) (by rw [mem_encLaid]; simp [hm]) rfl rfl hkey) rfl ?_) | refine GL.append1 (L[k]) rfl rfl rfl rfl (by rfl) (by omega) (by omega) rfl (fun _ => ?_)) | first | (apply GL.isAny; first | refine GL.runA rfl ?_ | (apply GL.isStore; first | refine GL.storeBlk rfl rfl rfl rfl rfl ?_ | refine GL.storeWhole rfl rfl rfl rfl rfl ?_ | refine GL.storeBlkA rfl rfl rfl rfl rfl ?_) | refine GL.guardY rfl rfl ?_ | refine GL.guardN rfl rfl rfl ?_ | refine GL.guardU rfl rfl rfl ?_ | (apply GL.isBox; first | refine GL.boxA rfl rfl (fun _ => ?_) | refine GL.box1 rfl rfl rfl (fun _ => ?_) | refine GL.box rfl rfl (fun _ => ?_)) | (apply GL.isBuildS; first | refine GL.buildSlice1A rfl rfl rfl rfl rfl (fun _ => ?_) | refine GL.buildSlice1 rfl rfl rfl rfl rfl (fun _ => ?_)) | (apply GL.isCall; refine GL.append1 _ rfl rfl rfl rfl (by rfl) (by omega) (by omega) rfl (fun _ => ?_)) | (apply GL.isAlloc; refine GL.alloc rfl (fun _ => ?_))) | apply GL.nil | first | apply G.seq | apply G.region | apply G.block | apply G.skip | apply G.exit | apply G.ret | (apply G.isCond; first | refine G.condT rfl ?_ | refine G.condF rfl ?_) | refine G.draw (by kernel_rfl) (by kernel_rfl) ?_ | (apply GE.isAny; first | apply GE.again | apply GE.thenG | apply GE.blockN | apply GE.blockE | apply GE.thenE | apply GE.thenR | apply GE.blockR | refine GE.blockO rfl ?_ | apply GE.only) | (apply GD.isAny; first | refine GD.runA rfl ?_ | refine GD.guardY rfl rfl ?_ | refine GD.guardN rfl rfl rfl ?_ | refine GD.guardU rfl rfl rfl ?_) | apply GD.nilE | apply GD.nilL | (apply GT.isAny; refine GT.runA rfl rfl ?_) | ((first | (apply GL.isAny; refine GL.guard rfl rfl (fun hc => ?_) (fun hc => ?_)) | (apply G.isCond; refine G.cond rfl (fun hc => ?_) (fun hc => ?_)) | (apply GD.isAny; refine GD.guard rfl rfl (fun hc => ?_) (fun hc => ?_))) <;> ((try simp only [decide_eq_true_eq, decide_eq_false_iff_not, Bool.not_true, Bool.not_false, ne_eq, Classical.not_not, Int.not_lt, Int.not_le] at hc); (try (exfalso; first | omega | exact hc trivial | exact hc rfl)))))
      all_goals (first | (exfalso; omega) | (rename_i v1; refine GE.round ((k + 1, v1, out ++ [L[k]])) (⟨hlt2, hs.symm⟩) (by repeat (first | exact trivial | refine And.intro rfl ?_)) (fun w h => by (try dsimp only); exact h.sub) (by (try dsimp only); omega)))
  · obtain rfl : k = L.length := by omega
    rw [List.take_length] at ho
    subst ho
    repeat' (first | (apply GL.isAny; first | refine GL.runA rfl ?_ | (apply GL.isStore; first | refine GL.storeBlk rfl rfl rfl rfl rfl ?_ | refine GL.storeWhole rfl rfl rfl rfl rfl ?_ | refine GL.storeBlkA rfl rfl rfl rfl rfl ?_) | refine GL.guardY rfl rfl ?_ | refine GL.guardN rfl rfl rfl ?_ | refine GL.guardU rfl rfl rfl ?_ | (apply GL.isBox; first | refine GL.boxA rfl rfl (fun _ => ?_) | refine GL.box1 rfl rfl rfl (fun _ => ?_) | refine GL.box rfl rfl (fun _ => ?_)) | (apply GL.isBuildS; first | refine GL.buildSlice1A rfl rfl rfl rfl rfl (fun _ => ?_) | refine GL.buildSlice1 rfl rfl rfl rfl rfl (fun _ => ?_)) | (apply GL.isCall; refine GL.append1 _ rfl rfl rfl rfl (by rfl) (by omega) (by omega) rfl (fun _ => ?_)) | (apply GL.isAlloc; refine GL.alloc rfl (fun _ => ?_))) | apply GL.nil | first | apply G.seq | apply G.region | apply G.block | apply G.skip | apply G.exit | apply G.ret | (apply G.isCond; first | refine G.condT rfl ?_ | refine G.condF rfl ?_) | refine G.draw (by kernel_rfl) (by kernel_rfl) ?_ | (apply GE.isAny; first | apply GE.again | apply GE.thenG | apply GE.blockN | apply GE.blockE | apply GE.thenE | apply GE.thenR | apply GE.blockR | refine GE.blockO rfl ?_ | apply GE.only) | (apply GD.isAny; first | refine GD.runA rfl ?_ | refine GD.guardY rfl rfl ?_ | refine GD.guardN rfl rfl rfl ?_ | refine GD.guardU rfl rfl rfl ?_) | apply GD.nilE | apply GD.nilL | (apply GT.isAny; refine GT.runA rfl rfl ?_) | ((first | (apply GL.isAny; refine GL.guard rfl rfl (fun hc => ?_) (fun hc => ?_)) | (apply G.isCond; refine G.cond rfl (fun hc => ?_) (fun hc => ?_)) | (apply GD.isAny; refine GD.guard rfl rfl (fun hc => ?_) (fun hc => ?_))) <;> ((try simp only [decide_eq_true_eq, decide_eq_false_iff_not, Bool.not_true, Bool.not_false, ne_eq, Classical.not_not, Int.not_lt, Int.not_le] at hc); (try (exfalso; first | omega | exact hc trivial | exact hc rfl)))))
    all_goals (first | (exfalso; omega) | (refine GE.resOne rfl (by (repeat (first | apply Res.nil | (apply Res.tmp; rfl) | (refine Res.cellA rfl rfl rfl ?_) | (refine Res.cell1 rfl rfl ?_)))) (fun w h => ?_); exact ⟨_, rfl, h.sub⟩))
theorem ref49_Gone (hL : L.length ≤ 100000) (hD : D.length ≤ 100000) (w : World) (F : List HProp) [hr1 : Reads F (.slice al L.length cl) encLaid 5 L] [hr2 : Reads F (.slice al2 D.length cl2) encLaid 5 D] (hw : holds w F) :
    Ct Try.prog 18 #[.agg (st5 tk ac aw am ap al kc kw km kp L.length cc cw cm cp cl), .agg (st5 tk2 ac2 aw2 am2 ap2 al2 kc2 kw2 km2 kp2 D.length cc2 cw2 cm2 cp2 cl2)] w fun e w' => ∃ v, e = .returned v ∧ holds w' (owns 71 encLaid 5 v (Snd.gone L D) :: F) := by
  refine Ct.go (args := [.agg (st5 tk ac aw am ap al kc kw km kp L.length cc cw cm cp cl), .agg (st5 tk2 ac2 aw2 am2 ap2 al2 kc2 kw2 km2 kp2 D.length cc2 cw2 cm2 cp2 cl2)]) Try.func18 rfl rfl rfl hw ?_
  repeat' (first | ((apply GL.isBox; first | refine GL.boxA rfl rfl (fun bx => ?_))) | first | (apply GL.isAny; first | refine GL.runA rfl ?_ | (apply GL.isStore; first | refine GL.storeBlk rfl rfl rfl rfl rfl ?_ | refine GL.storeWhole rfl rfl rfl rfl rfl ?_ | refine GL.storeBlkA rfl rfl rfl rfl rfl ?_) | refine GL.guardY rfl rfl ?_ | refine GL.guardN rfl rfl rfl ?_ | refine GL.guardU rfl rfl rfl ?_ | (apply GL.isBox; first | refine GL.boxA rfl rfl (fun _ => ?_) | refine GL.box1 rfl rfl rfl (fun _ => ?_) | refine GL.box rfl rfl (fun _ => ?_)) | (apply GL.isBuildS; first | refine GL.buildSlice1A rfl rfl rfl rfl rfl (fun _ => ?_) | refine GL.buildSlice1 rfl rfl rfl rfl rfl (fun _ => ?_)) | (apply GL.isCall; refine GL.append1 _ rfl rfl rfl rfl (by rfl) (by omega) (by omega) rfl (fun _ => ?_)) | (apply GL.isAlloc; refine GL.alloc rfl (fun _ => ?_))) | apply GL.nil | first | apply G.seq | apply G.region | apply G.block | apply G.skip | apply G.exit | apply G.ret | (apply G.isCond; first | refine G.condT rfl ?_ | refine G.condF rfl ?_) | refine G.draw (by kernel_rfl) (by kernel_rfl) ?_ | (apply GE.isAny; first | apply GE.again | apply GE.thenG | apply GE.blockN | apply GE.blockE | apply GE.thenE | apply GE.thenR | apply GE.blockR | refine GE.blockO rfl ?_ | apply GE.only) | (apply GD.isAny; first | refine GD.runA rfl ?_ | refine GD.guardY rfl rfl ?_ | refine GD.guardN rfl rfl rfl ?_ | refine GD.guardU rfl rfl rfl ?_) | apply GD.nilE | apply GD.nilL | (apply GT.isAny; refine GT.runA rfl rfl ?_) | ((first | (apply GL.isAny; refine GL.guard rfl rfl (fun hc => ?_) (fun hc => ?_)) | (apply G.isCond; refine G.cond rfl (fun hc => ?_) (fun hc => ?_)) | (apply GD.isAny; refine GD.guard rfl rfl (fun hc => ?_) (fun hc => ?_))) <;> ((try simp only [decide_eq_true_eq, decide_eq_false_iff_not, Bool.not_true, Bool.not_false, ne_eq, Classical.not_not, Int.not_lt, Int.not_le] at hc); (try (exfalso; first | omega | exact hc trivial | exact hc rfl)))))
  rename_i b1
  refine G.nilOwn 71 encLaid 5 ?_
  refine G.loopK [2, 3] (Nat × Value × List LaidM) (fun y => [(6, .int .i64 y.1), (5, y.2.1)]) (fun y => owns 71 encLaid 5 y.2.1 y.2.2 :: blk bx (.cells (st5 tk2 ac2 aw2 am2 ap2 al2 kc2 kw2 km2 kp2 D.length cc2 cw2 cm2 cp2 cl2) 30 (0, 0)) :: blk b1 (.cells (st5 tk ac aw am ap al kc kw km kp L.length cc cw cm cp cl) 30 (0, 0)) :: F) (fun y => y.1 ≤ L.length ∧ y.2.2 = Snd.gone (L.take y.1) D) (fun y => L.length - y.1) ((0, .slice none 0 0, [])) (⟨Nat.zero_le _, rfl⟩) (by repeat (first | exact trivial | refine And.intro rfl ?_)) (fun w h => by (try dsimp only); first | exact h | exact h.sub | ((try simp only [List.take_zero, List.drop_zero, List.map_nil, List.nil_append, List.zipIdx_nil, List.filter_nil]); exact h.sub)) ?_
  rintro ⟨k, v, out⟩ ⟨hk2, ho⟩
  dsimp only at hk2 ho ⊢
  have hol : out.length ≤ k := by
    have h1 := Snd.gone_len (L.take k) D
    rw [List.length_take] at h1
    rw [ho]; omega
  by_cases hlt2 : k < L.length
  · have hs := Snd.gone_take L D k hlt2
    rw [← ho] at hs
    repeat' (first | (apply GL.isAny; first | refine GL.runA rfl ?_ | (apply GL.isStore; first | refine GL.storeBlk rfl rfl rfl rfl rfl ?_ | refine GL.storeWhole rfl rfl rfl rfl rfl ?_ | refine GL.storeBlkA rfl rfl rfl rfl rfl ?_) | refine GL.guardY rfl rfl ?_ | refine GL.guardN rfl rfl rfl ?_ | refine GL.guardU rfl rfl rfl ?_ | (apply GL.isBox; first | refine GL.boxA rfl rfl (fun _ => ?_) | refine GL.box1 rfl rfl rfl (fun _ => ?_) | refine GL.box rfl rfl (fun _ => ?_)) | (apply GL.isBuildS; first | refine GL.buildSlice1A rfl rfl rfl rfl rfl (fun _ => ?_) | refine GL.buildSlice1 rfl rfl rfl rfl rfl (fun _ => ?_)) | (apply GL.isCall; refine GL.append1 _ rfl rfl rfl rfl (by rfl) (by omega) (by omega) rfl (fun _ => ?_)) | (apply GL.isAlloc; refine GL.alloc rfl (fun _ => ?_))) | apply GL.nil | first | apply G.seq | apply G.region | apply G.block | apply G.skip | apply G.exit | apply G.ret | (apply G.isCond; first | refine G.condT rfl ?_ | refine G.condF rfl ?_) | refine G.draw (by kernel_rfl) (by kernel_rfl) ?_ | (apply GE.isAny; first | apply GE.again | apply GE.thenG | apply GE.blockN | apply GE.blockE | apply GE.thenE | apply GE.thenR | apply GE.blockR | refine GE.blockO rfl ?_ | apply GE.only) | (apply GD.isAny; first | refine GD.runA rfl ?_ | refine GD.guardY rfl rfl ?_ | refine GD.guardN rfl rfl rfl ?_ | refine GD.guardU rfl rfl rfl ?_) | apply GD.nilE | apply GD.nilL | (apply GT.isAny; refine GT.runA rfl rfl ?_) | ((first | (apply GL.isAny; refine GL.guard rfl rfl (fun hc => ?_) (fun hc => ?_)) | (apply G.isCond; refine G.cond rfl (fun hc => ?_) (fun hc => ?_)) | (apply GD.isAny; refine GD.guard rfl rfl (fun hc => ?_) (fun hc => ?_))) <;> ((try simp only [decide_eq_true_eq, decide_eq_false_iff_not, Bool.not_true, Bool.not_false, ne_eq, Classical.not_not, Int.not_lt, Int.not_le] at hc); (try (exfalso; first | omega | exact hc trivial | exact hc rfl)))))
    refine G.loopK [2, 3, 6, 5] (Nat × Bool) (fun y => [(8, .int .i64 y.1), (7, .bool y.2)]) (fun _ => owns 71 encLaid 5 v out :: blk bx (.cells (st5 tk2 ac2 aw2 am2 ap2 al2 kc2 kw2 km2 kp2 D.length cc2 cw2 cm2 cp2 cl2) 30 (0, 0)) :: blk b1 (.cells (st5 tk ac aw am ap al kc kw km kp L.length cc cw cm cp cl) 30 (0, 0)) :: F) (fun y => y.1 ≤ D.length ∧ y.2 = decide (L[k] ∈ D.take y.1)) (fun y => D.length - y.1) ((0, false)) (⟨Nat.zero_le _, by simp⟩) (by repeat (first | exact trivial | refine And.intro rfl ?_)) (fun w h => by (try dsimp only); first | exact h | exact h.sub | ((try simp only [List.take_zero, List.drop_zero, List.map_nil, List.nil_append, List.zipIdx_nil, List.filter_nil]); exact h.sub)) ?_
    rintro ⟨j, th⟩ ⟨hj, hth⟩
    dsimp only at hj hth ⊢
    by_cases hjl : j < D.length
    · have hst : decide (L[k] ∈ D.take (j + 1)) = (th || decide (L[k] = D[j])) := by
        rw [hth, List.take_succ_eq_append_getElem hjl]
        simp only [List.mem_append, List.mem_singleton, Bool.decide_or]
      cases th
      · repeat' (first | (apply GL.isAny; first | refine GL.runA rfl ?_ | (apply GL.isStore; first | refine GL.storeBlk rfl rfl rfl rfl rfl ?_ | refine GL.storeWhole rfl rfl rfl rfl rfl ?_ | refine GL.storeBlkA rfl rfl rfl rfl rfl ?_) | refine GL.guardY rfl rfl ?_ | refine GL.guardN rfl rfl rfl ?_ | refine GL.guardU rfl rfl rfl ?_ | (apply GL.isBox; first | refine GL.boxA rfl rfl (fun _ => ?_) | refine GL.box1 rfl rfl rfl (fun _ => ?_) | refine GL.box rfl rfl (fun _ => ?_)) | (apply GL.isBuildS; first | refine GL.buildSlice1A rfl rfl rfl rfl rfl (fun _ => ?_) | refine GL.buildSlice1 rfl rfl rfl rfl rfl (fun _ => ?_)) | (apply GL.isCall; refine GL.append1 _ rfl rfl rfl rfl (by rfl) (by omega) (by omega) rfl (fun _ => ?_)) | (apply GL.isAlloc; refine GL.alloc rfl (fun _ => ?_))) | apply GL.nil | first | apply G.seq | apply G.region | apply G.block | apply G.skip | apply G.exit | apply G.ret | (apply G.isCond; first | refine G.condT rfl ?_ | refine G.condF rfl ?_) | refine G.draw (by kernel_rfl) (by kernel_rfl) ?_ | (apply GE.isAny; first | apply GE.again | apply GE.thenG | apply GE.blockN | apply GE.blockE | apply GE.thenE | apply GE.thenR | apply GE.blockR | refine GE.blockO rfl ?_ | apply GE.only) | (apply GD.isAny; first | refine GD.runA rfl ?_ | refine GD.guardY rfl rfl ?_ | refine GD.guardN rfl rfl rfl ?_ | refine GD.guardU rfl rfl rfl ?_) | apply GD.nilE | apply GD.nilL | (apply GT.isAny; refine GT.runA rfl rfl ?_) | ((first | (apply GL.isAny; refine GL.guard rfl rfl (fun hc => ?_) (fun hc => ?_)) | (apply G.isCond; refine G.cond rfl (fun hc => ?_) (fun hc => ?_)) | (apply GD.isAny; refine GD.guard rfl rfl (fun hc => ?_) (fun hc => ?_))) <;> ((try simp only [decide_eq_true_eq, decide_eq_false_iff_not, Bool.not_true, Bool.not_false, ne_eq, Classical.not_not, Int.not_lt, Int.not_le] at hc); (try (exfalso; first | omega | exact hc trivial | exact hc rfl)))))
        all_goals (first | (exfalso; omega) | (refine GE.round ((j + 1, decide ([(L[k]).chunk, (L[k]).gen, (L[k]).region, (L[k]).pos, (L[k]).len] = [(D[j]).chunk, (D[j]).gen, (D[j]).region, (D[j]).pos, (D[j]).len]))) (⟨hjl, by dsimp only; rw [hst, Bool.false_or, decide_eq_decide]; simp [LaidM.ext_iff2]⟩) (by repeat (first | exact trivial | refine And.intro rfl ?_)) (fun w h => by (try dsimp only); exact h.sub) (by (try dsimp only); omega)))
      · repeat' (first | (apply GL.isAny; first | refine GL.runA rfl ?_ | (apply GL.isStore; first | refine GL.storeBlk rfl rfl rfl rfl rfl ?_ | refine GL.storeWhole rfl rfl rfl rfl rfl ?_ | refine GL.storeBlkA rfl rfl rfl rfl rfl ?_) | refine GL.guardY rfl rfl ?_ | refine GL.guardN rfl rfl rfl ?_ | refine GL.guardU rfl rfl rfl ?_ | (apply GL.isBox; first | refine GL.boxA rfl rfl (fun _ => ?_) | refine GL.box1 rfl rfl rfl (fun _ => ?_) | refine GL.box rfl rfl (fun _ => ?_)) | (apply GL.isBuildS; first | refine GL.buildSlice1A rfl rfl rfl rfl rfl (fun _ => ?_) | refine GL.buildSlice1 rfl rfl rfl rfl rfl (fun _ => ?_)) | (apply GL.isCall; refine GL.append1 _ rfl rfl rfl rfl (by rfl) (by omega) (by omega) rfl (fun _ => ?_)) | (apply GL.isAlloc; refine GL.alloc rfl (fun _ => ?_))) | apply GL.nil | first | apply G.seq | apply G.region | apply G.block | apply G.skip | apply G.exit | apply G.ret | (apply G.isCond; first | refine G.condT rfl ?_ | refine G.condF rfl ?_) | refine G.draw (by kernel_rfl) (by kernel_rfl) ?_ | (apply GE.isAny; first | apply GE.again | apply GE.thenG | apply GE.blockN | apply GE.blockE | apply GE.thenE | apply GE.thenR | apply GE.blockR | refine GE.blockO rfl ?_ | apply GE.only) | (apply GD.isAny; first | refine GD.runA rfl ?_ | refine GD.guardY rfl rfl ?_ | refine GD.guardN rfl rfl rfl ?_ | refine GD.guardU rfl rfl rfl ?_) | apply GD.nilE | apply GD.nilL | (apply GT.isAny; refine GT.runA rfl rfl ?_) | ((first | (apply GL.isAny; refine GL.guard rfl rfl (fun hc => ?_) (fun hc => ?_)) | (apply G.isCond; refine G.cond rfl (fun hc => ?_) (fun hc => ?_)) | (apply GD.isAny; refine GD.guard rfl rfl (fun hc => ?_) (fun hc => ?_))) <;> ((try simp only [decide_eq_true_eq, decide_eq_false_iff_not, Bool.not_true, Bool.not_false, ne_eq, Classical.not_not, Int.not_lt, Int.not_le] at hc); (try (exfalso; first | omega | exact hc trivial | exact hc rfl)))))
        all_goals (first | (exfalso; omega) | (refine GE.round ((j + 1, true)) (⟨hjl, by dsimp only; rw [hst, Bool.true_or]⟩) (by repeat (first | exact trivial | refine And.intro rfl ?_)) (fun w h => by (try dsimp only); exact h.sub) (by (try dsimp only); omega)))
    · obtain rfl : j = D.length := by omega
      rw [List.take_length] at hth
      by_cases hm : L[k] ∈ D
      · rw [if_pos hm, List.append_nil] at hs
        rw [decide_eq_true hm] at hth
        subst hth
        repeat' (first | (apply GL.isAny; first | refine GL.runA rfl ?_ | (apply GL.isStore; first | refine GL.storeBlk rfl rfl rfl rfl rfl ?_ | refine GL.storeWhole rfl rfl rfl rfl rfl ?_ | refine GL.storeBlkA rfl rfl rfl rfl rfl ?_) | refine GL.guardY rfl rfl ?_ | refine GL.guardN rfl rfl rfl ?_ | refine GL.guardU rfl rfl rfl ?_ | (apply GL.isBox; first | refine GL.boxA rfl rfl (fun _ => ?_) | refine GL.box1 rfl rfl rfl (fun _ => ?_) | refine GL.box rfl rfl (fun _ => ?_)) | (apply GL.isBuildS; first | refine GL.buildSlice1A rfl rfl rfl rfl rfl (fun _ => ?_) | refine GL.buildSlice1 rfl rfl rfl rfl rfl (fun _ => ?_)) | (apply GL.isCall; refine GL.append1 _ rfl rfl rfl rfl (by rfl) (by omega) (by omega) rfl (fun _ => ?_)) | (apply GL.isAlloc; refine GL.alloc rfl (fun _ => ?_))) | apply GL.nil | first | apply G.seq | apply G.region | apply G.block | apply G.skip | apply G.exit | apply G.ret | (apply G.isCond; first | refine G.condT rfl ?_ | refine G.condF rfl ?_) | refine G.draw (by kernel_rfl) (by kernel_rfl) ?_ | (apply GE.isAny; first | apply GE.again | apply GE.thenG | apply GE.blockN | apply GE.blockE | apply GE.thenE | apply GE.thenR | apply GE.blockR | refine GE.blockO rfl ?_ | apply GE.only) | (apply GD.isAny; first | refine GD.runA rfl ?_ | refine GD.guardY rfl rfl ?_ | refine GD.guardN rfl rfl rfl ?_ | refine GD.guardU rfl rfl rfl ?_) | apply GD.nilE | apply GD.nilL | (apply GT.isAny; refine GT.runA rfl rfl ?_) | ((first | (apply GL.isAny; refine GL.guard rfl rfl (fun hc => ?_) (fun hc => ?_)) | (apply G.isCond; refine G.cond rfl (fun hc => ?_) (fun hc => ?_)) | (apply GD.isAny; refine GD.guard rfl rfl (fun hc => ?_) (fun hc => ?_))) <;> ((try simp only [decide_eq_true_eq, decide_eq_false_iff_not, Bool.not_true, Bool.not_false, ne_eq, Classical.not_not, Int.not_lt, Int.not_le] at hc); (try (exfalso; first | omega | exact hc trivial | exact hc rfl)))))
        all_goals (first | (exfalso; omega) | (refine GE.round ((k + 1, v, out)) (⟨hlt2, hs.symm⟩) (by repeat (first | exact trivial | refine And.intro rfl ?_)) (fun w h => by (try dsimp only); exact h.sub) (by (try dsimp only); omega)))
      · rw [if_neg hm] at hs
        rw [decide_eq_false hm] at hth
        subst hth
        repeat' (first | (refine GL.append1 (L[k]) rfl rfl rfl rfl (by rfl) (by omega) (by omega) rfl (fun _ => ?_)) | first | (apply GL.isAny; first | refine GL.runA rfl ?_ | (apply GL.isStore; first | refine GL.storeBlk rfl rfl rfl rfl rfl ?_ | refine GL.storeWhole rfl rfl rfl rfl rfl ?_ | refine GL.storeBlkA rfl rfl rfl rfl rfl ?_) | refine GL.guardY rfl rfl ?_ | refine GL.guardN rfl rfl rfl ?_ | refine GL.guardU rfl rfl rfl ?_ | (apply GL.isBox; first | refine GL.boxA rfl rfl (fun _ => ?_) | refine GL.box1 rfl rfl rfl (fun _ => ?_) | refine GL.box rfl rfl (fun _ => ?_)) | (apply GL.isBuildS; first | refine GL.buildSlice1A rfl rfl rfl rfl rfl (fun _ => ?_) | refine GL.buildSlice1 rfl rfl rfl rfl rfl (fun _ => ?_)) | (apply GL.isCall; refine GL.append1 _ rfl rfl rfl rfl (by rfl) (by omega) (by omega) rfl (fun _ => ?_)) | (apply GL.isAlloc; refine GL.alloc rfl (fun _ => ?_))) | apply GL.nil | first | apply G.seq | apply G.region | apply G.block | apply G.skip | apply G.exit | apply G.ret | (apply G.isCond; first | refine G.condT rfl ?_ | refine G.condF rfl ?_) | refine G.draw (by kernel_rfl) (by kernel_rfl) ?_ | (apply GE.isAny; first | apply GE.again | apply GE.thenG | apply GE.blockN | apply GE.blockE | apply GE.thenE | apply GE.thenR | apply GE.blockR | refine GE.blockO rfl ?_ | apply GE.only) | (apply GD.isAny; first | refine GD.runA rfl ?_ | refine GD.guardY rfl rfl ?_ | refine GD.guardN rfl rfl rfl ?_ | refine GD.guardU rfl rfl rfl ?_) | apply GD.nilE | apply GD.nilL | (apply GT.isAny; refine GT.runA rfl rfl ?_) | ((first | (apply GL.isAny; refine GL.guard rfl rfl (fun hc => ?_) (fun hc => ?_)) | (apply G.isCond; refine G.cond rfl (fun hc => ?_) (fun hc => ?_)) | (apply GD.isAny; refine GD.guard rfl rfl (fun hc => ?_) (fun hc => ?_))) <;> ((try simp only [decide_eq_true_eq, decide_eq_false_iff_not, Bool.not_true, Bool.not_false, ne_eq, Classical.not_not, Int.not_lt, Int.not_le] at hc); (try (exfalso; first | omega | exact hc trivial | exact hc rfl)))))
        all_goals (first | (exfalso; omega) | (rename_i v1; refine GE.round ((k + 1, v1, out ++ [L[k]])) (⟨hlt2, hs.symm⟩) (by repeat (first | exact trivial | refine And.intro rfl ?_)) (fun w h => by (try dsimp only); exact h.sub) (by (try dsimp only); omega)))
  · obtain rfl : k = L.length := by omega
    rw [List.take_length] at ho
    subst ho
    repeat' (first | (apply GL.isAny; first | refine GL.runA rfl ?_ | (apply GL.isStore; first | refine GL.storeBlk rfl rfl rfl rfl rfl ?_ | refine GL.storeWhole rfl rfl rfl rfl rfl ?_ | refine GL.storeBlkA rfl rfl rfl rfl rfl ?_) | refine GL.guardY rfl rfl ?_ | refine GL.guardN rfl rfl rfl ?_ | refine GL.guardU rfl rfl rfl ?_ | (apply GL.isBox; first | refine GL.boxA rfl rfl (fun _ => ?_) | refine GL.box1 rfl rfl rfl (fun _ => ?_) | refine GL.box rfl rfl (fun _ => ?_)) | (apply GL.isBuildS; first | refine GL.buildSlice1A rfl rfl rfl rfl rfl (fun _ => ?_) | refine GL.buildSlice1 rfl rfl rfl rfl rfl (fun _ => ?_)) | (apply GL.isCall; refine GL.append1 _ rfl rfl rfl rfl (by rfl) (by omega) (by omega) rfl (fun _ => ?_)) | (apply GL.isAlloc; refine GL.alloc rfl (fun _ => ?_))) | apply GL.nil | first | apply G.seq | apply G.region | apply G.block | apply G.skip | apply G.exit | apply G.ret | (apply G.isCond; first | refine G.condT rfl ?_ | refine G.condF rfl ?_) | refine G.draw (by kernel_rfl) (by kernel_rfl) ?_ | (apply GE.isAny; first | apply GE.again | apply GE.thenG | apply GE.blockN | apply GE.blockE | apply GE.thenE | apply GE.thenR | apply GE.blockR | refine GE.blockO rfl ?_ | apply GE.only) | (apply GD.isAny; first | refine GD.runA rfl ?_ | refine GD.guardY rfl rfl ?_ | refine GD.guardN rfl rfl rfl ?_ | refine GD.guardU rfl rfl rfl ?_) | apply GD.nilE | apply GD.nilL | (apply GT.isAny; refine GT.runA rfl rfl ?_) | ((first | (apply GL.isAny; refine GL.guard rfl rfl (fun hc => ?_) (fun hc => ?_)) | (apply G.isCond; refine G.cond rfl (fun hc => ?_) (fun hc => ?_)) | (apply GD.isAny; refine GD.guard rfl rfl (fun hc => ?_) (fun hc => ?_))) <;> ((try simp only [decide_eq_true_eq, decide_eq_false_iff_not, Bool.not_true, Bool.not_false, ne_eq, Classical.not_not, Int.not_lt, Int.not_le] at hc); (try (exfalso; first | omega | exact hc trivial | exact hc rfl)))))
    all_goals (first | (exfalso; omega) | (refine GE.resOne rfl (by (repeat (first | apply Res.nil | (apply Res.tmp; rfl) | (refine Res.cellA rfl rfl rfl ?_) | (refine Res.cell1 rfl rfl ?_)))) (fun w h => ?_); exact ⟨_, rfl, h.sub⟩))
end
end Go.Proofs.Ytfiggkbclldccaa

/- Arguments of chapter 49's laws: states whose laid pieces are well formed. -/
namespace Go.Proofs.Ytfiggkbclldccaa
open Go Go.RowKit Go.MapKept Go.ChangeShapes Go.WideShapes Go.Deep Go.Joins
set_option linter.unusedVariables false
set_option maxRecDepth 100000

section
variable {H : Type} {enc0 : TypeId × Value → H} {W : World} {r : Reach} {b0 : Nat} {sp : Nat → Bool} {held : Bool}
theorem el_laidW (n : Nat) (cs : List Value) (x : DataW H × List MemPlace) (h : DataW.trod enc0 Try.prog W 0 sp held n 71 cs = some x) : ∃ a : LaidM, a.Wf ∧ cs = encLaid a := by
  obtain ⟨v1, c1, rfl, ⟨a1, rfl, w1⟩, v2, c2, rfl, ⟨a2, rfl, w2⟩, v3, c3, rfl, ⟨a3, rfl, w3⟩, v4, c4, rfl, ⟨a4, rfl, w4⟩, v5, c5, rfl, ⟨a5, rfl, w5⟩, rfl⟩ := ckind_ok 5 _ [.int .i64, .int .i64, .int .i64, .int .i64, .int .i64] (by kernel_rfl) n cs x h
  exact ⟨⟨a1, a2, a3, a4, a5⟩, ⟨w1, w2, w3, w4, w5⟩, rfl⟩
/-- A state that is a parameter. -/
theorem arg_stateW {v : Value} {d : DataW H} {p : List MemPlace} (hv : Value.okWide Try.prog W r b0 30 v) (h : DataW.Trod enc0 Try.prog W 0 sp held 30 v d p) :
    ∃ (tk : Int) (ac aw am ap al : Option Addr) (kc kw km kp kl cc cw cm cp cl : Nat) (C : List ChunkM) (Q : List Int) (M : List MbM) (T : List TickM) (L : List LaidM),
      v = .agg (st5 tk ac aw am ap al kc kw km kp kl cc cw cm cp cl) ∧ (∀ c ∈ C, (Lit.int .i64 c.owner).wf = true) ∧ (∀ m ∈ M, m.acc.Fits) ∧ (∀ x ∈ L, x.Wf) ∧
      (∀ (F : List HProp) [SeesAll W F], Reads F (.slice ac kc cc) chunkCells 3 C) ∧ (∀ (F : List HProp) [SeesAll W F], Reads F (.slice aw kw cw) encI1 1 Q) ∧ (∀ (F : List HProp) [SeesAll W F], Reads F (.slice am km cm) encMb 4 M) ∧ (∀ (F : List HProp) [SeesAll W F], Reads F (.slice ap kp cp) encTk 5 T) ∧ (∀ (F : List HProp) [SeesAll W F], Reads F (.slice al kl cl) encLaid 5 L) := by
  obtain ⟨cs, rfl, ok⟩ := arg_struct Try.underlying30 (k := 7) (ks := [.int .i64, .slice 24, .slice 25, .slice 26, .slice 27, .slice 28]) (by kernel_rfl) hv h
  obtain ⟨_, _, rfl, ⟨tk, rfl, _⟩, _, _, rfl, ⟨n1, x1, t1⟩, _, _, rfl, ⟨n2, x2, t2⟩, _, _, rfl, ⟨n3, x3, t3⟩, _, _, rfl, ⟨n4, x4, t4⟩, _, _, rfl, ⟨n5, x5, t5⟩, rfl⟩ := ok
  obtain ⟨ac, kc, cc, rfl⟩ := arg_slcv Try.underlying24 t1
  obtain ⟨aw, kw, cw, rfl⟩ := arg_slcv Try.underlying25 t2
  obtain ⟨am, km, cm, rfl⟩ := arg_slcv Try.underlying26 t3
  obtain ⟨ap, kp, cp, rfl⟩ := arg_slcv Try.underlying27 t4
  obtain ⟨al, kl, cl, rfl⟩ := arg_slcv Try.underlying28 t5
  obtain ⟨C, g1, _, i1⟩ := arg_row (enc := chunkCells) chunkWf Try.underlying24 (by kernel_rfl) t1 trod_chunk
  obtain ⟨Q, _, _, i2⟩ := arg_row (enc := encI1) (fun _ => True) Try.underlying25 (by kernel_rfl) t2 el_int1
  obtain ⟨M, g3, _, i3⟩ := arg_row (enc := encMb) (fun a => a.acc.Fits) Try.underlying26 (by kernel_rfl) t3 el_member
  obtain ⟨T, _, _, i4⟩ := arg_row (enc := encTk) (fun a => (Lit.int .i64 a.id).wf = true) Try.underlying27 (by kernel_rfl) t4 el_ticket
  obtain ⟨L, g5, _, i5⟩ := arg_row (enc := encLaid) LaidM.Wf Try.underlying28 (by kernel_rfl) t5 el_laidW
  exact ⟨tk, ac, aw, am, ap, al, kc, kw, km, kp, kl, cc, cw, cm, cp, cl, C, Q, M, T, L, rfl, fun c hc => (g1 c hc).2.1, g3, g5, i1, i2, i3, i4, i5⟩
end
end Go.Proofs.Ytfiggkbclldccaa

/- Functions of sync/atomic, which have no body: they load, store, add and swap. -/
namespace Go.Proofs.Ytfiggkbclldccaa
open Go Go.RowKit Go.MapKept
set_option linter.unusedVariables false
set_option linter.unusedSimpArgs false
section
variable {P : Program} {f : FuncId} {fn : Func}
class ExtLoad (P : Program) (f : FuncId) (k : outParam IntKind) : Prop where
  run : ∀ (a : Addr) (x : Int) (w : World), w.cell? a = some (.int k x) → (callFunc f #[.pointer (some a)]).run P w = .ok (.value (.int k x)) w
theorem ExtLoad.of (hf : P.funcs[f]? = some fn) (hname : (fn.name == "runtime.NumGoroutine") = false) (hb : fn.body.isNone = true) (hn : Extern.findNext fn = none) (k : IntKind) (he : Extern.find fn = some (Extern.Atomic.loadT (.int k))) : ExtLoad P f k := ⟨fun a x w hc => run_call_load hf hname hb hn k he hc⟩
class ExtStore (P : Program) (f : FuncId) : Prop where
  run : ∀ (a : Addr) (k : IntKind) (y : Int) (u : Value) (w : World), w.cell? a = some u → w.frozen? a = false → (callFunc f #[.pointer (some a), .int k y]).run P w = .ok (.value (.tuple #[])) (w.setCell a (.int k y))
theorem ExtStore.of (hf : P.funcs[f]? = some fn) (hname : (fn.name == "runtime.NumGoroutine") = false) (hb : fn.body.isNone = true) (hn : Extern.findNext fn = none) (he : Extern.find fn = some Extern.Atomic.storeT) : ExtStore P f := ⟨fun a k y u w hc hz => run_call_store hf hname hb hn he hc hz⟩
class ExtAdd (P : Program) (f : FuncId) (k : outParam IntKind) : Prop where
  run : ∀ (a : Addr) (x y : Int) (w : World), w.cell? a = some (.int k x) → w.frozen? a = false → (callFunc f #[.pointer (some a), .int k y]).run P w = .ok (.value (.int k (k.wrap (x + y)))) (w.setCell a (.int k (k.wrap (x + y))))
theorem ExtAdd.of (hf : P.funcs[f]? = some fn) (hname : (fn.name == "runtime.NumGoroutine") = false) (hb : fn.body.isNone = true) (hn : Extern.findNext fn = none) (k : IntKind) (he : Extern.find fn = some (Extern.Atomic.update (Op.intArith .add) k true)) : ExtAdd P f k := ⟨fun a x y w hc hz => run_call_add hf hname hb hn k he hc hz (by simp [Op.intArith])⟩
class ExtCas (P : Program) (f : FuncId) (k : outParam IntKind) : Prop where
  run : ∀ (a : Addr) (x y : Int) (w : World), w.cell? a = some (.int k x) → w.frozen? a = false → (callFunc f #[.pointer (some a), .int k x, .int k y]).run P w = .ok (.value (.bool true)) (w.setCell a (.int k y))
theorem ExtCas.of (hf : P.funcs[f]? = some fn) (hname : (fn.name == "runtime.NumGoroutine") = false) (hb : fn.body.isNone = true) (hn : Extern.findNext fn = none) (k : IntKind) (he : Extern.find fn = some (Extern.Atomic.casT (.int k))) : ExtCas P f k := ⟨fun a x y w hc hz => run_call_cas_hit hf hname hb hn k he hc hz⟩
end
theorem holds.notFrozen {w : World} {l : List HProp} {b o : Nat} {c : Array Value} {T : TypeId} (h : holds w (blk b (.cells c T (0, 0)) :: l)) : w.frozen? ⟨b, o, none⟩ = false := by
  simp [World.frozen?, h.get_blk]
theorem holds.cellAt {w : World} {l : List HProp} {b o : Nat} {c : Array Value} {T : TypeId} {u : Value} (h : holds w (blk b (.cells c T (0, 0)) :: l)) (hu : nthL c.toList o = some u) : w.cell? ⟨b, o, none⟩ = some u := (cell_of_row w b o c T (0, 0) h.get_blk).trans (nthL_arr hu)
theorem holds.setAt {w : World} {l : List HProp} {b o : Nat} {c : Array Value} {T : TypeId} {u : Value} (h : holds w (blk b (.cells c T (0, 0)) :: l)) : holds (w.setCell ⟨b, o, none⟩ u) (blk b (.cells (c.toList.set o u).toArray T (0, 0)) :: l) := by
  have h1 := h.setCell o u
  have : (c.toList.set o u).toArray = c.setIfInBounds o u := by apply Array.ext'; simp
  rw [this]; exact h1
section
variable {P : Program} {n d : Nat} {Q : Exit → Act → World → Prop} {env : Env} {F F' : List HProp} {ops : Array Oper} {rest : List Oper} {ty T : TypeId} {pos : String} {aft : Array Edge} {f : FuncId} {k : IntKind} {xs : List Operand} {b o : Nat} {c : Array Value} {i j : Int} {ts : Array TypeId} {u : Value}
theorem Fits.callRun {a : Act} {w w' : World} {vs : List Value} {r : Next} {d : Option Tmp} {g : Option (Nat × Bool)} (hf : Fits n a env) (hx : opnds env xs = some vs) (hr : (callFunc f vs.toArray).run P w = .ok r w') :
    (execOp a.eval ⟨d, .call { callee := .value (.func f), args := xs.toArray, argTypes := ts }, ty, pos, aft, g⟩).run P w = .ok r w' := by
  simp [execOp, resolve, Act.eval, Deferred.ofValue, invoke, hf.evals hx, Result.andThen]
  exact hr
theorem Runs.extLoad [he : ExtLoad P f k] [hb : SeesBlk F b c] (hx : opnds env xs = some [.pointer (some ⟨b, o, none⟩)]) (hu : nthL c.toList o = some (.int k i)) : Runs P n env F (.call { callee := .value (.func f), args := xs.toArray, argTypes := ts }) (.int k i) := .mk fun a w ty pos aft g d hf hw => by
  obtain ⟨T, fz, h⟩ := hb.at_ w hw
  have hc : w.cell? ⟨b, o, none⟩ = some (.int k i) := (cell_of_row w b o c T fz h).trans (nthL_arr hu)
  exact hf.callRun hx (he.run _ _ w hc)
theorem GL.extStore [hs : ExtStore P f] (hx : opnds env xs = some [.pointer (some ⟨b, o, none⟩), .int k i]) [hb : HasBlk F b c T F'] (hu : nthL c.toList o = some u) (hd : Nat.blt d n = true)
    (h : GL P n ops Q rest ((d, .tuple #[]) :: env) (blk b (.cells (c.toList.set o (.int k i)).toArray T (0, 0)) :: F')) :
    GL P n ops Q (⟨some d, .call { callee := .value (.func f), args := xs.toArray, argTypes := ts }, ty, pos, aft, none⟩ :: rest) env F := .mk fun a w hf hw => by
  refine wpList_plain rfl fun K hK => ?_
  have h1 := hw.perm hb.perm
  unfold Oper.wp
  rw [hf.callRun hx (hs.run ⟨b, o, none⟩ k i u w (h1.cellAt hu) h1.notFrozen)]
  exact hK _ _ (h _ _ (hf.put hd _) h1.setAt)
/-- The end of a function without results. -/
theorem GE.res0 {fn : Func} {R : Ending → World → Prop} {e : Exit} (he : e = .normal ∨ e = .ret) (hr : fn.results = #[]) (hR : ∀ w, holds w F → R (.returned (.tuple #[])) w) : GE n e (bodyPost P fn R) env F := .mk fun a w hf hw => by
  have h1 : (results fn a.tmps).run P w = .ok (.tuple #[]) w := by simp [results, hr]
  rcases he with rfl | rfl <;> exact ⟨hf.defs, _, h1, hR w hw⟩
end
end Go.Proofs.Ytfiggkbclldccaa

/- Numbers without a sign in the new road: shifts, bits, wrapping, conversions. -/
namespace Go.Proofs.Ytfiggkbclldccaa
open Go Go.RowKit Go.MapKept
set_option linter.unusedVariables false
set_option linter.unusedSimpArgs false
theorem wrapU (n : Int) : IntKind.u64.wrap n = n % 18446744073709551616 := by simp [IntKind.wrap, IntKind.bits, IntKind.signed]
theorem wrapB (n : Int) : IntKind.u8.wrap n = n % 256 := by simp [IntKind.wrap, IntKind.bits, IntKind.signed]
def xorI (i j : Int) : Int := ((BitVec.ofInt 64 i ^^^ BitVec.ofInt 64 j).toNat : Nat)
def orI (i j : Int) : Int := ((BitVec.ofInt 64 i ||| BitVec.ofInt 64 j).toNat : Nat)
def andI (i j : Int) : Int := ((BitVec.ofInt 64 i &&& BitVec.ofInt 64 j).toNat : Nat)
theorem natBV_lt (v : BitVec 64) : 0 ≤ ((v.toNat : Nat) : Int) ∧ ((v.toNat : Nat) : Int) ≤ 18446744073709551615 := by have := v.isLt; omega
theorem xorI_in (i j : Int) : 0 ≤ xorI i j ∧ xorI i j ≤ 18446744073709551615 := natBV_lt _
theorem orI_in (i j : Int) : 0 ≤ orI i j ∧ orI i j ≤ 18446744073709551615 := natBV_lt _
theorem andI_in (i j : Int) : 0 ≤ andI i j ∧ andI i j ≤ 18446744073709551615 := natBV_lt _
theorem nat_or_eq : ∀ (a b : Nat), a ||| b = (a ^^^ b) + (a &&& b) := by
  intro a
  induction a using Nat.strongRecOn with
  | ind a ih =>
    intro b
    by_cases h : a = 0
    · subst h; simp
    · have h1 := ih (a / 2) (by omega) (b / 2)
      have e1 : (a ||| b) = 2 * (a / 2 ||| b / 2) + (a ||| b) % 2 := by rw [← Nat.or_div_two]; omega
      have e2 : (a ^^^ b) = 2 * (a / 2 ^^^ b / 2) + (a ^^^ b) % 2 := by rw [← Nat.xor_div_two]; omega
      have e3 : (a &&& b) = 2 * (a / 2 &&& b / 2) + (a &&& b) % 2 := by rw [← Nat.and_div_two]; omega
      have t1 : (a ||| b) % 2 = (a ^^^ b) % 2 + (a &&& b) % 2 := by
        have q1 : (a ||| b) % 2 = 1 ↔ a % 2 = 1 ∨ b % 2 = 1 := Nat.or_mod_two_eq_one
        have q2 : (a ^^^ b) % 2 = 1 ↔ ¬ (a % 2 = 1 ↔ b % 2 = 1) := Nat.xor_mod_two_eq_one
        have q3 : (a &&& b) % 2 = 1 ↔ a % 2 = 1 ∧ b % 2 = 1 := Nat.and_mod_two_eq_one
        omega
      omega
theorem xor_or_and (i j : Int) : (orI i j - andI i j) % 18446744073709551616 = xorI i j := by
  have h := nat_or_eq (BitVec.ofInt 64 i).toNat (BitVec.ofInt 64 j).toNat
  have h2 := xorI_in i j
  unfold orI andI xorI at *
  rw [BitVec.toNat_or, BitVec.toNat_and, BitVec.toNat_xor] at *
  omega
section
variable {P : Program} {n : Nat} {env : Env} {F : List HProp} {xT yT : TypeId} {x y : Operand} {i j s c : Int} {k : IntKind}
theorem Runs.xorU (hx : opnd env x = some (.int .u64 i)) (hy : opnd env y = some (.int .u64 j)) : Runs P n env F (.binOp .xor xT x y yT) (.int .u64 (xorI i j)) := .mk fun a w ty pos aft g d hf hw => by
  have e : Op.intBits .xor .u64 i j = pure (.int .u64 (IntKind.u64.wrap (xorI i j))) := rfl
  simp only [execOp, hf.eval hx, hf.eval hy]
  have e2 : eqGuard .xor xT x y (.int .u64 i) (.int .u64 j) = pure () := rfl
  have e3 : binOp .xor xT (.int .u64 i) (.int .u64 j) = Op.intBits .xor .u64 i j := rfl
  have h := xorI_in i j
  rw [e2, e3, e, wrapU, Int.emod_eq_of_lt h.1 (by omega)]
  simp [Result.andThen]
theorem Runs.orU (hx : opnd env x = some (.int .u64 i)) (hy : opnd env y = some (.int .u64 j)) : Runs P n env F (.binOp .or xT x y yT) (.int .u64 (orI i j)) := .mk fun a w ty pos aft g d hf hw => by
  have e : Op.intBits .or .u64 i j = pure (.int .u64 (IntKind.u64.wrap (orI i j))) := rfl
  simp only [execOp, hf.eval hx, hf.eval hy]
  have e2 : eqGuard .or xT x y (.int .u64 i) (.int .u64 j) = pure () := rfl
  have e3 : binOp .or xT (.int .u64 i) (.int .u64 j) = Op.intBits .or .u64 i j := rfl
  have h := orI_in i j
  rw [e2, e3, e, wrapU, Int.emod_eq_of_lt h.1 (by omega)]
  simp [Result.andThen]
theorem Runs.andU (hx : opnd env x = some (.int .u64 i)) (hy : opnd env y = some (.int .u64 j)) : Runs P n env F (.binOp .and xT x y yT) (.int .u64 (andI i j)) := .mk fun a w ty pos aft g d hf hw => by
  have e : Op.intBits .and .u64 i j = pure (.int .u64 (IntKind.u64.wrap (andI i j))) := rfl
  simp only [execOp, hf.eval hx, hf.eval hy]
  have e2 : eqGuard .and xT x y (.int .u64 i) (.int .u64 j) = pure () := rfl
  have e3 : binOp .and xT (.int .u64 i) (.int .u64 j) = Op.intBits .and .u64 i j := rfl
  have h := andI_in i j
  rw [e2, e3, e, wrapU, Int.emod_eq_of_lt h.1 (by omega)]
  simp [Result.andThen]
theorem Runs.mulK (hx : opnd env x = some (.int k i)) (hy : opnd env y = some (.int k j)) : Runs P n env F (.binOp .mul xT x y yT) (.int k (k.wrap (i * j))) := .mk fun a w ty pos aft g d hf hw => by
  simp only [execOp, hf.eval hx, hf.eval hy]
  have e2 : eqGuard .mul xT x y (.int k i) (.int k j) = pure () := rfl
  have e3 : binOp .mul xT (.int k i) (.int k j) = Op.intArith .mul k i j := by simp [binOp]
  rw [e2, e3]
  simp [Op.intArith, Result.andThen]
theorem Runs.subK (hx : opnd env x = some (.int k i)) (hy : opnd env y = some (.int k j)) : Runs P n env F (.binOp .sub xT x y yT) (.int k (k.wrap (i - j))) := .mk fun a w ty pos aft g d hf hw => by
  simp only [execOp, hf.eval hx, hf.eval hy]
  have e2 : eqGuard .sub xT x y (.int k i) (.int k j) = pure () := rfl
  have e3 : binOp .sub xT (.int k i) (.int k j) = Op.intArith .sub k i j := by simp [binOp]
  rw [e2, e3]
  simp [Op.intArith, Result.andThen]
/-- Quotient and remainder of numbers from 0 on. -/
theorem Runs.quoU (hx : opnd env x = some (.int .u64 i)) (hy : opnd env y = some (.int .u64 j)) (h : 0 ≤ i ∧ i ≤ 18446744073709551615 ∧ 1 ≤ j) : Runs P n env F (.binOp .quo xT x y yT) (.int .u64 (i / j)) := .mk fun a w ty pos aft g d hf hw => by
  simp only [execOp, hf.eval hx, hf.eval hy]
  have e2 : eqGuard .quo xT x y (.int .u64 i) (.int .u64 j) = pure () := rfl
  have e3 : binOp .quo xT (.int .u64 i) (.int .u64 j) = Op.intDiv .quo .u64 i j := by simp [binOp]
  have h1 : i.tdiv j = i / j := Int.tdiv_eq_ediv_of_nonneg h.1
  have h2 : 0 ≤ i / j := Int.ediv_nonneg h.1 (by omega)
  have h3 : i / j ≤ i := Int.ediv_le_self _ h.1
  have h4 : j ≠ 0 := by omega
  have h5 : i / j % 18446744073709551616 = i / j := Int.emod_eq_of_lt h2 (by omega)
  rw [e2, e3]
  simp [Op.intDiv, Result.andThen, h1, h4, wrapU, h5]
theorem Runs.remU (hx : opnd env x = some (.int .u64 i)) (hy : opnd env y = some (.int .u64 j)) (h : 0 ≤ i ∧ i ≤ 18446744073709551615 ∧ 1 ≤ j) : Runs P n env F (.binOp .rem xT x y yT) (.int .u64 (i % j)) := .mk fun a w ty pos aft g d hf hw => by
  simp only [execOp, hf.eval hx, hf.eval hy]
  have e2 : eqGuard .rem xT x y (.int .u64 i) (.int .u64 j) = pure () := rfl
  have e3 : binOp .rem xT (.int .u64 i) (.int .u64 j) = Op.intDiv .rem .u64 i j := by simp [binOp]
  have h1 : i.tmod j = i % j := Int.tmod_eq_emod_of_nonneg h.1
  have h2 : 0 ≤ i % j := Int.emod_nonneg _ (by omega)
  have h3 : i % j ≤ i := by
    have e1 := Int.emod_add_mul_ediv i j
    have e2 := Int.mul_nonneg (show (0 : Int) ≤ j by omega) (Int.ediv_nonneg h.1 (show (0 : Int) ≤ j by omega))
    omega
  have h4 : j ≠ 0 := by omega
  have h5 : i % j % 18446744073709551616 = i % j := Int.emod_eq_of_lt h2 (by omega)
  rw [e2, e3]
  simp [Op.intDiv, Result.andThen, h1, h4, wrapU, h5]
theorem Runs.shrV (hx : opnd env x = some (.int .i64 i)) (hy : opnd env y = some (.int .i64 c)) (h : 0 ≤ c ∧ c ≤ 64) : Runs P n env F (.binOp .shr xT x y yT) (.int .i64 (i / (2 ^ c.toNat : Int))) := .mk fun a w ty pos aft g d hf hw => by
  have hc : ¬ c < 0 := by omega
  have hm : min c.toNat 64 = c.toNat := by omega
  have h2 := Int.fdiv_eq_ediv_of_nonneg i (b := (2 ^ c.toNat : Int)) (Int.pow_nonneg (by omega))
  simp [execOp, hf.eval hx, hf.eval hy, eqGuard, binOp, Op.shift, IntKind.bits, hc, hm, h2, Result.andThen]
theorem Runs.shlU (hx : opnd env x = some (.int .u64 i)) (hy : opnd env y = some (.int .u64 1)) : Runs P n env F (.binOp .shl xT x y yT) (.int .u64 (i * 2 % 18446744073709551616)) := .mk fun a w ty pos aft g d hf hw => by
  simp [execOp, hf.eval hx, hf.eval hy, eqGuard, binOp, Op.shift, IntKind.bits, wrapU, Result.andThen]
theorem Runs.convW {t u : TypeId} {j k : IntKind} [ht : IntT P t j] [hu : IntT P u k] (hx : opnd env x = some (.int j i)) : Runs P n env F (.convert t u x) (.int k (k.wrap i)) := .mk fun a w ty pos aft g d hf hw => by
  simp [execOp, hf.eval hx, convert, run_underlying ht.ok, run_underlying hu.ok, Conv.intToInt, Result.andThen]
end
end Go.Proofs.Ytfiggkbclldccaa
