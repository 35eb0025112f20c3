import Derived.Test.YtipkgamiejenaaaGreatMg9

import Derived.Test.YtipkgamiejenaaaGreatTypes
import Derived.Tactics
import Derived.Tactics2
import Derived.Defers
import Derived.Laws.Pointers
import Derived.Laws.LoneSync
import Derived.RegionTactic
import Derived.RegionCalls
import Derived.ChangeAlike
/- Package bytes: bytes are put row by row; a text is put, bytes are wiped. -/
namespace Go.Proofs.YtipkgamiejenaaaGreat
open Go Go.RowKit Go.MapKept
set_option linter.unusedVariables false
set_option linter.unusedSimpArgs false
set_option maxRecDepth 100000
set_option maxHeartbeats 2000000
instance : ZeroT Tryz.prog 274 (encRow By.zrow) 64 64 := (inferInstance : ZeroT Tryz.prog 274 _ _ _)
theorem Runs.lookRow {P : Program} {n : Nat} {env : Env} {F F' : List HProp} {t k e : TypeId} {x y : Operand} {b size bytes : Nat} {i : Int} {m : List (Int × List UInt8)} [hm : MapT P t k e] [hk : IntT P k .i64] [hz : ZeroT P e (encRow By.zrow) size bytes] (hx : opnd env x = some (.map (some b))) (hy : opnd env y = some (.int .i64 i)) [hr : HasMap F b encRow m F'] :
    Runs P n env F (.lookup t x y false) (encRow ((alGet m i).getD By.zrow)) := by
  cases h : alGet m i with
  | none => exact Runs.lookupN hx hy h
  | some u => exact Runs.lookupS hx hy h
theorem Runs.sliceArrM {P : Program} {n : Nat} {env : Env} {F : List HProp} {t e : TypeId} {x y z : Operand} {b m : Nat} {i j : Int} (k q : Nat) [ht : ArrT P t m e 1] (hx : opnd env x = some (.pointer (some ⟨b, 0, none⟩))) (hlo : opnd env y = some (.int .i64 i)) (hhi : opnd env z = some (.int .i64 j)) (hi : i = (k : Nat)) (hj : j = (k : Int) + (q : Nat)) (hqm : k + q ≤ m) (hkm : k < m) :
    Runs P n env F (.slice t x (some y) (some z) none) (.slice (some ⟨b, k, none⟩) q (m - k)) := by
  have h := Runs.sliceArr (P := P) (n := n) (env := env) (F := F) (t := t) (x := x) (lo := some y) (up := some z) (b := b) (m := m) (i := i) (j := j) k (k + q) hx (by simp [bnd, hlo]) (by simp [bnd, hhi]) hi (by omega) (by omega) hqm hkm
  rw [Nat.add_sub_cancel_left] at h; exact h
section
variable (b sz : Nat) (tx : List UInt8)
theorem bytes_put (g : FuncId) [hg : Own Tryz.prog g] (first cap : List Value) (E : HProp) (k0 nn : Nat) (d : List UInt8) (hnn : d.length = nn) (hfit : k0 + d.length ≤ sz)
    (hfill : ∀ (rb k mm i : Nat) (row : List UInt8) (w : World) (F : List HProp), k + mm ≤ 64 → 0 < mm → i + mm ≤ d.length → holds w (byB 274 rb 64 row :: E :: F) → Ct Tryz.prog g (first ++ [Value.slice (some ⟨rb, k, none⟩) mm (64 - k), Value.int .i64 (i : Nat)] ++ cap).toArray w fun e w' => e = .returned (.tuple #[]) ∧ holds w' (byB 274 rb 64 (By.splice row k ((d.drop i).take mm)) :: E :: F))
    (w : World) (F : List HProp) (hw : holds w (bytesP b sz tx :: E :: F)) :
    Ct Tryz.prog 169 #[.pointer (some ⟨b, 0, none⟩), .int .i64 (k0 : Nat), .int .i64 (nn : Nat), .func (.func g) first.toArray cap.toArray] w fun e w' => e = .returned (.tuple #[]) ∧ holds w' (bytesP b sz (By.splice tx k0 d) :: E :: F) := by
  subst hnn
  obtain ⟨m, am, ⟨e1, e2, e3, e4⟩, h1⟩ := bytesP.open hw
  refine Ct.go (args := [.pointer (some ⟨b, 0, none⟩), .int .i64 (k0 : Nat), .int .i64 (d.length : Nat), .func (.func g) first.toArray cap.toArray]) Tryz.func169 rfl rfl rfl h1 ?_
  repeat' (first | (apply GL.isAny; first | refine GL.runA rfl ?_ | (apply GL.isStore; first | refine GL.storeBlk rfl rfl rfl rfl rfl ?_ | refine GL.storeWhole rfl rfl rfl rfl rfl ?_ | refine GL.storeBlkA rfl rfl rfl rfl rfl ?_) | refine GL.guardY rfl rfl ?_ | refine GL.guardN rfl rfl rfl ?_ | refine GL.guardU rfl rfl rfl ?_ | (apply GL.isBox; first | refine GL.boxA rfl rfl (fun _ => ?_) | refine GL.box1 rfl rfl rfl (fun _ => ?_) | refine GL.box rfl rfl (fun _ => ?_)) | (apply GL.isBuildS; first | refine GL.buildSlice1A rfl rfl rfl rfl rfl (fun _ => ?_) | refine GL.buildSlice1 rfl rfl rfl rfl rfl (fun _ => ?_)) | (apply GL.isCall; refine GL.append1 _ rfl rfl rfl rfl (by rfl) (by omega) (by omega) rfl (fun _ => ?_)) | (apply GL.isAlloc; refine GL.alloc rfl (fun _ => ?_))) | apply GL.nil | first | apply G.seq | apply G.region | apply G.block | apply G.skip | apply G.exit | apply G.ret | (apply G.isCond; first | refine G.condT rfl ?_ | refine G.condF rfl ?_) | refine G.draw (by kernel_rfl) (by kernel_rfl) ?_ | (apply GE.isAny; first | apply GE.again | apply GE.thenG | apply GE.blockN | apply GE.blockE | apply GE.thenE | apply GE.thenR | apply GE.blockR | refine GE.blockO rfl ?_ | apply GE.only) | (apply GD.isAny; first | refine GD.runA rfl ?_ | refine GD.guardY rfl rfl ?_ | refine GD.guardN rfl rfl rfl ?_ | refine GD.guardU rfl rfl rfl ?_) | apply GD.nilE | apply GD.nilL | (apply GT.isAny; refine GT.runA rfl rfl ?_) | ((first | (apply GL.isAny; refine GL.guard rfl rfl (fun hc => ?_) (fun hc => ?_)) | (apply G.isCond; refine G.cond rfl (fun hc => ?_) (fun hc => ?_)) | (apply GD.isAny; refine GD.guard rfl rfl (fun hc => ?_) (fun hc => ?_))) <;> ((try simp only [decide_eq_true_eq, decide_eq_false_iff_not, Bool.not_true, Bool.not_false, ne_eq, Classical.not_not, Int.not_lt, Int.not_le] at hc); (try (exfalso; first | omega | exact hc trivial | exact hc rfl)))))
  refine G.loopK [0, 1, 2, 3] (Nat × List (Int × List UInt8)) (fun y => [(8, .int .i64 y.1)]) (fun y => blk b (.cells #[.map (some m), .int .i64 (sz : Nat)] 219 (0, 0)) :: imap encRow m y.2 :: E :: F) (fun y => y.1 ≤ d.length ∧ By.Rows y.2 (By.splice tx k0 (d.take y.1))) (fun y => d.length - y.1) ((0, am)) (⟨Nat.zero_le _, by rw [List.take_zero, By.splice_nil]; exact e4⟩) (by repeat (first | exact trivial | refine And.intro rfl ?_)) (fun w h => by (try dsimp only); first | exact h | exact h.sub | ((try simp only [List.take_zero, List.drop_zero, List.map_nil, List.nil_append, List.zipIdx_nil, List.filter_nil]); exact h.sub)) ?_
  rintro ⟨i, am2⟩ ⟨hi, hR⟩
  dsimp only at hi hR ⊢
  by_cases hlt : i < d.length
  · obtain ⟨a, ha⟩ : ∃ a, a = (k0 + i) / 64 := ⟨_, rfl⟩
    obtain ⟨k, hk⟩ : ∃ k, k = (k0 + i) % 64 := ⟨_, rfl⟩
    obtain ⟨mm, hm⟩ : ∃ mm, mm = min (64 - k) (d.length - i) := ⟨_, rfl⟩
    have hda : ((k0 : Int) + i) / 64 = (a : Nat) := by omega
    have hdk : ((k0 : Int) + i) % 64 = (k : Nat) := by omega
    have hdm : min (64 - (k : Int)) ((d.length : Int) - i) = (mm : Nat) := by omega
    have hl : (By.splice tx k0 (d.take i)).length = sz := by rw [By.splice_len _ _ _ (by rw [List.length_take]; omega)]; exact e1
    generalize ht : By.splice tx k0 (d.take i) = t at hR hl
    have ha64 : 64 * a < t.length := by omega
    have hrow := hR.get a ha64
    have hrl := By.row_len t a (by omega)
    have hsl : ((d.drop i).take mm).length = mm := by rw [List.length_take, List.length_drop]; omega
    have hput := hR.put (by omega) a k (s := (d.drop i).take mm) (by omega) ha64
    have hmore := By.splice_more tx d k0 i mm (by omega) (by omega)
    rw [ht, show k0 + i = 64 * a + k by omega] at hmore
    rw [hmore] at hput
    have hsp : (By.splice (By.row t a) k ((d.drop i).take mm)).length = 64 := by rw [By.splice_len _ _ _ (by omega)]; exact hrl
    have hz : By.zrow.length = 64 := rfl
    have hF := fun rb w F h => hfill rb k mm i (By.row t a) w F (by omega) (by omega) (by omega) h
    generalize hq : By.splice (By.row t a) k ((d.drop i).take mm) = q at hput hsp hF
    have hn : (i : Int) + mm = ((i + mm : Nat) : Int) := by omega
    repeat' (first | (first | (refine G.isRegion 3 ?_; rw [hda, hdk]; apply G.region) | (refine G.isRegion 5 ?_; rw [hdm]; apply G.region) | (apply GL.isAny; refine GL.run (v := encRow (By.row t a)) (by apply Runs.isLookup; rw [← hrow]; exact Runs.lookRow rfl rfl) rfl ?_) | (apply GL.isAlloc; refine GL.alloc rfl (fun rb => ?_)) | (apply GL.isStore; refine GL.storeBy (l := By.row t a) rfl rfl hrl rfl ?_) | (apply GL.isAny; refine GL.run (by apply Runs.isSlice; exact Runs.sliceArrM k mm rfl rfl rfl rfl rfl (by omega) (by omega)) rfl ?_) | (apply GL.isCall; refine GL.callV1 (first := first) (captured := cap) (vs := [.slice (some ⟨rb, k, none⟩) mm (64 - k), .int .i64 (i : Nat)]) rfl rfl rfl (fun w h => hF rb w (blk b (.cells #[.map (some m), .int .i64 (sz : Nat)] 219 (0, 0)) :: imap encRow m am2 :: F) h.sub) ?_) | (apply GL.isAny; refine GL.run (by apply Runs.isLoad; exact Runs.loadBy rfl) rfl ?_) | (apply GL.isAny; refine GL.run (by apply Runs.isBin; exact Runs.eqlBy (m := 64) (l := q) (r := By.zrow) rfl rfl hsp hz) rfl ?_) | refine G.drawTail 6 (by kernel_rfl) (by simp only [List.take_succ_cons, List.take_zero]; rfl) (by simp only [List.drop_succ_cons, List.drop_zero]; rfl) (by kernel_rfl) ?_ | (apply GD.isAny; refine GD.run (by apply Runs.isLoad; exact Runs.loadBy rfl) rfl ?_) | (refine GL.mapDelete rfl rfl rfl ?_) | (refine GL.mapUpdate q rfl rfl rfl rfl ?_)) | first | (apply GL.isAny; first | refine GL.runA rfl ?_ | (apply GL.isStore; first | refine GL.storeBlk rfl rfl rfl rfl rfl ?_ | refine GL.storeWhole rfl rfl rfl rfl rfl ?_ | refine GL.storeBlkA rfl rfl rfl rfl rfl ?_) | refine GL.guardY rfl rfl ?_ | refine GL.guardN rfl rfl rfl ?_ | refine GL.guardU rfl rfl rfl ?_ | (apply GL.isBox; first | refine GL.boxA rfl rfl (fun _ => ?_) | refine GL.box1 rfl rfl rfl (fun _ => ?_) | refine GL.box rfl rfl (fun _ => ?_)) | (apply GL.isBuildS; first | refine GL.buildSlice1A rfl rfl rfl rfl rfl (fun _ => ?_) | refine GL.buildSlice1 rfl rfl rfl rfl rfl (fun _ => ?_)) | (apply GL.isCall; refine GL.append1 _ rfl rfl rfl rfl (by rfl) (by omega) (by omega) rfl (fun _ => ?_)) | (apply GL.isAlloc; refine GL.alloc rfl (fun _ => ?_))) | apply GL.nil | first | apply G.seq | apply G.region | apply G.block | apply G.skip | apply G.exit | apply G.ret | (apply G.isCond; first | refine G.condT rfl ?_ | refine G.condF rfl ?_) | refine G.draw (by kernel_rfl) (by kernel_rfl) ?_ | (apply GE.isAny; first | apply GE.again | apply GE.thenG | apply GE.blockN | apply GE.blockE | apply GE.thenE | apply GE.thenR | apply GE.blockR | refine GE.blockO rfl ?_ | apply GE.only) | (apply GD.isAny; first | refine GD.runA rfl ?_ | refine GD.guardY rfl rfl ?_ | refine GD.guardN rfl rfl rfl ?_ | refine GD.guardU rfl rfl rfl ?_) | apply GD.nilE | apply GD.nilL | (apply GT.isAny; refine GT.runA rfl rfl ?_) | ((first | (apply GL.isAny; refine GL.guard rfl rfl (fun hc => ?_) (fun hc => ?_)) | (apply G.isCond; refine G.cond rfl (fun hc => ?_) (fun hc => ?_)) | (apply GD.isAny; refine GD.guard rfl rfl (fun hc => ?_) (fun hc => ?_))) <;> ((try simp only [decide_eq_true_eq, decide_eq_false_iff_not, Bool.not_true, Bool.not_false, ne_eq, Classical.not_not, Int.not_lt, Int.not_le] at hc); (try (exfalso; first | omega | exact hc trivial | exact hc rfl)))))
    all_goals (first | (exfalso; omega) | skip)
    · have hp : By.putRow am2 a q = alDel am2 a := by unfold By.putRow; rw [if_pos hc]
      rw [hp] at hput
      rw [hn]
      refine GE.round ((i + mm, alDel am2 a)) (⟨by omega, hput⟩) (by repeat (first | exact trivial | refine And.intro rfl ?_)) (fun w h => by (try dsimp only); exact h.sub) (by (try dsimp only); omega)
    · have hp : By.putRow am2 a q = alSet am2 a q := by unfold By.putRow; rw [if_neg hc]
      rw [hp] at hput
      rw [hn]
      refine GE.round ((i + mm, alSet am2 a q)) (⟨by omega, hput⟩) (by repeat (first | exact trivial | refine And.intro rfl ?_)) (fun w h => by (try dsimp only); exact h.sub) (by (try dsimp only); omega)
  · obtain rfl : i = d.length := by omega
    rw [List.take_of_length_le (Nat.le_refl _)] at hR
    repeat' (first | (apply GL.isAny; first | refine GL.runA rfl ?_ | (apply GL.isStore; first | refine GL.storeBlk rfl rfl rfl rfl rfl ?_ | refine GL.storeWhole rfl rfl rfl rfl rfl ?_ | refine GL.storeBlkA rfl rfl rfl rfl rfl ?_) | refine GL.guardY rfl rfl ?_ | refine GL.guardN rfl rfl rfl ?_ | refine GL.guardU rfl rfl rfl ?_ | (apply GL.isBox; first | refine GL.boxA rfl rfl (fun _ => ?_) | refine GL.box1 rfl rfl rfl (fun _ => ?_) | refine GL.box rfl rfl (fun _ => ?_)) | (apply GL.isBuildS; first | refine GL.buildSlice1A rfl rfl rfl rfl rfl (fun _ => ?_) | refine GL.buildSlice1 rfl rfl rfl rfl rfl (fun _ => ?_)) | (apply GL.isCall; refine GL.append1 _ rfl rfl rfl rfl (by rfl) (by omega) (by omega) rfl (fun _ => ?_)) | (apply GL.isAlloc; refine GL.alloc rfl (fun _ => ?_))) | apply GL.nil | first | apply G.seq | apply G.region | apply G.block | apply G.skip | apply G.exit | apply G.ret | (apply G.isCond; first | refine G.condT rfl ?_ | refine G.condF rfl ?_) | refine G.draw (by kernel_rfl) (by kernel_rfl) ?_ | (apply GE.isAny; first | apply GE.again | apply GE.thenG | apply GE.blockN | apply GE.blockE | apply GE.thenE | apply GE.thenR | apply GE.blockR | refine GE.blockO rfl ?_ | apply GE.only) | (apply GD.isAny; first | refine GD.runA rfl ?_ | refine GD.guardY rfl rfl ?_ | refine GD.guardN rfl rfl rfl ?_ | refine GD.guardU rfl rfl rfl ?_) | apply GD.nilE | apply GD.nilL | (apply GT.isAny; refine GT.runA rfl rfl ?_) | ((first | (apply GL.isAny; refine GL.guard rfl rfl (fun hc => ?_) (fun hc => ?_)) | (apply G.isCond; refine G.cond rfl (fun hc => ?_) (fun hc => ?_)) | (apply GD.isAny; refine GD.guard rfl rfl (fun hc => ?_) (fun hc => ?_))) <;> ((try simp only [decide_eq_true_eq, decide_eq_false_iff_not, Bool.not_true, Bool.not_false, ne_eq, Classical.not_not, Int.not_lt, Int.not_le] at hc); (try (exfalso; first | omega | exact hc trivial | exact hc rfl)))))
    all_goals (first | (exfalso; omega) | skip)
    (first | refine GE.res0 (.inl rfl) rfl (fun w h => ?_) | refine GE.res0 (.inr rfl) rfl (fun w h => ?_))
    exact ⟨rfl, bytesP.shut (m := m) ⟨by rw [By.splice_len _ _ _ (by omega)]; exact e1, e2, e3, hR⟩ h.sub⟩
theorem bytes_Wipe1 (rb k mm i : Nat) (row : List UInt8) (hk : k + mm ≤ 64) (hm : 0 < mm) (w : World) (F : List HProp) (hw : holds w (byB 274 rb 64 row :: F)) :
    Ct Tryz.prog 224 #[.slice (some ⟨rb, k, none⟩) mm (64 - k), .int .i64 (i : Nat)] w fun e w' => e = .returned (.tuple #[]) ∧ holds w' (byB 274 rb 64 (By.splice row k (List.replicate mm 0)) :: F) := by
  refine Ct.go (args := [.slice (some ⟨rb, k, none⟩) mm (64 - k), .int .i64 (i : Nat)]) Tryz.func224 rfl rfl rfl hw ?_
  repeat' (first | ((refine GL.clearBy rfl hm (by omega) ?_)) | first | (apply GL.isAny; first | refine GL.runA rfl ?_ | (apply GL.isStore; first | refine GL.storeBlk rfl rfl rfl rfl rfl ?_ | refine GL.storeWhole rfl rfl rfl rfl rfl ?_ | refine GL.storeBlkA rfl rfl rfl rfl rfl ?_) | refine GL.guardY rfl rfl ?_ | refine GL.guardN rfl rfl rfl ?_ | refine GL.guardU rfl rfl rfl ?_ | (apply GL.isBox; first | refine GL.boxA rfl rfl (fun _ => ?_) | refine GL.box1 rfl rfl rfl (fun _ => ?_) | refine GL.box rfl rfl (fun _ => ?_)) | (apply GL.isBuildS; first | refine GL.buildSlice1A rfl rfl rfl rfl rfl (fun _ => ?_) | refine GL.buildSlice1 rfl rfl rfl rfl rfl (fun _ => ?_)) | (apply GL.isCall; refine GL.append1 _ rfl rfl rfl rfl (by rfl) (by omega) (by omega) rfl (fun _ => ?_)) | (apply GL.isAlloc; refine GL.alloc rfl (fun _ => ?_))) | apply GL.nil | first | apply G.seq | apply G.region | apply G.block | apply G.skip | apply G.exit | apply G.ret | (apply G.isCond; first | refine G.condT rfl ?_ | refine G.condF rfl ?_) | refine G.draw (by kernel_rfl) (by kernel_rfl) ?_ | (apply GE.isAny; first | apply GE.again | apply GE.thenG | apply GE.blockN | apply GE.blockE | apply GE.thenE | apply GE.thenR | apply GE.blockR | refine GE.blockO rfl ?_ | apply GE.only) | (apply GD.isAny; first | refine GD.runA rfl ?_ | refine GD.guardY rfl rfl ?_ | refine GD.guardN rfl rfl rfl ?_ | refine GD.guardU rfl rfl rfl ?_) | apply GD.nilE | apply GD.nilL | (apply GT.isAny; refine GT.runA rfl rfl ?_) | ((first | (apply GL.isAny; refine GL.guard rfl rfl (fun hc => ?_) (fun hc => ?_)) | (apply G.isCond; refine G.cond rfl (fun hc => ?_) (fun hc => ?_)) | (apply GD.isAny; refine GD.guard rfl rfl (fun hc => ?_) (fun hc => ?_))) <;> ((try simp only [decide_eq_true_eq, decide_eq_false_iff_not, Bool.not_true, Bool.not_false, ne_eq, Classical.not_not, Int.not_lt, Int.not_le] at hc); (try (exfalso; first | omega | exact hc trivial | exact hc rfl)))))

  (first | refine GE.res0 (.inl rfl) rfl (fun w h => ?_) | refine GE.res0 (.inr rfl) rfl (fun w h => ?_))
  exact ⟨rfl, h.sub⟩
end
end Go.Proofs.YtipkgamiejenaaaGreat

/- Package bytes: Store, Wipe, Load. -/
namespace Go.Proofs.YtipkgamiejenaaaGreat
open Go Go.RowKit Go.MapKept
set_option linter.unusedVariables false
set_option linter.unusedSimpArgs false
set_option maxRecDepth 100000
set_option maxHeartbeats 2000000
namespace By
theorem fill (cut : List UInt8) (n i q : Nat) (hc : cut.length = n) (h : i + q ≤ n) : splice (cut.take i ++ List.replicate (n - i) 0) i ((cut.drop i).take q) = cut.take (i + q) ++ List.replicate (n - (i + q)) 0 := by
  have l1 : (cut.take i).length = i := by rw [List.length_take]; omega
  have l2 : ((cut.drop i).take q).length = q := by rw [List.length_take, List.length_drop]; omega
  have l3 : (cut.take i ++ List.replicate (n - i) (0 : UInt8)).take i = cut.take i := by rw [List.take_append_of_le_length (by omega), List.take_of_length_le (by omega)]
  have l4 : (cut.take i ++ List.replicate (n - i) (0 : UInt8)).drop (i + q) = List.replicate (n - (i + q)) 0 := by
    rw [List.drop_append, l1, show (cut.take i).drop (i + q) = [] from List.drop_eq_nil_of_le (by omega), List.nil_append, List.drop_replicate]
    congr 1; omega
  unfold splice
  rw [l2, l3, l4, ← List.take_add]
end By
def encB1 (c : UInt8) : List Value := [u8v c]
instance : Enc encB1 1 := ⟨fun _ => rfl, fun _ => by simp [encB1, u8v, Value.oneCell'], by omega⟩
theorem flat_bytes : ∀ l : List UInt8, l.flatMap encB1 = l.map u8v
  | [] => rfl
  | a :: l => by rw [List.flatMap_cons, flat_bytes l]; rfl
theorem byB.ofOwn {w : World} {T : TypeId} {g k : Nat} {l : List UInt8} {F : List HProp} (h : holds w (owns T encB1 1 (.slice (some ⟨g, 0, none⟩) k k) l :: F)) : holds w (byB T g k l :: F) := by
  obtain ⟨hl, ho⟩ := holds.open_own h
  rcases ho with ⟨h1, _⟩ | ⟨g', cap, cur, h1, h2, h3, h4, h5, h6⟩
  · cases h1
  · simp only [Value.slice.injEq, Option.some.injEq, Addr.mk.injEq] at h1
    obtain ⟨⟨rfl, -, -⟩, hk, rfl⟩ := h1
    refine byB.shut hk.symm ?_
    have e : cur = (l.map u8v).toArray := by
      apply Array.ext'
      rw [List.take_of_length_le (by simp at h4 ⊢; omega), flat_bytes] at h5
      exact h5
    rw [← e]; exact h6
abbrev fStore1 : FuncId := 170
abbrev fWipe1 : FuncId := 224
def nilP : HProp := fun _ => True
theorem holds.addNil {w : World} {F : List HProp} (h : holds w F) : holds w (nilP :: F) := by
  obtain ⟨f, hf, hs⟩ := h
  exact ⟨f, hf, ⟨f.os, f.tape, f.output, fun _ => none⟩, f, trivial, hs, ⟨rfl, rfl, rfl, rfl, rfl, rfl, fun _ => .inl ⟨rfl, rfl⟩⟩⟩
section
variable (b sz : Nat) (tx : List UInt8)
theorem bytes_Wipe (k n : Int) (hb : n ≤ 1099511627776) (w : World) (F : List HProp) (hw : holds w (bytesP b sz tx :: F)) :
    Ct Tryz.prog 191 #[.pointer (some ⟨b, 0, none⟩), .int .i64 k, .int .i64 n] w fun e w' => e = .returned (.int .i64 (if St.off tx k n then 15 else 0)) ∧ holds w' (bytesP b sz (if St.off tx k n then tx else By.splice tx k.toNat (St.zeros n.toNat)) :: F) := by
  obtain ⟨m, am, ⟨e1, e2, e3, e4⟩, h1⟩ := bytesP.open hw
  have hck := fun w (F : List HProp) [SeesBlk F b #[.map (some m), .int .i64 (sz : Nat)]] h => bytes_check b sz e3.2 m k n w F h
  have eo : (k < 0 ∨ n < 0 ∨ (sz : Int) < k + n) ↔ St.off tx k n := by unfold St.off; rw [e1]
  refine Ct.go (args := [.pointer (some ⟨b, 0, none⟩), .int .i64 k, .int .i64 n]) Tryz.func191 rfl rfl rfl h1 ?_
  by_cases ho : St.off tx k n
  · rw [if_pos ho, if_pos ho]
    rw [if_pos (eo.2 ho)] at hck
    repeat' (first | (first | (apply GL.isCall; refine GL.call1 rfl rfl (fun w h => hck w _ h) ?_) | (apply GD.isAny; refine GD.call rfl rfl (fun w F' h => hck w _ h) ?_)) | first | (apply GL.isAny; first | refine GL.runA rfl ?_ | (apply GL.isStore; first | refine GL.storeBlk rfl rfl rfl rfl rfl ?_ | refine GL.storeWhole rfl rfl rfl rfl rfl ?_ | refine GL.storeBlkA rfl rfl rfl rfl rfl ?_) | refine GL.guardY rfl rfl ?_ | refine GL.guardN rfl rfl rfl ?_ | refine GL.guardU rfl rfl rfl ?_ | (apply GL.isBox; first | refine GL.boxA rfl rfl (fun _ => ?_) | refine GL.box1 rfl rfl rfl (fun _ => ?_) | refine GL.box rfl rfl (fun _ => ?_)) | (apply GL.isBuildS; first | refine GL.buildSlice1A rfl rfl rfl rfl rfl (fun _ => ?_) | refine GL.buildSlice1 rfl rfl rfl rfl rfl (fun _ => ?_)) | (apply GL.isCall; refine GL.append1 _ rfl rfl rfl rfl (by rfl) (by omega) (by omega) rfl (fun _ => ?_)) | (apply GL.isAlloc; refine GL.alloc rfl (fun _ => ?_))) | apply GL.nil | first | apply G.seq | apply G.region | apply G.block | apply G.skip | apply G.exit | apply G.ret | (apply G.isCond; first | refine G.condT rfl ?_ | refine G.condF rfl ?_) | refine G.draw (by kernel_rfl) (by kernel_rfl) ?_ | (apply GE.isAny; first | apply GE.again | apply GE.thenG | apply GE.blockN | apply GE.blockE | apply GE.thenE | apply GE.thenR | apply GE.blockR | refine GE.blockO rfl ?_ | apply GE.only) | (apply GD.isAny; first | refine GD.runA rfl ?_ | refine GD.guardY rfl rfl ?_ | refine GD.guardN rfl rfl rfl ?_ | refine GD.guardU rfl rfl rfl ?_) | apply GD.nilE | apply GD.nilL | (apply GT.isAny; refine GT.runA rfl rfl ?_) | ((first | (apply GL.isAny; refine GL.guard rfl rfl (fun hc => ?_) (fun hc => ?_)) | (apply G.isCond; refine G.cond rfl (fun hc => ?_) (fun hc => ?_)) | (apply GD.isAny; refine GD.guard rfl rfl (fun hc => ?_) (fun hc => ?_))) <;> ((try simp only [decide_eq_true_eq, decide_eq_false_iff_not, Bool.not_true, Bool.not_false, ne_eq, Classical.not_not, Int.not_lt, Int.not_le] at hc); (try (exfalso; first | omega | exact hc trivial | exact hc rfl)))))
    all_goals (first | (exfalso; simp at hc; done) | (refine GE.resOne rfl (by (repeat (first | apply Res.nil | (apply Res.tmp; rfl) | (refine Res.cellA rfl rfl rfl ?_) | (refine Res.cell1 rfl rfl ?_)))) (fun w h => ?_); exact ⟨rfl, bytesP.shut (m := m) ⟨e1, e2, e3, e4⟩ h.sub⟩))
  · rw [if_neg ho, if_neg ho]
    rw [if_neg (fun h => ho (eo.1 h))] at hck
    unfold St.off at ho
    obtain ⟨k0, rfl⟩ : ∃ k0 : Nat, k = k0 := ⟨k.toNat, by omega⟩
    obtain ⟨n0, rfl⟩ : ∃ n0 : Nat, n = n0 := ⟨n.toNat, by omega⟩
    rw [Int.toNat_natCast, Int.toNat_natCast]
    have hzl : (St.zeros n0).length = n0 := by simp [St.zeros]
    have hput := fun w (F : List HProp) h => bytes_put b sz tx fWipe1 [] [] nilP k0 n0 (St.zeros n0) hzl (by rw [hzl]; omega) (fun rb k mm i row w F q1 q2 q3 h => by
      have e : ((St.zeros n0).drop i).take mm = List.replicate mm 0 := by
        rw [hzl] at q3
        unfold St.zeros
        rw [List.drop_replicate, List.take_replicate, Nat.min_eq_left (by omega)]
      rw [e]
      exact bytes_Wipe1 rb k mm i row q1 q2 w (nilP :: F) h) w F h
    repeat' (first | (first | first | (apply GL.isCall; refine GL.call1 rfl rfl (fun w h => hck w _ h) ?_) | (apply GD.isAny; refine GD.call rfl rfl (fun w F' h => hck w _ h) ?_) | (apply GL.isCall; refine GL.call1 (vs := [.pointer (some ⟨b, 0, none⟩), .int .i64 (k0 : Nat), .int .i64 (n0 : Nat), .func (.func fWipe1) #[] #[]]) rfl rfl (fun w h => hput w F ((bytesP.shut (m := m) (am := am) ⟨e1, e2, e3, e4⟩ (holds.sub (H := blk b (.cells #[.map (some m), .int .i64 (sz : Nat)] 219 (0, 0)) :: imap encRow m am :: F) h)).addNil.order [1, 0])) ?_)) | first | (apply GL.isAny; first | refine GL.runA rfl ?_ | (apply GL.isStore; first | refine GL.storeBlk rfl rfl rfl rfl rfl ?_ | refine GL.storeWhole rfl rfl rfl rfl rfl ?_ | refine GL.storeBlkA rfl rfl rfl rfl rfl ?_) | refine GL.guardY rfl rfl ?_ | refine GL.guardN rfl rfl rfl ?_ | refine GL.guardU rfl rfl rfl ?_ | (apply GL.isBox; first | refine GL.boxA rfl rfl (fun _ => ?_) | refine GL.box1 rfl rfl rfl (fun _ => ?_) | refine GL.box rfl rfl (fun _ => ?_)) | (apply GL.isBuildS; first | refine GL.buildSlice1A rfl rfl rfl rfl rfl (fun _ => ?_) | refine GL.buildSlice1 rfl rfl rfl rfl rfl (fun _ => ?_)) | (apply GL.isCall; refine GL.append1 _ rfl rfl rfl rfl (by rfl) (by omega) (by omega) rfl (fun _ => ?_)) | (apply GL.isAlloc; refine GL.alloc rfl (fun _ => ?_))) | apply GL.nil | first | apply G.seq | apply G.region | apply G.block | apply G.skip | apply G.exit | apply G.ret | (apply G.isCond; first | refine G.condT rfl ?_ | refine G.condF rfl ?_) | refine G.draw (by kernel_rfl) (by kernel_rfl) ?_ | (apply GE.isAny; first | apply GE.again | apply GE.thenG | apply GE.blockN | apply GE.blockE | apply GE.thenE | apply GE.thenR | apply GE.blockR | refine GE.blockO rfl ?_ | apply GE.only) | (apply GD.isAny; first | refine GD.runA rfl ?_ | refine GD.guardY rfl rfl ?_ | refine GD.guardN rfl rfl rfl ?_ | refine GD.guardU rfl rfl rfl ?_) | apply GD.nilE | apply GD.nilL | (apply GT.isAny; refine GT.runA rfl rfl ?_) | ((first | (apply GL.isAny; refine GL.guard rfl rfl (fun hc => ?_) (fun hc => ?_)) | (apply G.isCond; refine G.cond rfl (fun hc => ?_) (fun hc => ?_)) | (apply GD.isAny; refine GD.guard rfl rfl (fun hc => ?_) (fun hc => ?_))) <;> ((try simp only [decide_eq_true_eq, decide_eq_false_iff_not, Bool.not_true, Bool.not_false, ne_eq, Classical.not_not, Int.not_lt, Int.not_le] at hc); (try (exfalso; first | omega | exact hc trivial | exact hc rfl)))))
    all_goals (first | (exfalso; simp at hc; done) | (refine GE.resOne rfl (by (repeat (first | apply Res.nil | (apply Res.tmp; rfl) | (refine Res.cellA rfl rfl rfl ?_) | (refine Res.cell1 rfl rfl ?_)))) (fun w h => ?_); exact ⟨rfl, h.sub⟩))
end
end Go.Proofs.YtipkgamiejenaaaGreat

/- sync.Once, one goroutine: Do calls the function the first time, and nothing later. -/
namespace Go.Proofs.YtipkgamiejenaaaGreat
open Go Go.RowKit Go.MapKept
set_option linter.unusedVariables false
set_option linter.unusedSimpArgs false
set_option maxRecDepth 100000
set_option maxHeartbeats 1600000
/-- A cell among others. -/
structure CellAt (b o : Nat) (Y : Value → HProp) : Prop where
  get : ∀ v w F, holds w (Y v :: F) → w.cell? ⟨b, o, none⟩ = some v ∧ w.frozen? ⟨b, o, none⟩ = false
  set : ∀ v v' w F, holds w (Y v :: F) → holds (w.setCell ⟨b, o, none⟩ v') (Y v' :: F)
class MarkF (P : Program) (f : FuncId) : Prop where
  run : ∀ w, (callFunc f #[]).run P w = .ok (.value (.tuple #[])) w
class MarkA (P : Program) (f : FuncId) : Prop where
  run : ∀ (a : Addr) w, (callFunc f #[.pointer (some a)]).run P w = .ok (.value (.tuple #[])) w
section
variable {P : Program} {n d : Nat} {Q : Exit → Act → World → Prop} {env : Env} {F F' : List HProp} {ops : Array Oper} {rest : List Oper} {ty T : TypeId} {pos : String} {aft : Array Edge} {f : FuncId} {k : IntKind} {xs : List Operand} {b o : Nat} {i j : Int} {ts : Array TypeId} {u v : Value} {Y : Value → HProp}
theorem Runs.loadC {t : TypeId} {x : Operand} (hY : CellAt b o Y) [CellT P t] (hx : opnd env x = some (.pointer (some ⟨b, o, none⟩))) [hh : Has F (Y v) F'] : Runs P n env F (.load t x) v := .mk fun a w ty pos aft g d hf hw => by
  have h1 := (hY.get _ _ _ (hw.perm hh.perm)).1
  have := run_loadCell (P := P) (t := t) h1
  simp [execOp, hf.eval hx, Instr.loadAt, Instr.sureAddr, this, Result.andThen]
theorem Runs.markF [hm : MarkF P f] : Runs P n env F (.call { callee := .value (.func f), args := #[], argTypes := ts }) (.tuple #[]) := .mk fun a w ty pos aft g d hf hw => hf.callRun (xs := []) (vs := []) rfl (hm.run w)
theorem Runs.markA {p : Addr} [hm : MarkA P f] (hx : opnds env xs = some [.pointer (some p)]) : Runs P n env F (.call { callee := .value (.func f), args := xs.toArray, argTypes := ts }) (.tuple #[]) := .mk fun a w ty pos aft g d hf hw => hf.callRun hx (hm.run p w)
theorem Runs.extLoadC (hY : CellAt b o Y) [he : ExtLoad P f k] [hh : Has F (Y (.int k i)) F'] (hx : opnds env xs = some [.pointer (some ⟨b, o, none⟩)]) : Runs P n env F (.call { callee := .value (.func f), args := xs.toArray, argTypes := ts }) (.int k i) := .mk fun a w ty pos aft g d hf hw =>
  hf.callRun hx (he.run _ _ w (hY.get _ _ _ (hw.perm hh.perm)).1)
theorem GL.extStoreC (hY : CellAt b o Y) [hs : ExtStore P f] (hx : opnds env xs = some [.pointer (some ⟨b, o, none⟩), .int k i]) [hh : Has F (Y u) F'] (hd : Nat.blt d n = true)
    (h : GL P n ops Q rest ((d, .tuple #[]) :: env) (Y (.int k i) :: F')) :
    GL P n ops Q (⟨some d, .call { callee := .value (.func f), args := xs.toArray, argTypes := ts }, ty, pos, aft, none⟩ :: rest) env F := .mk fun a w hf hw => by
  refine wpList_plain rfl fun K hK => ?_
  have h1 := hw.perm hh.perm
  obtain ⟨g1, g2⟩ := hY.get _ _ _ h1
  unfold Oper.wp
  rw [hf.callRun hx (hs.run ⟨b, o, none⟩ k i u w g1 g2)]
  exact hK _ _ (h _ _ (hf.put hd _) (hY.set _ _ _ _ h1))
theorem GL.extAddC (hY : CellAt b o Y) [hs : ExtAdd P f k] (hx : opnds env xs = some [.pointer (some ⟨b, o, none⟩), .int k j]) [hh : Has F (Y (.int k i)) F'] (hd : Nat.blt d n = true)
    (h : GL P n ops Q rest ((d, .int k (k.wrap (i + j))) :: env) (Y (.int k (k.wrap (i + j))) :: F')) :
    GL P n ops Q (⟨some d, .call { callee := .value (.func f), args := xs.toArray, argTypes := ts }, ty, pos, aft, none⟩ :: rest) env F := .mk fun a w hf hw => by
  refine wpList_plain rfl fun K hK => ?_
  have h1 := hw.perm hh.perm
  obtain ⟨g1, g2⟩ := hY.get _ _ _ h1
  unfold Oper.wp
  rw [hf.callRun hx (hs.run ⟨b, o, none⟩ i j w g1 g2)]
  exact hK _ _ (h _ _ (hf.put hd _) (hY.set _ _ _ _ h1))
theorem GL.extCasC (hY : CellAt b o Y) [hs : ExtCas P f k] (hx : opnds env xs = some [.pointer (some ⟨b, o, none⟩), .int k i, .int k j]) [hh : Has F (Y (.int k i)) F'] (hd : Nat.blt d n = true)
    (h : GL P n ops Q rest ((d, .bool true) :: env) (Y (.int k j) :: F')) :
    GL P n ops Q (⟨some d, .call { callee := .value (.func f), args := xs.toArray, argTypes := ts }, ty, pos, aft, none⟩ :: rest) env F := .mk fun a w hf hw => by
  refine wpList_plain rfl fun K hK => ?_
  have h1 := hw.perm hh.perm
  obtain ⟨g1, g2⟩ := hY.get _ _ _ h1
  unfold Oper.wp
  rw [hf.callRun hx (hs.run ⟨b, o, none⟩ i j w g1 g2)]
  exact hK _ _ (h _ _ (hf.put hd _) (hY.set _ _ _ _ h1))
def unsB (P : Program) (s t : TypeId) : Bool := match P.underlying s, P.underlying t with
  | some (.pointer e), some .unsafePointer => (P.info? e).map (fun i => decide (i.size = 0)) == some false
  | _, _ => false
theorem Runs.convUns {s t : TypeId} {x : Operand} (hY : CellAt b o Y) (hb : unsB P s t = true) (hx : opnd env x = some (.pointer (some ⟨b, o, none⟩))) [hh : Has F (Y v) F'] : Runs P n env F (.convert s t x) (.pointer (some ⟨b, o, none⟩)) := .mk fun a w ty pos aft g d hf hw => by
  have h1 := (hY.get _ _ _ (hw.perm hh.perm)).1
  unfold unsB at hb
  split at hb
  · rename_i e g1 g2
    have := run_convert_to_unsafe g1 g2 (by simpa using hb) h1
    simp [execOp, hf.eval hx, this, Result.andThen]
  · cases hb
theorem CtD.go {fn : Func} {c : Code} {args : List Value} {w : World} {u : FrameMode} {R : Ending → World → Prop} (hf : P.funcs[f]? = some fn) (hb : fn.body = some c) (hn : fn.ntmps = n) (hargs : Nat.ble args.length n = true) (hw : holds w F)
    (h : G P n c (bodyPost P fn R) (env0 0 args) F) : CallsD P f args.toArray u w fun e u' w' => u' = u ∧ R e w' := by
  have hle : args.length ≤ n := by simpa using hargs
  refine callsD_of_wp hf hb (h _ w ⟨?_, rfl, fun k v hk => ?_⟩ hw)
  · simp [hn]; omega
  · obtain ⟨h1, h2⟩ := look_env0 _ _ _ _ hk
    rw [Nat.sub_zero] at h2
    have hlt := (List.getElem?_eq_some_iff.1 h2).1
    have h3 : args[k] = v := by have := List.getElem?_eq_getElem hlt; rw [h2] at this; exact (Option.some.inj this).symm
    simp [Array.getElem?_append, hlt, h3]
end
instance : FieldT Tryz.prog 140 0 0 21 := .of (by kernel_rfl)
instance : Own Tryz.prog 226 := ⟨Tryz.call226⟩
instance : Own Tryz.prog 227 := ⟨Tryz.call227⟩
instance : MarkF Tryz.prog 233 := ⟨fun w => run_call_mark0 Tryz.func233 (by kernel_rfl) (by kernel_rfl) (by kernel_rfl) .disable (by kernel_rfl) w⟩
instance : MarkF Tryz.prog 235 := ⟨fun w => run_call_mark0 Tryz.func235 (by kernel_rfl) (by kernel_rfl) (by kernel_rfl) .enable (by kernel_rfl) w⟩
instance : MarkA Tryz.prog 236 := ⟨fun a w => run_call_marked Tryz.func236 (by kernel_rfl) (by kernel_rfl) (by kernel_rfl) .acquire (by kernel_rfl) a w⟩
instance : MarkA Tryz.prog 238 := ⟨fun a w => run_call_marked Tryz.func238 (by kernel_rfl) (by kernel_rfl) (by kernel_rfl) .releaseMerge (by kernel_rfl) a w⟩
instance : ExtStore Tryz.prog 228 := .of Tryz.func228 (by kernel_rfl) (by kernel_rfl) (by kernel_rfl) (by kernel_rfl)
instance : ExtLoad Tryz.prog 203 .u32 := .of Tryz.func203 (by kernel_rfl) (by kernel_rfl) (by kernel_rfl) .u32 (by kernel_rfl)
instance : ExtAdd Tryz.prog 239 .i32 := .of Tryz.func239 (by kernel_rfl) (by kernel_rfl) (by kernel_rfl) .i32 (by kernel_rfl)
instance : ExtCas Tryz.prog 234 .i32 := .of Tryz.func234 (by kernel_rfl) (by kernel_rfl) (by kernel_rfl) .i32 (by kernel_rfl)
theorem once_b32 (w : World) (F : List HProp) (hw : holds w F) :
    Ct Tryz.prog 229 #[.bool true] w fun e w' => e = .returned (.int .u32 1) ∧ holds w' F := by
  refine Ct.go (args := [.bool true]) Tryz.func229 rfl rfl rfl hw ?_
  repeat' (first | (apply GL.isAny; first | refine GL.runA rfl ?_ | (apply GL.isStore; first | refine GL.storeBlk rfl rfl rfl rfl rfl ?_ | refine GL.storeWhole rfl rfl rfl rfl rfl ?_ | refine GL.storeBlkA rfl rfl rfl rfl rfl ?_) | refine GL.guardY rfl rfl ?_ | refine GL.guardN rfl rfl rfl ?_ | refine GL.guardU rfl rfl rfl ?_ | (apply GL.isBox; first | refine GL.boxA rfl rfl (fun _ => ?_) | refine GL.box1 rfl rfl rfl (fun _ => ?_) | refine GL.box rfl rfl (fun _ => ?_)) | (apply GL.isBuildS; first | refine GL.buildSlice1A rfl rfl rfl rfl rfl (fun _ => ?_) | refine GL.buildSlice1 rfl rfl rfl rfl rfl (fun _ => ?_)) | (apply GL.isCall; refine GL.append1 _ rfl rfl rfl rfl (by rfl) (by omega) (by omega) rfl (fun _ => ?_)) | (apply GL.isAlloc; refine GL.alloc rfl (fun _ => ?_))) | apply GL.nil | first | apply G.seq | apply G.region | apply G.block | apply G.skip | apply G.exit | apply G.ret | (apply G.isCond; first | refine G.condT rfl ?_ | refine G.condF rfl ?_) | refine G.draw (by kernel_rfl) (by kernel_rfl) ?_ | (apply GE.isAny; first | apply GE.again | apply GE.thenG | apply GE.blockN | apply GE.blockE | apply GE.thenE | apply GE.thenR | apply GE.blockR | refine GE.blockO rfl ?_ | apply GE.only) | (apply GD.isAny; first | refine GD.runA rfl ?_ | refine GD.guardY rfl rfl ?_ | refine GD.guardN rfl rfl rfl ?_ | refine GD.guardU rfl rfl rfl ?_) | apply GD.nilE | apply GD.nilL | (apply GT.isAny; refine GT.runA rfl rfl ?_) | ((first | (apply GL.isAny; refine GL.guard rfl rfl (fun hc => ?_) (fun hc => ?_)) | (apply G.isCond; refine G.cond rfl (fun hc => ?_) (fun hc => ?_)) | (apply GD.isAny; refine GD.guard rfl rfl (fun hc => ?_) (fun hc => ?_))) <;> ((try simp only [decide_eq_true_eq, decide_eq_false_iff_not, Bool.not_true, Bool.not_false, ne_eq, Classical.not_not, Int.not_lt, Int.not_le] at hc); (try (exfalso; first | omega | exact hc trivial | exact hc rfl)))))
  all_goals (first | (exfalso; simp at hc; done) | (refine GE.resOne rfl (by (repeat (first | apply Res.nil | (apply Res.tmp; rfl) | (refine Res.cellA rfl rfl rfl ?_) | (refine Res.cell1 rfl rfl ?_)))) (fun w h => ?_); exact ⟨rfl, h.sub⟩))
section
variable (b o : Nat) (Y : Value → HProp) (hY : CellAt b o Y)
include hY
theorem once_Store (v : Value) (u : FrameMode) (w : World) (F : List HProp) (hw : holds w (Y v :: F)) :
    CallsD Tryz.prog 206 #[.pointer (some ⟨b, o, none⟩), .bool true] u w fun e u' w' => u' = u ∧ (e = .returned (.tuple #[]) ∧ holds w' (Y (.int .u32 1) :: F)) := by
  refine CtD.go (args := [.pointer (some ⟨b, o, none⟩), .bool true]) Tryz.func206 rfl rfl rfl hw ?_
  repeat' (first | (first | refine G.drawTail 5 (by kernel_rfl) (by simp only [List.take_succ_cons, List.take_zero]; rfl) (by simp only [List.drop_succ_cons, List.drop_zero]; rfl) (by kernel_rfl) ?_ | (apply GD.isAny; refine GD.call rfl rfl (fun w F' h => once_b32 w _ h) ?_) | (refine GL.extStoreC hY (u := v) (k := .u32) (i := 1) rfl rfl ?_)) | first | (apply GL.isAny; first | refine GL.runA rfl ?_ | (apply GL.isStore; first | refine GL.storeBlk rfl rfl rfl rfl rfl ?_ | refine GL.storeWhole rfl rfl rfl rfl rfl ?_ | refine GL.storeBlkA rfl rfl rfl rfl rfl ?_) | refine GL.guardY rfl rfl ?_ | refine GL.guardN rfl rfl rfl ?_ | refine GL.guardU rfl rfl rfl ?_ | (apply GL.isBox; first | refine GL.boxA rfl rfl (fun _ => ?_) | refine GL.box1 rfl rfl rfl (fun _ => ?_) | refine GL.box rfl rfl (fun _ => ?_)) | (apply GL.isBuildS; first | refine GL.buildSlice1A rfl rfl rfl rfl rfl (fun _ => ?_) | refine GL.buildSlice1 rfl rfl rfl rfl rfl (fun _ => ?_)) | (apply GL.isCall; refine GL.append1 _ rfl rfl rfl rfl (by rfl) (by omega) (by omega) rfl (fun _ => ?_)) | (apply GL.isAlloc; refine GL.alloc rfl (fun _ => ?_))) | apply GL.nil | first | apply G.seq | apply G.region | apply G.block | apply G.skip | apply G.exit | apply G.ret | (apply G.isCond; first | refine G.condT rfl ?_ | refine G.condF rfl ?_) | refine G.draw (by kernel_rfl) (by kernel_rfl) ?_ | (apply GE.isAny; first | apply GE.again | apply GE.thenG | apply GE.blockN | apply GE.blockE | apply GE.thenE | apply GE.thenR | apply GE.blockR | refine GE.blockO rfl ?_ | apply GE.only) | (apply GD.isAny; first | refine GD.runA rfl ?_ | refine GD.guardY rfl rfl ?_ | refine GD.guardN rfl rfl rfl ?_ | refine GD.guardU rfl rfl rfl ?_) | apply GD.nilE | apply GD.nilL | (apply GT.isAny; refine GT.runA rfl rfl ?_) | ((first | (apply GL.isAny; refine GL.guard rfl rfl (fun hc => ?_) (fun hc => ?_)) | (apply G.isCond; refine G.cond rfl (fun hc => ?_) (fun hc => ?_)) | (apply GD.isAny; refine GD.guard rfl rfl (fun hc => ?_) (fun hc => ?_))) <;> ((try simp only [decide_eq_true_eq, decide_eq_false_iff_not, Bool.not_true, Bool.not_false, ne_eq, Classical.not_not, Int.not_lt, Int.not_le] at hc); (try (exfalso; first | omega | exact hc trivial | exact hc rfl)))))
  (first | refine GE.res0 (.inl rfl) rfl (fun w h => ?_) | refine GE.res0 (.inr rfl) rfl (fun w h => ?_))
  exact ⟨rfl, h⟩
theorem once_Load (i : Int) (w : World) (F : List HProp) (hw : holds w (Y (.int .u32 i) :: F)) :
    Ct Tryz.prog 149 #[.pointer (some ⟨b, o, none⟩)] w fun e w' => e = .returned (.bool (decide (i ≠ 0))) ∧ holds w' (Y (.int .u32 i) :: F) := by
  refine Ct.go (args := [.pointer (some ⟨b, o, none⟩)]) Tryz.func149 rfl rfl rfl hw ?_
  repeat' (first | ((apply GL.isAny; refine GL.run (Runs.extLoadC hY (k := .u32) (i := i) rfl) rfl ?_)) | first | (apply GL.isAny; first | refine GL.runA rfl ?_ | (apply GL.isStore; first | refine GL.storeBlk rfl rfl rfl rfl rfl ?_ | refine GL.storeWhole rfl rfl rfl rfl rfl ?_ | refine GL.storeBlkA rfl rfl rfl rfl rfl ?_) | refine GL.guardY rfl rfl ?_ | refine GL.guardN rfl rfl rfl ?_ | refine GL.guardU rfl rfl rfl ?_ | (apply GL.isBox; first | refine GL.boxA rfl rfl (fun _ => ?_) | refine GL.box1 rfl rfl rfl (fun _ => ?_) | refine GL.box rfl rfl (fun _ => ?_)) | (apply GL.isBuildS; first | refine GL.buildSlice1A rfl rfl rfl rfl rfl (fun _ => ?_) | refine GL.buildSlice1 rfl rfl rfl rfl rfl (fun _ => ?_)) | (apply GL.isCall; refine GL.append1 _ rfl rfl rfl rfl (by rfl) (by omega) (by omega) rfl (fun _ => ?_)) | (apply GL.isAlloc; refine GL.alloc rfl (fun _ => ?_))) | apply GL.nil | first | apply G.seq | apply G.region | apply G.block | apply G.skip | apply G.exit | apply G.ret | (apply G.isCond; first | refine G.condT rfl ?_ | refine G.condF rfl ?_) | refine G.draw (by kernel_rfl) (by kernel_rfl) ?_ | (apply GE.isAny; first | apply GE.again | apply GE.thenG | apply GE.blockN | apply GE.blockE | apply GE.thenE | apply GE.thenR | apply GE.blockR | refine GE.blockO rfl ?_ | apply GE.only) | (apply GD.isAny; first | refine GD.runA rfl ?_ | refine GD.guardY rfl rfl ?_ | refine GD.guardN rfl rfl rfl ?_ | refine GD.guardU rfl rfl rfl ?_) | apply GD.nilE | apply GD.nilL | (apply GT.isAny; refine GT.runA rfl rfl ?_) | ((first | (apply GL.isAny; refine GL.guard rfl rfl (fun hc => ?_) (fun hc => ?_)) | (apply G.isCond; refine G.cond rfl (fun hc => ?_) (fun hc => ?_)) | (apply GD.isAny; refine GD.guard rfl rfl (fun hc => ?_) (fun hc => ?_))) <;> ((try simp only [decide_eq_true_eq, decide_eq_false_iff_not, Bool.not_true, Bool.not_false, ne_eq, Classical.not_not, Int.not_lt, Int.not_le] at hc); (try (exfalso; first | omega | exact hc trivial | exact hc rfl)))))
  refine GE.resOne rfl (by (repeat (first | apply Res.nil | (apply Res.tmp; rfl) | (refine Res.cellA rfl rfl rfl ?_) | (refine Res.cell1 rfl rfl ?_)))) (fun w h => ?_); exact ⟨rfl, h.sub⟩
theorem once_lockI (w : World) (F : List HProp) (hw : holds w (Y (.int .i32 0) :: F)) :
    Ct Tryz.prog 226 #[.pointer (some ⟨b, o, none⟩)] w fun e w' => e = .returned (.tuple #[]) ∧ holds w' (Y (.int .i32 1) :: F) := by
  refine Ct.go (args := [.pointer (some ⟨b, o, none⟩)]) Tryz.func226 rfl rfl rfl hw ?_
  repeat' (first | (first | (apply GL.isAny; refine GL.run Runs.markF rfl ?_) | (apply GL.isAny; refine GL.run (Runs.markA rfl) rfl ?_) | (refine GL.extCasC hY (k := .i32) (i := 0) (j := 1) rfl rfl ?_) | (apply GL.isAny; refine GL.run (Runs.convUns hY (v := .int .i32 1) (by kernel_rfl) rfl) rfl ?_)) | first | (apply GL.isAny; first | refine GL.runA rfl ?_ | (apply GL.isStore; first | refine GL.storeBlk rfl rfl rfl rfl rfl ?_ | refine GL.storeWhole rfl rfl rfl rfl rfl ?_ | refine GL.storeBlkA rfl rfl rfl rfl rfl ?_) | refine GL.guardY rfl rfl ?_ | refine GL.guardN rfl rfl rfl ?_ | refine GL.guardU rfl rfl rfl ?_ | (apply GL.isBox; first | refine GL.boxA rfl rfl (fun _ => ?_) | refine GL.box1 rfl rfl rfl (fun _ => ?_) | refine GL.box rfl rfl (fun _ => ?_)) | (apply GL.isBuildS; first | refine GL.buildSlice1A rfl rfl rfl rfl rfl (fun _ => ?_) | refine GL.buildSlice1 rfl rfl rfl rfl rfl (fun _ => ?_)) | (apply GL.isCall; refine GL.append1 _ rfl rfl rfl rfl (by rfl) (by omega) (by omega) rfl (fun _ => ?_)) | (apply GL.isAlloc; refine GL.alloc rfl (fun _ => ?_))) | apply GL.nil | first | apply G.seq | apply G.region | apply G.block | apply G.skip | apply G.exit | apply G.ret | (apply G.isCond; first | refine G.condT rfl ?_ | refine G.condF rfl ?_) | refine G.draw (by kernel_rfl) (by kernel_rfl) ?_ | (apply GE.isAny; first | apply GE.again | apply GE.thenG | apply GE.blockN | apply GE.blockE | apply GE.thenE | apply GE.thenR | apply GE.blockR | refine GE.blockO rfl ?_ | apply GE.only) | (apply GD.isAny; first | refine GD.runA rfl ?_ | refine GD.guardY rfl rfl ?_ | refine GD.guardN rfl rfl rfl ?_ | refine GD.guardU rfl rfl rfl ?_) | apply GD.nilE | apply GD.nilL | (apply GT.isAny; refine GT.runA rfl rfl ?_) | ((first | (apply GL.isAny; refine GL.guard rfl rfl (fun hc => ?_) (fun hc => ?_)) | (apply G.isCond; refine G.cond rfl (fun hc => ?_) (fun hc => ?_)) | (apply GD.isAny; refine GD.guard rfl rfl (fun hc => ?_) (fun hc => ?_))) <;> ((try simp only [decide_eq_true_eq, decide_eq_false_iff_not, Bool.not_true, Bool.not_false, ne_eq, Classical.not_not, Int.not_lt, Int.not_le] at hc); (try (exfalso; first | omega | exact hc trivial | exact hc rfl)))))
  all_goals (first | (exfalso; simp at hc; done) | ((first | refine GE.res0 (.inl rfl) rfl (fun w h => ?_) | refine GE.res0 (.inr rfl) rfl (fun w h => ?_)); exact ⟨rfl, h⟩))
theorem once_lock (w : World) (F : List HProp) (hw : holds w (Y (.int .i32 0) :: F)) :
    Ct Tryz.prog 204 #[.pointer (some ⟨b, o, none⟩)] w fun e w' => e = .returned (.tuple #[]) ∧ holds w' (Y (.int .i32 1) :: F) := by
  refine Ct.go (args := [.pointer (some ⟨b, o, none⟩)]) Tryz.func204 rfl rfl rfl hw ?_
  repeat' (first | ((apply GL.isCall; refine GL.call1 (vs := [.pointer (some ⟨b, o, none⟩)]) rfl rfl (fun w h => once_lockI b o Y hY w _ h) ?_)) | first | (apply GL.isAny; first | refine GL.runA rfl ?_ | (apply GL.isStore; first | refine GL.storeBlk rfl rfl rfl rfl rfl ?_ | refine GL.storeWhole rfl rfl rfl rfl rfl ?_ | refine GL.storeBlkA rfl rfl rfl rfl rfl ?_) | refine GL.guardY rfl rfl ?_ | refine GL.guardN rfl rfl rfl ?_ | refine GL.guardU rfl rfl rfl ?_ | (apply GL.isBox; first | refine GL.boxA rfl rfl (fun _ => ?_) | refine GL.box1 rfl rfl rfl (fun _ => ?_) | refine GL.box rfl rfl (fun _ => ?_)) | (apply GL.isBuildS; first | refine GL.buildSlice1A rfl rfl rfl rfl rfl (fun _ => ?_) | refine GL.buildSlice1 rfl rfl rfl rfl rfl (fun _ => ?_)) | (apply GL.isCall; refine GL.append1 _ rfl rfl rfl rfl (by rfl) (by omega) (by omega) rfl (fun _ => ?_)) | (apply GL.isAlloc; refine GL.alloc rfl (fun _ => ?_))) | apply GL.nil | first | apply G.seq | apply G.region | apply G.block | apply G.skip | apply G.exit | apply G.ret | (apply G.isCond; first | refine G.condT rfl ?_ | refine G.condF rfl ?_) | refine G.draw (by kernel_rfl) (by kernel_rfl) ?_ | (apply GE.isAny; first | apply GE.again | apply GE.thenG | apply GE.blockN | apply GE.blockE | apply GE.thenE | apply GE.thenR | apply GE.blockR | refine GE.blockO rfl ?_ | apply GE.only) | (apply GD.isAny; first | refine GD.runA rfl ?_ | refine GD.guardY rfl rfl ?_ | refine GD.guardN rfl rfl rfl ?_ | refine GD.guardU rfl rfl rfl ?_) | apply GD.nilE | apply GD.nilL | (apply GT.isAny; refine GT.runA rfl rfl ?_) | ((first | (apply GL.isAny; refine GL.guard rfl rfl (fun hc => ?_) (fun hc => ?_)) | (apply G.isCond; refine G.cond rfl (fun hc => ?_) (fun hc => ?_)) | (apply GD.isAny; refine GD.guard rfl rfl (fun hc => ?_) (fun hc => ?_))) <;> ((try simp only [decide_eq_true_eq, decide_eq_false_iff_not, Bool.not_true, Bool.not_false, ne_eq, Classical.not_not, Int.not_lt, Int.not_le] at hc); (try (exfalso; first | omega | exact hc trivial | exact hc rfl)))))
  (first | refine GE.res0 (.inl rfl) rfl (fun w h => ?_) | refine GE.res0 (.inr rfl) rfl (fun w h => ?_))
  exact ⟨rfl, h⟩
theorem once_unlockI (w : World) (F : List HProp) (hw : holds w (Y (.int .i32 1) :: F)) :
    Ct Tryz.prog 227 #[.pointer (some ⟨b, o, none⟩)] w fun e w' => e = .returned (.tuple #[]) ∧ holds w' (Y (.int .i32 0) :: F) := by
  refine Ct.go (args := [.pointer (some ⟨b, o, none⟩)]) Tryz.func227 rfl rfl rfl hw ?_
  repeat' (first | (first | (apply GL.isAny; refine GL.run Runs.markF rfl ?_) | (apply GL.isAny; refine GL.run (Runs.markA rfl) rfl ?_) | (refine GL.extAddC hY (k := .i32) (i := 1) (j := -1) rfl rfl ?_) | (apply GL.isAny; refine GL.run (Runs.convUns hY (v := .int .i32 1) (by kernel_rfl) rfl) rfl ?_) | (apply GL.isAny; refine GL.run (Runs.loadC hY (v := .int .i32 1) rfl) rfl ?_)) | first | (apply GL.isAny; first | refine GL.runA rfl ?_ | (apply GL.isStore; first | refine GL.storeBlk rfl rfl rfl rfl rfl ?_ | refine GL.storeWhole rfl rfl rfl rfl rfl ?_ | refine GL.storeBlkA rfl rfl rfl rfl rfl ?_) | refine GL.guardY rfl rfl ?_ | refine GL.guardN rfl rfl rfl ?_ | refine GL.guardU rfl rfl rfl ?_ | (apply GL.isBox; first | refine GL.boxA rfl rfl (fun _ => ?_) | refine GL.box1 rfl rfl rfl (fun _ => ?_) | refine GL.box rfl rfl (fun _ => ?_)) | (apply GL.isBuildS; first | refine GL.buildSlice1A rfl rfl rfl rfl rfl (fun _ => ?_) | refine GL.buildSlice1 rfl rfl rfl rfl rfl (fun _ => ?_)) | (apply GL.isCall; refine GL.append1 _ rfl rfl rfl rfl (by rfl) (by omega) (by omega) rfl (fun _ => ?_)) | (apply GL.isAlloc; refine GL.alloc rfl (fun _ => ?_))) | apply GL.nil | first | apply G.seq | apply G.region | apply G.block | apply G.skip | apply G.exit | apply G.ret | (apply G.isCond; first | refine G.condT rfl ?_ | refine G.condF rfl ?_) | refine G.draw (by kernel_rfl) (by kernel_rfl) ?_ | (apply GE.isAny; first | apply GE.again | apply GE.thenG | apply GE.blockN | apply GE.blockE | apply GE.thenE | apply GE.thenR | apply GE.blockR | refine GE.blockO rfl ?_ | apply GE.only) | (apply GD.isAny; first | refine GD.runA rfl ?_ | refine GD.guardY rfl rfl ?_ | refine GD.guardN rfl rfl rfl ?_ | refine GD.guardU rfl rfl rfl ?_) | apply GD.nilE | apply GD.nilL | (apply GT.isAny; refine GT.runA rfl rfl ?_) | ((first | (apply GL.isAny; refine GL.guard rfl rfl (fun hc => ?_) (fun hc => ?_)) | (apply G.isCond; refine G.cond rfl (fun hc => ?_) (fun hc => ?_)) | (apply GD.isAny; refine GD.guard rfl rfl (fun hc => ?_) (fun hc => ?_))) <;> ((try simp only [decide_eq_true_eq, decide_eq_false_iff_not, Bool.not_true, Bool.not_false, ne_eq, Classical.not_not, Int.not_lt, Int.not_le] at hc); (try (exfalso; first | omega | exact hc trivial | exact hc rfl)))))
  all_goals (first | (exfalso; simp at hc; done) | ((first | refine GE.res0 (.inl rfl) rfl (fun w h => ?_) | refine GE.res0 (.inr rfl) rfl (fun w h => ?_)); exact ⟨rfl, h⟩))
theorem once_unlock (u : FrameMode) (w : World) (F : List HProp) (hw : holds w (Y (.int .i32 1) :: F)) :
    CallsD Tryz.prog 205 #[.pointer (some ⟨b, o, none⟩)] u w fun e u' w' => u' = u ∧ (e = .returned (.tuple #[]) ∧ holds w' (Y (.int .i32 0) :: F)) := by
  refine CtD.go (args := [.pointer (some ⟨b, o, none⟩)]) Tryz.func205 rfl rfl rfl hw ?_
  repeat' (first | ((apply GL.isCall; refine GL.call1 (vs := [.pointer (some ⟨b, o, none⟩)]) rfl rfl (fun w h => once_unlockI b o Y hY w _ h) ?_)) | first | (apply GL.isAny; first | refine GL.runA rfl ?_ | (apply GL.isStore; first | refine GL.storeBlk rfl rfl rfl rfl rfl ?_ | refine GL.storeWhole rfl rfl rfl rfl rfl ?_ | refine GL.storeBlkA rfl rfl rfl rfl rfl ?_) | refine GL.guardY rfl rfl ?_ | refine GL.guardN rfl rfl rfl ?_ | refine GL.guardU rfl rfl rfl ?_ | (apply GL.isBox; first | refine GL.boxA rfl rfl (fun _ => ?_) | refine GL.box1 rfl rfl rfl (fun _ => ?_) | refine GL.box rfl rfl (fun _ => ?_)) | (apply GL.isBuildS; first | refine GL.buildSlice1A rfl rfl rfl rfl rfl (fun _ => ?_) | refine GL.buildSlice1 rfl rfl rfl rfl rfl (fun _ => ?_)) | (apply GL.isCall; refine GL.append1 _ rfl rfl rfl rfl (by rfl) (by omega) (by omega) rfl (fun _ => ?_)) | (apply GL.isAlloc; refine GL.alloc rfl (fun _ => ?_))) | apply GL.nil | first | apply G.seq | apply G.region | apply G.block | apply G.skip | apply G.exit | apply G.ret | (apply G.isCond; first | refine G.condT rfl ?_ | refine G.condF rfl ?_) | refine G.draw (by kernel_rfl) (by kernel_rfl) ?_ | (apply GE.isAny; first | apply GE.again | apply GE.thenG | apply GE.blockN | apply GE.blockE | apply GE.thenE | apply GE.thenR | apply GE.blockR | refine GE.blockO rfl ?_ | apply GE.only) | (apply GD.isAny; first | refine GD.runA rfl ?_ | refine GD.guardY rfl rfl ?_ | refine GD.guardN rfl rfl rfl ?_ | refine GD.guardU rfl rfl rfl ?_) | apply GD.nilE | apply GD.nilL | (apply GT.isAny; refine GT.runA rfl rfl ?_) | ((first | (apply GL.isAny; refine GL.guard rfl rfl (fun hc => ?_) (fun hc => ?_)) | (apply G.isCond; refine G.cond rfl (fun hc => ?_) (fun hc => ?_)) | (apply GD.isAny; refine GD.guard rfl rfl (fun hc => ?_) (fun hc => ?_))) <;> ((try simp only [decide_eq_true_eq, decide_eq_false_iff_not, Bool.not_true, Bool.not_false, ne_eq, Classical.not_not, Int.not_lt, Int.not_le] at hc); (try (exfalso; first | omega | exact hc trivial | exact hc rfl)))))
  (first | refine GE.res0 (.inl rfl) rfl (fun w h => ?_) | refine GE.res0 (.inr rfl) rfl (fun w h => ?_))
  exact ⟨rfl, h⟩
end
/-- A place where a sync.Once lies: what it says (done, the lock) beside the rest s. -/
structure OnceAt {σ : Type} (b o : Nat) (X : σ → Value → Value → HProp) : Prop where
  c0 : ∀ s l, CellAt b o (fun d => X s d l)
  c1 : ∀ s d, CellAt b (o + 1) (fun l => X s d l)
section
variable {σ α : Type} {b o : Nat} {X : σ → Value → Value → HProp} (hX : OnceAt b o X) (s0 : σ) (s1 : α → σ) (g : FuncId) (first cap : List Value) (w : World) (F : List HProp) (F' : α → List HProp)
include hX
theorem once_slow (hg : ∀ (args : Array Value) (w : World), (callFunc g args).run Tryz.prog w = .ok (.enter g args) w) (hf : ∀ w, holds w (X s0 (.int .u32 0) (.int .i32 1) :: F) → Ct Tryz.prog g (first ++ cap).toArray w fun e w' => ∃ x, e = .returned (.tuple #[]) ∧ holds w' (X (s1 x) (.int .u32 0) (.int .i32 1) :: F' x))
    (hw : holds w (X s0 (.int .u32 0) (.int .i32 0) :: F)) :
    Ct Tryz.prog 150 #[.pointer (some ⟨b, o, none⟩), .func (.func g) first.toArray cap.toArray] w fun e w' => ∃ x, e = .returned (.tuple #[]) ∧ holds w' (X (s1 x) (.int .u32 1) (.int .i32 0) :: F' x) := by
  have hL := (once_lock b (o + 1) _ (hX.c1 s0 (.int .u32 0)) w F hw).out
  have hnot : ∀ (x : Bool) (w : World), (Op.unary .not (.bool x)).run Tryz.prog w = .ok (.bool (!x)) w := fun _ _ => rfl
  refine ⟨?_⟩
  go_enter_defers Tryz.func150, Tryz.ntmps150
  go_wp2_with (go_at_call 204; refine hL.mono ?_; rintro e w1 ⟨rfl, h1⟩)
  have hD := (once_Load b o _ (hX.c0 s0 (.int .i32 1)) 0 w1 F h1).out
  refine hD.mono ?_
  rintro e w2 ⟨rfl, h2⟩
  go_wp2_with fail
  refine (hf _ h2).out.mono ?_
  rintro e w3 ⟨x, rfl, h3⟩
  go_wp2
  have hS := fun u w h => once_Store b o _ (hX.c0 (s1 x) (.int .i32 1)) (.int .u32 0) u w (F' x) h
  have hU := fun u w h => once_unlock b (o + 1) _ (hX.c1 (s1 x) (.int .u32 1)) u w (F' x) h
  refine leaves_cons (f := 206) (args := #[.pointer (some ⟨b, o, none⟩), .bool true]) (by simp) (by simp [go_sem]) ?_
  refine (hS .returning _ h3).mono ?_
  rintro e u' w'' ⟨rfl, rfl, h4⟩
  refine leaves_cons (f := 205) (args := #[.pointer (some ⟨b, o + 1, none⟩)]) (by simp [settle]) (by simp [go_sem]) ?_
  refine (hU _ _ h4).mono ?_
  rintro e u' w'' ⟨rfl, rfl, h5⟩
  simp only [Leaves, settle]
  exact ⟨_, results_none rfl _ _ _, x, rfl, h5⟩
theorem once_Do (hg : ∀ (args : Array Value) (w : World), (callFunc g args).run Tryz.prog w = .ok (.enter g args) w) (hf : ∀ w, holds w (X s0 (.int .u32 0) (.int .i32 1) :: F) → Ct Tryz.prog g (first ++ cap).toArray w fun e w' => ∃ x, e = .returned (.tuple #[]) ∧ holds w' (X (s1 x) (.int .u32 0) (.int .i32 1) :: F' x))
    (hw : holds w (X s0 (.int .u32 0) (.int .i32 0) :: F)) :
    Ct Tryz.prog 82 #[.pointer (some ⟨b, o, none⟩), .func (.func g) first.toArray cap.toArray] w fun e w' => ∃ x, e = .returned (.tuple #[]) ∧ holds w' (X (s1 x) (.int .u32 1) (.int .i32 0) :: F' x) := by
  refine Ct.go (args := [.pointer (some ⟨b, o, none⟩), .func (.func g) first.toArray cap.toArray]) Tryz.func82 rfl rfl rfl hw ?_
  have h0 := fun w h => once_Load b o _ (hX.c0 s0 (.int .i32 0)) 0 w F h
  repeat' (first | (first | (apply GL.isCall; refine GL.call1 (vs := [.pointer (some ⟨b, o, none⟩)]) rfl rfl (fun w h => h0 w h) ?_) | (apply GL.isCall; refine GL.call (vs := [.pointer (some ⟨b, o, none⟩), .func (.func g) first.toArray cap.toArray]) rfl rfl (fun w h => once_slow hX s0 s1 g first cap w F F' hg hf h) (fun x => ?_))) | first | (apply GL.isAny; first | refine GL.runA rfl ?_ | (apply GL.isStore; first | refine GL.storeBlk rfl rfl rfl rfl rfl ?_ | refine GL.storeWhole rfl rfl rfl rfl rfl ?_ | refine GL.storeBlkA rfl rfl rfl rfl rfl ?_) | refine GL.guardY rfl rfl ?_ | refine GL.guardN rfl rfl rfl ?_ | refine GL.guardU rfl rfl rfl ?_ | (apply GL.isBox; first | refine GL.boxA rfl rfl (fun _ => ?_) | refine GL.box1 rfl rfl rfl (fun _ => ?_) | refine GL.box rfl rfl (fun _ => ?_)) | (apply GL.isBuildS; first | refine GL.buildSlice1A rfl rfl rfl rfl rfl (fun _ => ?_) | refine GL.buildSlice1 rfl rfl rfl rfl rfl (fun _ => ?_)) | (apply GL.isCall; refine GL.append1 _ rfl rfl rfl rfl (by rfl) (by omega) (by omega) rfl (fun _ => ?_)) | (apply GL.isAlloc; refine GL.alloc rfl (fun _ => ?_))) | apply GL.nil | first | apply G.seq | apply G.region | apply G.block | apply G.skip | apply G.exit | apply G.ret | (apply G.isCond; first | refine G.condT rfl ?_ | refine G.condF rfl ?_) | refine G.draw (by kernel_rfl) (by kernel_rfl) ?_ | (apply GE.isAny; first | apply GE.again | apply GE.thenG | apply GE.blockN | apply GE.blockE | apply GE.thenE | apply GE.thenR | apply GE.blockR | refine GE.blockO rfl ?_ | apply GE.only) | (apply GD.isAny; first | refine GD.runA rfl ?_ | refine GD.guardY rfl rfl ?_ | refine GD.guardN rfl rfl rfl ?_ | refine GD.guardU rfl rfl rfl ?_) | apply GD.nilE | apply GD.nilL | (apply GT.isAny; refine GT.runA rfl rfl ?_) | ((first | (apply GL.isAny; refine GL.guard rfl rfl (fun hc => ?_) (fun hc => ?_)) | (apply G.isCond; refine G.cond rfl (fun hc => ?_) (fun hc => ?_)) | (apply GD.isAny; refine GD.guard rfl rfl (fun hc => ?_) (fun hc => ?_))) <;> ((try simp only [decide_eq_true_eq, decide_eq_false_iff_not, Bool.not_true, Bool.not_false, ne_eq, Classical.not_not, Int.not_lt, Int.not_le] at hc); (try (exfalso; first | omega | exact hc trivial | exact hc rfl)))))
  all_goals (first | (exfalso; simp at hc; done) | ((first | refine GE.res0 (.inl rfl) rfl (fun w h => ?_) | refine GE.res0 (.inr rfl) rfl (fun w h => ?_)); exact ⟨_, rfl, h⟩))
/-- Done already. -/
theorem once_Done (fv : Value) (hw : holds w (X s0 (.int .u32 1) (.int .i32 0) :: F)) :
    Ct Tryz.prog 82 #[.pointer (some ⟨b, o, none⟩), fv] w fun e w' => e = .returned (.tuple #[]) ∧ holds w' (X s0 (.int .u32 1) (.int .i32 0) :: F) := by
  refine Ct.go (args := [.pointer (some ⟨b, o, none⟩), fv]) Tryz.func82 rfl rfl rfl hw ?_
  have h0 := fun w h => once_Load b o _ (hX.c0 s0 (.int .i32 0)) 1 w F h
  repeat' (first | ((apply GL.isCall; refine GL.call1 (vs := [.pointer (some ⟨b, o, none⟩)]) rfl rfl (fun w h => h0 w h) ?_)) | first | (apply GL.isAny; first | refine GL.runA rfl ?_ | (apply GL.isStore; first | refine GL.storeBlk rfl rfl rfl rfl rfl ?_ | refine GL.storeWhole rfl rfl rfl rfl rfl ?_ | refine GL.storeBlkA rfl rfl rfl rfl rfl ?_) | refine GL.guardY rfl rfl ?_ | refine GL.guardN rfl rfl rfl ?_ | refine GL.guardU rfl rfl rfl ?_ | (apply GL.isBox; first | refine GL.boxA rfl rfl (fun _ => ?_) | refine GL.box1 rfl rfl rfl (fun _ => ?_) | refine GL.box rfl rfl (fun _ => ?_)) | (apply GL.isBuildS; first | refine GL.buildSlice1A rfl rfl rfl rfl rfl (fun _ => ?_) | refine GL.buildSlice1 rfl rfl rfl rfl rfl (fun _ => ?_)) | (apply GL.isCall; refine GL.append1 _ rfl rfl rfl rfl (by rfl) (by omega) (by omega) rfl (fun _ => ?_)) | (apply GL.isAlloc; refine GL.alloc rfl (fun _ => ?_))) | apply GL.nil | first | apply G.seq | apply G.region | apply G.block | apply G.skip | apply G.exit | apply G.ret | (apply G.isCond; first | refine G.condT rfl ?_ | refine G.condF rfl ?_) | refine G.draw (by kernel_rfl) (by kernel_rfl) ?_ | (apply GE.isAny; first | apply GE.again | apply GE.thenG | apply GE.blockN | apply GE.blockE | apply GE.thenE | apply GE.thenR | apply GE.blockR | refine GE.blockO rfl ?_ | apply GE.only) | (apply GD.isAny; first | refine GD.runA rfl ?_ | refine GD.guardY rfl rfl ?_ | refine GD.guardN rfl rfl rfl ?_ | refine GD.guardU rfl rfl rfl ?_) | apply GD.nilE | apply GD.nilL | (apply GT.isAny; refine GT.runA rfl rfl ?_) | ((first | (apply GL.isAny; refine GL.guard rfl rfl (fun hc => ?_) (fun hc => ?_)) | (apply G.isCond; refine G.cond rfl (fun hc => ?_) (fun hc => ?_)) | (apply GD.isAny; refine GD.guard rfl rfl (fun hc => ?_) (fun hc => ?_))) <;> ((try simp only [decide_eq_true_eq, decide_eq_false_iff_not, Bool.not_true, Bool.not_false, ne_eq, Classical.not_not, Int.not_lt, Int.not_le] at hc); (try (exfalso; first | omega | exact hc trivial | exact hc rfl)))))
  all_goals (first | (exfalso; simp at hc; done) | ((first | refine GE.res0 (.inl rfl) rfl (fun w h => ?_) | refine GE.res0 (.inr rfl) rfl (fun w h => ?_)); exact ⟨rfl, h⟩))
end
end Go.Proofs.YtipkgamiejenaaaGreat
