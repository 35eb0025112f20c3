import Derived.Test.YtipkgamiejenaaaGreatMg8

/- Package bytes: bytes are put row by row; a text is put, bytes are wiped. -/
namespace Go.Proofs.YtipkgamiejenaaaGreat
open Go Go.RowKit Go.MapKept
set_option linter.unusedVariables false
set_option linter.unusedSimpArgs false
set_option maxRecDepth 100000
set_option maxHeartbeats 2000000
instance : ZeroT Tryz.prog 274 (encRow By.zrow) 64 64 := (inferInstance : ZeroT Tryz.prog 274 _ _ _)
theorem Runs.lookRow {P : Program} {n : Nat} {env : Env} {F F' : List HProp} {t k e : TypeId} {x y : Operand} {b size bytes : Nat} {i : Int} {m : List (Int × List UInt8)} [hm : MapT P t k e] [hk : IntT P k .i64] [hz : ZeroT P e (encRow By.zrow) size bytes] (hx : opnd env x = some (.map (some b))) (hy : opnd env y = some (.int .i64 i)) [hr : HasMap F b encRow m F'] :
    Runs P n env F (.lookup t x y false) (encRow ((alGet m i).getD By.zrow)) := by
  cases h : alGet m i with
  | none => exact Runs.lookupN hx hy h
  | some u => exact Runs.lookupS hx hy h
theorem Runs.sliceArrM {P : Program} {n : Nat} {env : Env} {F : List HProp} {t e : TypeId} {x y z : Operand} {b m : Nat} {i j : Int} (k q : Nat) [ht : ArrT P t m e 1] (hx : opnd env x = some (.pointer (some ⟨b, 0, none⟩))) (hlo : opnd env y = some (.int .i64 i)) (hhi : opnd env z = some (.int .i64 j)) (hi : i = (k : Nat)) (hj : j = (k : Int) + (q : Nat)) (hqm : k + q ≤ m) (hkm : k < m) :
    Runs P n env F (.slice t x (some y) (some z) none) (.slice (some ⟨b, k, none⟩) q (m - k)) := by
  have h := Runs.sliceArr (P := P) (n := n) (env := env) (F := F) (t := t) (x := x) (lo := some y) (up := some z) (b := b) (m := m) (i := i) (j := j) k (k + q) hx (by simp [bnd, hlo]) (by simp [bnd, hhi]) hi (by omega) (by omega) hqm hkm
  rw [Nat.add_sub_cancel_left] at h; exact h
section
variable (b sz : Nat) (tx : List UInt8)
theorem bytes_put (g : FuncId) [hg : Own Tryz.prog g] (first cap : List Value) (E : HProp) (k0 nn : Nat) (d : List UInt8) (hnn : d.length = nn) (hfit : k0 + d.length ≤ sz)
    (hfill : ∀ (rb k mm i : Nat) (row : List UInt8) (w : World) (F : List HProp), k + mm ≤ 64 → 0 < mm → i + mm ≤ d.length → holds w (byB 274 rb 64 row :: E :: F) → Ct Tryz.prog g (first ++ [Value.slice (some ⟨rb, k, none⟩) mm (64 - k), Value.int .i64 (i : Nat)] ++ cap).toArray w fun e w' => e = .returned (.tuple #[]) ∧ holds w' (byB 274 rb 64 (By.splice row k ((d.drop i).take mm)) :: E :: F))
    (w : World) (F : List HProp) (hw : holds w (bytesP b sz tx :: E :: F)) :
    Ct Tryz.prog 169 #[.pointer (some ⟨b, 0, none⟩), .int .i64 (k0 : Nat), .int .i64 (nn : Nat), .func (.func g) first.toArray cap.toArray] w fun e w' => e = .returned (.tuple #[]) ∧ holds w' (bytesP b sz (By.splice tx k0 d) :: E :: F) := by
  subst hnn
  obtain ⟨m, am, ⟨e1, e2, e3, e4⟩, h1⟩ := bytesP.open hw
  refine Ct.go (args := [.pointer (some ⟨b, 0, none⟩), .int .i64 (k0 : Nat), .int .i64 (d.length : Nat), .func (.func g) first.toArray cap.toArray]) Tryz.func169 rfl rfl rfl h1 ?_
  repeat' (first | (apply GL.isAny; first | refine GL.runA rfl ?_ | (apply GL.isStore; first | refine GL.storeBlk rfl rfl rfl rfl rfl ?_ | refine GL.storeWhole rfl rfl rfl rfl rfl ?_ | refine GL.storeBlkA rfl rfl rfl rfl rfl ?_) | refine GL.guardY rfl rfl ?_ | refine GL.guardN rfl rfl rfl ?_ | refine GL.guardU rfl rfl rfl ?_ | (apply GL.isBox; first | refine GL.boxA rfl rfl (fun _ => ?_) | refine GL.box1 rfl rfl rfl (fun _ => ?_) | refine GL.box rfl rfl (fun _ => ?_)) | (apply GL.isBuildS; first | refine GL.buildSlice1A rfl rfl rfl rfl rfl (fun _ => ?_) | refine GL.buildSlice1 rfl rfl rfl rfl rfl (fun _ => ?_)) | (apply GL.isCall; refine GL.append1 _ rfl rfl rfl rfl (by rfl) (by omega) (by omega) rfl (fun _ => ?_)) | (apply GL.isAlloc; refine GL.alloc rfl (fun _ => ?_))) | apply GL.nil | first | apply G.seq | apply G.region | apply G.block | apply G.skip | apply G.exit | apply G.ret | (apply G.isCond; first | refine G.condT rfl ?_ | refine G.condF rfl ?_) | refine G.draw (by kernel_rfl) (by kernel_rfl) ?_ | (apply GE.isAny; first | apply GE.again | apply GE.thenG | apply GE.blockN | apply GE.blockE | apply GE.thenE | apply GE.thenR | apply GE.blockR | refine GE.blockO rfl ?_ | apply GE.only) | (apply GD.isAny; first | refine GD.runA rfl ?_ | refine GD.guardY rfl rfl ?_ | refine GD.guardN rfl rfl rfl ?_ | refine GD.guardU rfl rfl rfl ?_) | apply GD.nilE | apply GD.nilL | (apply GT.isAny; refine GT.runA rfl rfl ?_) | ((first | (apply GL.isAny; refine GL.guard rfl rfl (fun hc => ?_) (fun hc => ?_)) | (apply G.isCond; refine G.cond rfl (fun hc => ?_) (fun hc => ?_)) | (apply GD.isAny; refine GD.guard rfl rfl (fun hc => ?_) (fun hc => ?_))) <;> ((try simp only [decide_eq_true_eq, decide_eq_false_iff_not, Bool.not_true, Bool.not_false, ne_eq, Classical.not_not, Int.not_lt, Int.not_le] at hc); (try (exfalso; first | omega | exact hc trivial | exact hc rfl)))))
  refine G.loopK [0, 1, 2, 3] (Nat × List (Int × List UInt8)) (fun y => [(8, .int .i64 y.1)]) (fun y => blk b (.cells #[.map (some m), .int .i64 (sz : Nat)] 219 (0, 0)) :: imap encRow m y.2 :: E :: F) (fun y => y.1 ≤ d.length ∧ By.Rows y.2 (By.splice tx k0 (d.take y.1))) (fun y => d.length - y.1) ((0, am)) (⟨Nat.zero_le _, by rw [List.take_zero, By.splice_nil]; exact e4⟩) (by repeat (first | exact trivial | refine And.intro rfl ?_)) (fun w h => by (try dsimp only); first | exact h | exact h.sub | ((try simp only [List.take_zero, List.drop_zero, List.map_nil, List.nil_append, List.zipIdx_nil, List.filter_nil]); exact h.sub)) ?_
  rintro ⟨i, am2⟩ ⟨hi, hR⟩
  dsimp only at hi hR ⊢
  by_cases hlt : i < d.length
  · obtain ⟨a, ha⟩ : ∃ a, a = (k0 + i) / 64 := ⟨_, rfl⟩
    obtain ⟨k, hk⟩ : ∃ k, k = (k0 + i) % 64 := ⟨_, rfl⟩
    obtain ⟨mm, hm⟩ : ∃ mm, mm = min (64 - k) (d.length - i) := ⟨_, rfl⟩
    have hda : ((k0 : Int) + i) / 64 = (a : Nat) := by omega
    have hdk : ((k0 : Int) + i) % 64 = (k : Nat) := by omega
    have hdm : min (64 - (k : Int)) ((d.length : Int) - i) = (mm : Nat) := by omega
    have hl : (By.splice tx k0 (d.take i)).length = sz := by rw [By.splice_len _ _ _ (by rw [List.length_take]; omega)]; exact e1
    generalize ht : By.splice tx k0 (d.take i) = t at hR hl
    have ha64 : 64 * a < t.length := by omega
    have hrow := hR.get a ha64
    have hrl := By.row_len t a (by omega)
    have hsl : ((d.drop i).take mm).length = mm := by rw [List.length_take, List.length_drop]; omega
    have hput := hR.put (by omega) a k (s := (d.drop i).take mm) (by omega) ha64
    have hmore := By.splice_more tx d k0 i mm (by omega) (by omega)
    rw [ht, show k0 + i = 64 * a + k by omega] at hmore
    rw [hmore] at hput
    have hsp : (By.splice (By.row t a) k ((d.drop i).take mm)).length = 64 := by rw [By.splice_len _ _ _ (by omega)]; exact hrl
    have hz : By.zrow.length = 64 := rfl
    have hF := fun rb w F h => hfill rb k mm i (By.row t a) w F (by omega) (by omega) (by omega) h
    generalize hq : By.splice (By.row t a) k ((d.drop i).take mm) = q at hput hsp hF
    have hn : (i : Int) + mm = ((i + mm : Nat) : Int) := by omega
    repeat' (first | (first | (refine G.isRegion 3 ?_; rw [hda, hdk]; apply G.region) | (refine G.isRegion 5 ?_; rw [hdm]; apply G.region) | (apply GL.isAny; refine GL.run (v := encRow (By.row t a)) (by apply Runs.isLookup; rw [← hrow]; exact Runs.lookRow rfl rfl) rfl ?_) | (apply GL.isAlloc; refine GL.alloc rfl (fun rb => ?_)) | (apply GL.isStore; refine GL.storeBy (l := By.row t a) rfl rfl hrl rfl ?_) | (apply GL.isAny; refine GL.run (by apply Runs.isSlice; exact Runs.sliceArrM k mm rfl rfl rfl rfl rfl (by omega) (by omega)) rfl ?_) | (apply GL.isCall; refine GL.callV1 (first := first) (captured := cap) (vs := [.slice (some ⟨rb, k, none⟩) mm (64 - k), .int .i64 (i : Nat)]) rfl rfl rfl (fun w h => hF rb w (blk b (.cells #[.map (some m), .int .i64 (sz : Nat)] 219 (0, 0)) :: imap encRow m am2 :: F) h.sub) ?_) | (apply GL.isAny; refine GL.run (by apply Runs.isLoad; exact Runs.loadBy rfl) rfl ?_) | (apply GL.isAny; refine GL.run (by apply Runs.isBin; exact Runs.eqlBy (m := 64) (l := q) (r := By.zrow) rfl rfl hsp hz) rfl ?_) | refine G.drawTail 6 (by kernel_rfl) (by simp only [List.take_succ_cons, List.take_zero]; rfl) (by simp only [List.drop_succ_cons, List.drop_zero]; rfl) (by kernel_rfl) ?_ | (apply GD.isAny; refine GD.run (by apply Runs.isLoad; exact Runs.loadBy rfl) rfl ?_) | (refine GL.mapDelete rfl rfl rfl ?_) | (refine GL.mapUpdate q rfl rfl rfl rfl ?_)) | first | (apply GL.isAny; first | refine GL.runA rfl ?_ | (apply GL.isStore; first | refine GL.storeBlk rfl rfl rfl rfl rfl ?_ | refine GL.storeWhole rfl rfl rfl rfl rfl ?_ | refine GL.storeBlkA rfl rfl rfl rfl rfl ?_) | refine GL.guardY rfl rfl ?_ | refine GL.guardN rfl rfl rfl ?_ | refine GL.guardU rfl rfl rfl ?_ | (apply GL.isBox; first | refine GL.boxA rfl rfl (fun _ => ?_) | refine GL.box1 rfl rfl rfl (fun _ => ?_) | refine GL.box rfl rfl (fun _ => ?_)) | (apply GL.isBuildS; first | refine GL.buildSlice1A rfl rfl rfl rfl rfl (fun _ => ?_) | refine GL.buildSlice1 rfl rfl rfl rfl rfl (fun _ => ?_)) | (apply GL.isCall; refine GL.append1 _ rfl rfl rfl rfl (by rfl) (by omega) (by omega) rfl (fun _ => ?_)) | (apply GL.isAlloc; refine GL.alloc rfl (fun _ => ?_))) | apply GL.nil | first | apply G.seq | apply G.region | apply G.block | apply G.skip | apply G.exit | apply G.ret | (apply G.isCond; first | refine G.condT rfl ?_ | refine G.condF rfl ?_) | refine G.draw (by kernel_rfl) (by kernel_rfl) ?_ | (apply GE.isAny; first | apply GE.again | apply GE.thenG | apply GE.blockN | apply GE.blockE | apply GE.thenE | apply GE.thenR | apply GE.blockR | refine GE.blockO rfl ?_ | apply GE.only) | (apply GD.isAny; first | refine GD.runA rfl ?_ | refine GD.guardY rfl rfl ?_ | refine GD.guardN rfl rfl rfl ?_ | refine GD.guardU rfl rfl rfl ?_) | apply GD.nilE | apply GD.nilL | (apply GT.isAny; refine GT.runA rfl rfl ?_) | ((first | (apply GL.isAny; refine GL.guard rfl rfl (fun hc => ?_) (fun hc => ?_)) | (apply G.isCond; refine G.cond rfl (fun hc => ?_) (fun hc => ?_)) | (apply GD.isAny; refine GD.guard rfl rfl (fun hc => ?_) (fun hc => ?_))) <;> ((try simp only [decide_eq_true_eq, decide_eq_false_iff_not, Bool.not_true, Bool.not_false, ne_eq, Classical.not_not, Int.not_lt, Int.not_le] at hc); (try (exfalso; first | omega | exact hc trivial | exact hc rfl)))))
    all_goals (first | (exfalso; omega) | skip)
    · have hp : By.putRow am2 a q = alDel am2 a := by unfold By.putRow; rw [if_pos hc]
      rw [hp] at hput
      rw [hn]
      refine GE.round ((i + mm, alDel am2 a)) (⟨by omega, hput⟩) (by repeat (first | exact trivial | refine And.intro rfl ?_)) (fun w h => by (try dsimp only); exact h.sub) (by (try dsimp only); omega)
    · have hp : By.putRow am2 a q = alSet am2 a q := by unfold By.putRow; rw [if_neg hc]
      rw [hp] at hput
      rw [hn]
      refine GE.round ((i + mm, alSet am2 a q)) (⟨by omega, hput⟩) (by repeat (first | exact trivial | refine And.intro rfl ?_)) (fun w h => by (try dsimp only); exact h.sub) (by (try dsimp only); omega)
  · obtain rfl : i = d.length := by omega
    rw [List.take_of_length_le (Nat.le_refl _)] at hR
    repeat' (first | (apply GL.isAny; first | refine GL.runA rfl ?_ | (apply GL.isStore; first | refine GL.storeBlk rfl rfl rfl rfl rfl ?_ | refine GL.storeWhole rfl rfl rfl rfl rfl ?_ | refine GL.storeBlkA rfl rfl rfl rfl rfl ?_) | refine GL.guardY rfl rfl ?_ | refine GL.guardN rfl rfl rfl ?_ | refine GL.guardU rfl rfl rfl ?_ | (apply GL.isBox; first | refine GL.boxA rfl rfl (fun _ => ?_) | refine GL.box1 rfl rfl rfl (fun _ => ?_) | refine GL.box rfl rfl (fun _ => ?_)) | (apply GL.isBuildS; first | refine GL.buildSlice1A rfl rfl rfl rfl rfl (fun _ => ?_) | refine GL.buildSlice1 rfl rfl rfl rfl rfl (fun _ => ?_)) | (apply GL.isCall; refine GL.append1 _ rfl rfl rfl rfl (by rfl) (by omega) (by omega) rfl (fun _ => ?_)) | (apply GL.isAlloc; refine GL.alloc rfl (fun _ => ?_))) | apply GL.nil | first | apply G.seq | apply G.region | apply G.block | apply G.skip | apply G.exit | apply G.ret | (apply G.isCond; first | refine G.condT rfl ?_ | refine G.condF rfl ?_) | refine G.draw (by kernel_rfl) (by kernel_rfl) ?_ | (apply GE.isAny; first | apply GE.again | apply GE.thenG | apply GE.blockN | apply GE.blockE | apply GE.thenE | apply GE.thenR | apply GE.blockR | refine GE.blockO rfl ?_ | apply GE.only) | (apply GD.isAny; first | refine GD.runA rfl ?_ | refine GD.guardY rfl rfl ?_ | refine GD.guardN rfl rfl rfl ?_ | refine GD.guardU rfl rfl rfl ?_) | apply GD.nilE | apply GD.nilL | (apply GT.isAny; refine GT.runA rfl rfl ?_) | ((first | (apply GL.isAny; refine GL.guard rfl rfl (fun hc => ?_) (fun hc => ?_)) | (apply G.isCond; refine G.cond rfl (fun hc => ?_) (fun hc => ?_)) | (apply GD.isAny; refine GD.guard rfl rfl (fun hc => ?_) (fun hc => ?_))) <;> ((try simp only [decide_eq_true_eq, decide_eq_false_iff_not, Bool.not_true, Bool.not_false, ne_eq, Classical.not_not, Int.not_lt, Int.not_le] at hc); (try (exfalso; first | omega | exact hc trivial | exact hc rfl)))))
    all_goals (first | (exfalso; omega) | skip)
    (first | refine GE.res0 (.inl rfl) rfl (fun w h => ?_) | refine GE.res0 (.inr rfl) rfl (fun w h => ?_))
    exact ⟨rfl, bytesP.shut (m := m) ⟨by rw [By.splice_len _ _ _ (by omega)]; exact e1, e2, e3, hR⟩ h.sub⟩
theorem bytes_Store1 (rb sb k mm i : Nat) (row s : List UInt8) (hk : k + mm ≤ 64) (hi : i + mm ≤ s.length) (w : World) (F : List HProp) (hw : holds w (byB 274 rb 64 row :: blk sb (.cells #[.string (bs s)] 9 (0, 0)) :: F)) :
    Ct Tryz.prog 170 #[.slice (some ⟨rb, k, none⟩) mm (64 - k), .int .i64 (i : Nat), .pointer (some ⟨sb, 0, none⟩)] w fun e w' => e = .returned (.tuple #[]) ∧ holds w' (byB 274 rb 64 (By.splice row k ((s.drop i).take mm)) :: blk sb (.cells #[.string (bs s)] 9 (0, 0)) :: F) := by
  refine Ct.go (args := [.slice (some ⟨rb, k, none⟩) mm (64 - k), .int .i64 (i : Nat), .pointer (some ⟨sb, 0, none⟩)]) Tryz.func170 rfl rfl rfl hw ?_
  repeat' (first | (first | (apply GL.isAny; refine GL.run (by apply Runs.isSlice; exact Runs.strFrom (a := i) rfl rfl rfl (by omega)) rfl ?_) | (refine GL.copyBS (s := s.drop i) rfl rfl (by rw [List.length_drop]; omega) (by omega) rfl ?_)) | first | (apply GL.isAny; first | refine GL.runA rfl ?_ | (apply GL.isStore; first | refine GL.storeBlk rfl rfl rfl rfl rfl ?_ | refine GL.storeWhole rfl rfl rfl rfl rfl ?_ | refine GL.storeBlkA rfl rfl rfl rfl rfl ?_) | refine GL.guardY rfl rfl ?_ | refine GL.guardN rfl rfl rfl ?_ | refine GL.guardU rfl rfl rfl ?_ | (apply GL.isBox; first | refine GL.boxA rfl rfl (fun _ => ?_) | refine GL.box1 rfl rfl rfl (fun _ => ?_) | refine GL.box rfl rfl (fun _ => ?_)) | (apply GL.isBuildS; first | refine GL.buildSlice1A rfl rfl rfl rfl rfl (fun _ => ?_) | refine GL.buildSlice1 rfl rfl rfl rfl rfl (fun _ => ?_)) | (apply GL.isCall; refine GL.append1 _ rfl rfl rfl rfl (by rfl) (by omega) (by omega) rfl (fun _ => ?_)) | (apply GL.isAlloc; refine GL.alloc rfl (fun _ => ?_))) | apply GL.nil | first | apply G.seq | apply G.region | apply G.block | apply G.skip | apply G.exit | apply G.ret | (apply G.isCond; first | refine G.condT rfl ?_ | refine G.condF rfl ?_) | refine G.draw (by kernel_rfl) (by kernel_rfl) ?_ | (apply GE.isAny; first | apply GE.again | apply GE.thenG | apply GE.blockN | apply GE.blockE | apply GE.thenE | apply GE.thenR | apply GE.blockR | refine GE.blockO rfl ?_ | apply GE.only) | (apply GD.isAny; first | refine GD.runA rfl ?_ | refine GD.guardY rfl rfl ?_ | refine GD.guardN rfl rfl rfl ?_ | refine GD.guardU rfl rfl rfl ?_) | apply GD.nilE | apply GD.nilL | (apply GT.isAny; refine GT.runA rfl rfl ?_) | ((first | (apply GL.isAny; refine GL.guard rfl rfl (fun hc => ?_) (fun hc => ?_)) | (apply G.isCond; refine G.cond rfl (fun hc => ?_) (fun hc => ?_)) | (apply GD.isAny; refine GD.guard rfl rfl (fun hc => ?_) (fun hc => ?_))) <;> ((try simp only [decide_eq_true_eq, decide_eq_false_iff_not, Bool.not_true, Bool.not_false, ne_eq, Classical.not_not, Int.not_lt, Int.not_le] at hc); (try (exfalso; first | omega | exact hc trivial | exact hc rfl)))))
  (first | refine GE.res0 (.inl rfl) rfl (fun w h => ?_) | refine GE.res0 (.inr rfl) rfl (fun w h => ?_))
  exact ⟨rfl, h.sub⟩
end
end Go.Proofs.YtipkgamiejenaaaGreat

/- Package bytes: Store, Wipe, Load. -/
namespace Go.Proofs.YtipkgamiejenaaaGreat
open Go Go.RowKit Go.MapKept
set_option linter.unusedVariables false
set_option linter.unusedSimpArgs false
set_option maxRecDepth 100000
set_option maxHeartbeats 2000000
namespace By
theorem fill (cut : List UInt8) (n i q : Nat) (hc : cut.length = n) (h : i + q ≤ n) : splice (cut.take i ++ List.replicate (n - i) 0) i ((cut.drop i).take q) = cut.take (i + q) ++ List.replicate (n - (i + q)) 0 := by
  have l1 : (cut.take i).length = i := by rw [List.length_take]; omega
  have l2 : ((cut.drop i).take q).length = q := by rw [List.length_take, List.length_drop]; omega
  have l3 : (cut.take i ++ List.replicate (n - i) (0 : UInt8)).take i = cut.take i := by rw [List.take_append_of_le_length (by omega), List.take_of_length_le (by omega)]
  have l4 : (cut.take i ++ List.replicate (n - i) (0 : UInt8)).drop (i + q) = List.replicate (n - (i + q)) 0 := by
    rw [List.drop_append, l1, show (cut.take i).drop (i + q) = [] from List.drop_eq_nil_of_le (by omega), List.nil_append, List.drop_replicate]
    congr 1; omega
  unfold splice
  rw [l2, l3, l4, ← List.take_add]
theorem rowcut (tx : List UInt8) (k n a kk i q : Nat) (e : 64 * a + kk = k + i) (h1 : q ≤ 64 - kk) (h2 : q ≤ n - i) : ((row tx a).drop kk).take q = (((tx.drop k).take n).drop i).take q := by
  unfold row
  rw [List.drop_take, List.drop_drop, List.take_take, List.drop_take, List.drop_drop, List.take_take, e, Nat.min_eq_left h1, Nat.min_eq_left h2]
end By
def encB1 (c : UInt8) : List Value := [u8v c]
instance : Enc encB1 1 := ⟨fun _ => rfl, fun _ => by simp [encB1, u8v, Value.oneCell'], by omega⟩
theorem flat_bytes : ∀ l : List UInt8, l.flatMap encB1 = l.map u8v
  | [] => rfl
  | a :: l => by rw [List.flatMap_cons, flat_bytes l]; rfl
theorem byB.ofOwn {w : World} {T : TypeId} {g k : Nat} {l : List UInt8} {F : List HProp} (h : holds w (owns T encB1 1 (.slice (some ⟨g, 0, none⟩) k k) l :: F)) : holds w (byB T g k l :: F) := by
  obtain ⟨hl, ho⟩ := holds.open_own h
  rcases ho with ⟨h1, _⟩ | ⟨g', cap, cur, h1, h2, h3, h4, h5, h6⟩
  · cases h1
  · simp only [Value.slice.injEq, Option.some.injEq, Addr.mk.injEq] at h1
    obtain ⟨⟨rfl, -, -⟩, hk, rfl⟩ := h1
    refine byB.shut hk.symm ?_
    have e : cur = (l.map u8v).toArray := by
      apply Array.ext'
      rw [List.take_of_length_le (by simp at h4 ⊢; omega), flat_bytes] at h5
      exact h5
    rw [← e]; exact h6
abbrev fStore1 : FuncId := 170
abbrev fWipe1 : FuncId := 224
def nilP : HProp := fun _ => True
theorem holds.addNil {w : World} {F : List HProp} (h : holds w F) : holds w (nilP :: F) := by
  obtain ⟨f, hf, hs⟩ := h
  exact ⟨f, hf, ⟨f.os, f.tape, f.output, fun _ => none⟩, f, trivial, hs, ⟨rfl, rfl, rfl, rfl, rfl, rfl, fun _ => .inl ⟨rfl, rfl⟩⟩⟩
section
variable (b sz : Nat) (tx : List UInt8)
theorem bytes_Store (k : Int) (s : List UInt8) (hs : s.length ≤ 1099511627776) (w : World) (F : List HProp) (hw : holds w (bytesP b sz tx :: F)) :
    Ct Tryz.prog 106 #[.pointer (some ⟨b, 0, none⟩), .int .i64 k, .string (bs s)] w fun e w' => e = .returned (.int .i64 (if St.off tx k s.length then 15 else 0)) ∧ holds w' (bytesP b sz (if St.off tx k s.length then tx else By.splice tx k.toNat s) :: F) := by
  obtain ⟨m, am, ⟨e1, e2, e3, e4⟩, h1⟩ := bytesP.open hw
  have hck := fun w (F : List HProp) [SeesBlk F b #[.map (some m), .int .i64 (sz : Nat)]] h => bytes_check b sz e3.2 m k s.length w F h
  have eo : (k < 0 ∨ (s.length : Int) < 0 ∨ (sz : Int) < k + s.length) ↔ St.off tx k s.length := by unfold St.off; rw [e1]
  refine Ct.go (args := [.pointer (some ⟨b, 0, none⟩), .int .i64 k, .string (bs s)]) Tryz.func106 rfl rfl rfl h1 ?_
  by_cases ho : St.off tx k s.length
  · rw [if_pos ho, if_pos ho]
    rw [if_pos (eo.2 ho)] at hck
    repeat' (first | (first | (apply GL.isBox; refine GL.box1 rfl rfl rfl (fun sb => ?_)) | (apply GL.isAny; refine GL.run (Runs.strLen rfl) rfl ?_) | first | (apply GL.isCall; refine GL.call1 rfl rfl (fun w h => hck w _ h) ?_) | (apply GD.isAny; refine GD.call rfl rfl (fun w F' h => hck w _ h) ?_)) | first | (apply GL.isAny; first | refine GL.runA rfl ?_ | (apply GL.isStore; first | refine GL.storeBlk rfl rfl rfl rfl rfl ?_ | refine GL.storeWhole rfl rfl rfl rfl rfl ?_ | refine GL.storeBlkA rfl rfl rfl rfl rfl ?_) | refine GL.guardY rfl rfl ?_ | refine GL.guardN rfl rfl rfl ?_ | refine GL.guardU rfl rfl rfl ?_ | (apply GL.isBox; first | refine GL.boxA rfl rfl (fun _ => ?_) | refine GL.box1 rfl rfl rfl (fun _ => ?_) | refine GL.box rfl rfl (fun _ => ?_)) | (apply GL.isBuildS; first | refine GL.buildSlice1A rfl rfl rfl rfl rfl (fun _ => ?_) | refine GL.buildSlice1 rfl rfl rfl rfl rfl (fun _ => ?_)) | (apply GL.isCall; refine GL.append1 _ rfl rfl rfl rfl (by rfl) (by omega) (by omega) rfl (fun _ => ?_)) | (apply GL.isAlloc; refine GL.alloc rfl (fun _ => ?_))) | apply GL.nil | first | apply G.seq | apply G.region | apply G.block | apply G.skip | apply G.exit | apply G.ret | (apply G.isCond; first | refine G.condT rfl ?_ | refine G.condF rfl ?_) | refine G.draw (by kernel_rfl) (by kernel_rfl) ?_ | (apply GE.isAny; first | apply GE.again | apply GE.thenG | apply GE.blockN | apply GE.blockE | apply GE.thenE | apply GE.thenR | apply GE.blockR | refine GE.blockO rfl ?_ | apply GE.only) | (apply GD.isAny; first | refine GD.runA rfl ?_ | refine GD.guardY rfl rfl ?_ | refine GD.guardN rfl rfl rfl ?_ | refine GD.guardU rfl rfl rfl ?_) | apply GD.nilE | apply GD.nilL | (apply GT.isAny; refine GT.runA rfl rfl ?_) | ((first | (apply GL.isAny; refine GL.guard rfl rfl (fun hc => ?_) (fun hc => ?_)) | (apply G.isCond; refine G.cond rfl (fun hc => ?_) (fun hc => ?_)) | (apply GD.isAny; refine GD.guard rfl rfl (fun hc => ?_) (fun hc => ?_))) <;> ((try simp only [decide_eq_true_eq, decide_eq_false_iff_not, Bool.not_true, Bool.not_false, ne_eq, Classical.not_not, Int.not_lt, Int.not_le] at hc); (try (exfalso; first | omega | exact hc trivial | exact hc rfl)))))
    all_goals (first | (exfalso; simp at hc; done) | (refine GE.resOne rfl (by (repeat (first | apply Res.nil | (apply Res.tmp; rfl) | (refine Res.cellA rfl rfl rfl ?_) | (refine Res.cell1 rfl rfl ?_)))) (fun w h => ?_); exact ⟨rfl, bytesP.shut (m := m) ⟨e1, e2, e3, e4⟩ h.sub⟩))
  · rw [if_neg ho, if_neg ho]
    rw [if_neg (fun h => ho (eo.1 h))] at hck
    unfold St.off at ho
    obtain ⟨k0, rfl⟩ : ∃ k0 : Nat, k = k0 := ⟨k.toNat, by omega⟩
    rw [Int.toNat_natCast]
    have hput := fun (sb : Nat) w (F : List HProp) h => bytes_put b sz tx fStore1 [] [.pointer (some ⟨sb, 0, none⟩)] (blk sb (.cells #[.string (bs s)] 9 (0, 0))) k0 s.length s rfl (by omega) (fun rb k mm i row w F q1 q2 q3 h => bytes_Store1 rb sb k mm i row s q1 q3 w F h) w F h
    repeat' (first | (first | (apply GL.isBox; refine GL.box1 rfl rfl rfl (fun sb => ?_)) | (apply GL.isAny; refine GL.run (Runs.strLen rfl) rfl ?_) | first | (apply GL.isCall; refine GL.call1 rfl rfl (fun w h => hck w _ h) ?_) | (apply GD.isAny; refine GD.call rfl rfl (fun w F' h => hck w _ h) ?_) | (apply GL.isCall; refine GL.call1 (vs := [.pointer (some ⟨b, 0, none⟩), .int .i64 (k0 : Nat), .int .i64 (s.length : Nat), .func (.func fStore1) #[] #[.pointer (some ⟨sb, 0, none⟩)]]) rfl rfl (fun w h => hput sb w F (bytesP.shut (m := m) (am := am) ⟨e1, e2, e3, e4⟩ (holds.sub (H := blk b (.cells #[.map (some m), .int .i64 (sz : Nat)] 219 (0, 0)) :: imap encRow m am :: blk sb (.cells #[.string (bs s)] 9 (0, 0)) :: F) h))) ?_)) | first | (apply GL.isAny; first | refine GL.runA rfl ?_ | (apply GL.isStore; first | refine GL.storeBlk rfl rfl rfl rfl rfl ?_ | refine GL.storeWhole rfl rfl rfl rfl rfl ?_ | refine GL.storeBlkA rfl rfl rfl rfl rfl ?_) | refine GL.guardY rfl rfl ?_ | refine GL.guardN rfl rfl rfl ?_ | refine GL.guardU rfl rfl rfl ?_ | (apply GL.isBox; first | refine GL.boxA rfl rfl (fun _ => ?_) | refine GL.box1 rfl rfl rfl (fun _ => ?_) | refine GL.box rfl rfl (fun _ => ?_)) | (apply GL.isBuildS; first | refine GL.buildSlice1A rfl rfl rfl rfl rfl (fun _ => ?_) | refine GL.buildSlice1 rfl rfl rfl rfl rfl (fun _ => ?_)) | (apply GL.isCall; refine GL.append1 _ rfl rfl rfl rfl (by rfl) (by omega) (by omega) rfl (fun _ => ?_)) | (apply GL.isAlloc; refine GL.alloc rfl (fun _ => ?_))) | apply GL.nil | first | apply G.seq | apply G.region | apply G.block | apply G.skip | apply G.exit | apply G.ret | (apply G.isCond; first | refine G.condT rfl ?_ | refine G.condF rfl ?_) | refine G.draw (by kernel_rfl) (by kernel_rfl) ?_ | (apply GE.isAny; first | apply GE.again | apply GE.thenG | apply GE.blockN | apply GE.blockE | apply GE.thenE | apply GE.thenR | apply GE.blockR | refine GE.blockO rfl ?_ | apply GE.only) | (apply GD.isAny; first | refine GD.runA rfl ?_ | refine GD.guardY rfl rfl ?_ | refine GD.guardN rfl rfl rfl ?_ | refine GD.guardU rfl rfl rfl ?_) | apply GD.nilE | apply GD.nilL | (apply GT.isAny; refine GT.runA rfl rfl ?_) | ((first | (apply GL.isAny; refine GL.guard rfl rfl (fun hc => ?_) (fun hc => ?_)) | (apply G.isCond; refine G.cond rfl (fun hc => ?_) (fun hc => ?_)) | (apply GD.isAny; refine GD.guard rfl rfl (fun hc => ?_) (fun hc => ?_))) <;> ((try simp only [decide_eq_true_eq, decide_eq_false_iff_not, Bool.not_true, Bool.not_false, ne_eq, Classical.not_not, Int.not_lt, Int.not_le] at hc); (try (exfalso; first | omega | exact hc trivial | exact hc rfl)))))
    all_goals (first | (exfalso; simp at hc; done) | (refine GE.resOne rfl (by (repeat (first | apply Res.nil | (apply Res.tmp; rfl) | (refine Res.cellA rfl rfl rfl ?_) | (refine Res.cell1 rfl rfl ?_)))) (fun w h => ?_); exact ⟨rfl, h.sub⟩))
theorem bytes_Load (k n : Int) (w : World) (F : List HProp) (hw : holds w (bytesP b sz tx :: F)) :
    Ct Tryz.prog 144 #[.pointer (some ⟨b, 0, none⟩), .int .i64 k, .int .i64 n] w fun e w' => e = .returned (.tuple #[.string (bs (if St.off tx k n then [] else (tx.drop k.toNat).take n.toNat)), .int .i64 (if St.off tx k n then 15 else 0)]) ∧ holds w' (bytesP b sz tx :: F) := by
  obtain ⟨m, am, ⟨e1, e2, e3, e4⟩, h1⟩ := bytesP.open hw
  have hck := fun w (F : List HProp) [SeesBlk F b #[.map (some m), .int .i64 (sz : Nat)]] h => bytes_check b sz e3.2 m k n w F h
  have eo : (k < 0 ∨ n < 0 ∨ (sz : Int) < k + n) ↔ St.off tx k n := by unfold St.off; rw [e1]
  refine Ct.go (args := [.pointer (some ⟨b, 0, none⟩), .int .i64 k, .int .i64 n]) Tryz.func144 rfl rfl rfl h1 ?_
  by_cases ho : St.off tx k n
  · rw [if_pos ho, if_pos ho]
    rw [if_pos (eo.2 ho)] at hck
    repeat' (first | (first | (apply GL.isCall; refine GL.call1 rfl rfl (fun w h => hck w _ h) ?_) | (apply GD.isAny; refine GD.call rfl rfl (fun w F' h => hck w _ h) ?_)) | first | (apply GL.isAny; first | refine GL.runA rfl ?_ | (apply GL.isStore; first | refine GL.storeBlk rfl rfl rfl rfl rfl ?_ | refine GL.storeWhole rfl rfl rfl rfl rfl ?_ | refine GL.storeBlkA rfl rfl rfl rfl rfl ?_) | refine GL.guardY rfl rfl ?_ | refine GL.guardN rfl rfl rfl ?_ | refine GL.guardU rfl rfl rfl ?_ | (apply GL.isBox; first | refine GL.boxA rfl rfl (fun _ => ?_) | refine GL.box1 rfl rfl rfl (fun _ => ?_) | refine GL.box rfl rfl (fun _ => ?_)) | (apply GL.isBuildS; first | refine GL.buildSlice1A rfl rfl rfl rfl rfl (fun _ => ?_) | refine GL.buildSlice1 rfl rfl rfl rfl rfl (fun _ => ?_)) | (apply GL.isCall; refine GL.append1 _ rfl rfl rfl rfl (by rfl) (by omega) (by omega) rfl (fun _ => ?_)) | (apply GL.isAlloc; refine GL.alloc rfl (fun _ => ?_))) | apply GL.nil | first | apply G.seq | apply G.region | apply G.block | apply G.skip | apply G.exit | apply G.ret | (apply G.isCond; first | refine G.condT rfl ?_ | refine G.condF rfl ?_) | refine G.draw (by kernel_rfl) (by kernel_rfl) ?_ | (apply GE.isAny; first | apply GE.again | apply GE.thenG | apply GE.blockN | apply GE.blockE | apply GE.thenE | apply GE.thenR | apply GE.blockR | refine GE.blockO rfl ?_ | apply GE.only) | (apply GD.isAny; first | refine GD.runA rfl ?_ | refine GD.guardY rfl rfl ?_ | refine GD.guardN rfl rfl rfl ?_ | refine GD.guardU rfl rfl rfl ?_) | apply GD.nilE | apply GD.nilL | (apply GT.isAny; refine GT.runA rfl rfl ?_) | ((first | (apply GL.isAny; refine GL.guard rfl rfl (fun hc => ?_) (fun hc => ?_)) | (apply G.isCond; refine G.cond rfl (fun hc => ?_) (fun hc => ?_)) | (apply GD.isAny; refine GD.guard rfl rfl (fun hc => ?_) (fun hc => ?_))) <;> ((try simp only [decide_eq_true_eq, decide_eq_false_iff_not, Bool.not_true, Bool.not_false, ne_eq, Classical.not_not, Int.not_lt, Int.not_le] at hc); (try (exfalso; first | omega | exact hc trivial | exact hc rfl)))))
    all_goals (first | (exfalso; simp at hc; done) | (refine GE.resMany rfl (by (repeat (first | apply Res.nil | (apply Res.tmp; rfl) | (refine Res.cellA rfl rfl rfl ?_) | (refine Res.cell1 rfl rfl ?_)))) (fun w h => ?_); exact ⟨rfl, bytesP.shut (m := m) ⟨e1, e2, e3, e4⟩ h.sub⟩))
  · rw [if_neg ho, if_neg ho]
    rw [if_neg (fun h => ho (eo.1 h))] at hck
    unfold St.off at ho
    obtain ⟨k0, rfl⟩ : ∃ k0 : Nat, k = k0 := ⟨k.toNat, by omega⟩
    obtain ⟨n0, rfl⟩ : ∃ n0 : Nat, n = n0 := ⟨n.toNat, by omega⟩
    rw [Int.toNat_natCast, Int.toNat_natCast]
    obtain ⟨cut, hcut⟩ : ∃ cut, cut = (tx.drop k0).take n0 := ⟨_, rfl⟩
    have hcl : cut.length = n0 := by rw [hcut, List.length_take, List.length_drop]; omega
    rw [← hcut]
    repeat' (first | (first | first | (apply GL.isCall; refine GL.call1 rfl rfl (fun w h => hck w _ h) ?_) | (apply GD.isAny; refine GD.call rfl rfl (fun w F' h => hck w _ h) ?_) | (apply GL.isAny; refine GL.makeSl encB1 0 n0 n0 rfl rfl rfl rfl rfl (Nat.le_refl _) (by omega) (by unfold maxLen; omega) rfl (fun g => ?_))) | first | (apply GL.isAny; first | refine GL.runA rfl ?_ | (apply GL.isStore; first | refine GL.storeBlk rfl rfl rfl rfl rfl ?_ | refine GL.storeWhole rfl rfl rfl rfl rfl ?_ | refine GL.storeBlkA rfl rfl rfl rfl rfl ?_) | refine GL.guardY rfl rfl ?_ | refine GL.guardN rfl rfl rfl ?_ | refine GL.guardU rfl rfl rfl ?_ | (apply GL.isBox; first | refine GL.boxA rfl rfl (fun _ => ?_) | refine GL.box1 rfl rfl rfl (fun _ => ?_) | refine GL.box rfl rfl (fun _ => ?_)) | (apply GL.isBuildS; first | refine GL.buildSlice1A rfl rfl rfl rfl rfl (fun _ => ?_) | refine GL.buildSlice1 rfl rfl rfl rfl rfl (fun _ => ?_)) | (apply GL.isCall; refine GL.append1 _ rfl rfl rfl rfl (by rfl) (by omega) (by omega) rfl (fun _ => ?_)) | (apply GL.isAlloc; refine GL.alloc rfl (fun _ => ?_))) | apply GL.nil | first | apply G.seq | apply G.region | apply G.block | apply G.skip | apply G.exit | apply G.ret | (apply G.isCond; first | refine G.condT rfl ?_ | refine G.condF rfl ?_) | refine G.draw (by kernel_rfl) (by kernel_rfl) ?_ | (apply GE.isAny; first | apply GE.again | apply GE.thenG | apply GE.blockN | apply GE.blockE | apply GE.thenE | apply GE.thenR | apply GE.blockR | refine GE.blockO rfl ?_ | apply GE.only) | (apply GD.isAny; first | refine GD.runA rfl ?_ | refine GD.guardY rfl rfl ?_ | refine GD.guardN rfl rfl rfl ?_ | refine GD.guardU rfl rfl rfl ?_) | apply GD.nilE | apply GD.nilL | (apply GT.isAny; refine GT.runA rfl rfl ?_) | ((first | (apply GL.isAny; refine GL.guard rfl rfl (fun hc => ?_) (fun hc => ?_)) | (apply G.isCond; refine G.cond rfl (fun hc => ?_) (fun hc => ?_)) | (apply GD.isAny; refine GD.guard rfl rfl (fun hc => ?_) (fun hc => ?_))) <;> ((try simp only [decide_eq_true_eq, decide_eq_false_iff_not, Bool.not_true, Bool.not_false, ne_eq, Classical.not_not, Int.not_lt, Int.not_le] at hc); (try (exfalso; first | omega | exact hc trivial | exact hc rfl)))))
    all_goals (first | (exfalso; simp at hc; done) | skip)
    refine G.imp (F' := blk b (.cells #[.map (some m), .int .i64 (sz : Nat)] 219 (0, 0)) :: imap encRow m am :: byB 5 g n0 (List.replicate n0 0) :: F) ?_ (fun w h => (byB.ofOwn h).order [1, 2, 0])
    refine G.loopK [0, 1, 2, 9] (Nat) (fun i => [(10, .int .i64 i)]) (fun i => blk b (.cells #[.map (some m), .int .i64 (sz : Nat)] 219 (0, 0)) :: imap encRow m am :: byB 5 g n0 (cut.take i ++ List.replicate (n0 - i) 0) :: F) (fun i => i ≤ n0) (fun i => n0 - i) (0) (Nat.zero_le _) (by repeat (first | exact trivial | refine And.intro rfl ?_)) (fun w h => by (try dsimp only); first | exact h | exact h.sub | ((try simp only [List.take_zero, List.drop_zero, List.map_nil, List.nil_append, List.zipIdx_nil, List.filter_nil]); exact h.sub)) ?_
    intro i hi
    have hol : (cut.take i ++ List.replicate (n0 - i) (0 : UInt8)).length = n0 := by simp; omega
    by_cases hlt : i < n0
    · obtain ⟨a, ha⟩ : ∃ a, a = (k0 + i) / 64 := ⟨_, rfl⟩
      obtain ⟨kk, hk⟩ : ∃ kk, kk = (k0 + i) % 64 := ⟨_, rfl⟩
      obtain ⟨q, hq⟩ : ∃ q, q = min (64 - kk) (n0 - i) := ⟨_, rfl⟩
      have hda : ((k0 : Int) + i) / 64 = (a : Nat) := by omega
      have hdk : ((k0 : Int) + i) % 64 = (kk : Nat) := by omega
      have ha64 : 64 * a < tx.length := by omega
      have hrow := e4.get a ha64
      have hrl := By.row_len tx a (by omega)
      have hrc := By.rowcut tx k0 n0 a kk i q (by omega) (by omega) (by omega)
      rw [← hcut] at hrc
      have hfl := By.fill cut n0 i q hcl (by omega)
      have hn : (i : Int) + q = ((i + q : Nat) : Int) := by omega
      repeat' (first | (first | (rw [hda]) | (rw [hdk]) | (rw [hn]) | (apply GL.isAny; refine GL.run (v := encRow (By.row tx a)) (by apply Runs.isLookup; rw [← hrow]; exact Runs.lookRow rfl rfl) rfl ?_) | (apply GL.isAlloc; refine GL.alloc rfl (fun rb => ?_)) | (apply GL.isStore; refine GL.storeBy (l := By.row tx a) rfl rfl hrl rfl ?_) | refine G.drawTailX 6 [(6, 0)] (by kernel_rfl) (by simp only [List.take_succ_cons, List.take_zero]; rfl) (by simp only [List.drop_succ_cons, List.drop_zero]; rfl) (by kernel_rfl) ?_ | (apply GD.isAny; refine GD.run (by apply Runs.isSlice; first | exact Runs.cutFrom (k := i) rfl rfl rfl hlt | exact Runs.sliceArr kk 64 rfl rfl rfl rfl rfl (by omega) (by omega) (by omega)) rfl ?_) | (refine GL.copyBB rfl rfl hq (by omega) (by omega) rfl ?_; rw [hrc, hfl])) | first | (apply GL.isAny; first | refine GL.runA rfl ?_ | (apply GL.isStore; first | refine GL.storeBlk rfl rfl rfl rfl rfl ?_ | refine GL.storeWhole rfl rfl rfl rfl rfl ?_ | refine GL.storeBlkA rfl rfl rfl rfl rfl ?_) | refine GL.guardY rfl rfl ?_ | refine GL.guardN rfl rfl rfl ?_ | refine GL.guardU rfl rfl rfl ?_ | (apply GL.isBox; first | refine GL.boxA rfl rfl (fun _ => ?_) | refine GL.box1 rfl rfl rfl (fun _ => ?_) | refine GL.box rfl rfl (fun _ => ?_)) | (apply GL.isBuildS; first | refine GL.buildSlice1A rfl rfl rfl rfl rfl (fun _ => ?_) | refine GL.buildSlice1 rfl rfl rfl rfl rfl (fun _ => ?_)) | (apply GL.isCall; refine GL.append1 _ rfl rfl rfl rfl (by rfl) (by omega) (by omega) rfl (fun _ => ?_)) | (apply GL.isAlloc; refine GL.alloc rfl (fun _ => ?_))) | apply GL.nil | first | apply G.seq | apply G.region | apply G.block | apply G.skip | apply G.exit | apply G.ret | (apply G.isCond; first | refine G.condT rfl ?_ | refine G.condF rfl ?_) | refine G.draw (by kernel_rfl) (by kernel_rfl) ?_ | (apply GE.isAny; first | apply GE.again | apply GE.thenG | apply GE.blockN | apply GE.blockE | apply GE.thenE | apply GE.thenR | apply GE.blockR | refine GE.blockO rfl ?_ | apply GE.only) | (apply GD.isAny; first | refine GD.runA rfl ?_ | refine GD.guardY rfl rfl ?_ | refine GD.guardN rfl rfl rfl ?_ | refine GD.guardU rfl rfl rfl ?_) | apply GD.nilE | apply GD.nilL | (apply GT.isAny; refine GT.runA rfl rfl ?_) | ((first | (apply GL.isAny; refine GL.guard rfl rfl (fun hc => ?_) (fun hc => ?_)) | (apply G.isCond; refine G.cond rfl (fun hc => ?_) (fun hc => ?_)) | (apply GD.isAny; refine GD.guard rfl rfl (fun hc => ?_) (fun hc => ?_))) <;> ((try simp only [decide_eq_true_eq, decide_eq_false_iff_not, Bool.not_true, Bool.not_false, ne_eq, Classical.not_not, Int.not_lt, Int.not_le] at hc); (try (exfalso; first | omega | exact hc trivial | exact hc rfl)))))
      all_goals (first | (exfalso; omega) | skip)
      refine GE.round (i + q) (by omega) (by repeat (first | exact trivial | refine And.intro rfl ?_)) (fun w h => by (try dsimp only); exact h.sub) (by (try dsimp only); omega)
    · obtain rfl : i = n0 := by omega
      rw [Nat.sub_self, List.replicate_zero, List.append_nil, List.take_of_length_le (by omega)]
      repeat' (first | ((apply GL.isAny; refine GL.run (by apply Runs.isConvert; exact Runs.textBy rfl) rfl ?_)) | first | (apply GL.isAny; first | refine GL.runA rfl ?_ | (apply GL.isStore; first | refine GL.storeBlk rfl rfl rfl rfl rfl ?_ | refine GL.storeWhole rfl rfl rfl rfl rfl ?_ | refine GL.storeBlkA rfl rfl rfl rfl rfl ?_) | refine GL.guardY rfl rfl ?_ | refine GL.guardN rfl rfl rfl ?_ | refine GL.guardU rfl rfl rfl ?_ | (apply GL.isBox; first | refine GL.boxA rfl rfl (fun _ => ?_) | refine GL.box1 rfl rfl rfl (fun _ => ?_) | refine GL.box rfl rfl (fun _ => ?_)) | (apply GL.isBuildS; first | refine GL.buildSlice1A rfl rfl rfl rfl rfl (fun _ => ?_) | refine GL.buildSlice1 rfl rfl rfl rfl rfl (fun _ => ?_)) | (apply GL.isCall; refine GL.append1 _ rfl rfl rfl rfl (by rfl) (by omega) (by omega) rfl (fun _ => ?_)) | (apply GL.isAlloc; refine GL.alloc rfl (fun _ => ?_))) | apply GL.nil | first | apply G.seq | apply G.region | apply G.block | apply G.skip | apply G.exit | apply G.ret | (apply G.isCond; first | refine G.condT rfl ?_ | refine G.condF rfl ?_) | refine G.draw (by kernel_rfl) (by kernel_rfl) ?_ | (apply GE.isAny; first | apply GE.again | apply GE.thenG | apply GE.blockN | apply GE.blockE | apply GE.thenE | apply GE.thenR | apply GE.blockR | refine GE.blockO rfl ?_ | apply GE.only) | (apply GD.isAny; first | refine GD.runA rfl ?_ | refine GD.guardY rfl rfl ?_ | refine GD.guardN rfl rfl rfl ?_ | refine GD.guardU rfl rfl rfl ?_) | apply GD.nilE | apply GD.nilL | (apply GT.isAny; refine GT.runA rfl rfl ?_) | ((first | (apply GL.isAny; refine GL.guard rfl rfl (fun hc => ?_) (fun hc => ?_)) | (apply G.isCond; refine G.cond rfl (fun hc => ?_) (fun hc => ?_)) | (apply GD.isAny; refine GD.guard rfl rfl (fun hc => ?_) (fun hc => ?_))) <;> ((try simp only [decide_eq_true_eq, decide_eq_false_iff_not, Bool.not_true, Bool.not_false, ne_eq, Classical.not_not, Int.not_lt, Int.not_le] at hc); (try (exfalso; first | omega | exact hc trivial | exact hc rfl)))))
      all_goals (first | (exfalso; omega) | skip)
      refine GE.resMany rfl (by (repeat (first | apply Res.nil | (apply Res.tmp; rfl) | (refine Res.cellA rfl rfl rfl ?_) | (refine Res.cell1 rfl rfl ?_)))) (fun w h => ?_)
      exact ⟨rfl, bytesP.shut (m := m) ⟨e1, e2, e3, e4⟩ h.sub⟩
end
end Go.Proofs.YtipkgamiejenaaaGreat
