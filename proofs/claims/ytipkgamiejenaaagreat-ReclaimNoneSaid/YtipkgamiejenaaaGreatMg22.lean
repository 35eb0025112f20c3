import Derived.Test.YtipkgamiejenaaaGreatMg21
import Derived.Test.YtipkgamiejenaaaGreatMg7
import Derived.OrdersIn
/- Package reclaim: the chunks that a tick makes free, one by one. -/
namespace Go.Proofs.YtipkgamiejenaaaGreat
open Go Go.RowKit Go.MapKept
set_option linter.unusedVariables false
set_option linter.unusedSectionVars false
set_option linter.unusedSimpArgs false
set_option maxRecDepth 100000
set_option maxHeartbeats 2000000
namespace Rc
theorem drain_succ : ∀ (k : Nat) (t : St.S) (l : List Int) (h : k < l.length), (drain (k + 1) t l).1 = wipe (drain k t l).1 l[k]
  | 0, t, i :: l, h => rfl
  | k + 1, t, i :: l, h => by
    show (drain (k + 1) (wipe t i) l).1 = _
    rw [drain_succ k (wipe t i) l (by simpa using h)]
    rfl
end Rc
theorem waits_TakeR (v : Value) (n : Nat) (i : Int) (l : List Int) (c : Int) (hc : c ≤ 1000000) (w : World) (F : List HProp) (hw : holds w (waitsAt v n (i :: l) c :: F)) :
    Ct Tryz.prog 174 #[v] w fun e w' => e = .returned (.tuple #[.int .i64 i, .int .i64 0]) ∧ holds w' (waitsAt v n l c :: F) := by
  have h := waits_Take w v n (i :: l) c F (by omega) hw
  simpa [ringGet] using (⟨h⟩ : Ct _ _ _ _ _)
theorem waits_TakeN (v : Value) (n : Nat) (c : Int) (hc : c ≤ 1000000) (w : World) (F : List HProp) (hw : holds w (waitsAt v n [] c :: F)) :
    Ct Tryz.prog 174 #[v] w fun e w' => e = .returned (.tuple #[.int .i64 0, .int .i64 20]) ∧ holds w' (waitsAt v n [] c :: F) := by
  have h := waits_Take w v n [] c F (by omega) hw
  simpa [ringGet] using (⟨h⟩ : Ct _ _ _ _ _)
theorem rec_drained1 (br rb sb : Nat) (t : St.S) (line : List Int) (K n : Nat) (cc : Int) (hcc : cc ≤ 1000000) (hI : St.Inv t K) (hW : Rc.Wt t line) (a b c d : Nat) (q : Int) (hq : 1 ≤ q ∧ q ≤ 1048576) (hK : K + 2 * line.length ≤ 900000) (F : List HProp) [SeesBlk F br #[.pointer (some ⟨rb, 0, none⟩)]] [SeesBlk F rb #[.pointer (some ⟨a, 0, none⟩), .pointer (some ⟨sb, 0, none⟩), .pointer (some ⟨b, 0, none⟩), .pointer (some ⟨c, 0, none⟩), .pointer (some ⟨d, 0, none⟩), .int .i64 q]] :
    Seq Tryz.prog 173 #[.pointer (some ⟨br, 0, none⟩)] (fun i : Int => [.int .i64 i, .int .i64 0]) (line.take q.toNat) (fun (y : Bool) (k : Nat) => match y with | true => [storeP sb (Rc.drain k t line).1, waitsAt (.pointer (some ⟨b, 0, none⟩)) n (line.drop k) cc] | false => []) F F := by
  refine ⟨fun l J w hY hw => ?_⟩
  have hw : holds w (J true 0 :: storeP sb t :: waitsAt (.pointer (some ⟨b, 0, none⟩)) n line cc :: F) := hw
  have hgo : Ct Tryz.prog 173 [.func (.yield l) #[] #[], .pointer (some ⟨br, 0, none⟩)].toArray w fun e w' => ∃ v, e = .returned v ∧ ∃ (y : Bool) (k : Nat), (y = true → k = (line.take q.toNat).length) ∧ (y = false → 0 < k ∧ k ≤ (line.take q.toNat).length) ∧ holds w' (J y k :: ((fun (y : Bool) (k : Nat) => match y with | true => [storeP sb (Rc.drain k t line).1, waitsAt (.pointer (some ⟨b, 0, none⟩)) n (line.drop k) cc] | false => []) y k ++ F)) := by
    refine Ct.go (args := [.func (.yield l) #[] #[], .pointer (some ⟨br, 0, none⟩)]) (F := J true 0 :: storeP sb t :: waitsAt (.pointer (some ⟨b, 0, none⟩)) n line cc :: F) Tryz.func173 rfl rfl rfl hw ?_
    repeat' (first | (apply GL.isAny; first | refine GL.runA rfl ?_ | (apply GL.isStore; first | refine GL.storeBlk rfl rfl rfl rfl rfl ?_ | refine GL.storeWhole rfl rfl rfl rfl rfl ?_ | refine GL.storeBlkA rfl rfl rfl rfl rfl ?_) | refine GL.guardY rfl rfl ?_ | refine GL.guardN rfl rfl rfl ?_ | refine GL.guardU rfl rfl rfl ?_ | (apply GL.isBox; first | refine GL.boxA rfl rfl (fun _ => ?_) | refine GL.box1 rfl rfl rfl (fun _ => ?_) | refine GL.box rfl rfl (fun _ => ?_)) | (apply GL.isBuildS; first | refine GL.buildSlice1A rfl rfl rfl rfl rfl (fun _ => ?_) | refine GL.buildSlice1 rfl rfl rfl rfl rfl (fun _ => ?_)) | (apply GL.isCall; refine GL.append1 _ rfl rfl rfl rfl (by rfl) (by omega) (by omega) rfl (fun _ => ?_)) | (apply GL.isAlloc; refine GL.alloc rfl (fun _ => ?_))) | apply GL.nil | first | apply G.seq | apply G.region | apply G.block | apply G.skip | apply G.exit | apply G.ret | (apply G.isCond; first | refine G.condT rfl ?_ | refine G.condF rfl ?_) | refine G.draw (by kernel_rfl) (by kernel_rfl) ?_ | (apply GE.isAny; first | apply GE.again | apply GE.thenG | apply GE.blockN | apply GE.blockE | apply GE.thenE | apply GE.thenR | apply GE.blockR | refine GE.blockO rfl ?_ | apply GE.only) | (apply GD.isAny; first | refine GD.runA rfl ?_ | refine GD.guardY rfl rfl ?_ | refine GD.guardN rfl rfl rfl ?_ | refine GD.guardU rfl rfl rfl ?_) | apply GD.nilE | apply GD.nilL | (apply GT.isAny; refine GT.runA rfl rfl ?_) | ((first | (apply GL.isAny; refine GL.guard rfl rfl (fun hc => ?_) (fun hc => ?_)) | (apply G.isCond; refine G.cond rfl (fun hc => ?_) (fun hc => ?_)) | (apply GD.isAny; refine GD.guard rfl rfl (fun hc => ?_) (fun hc => ?_))) <;> ((try simp only [decide_eq_true_eq, decide_eq_false_iff_not, Bool.not_true, Bool.not_false, ne_eq, Classical.not_not, Int.not_lt, Int.not_le] at hc); (try (exfalso; first | omega | exact hc trivial | exact hc rfl)))))
    refine G.loopK [0, 1, 8] (Nat) (fun k => [(9, .int .i64 (k : Nat))]) (fun k => J true k :: storeP sb (Rc.drain k t line).1 :: waitsAt (.pointer (some ⟨b, 0, none⟩)) n (line.drop k) cc :: F) (fun k => k ≤ line.length ∧ (k : Int) ≤ q) (fun k => q.toNat - k) (0) (⟨Nat.zero_le _, by omega⟩) (by repeat (first | exact trivial | refine And.intro rfl ?_)) (fun w h => by (try dsimp only); first | exact h | exact h.sub | ((try simp only [List.take_zero, List.drop_zero, List.map_nil, List.nil_append, List.zipIdx_nil, List.filter_nil]); exact h.sub)) ?_
    rintro k ⟨hk, hkq⟩
    have hLl : (line.take q.toNat).length = min q.toNat line.length := List.length_take
    by_cases hkq2 : (k : Int) < q
    · by_cases hkl : k < line.length
      · obtain ⟨hTI, hTW, _, hTl⟩ := Rc.drain_inv k t line K hI hW
        have hlt : (line.take k).length = k := by rw [List.length_take]; omega
        rw [hlt] at hTI
        have hLk : (line.take q.toNat)[k]? = some line[k] := by rw [List.getElem?_take_of_lt (by omega), List.getElem?_eq_getElem hkl]
        have hd := List.drop_eq_getElem_cons hkl
        obtain ⟨j, hj, hj1, hj2⟩ := hTW.ph line[k] (by rw [hd]; exact List.mem_cons_self)
        have hsu := Rc.drain_succ k t line hkl
        have hY' := fun (A : List HProp) (w1 : World) => hY k line[k] A w1 hLk
        rw [hj] at hsu hd hY'
        rw [hd]
        obtain ⟨T, hT⟩ : ∃ T, T = (Rc.drain k t line).1 := ⟨_, rfl⟩
        rw [← hT] at hTI hj1 hj2 hsu ⊢
        have hY'' : ∀ (w1 : World), holds w1 (J true k :: storeP sb (Rc.wipe T j) :: waitsAt (.pointer (some ⟨b, 0, none⟩)) n (line.drop (k + 1)) cc :: F) → Yt Tryz.prog l #[.int .i64 (j : Nat), .int .i64 0] w1 fun e w' => ∃ y : Bool, e = .returned (.bool y) ∧ holds w' (J y (k + 1) :: ((match y with | true => [storeP sb (Rc.wipe T j), waitsAt (.pointer (some ⟨b, 0, none⟩)) n (line.drop (k + 1)) cc] | false => []) ++ F)) := fun w1 h1 => by
          have h2 := hY' F w1 (by show holds w1 (J true k :: storeP sb (Rc.drain (k + 1) t line).1 :: waitsAt (.pointer (some ⟨b, 0, none⟩)) n (line.drop (k + 1)) cc :: F); rw [hsu]; exact h1)
          rw [hsu] at h2
          exact h2
        clear hY hY'
        have dz : decide ((0 : Int) ≠ 0) = false := rfl
        repeat' (first | (first | (apply GL.isCall; refine GL.callH1 (waitsAt (.pointer (some ⟨b, 0, none⟩)) n ((j : Int) :: line.drop (k + 1)) cc) rfl rfl (fun w h => waits_TakeR (.pointer (some ⟨b, 0, none⟩)) n j (line.drop (k + 1)) cc hcc w _ h) ?_) | (refine G.isRegion 3 ?_; apply G.regionI)) | first | (apply GL.isAny; first | refine GL.runA rfl ?_ | (apply GL.isStore; first | refine GL.storeBlk rfl rfl rfl rfl rfl ?_ | refine GL.storeWhole rfl rfl rfl rfl rfl ?_ | refine GL.storeBlkA rfl rfl rfl rfl rfl ?_) | refine GL.guardY rfl rfl ?_ | refine GL.guardN rfl rfl rfl ?_ | refine GL.guardU rfl rfl rfl ?_ | (apply GL.isBox; first | refine GL.boxA rfl rfl (fun _ => ?_) | refine GL.box1 rfl rfl rfl (fun _ => ?_) | refine GL.box rfl rfl (fun _ => ?_)) | (apply GL.isBuildS; first | refine GL.buildSlice1A rfl rfl rfl rfl rfl (fun _ => ?_) | refine GL.buildSlice1 rfl rfl rfl rfl rfl (fun _ => ?_)) | (apply GL.isCall; refine GL.append1 _ rfl rfl rfl rfl (by rfl) (by omega) (by omega) rfl (fun _ => ?_)) | (apply GL.isAlloc; refine GL.alloc rfl (fun _ => ?_))) | apply GL.nil | first | apply G.seq | apply G.region | apply G.block | apply G.skip | apply G.exit | apply G.ret | (apply G.isCond; first | refine G.condT rfl ?_ | refine G.condF rfl ?_) | refine G.draw (by kernel_rfl) (by kernel_rfl) ?_ | (apply GE.isAny; first | apply GE.again | apply GE.thenG | apply GE.blockN | apply GE.blockE | apply GE.thenE | apply GE.thenR | apply GE.blockR | refine GE.blockO rfl ?_ | apply GE.only) | (apply GD.isAny; first | refine GD.runA rfl ?_ | refine GD.guardY rfl rfl ?_ | refine GD.guardN rfl rfl rfl ?_ | refine GD.guardU rfl rfl rfl ?_) | apply GD.nilE | apply GD.nilL | (apply GT.isAny; refine GT.runA rfl rfl ?_) | ((first | (apply GL.isAny; refine GL.guard rfl rfl (fun hc => ?_) (fun hc => ?_)) | (apply G.isCond; refine G.cond rfl (fun hc => ?_) (fun hc => ?_)) | (apply GD.isAny; refine GD.guard rfl rfl (fun hc => ?_) (fun hc => ?_))) <;> ((try simp only [decide_eq_true_eq, decide_eq_false_iff_not, Bool.not_true, Bool.not_false, ne_eq, Classical.not_not, Int.not_lt, Int.not_le] at hc); (try (exfalso; first | omega | exact hc trivial | exact hc rfl)))))
        repeat' (first | apply GE.iq | ((apply GL.isAny; first | refine GL.runA rfl ?_ | (apply GL.isStore; first | refine GL.storeBlk rfl rfl rfl rfl rfl ?_ | refine GL.storeWhole rfl rfl rfl rfl rfl ?_ | refine GL.storeBlkA rfl rfl rfl rfl rfl ?_) | refine GL.guardY rfl rfl ?_ | refine GL.guardN rfl rfl rfl ?_ | refine GL.guardU rfl rfl rfl ?_ | (apply GL.isBox; first | refine GL.boxA rfl rfl (fun _ => ?_) | refine GL.box1 rfl rfl rfl (fun _ => ?_) | refine GL.box rfl rfl (fun _ => ?_)) | (apply GL.isBuildS; first | refine GL.buildSlice1A rfl rfl rfl rfl rfl (fun _ => ?_) | refine GL.buildSlice1 rfl rfl rfl rfl rfl (fun _ => ?_)) | (apply GL.isCall; refine GL.append1 _ rfl rfl rfl rfl (by rfl) (by omega) (by omega) rfl (fun _ => ?_)) | (apply GL.isAlloc; refine GL.alloc rfl (fun _ => ?_)))) | (apply GL.isAny; refine GL.guard rfl rfl (fun hc => ?_) (fun hc => ?_) <;> ((try simp only [decide_eq_true_eq, decide_eq_false_iff_not, Bool.not_true, Bool.not_false, ne_eq, Classical.not_not, Int.not_lt, Int.not_le] at hc); (try (exfalso; first | omega | exact hc trivial | exact hc rfl)))) | apply GL.nil | (first | (rw [dz]) | (apply GL.isCall; refine GL.callH1 (storeP sb T) rfl rfl (fun w h => rec_wipe rb sb (K + 2 * k) T hTI (by omega) a b c d q j hj1 hj2 w _ h) ?_) | (refine GLI.guardY rfl rfl ?_; refine GLI.imp (F' := J true k :: storeP sb (Rc.wipe T j) :: waitsAt (.pointer (some ⟨b, 0, none⟩)) n (line.drop (k + 1)) cc :: F) ?_ (fun w h => h.sub); refine GLI.yield (vs := [.int .i64 (j : Nat), .int .i64 0]) (v := fun y : Bool => .bool y) (F' := fun y : Bool => J y (k + 1) :: ((match y with | true => [storeP sb (Rc.wipe T j), waitsAt (.pointer (some ⟨b, 0, none⟩)) n (line.drop (k + 1)) cc] | false => []) ++ F)) rfl rfl rfl (fun w h => hY'' w h) (fun y => ?_); cases y <;> dsimp only [List.cons_append, List.nil_append])) | ((refine GLI.op (by first | exact .wide | exact .round _) (by intro c hc; cases hc) ?_)) | (apply GLI.nil; apply GEI.of))
        all_goals (first | (exfalso; simp at hc; done) | skip)
        · skip
          repeat' (first | (apply GL.isAny; first | refine GL.runA rfl ?_ | (apply GL.isStore; first | refine GL.storeBlk rfl rfl rfl rfl rfl ?_ | refine GL.storeWhole rfl rfl rfl rfl rfl ?_ | refine GL.storeBlkA rfl rfl rfl rfl rfl ?_) | refine GL.guardY rfl rfl ?_ | refine GL.guardN rfl rfl rfl ?_ | refine GL.guardU rfl rfl rfl ?_ | (apply GL.isBox; first | refine GL.boxA rfl rfl (fun _ => ?_) | refine GL.box1 rfl rfl rfl (fun _ => ?_) | refine GL.box rfl rfl (fun _ => ?_)) | (apply GL.isBuildS; first | refine GL.buildSlice1A rfl rfl rfl rfl rfl (fun _ => ?_) | refine GL.buildSlice1 rfl rfl rfl rfl rfl (fun _ => ?_)) | (apply GL.isCall; refine GL.append1 _ rfl rfl rfl rfl (by rfl) (by omega) (by omega) rfl (fun _ => ?_)) | (apply GL.isAlloc; refine GL.alloc rfl (fun _ => ?_))) | apply GL.nil | first | apply G.seq | apply G.region | apply G.block | apply G.skip | apply G.exit | apply G.ret | (apply G.isCond; first | refine G.condT rfl ?_ | refine G.condF rfl ?_) | refine G.draw (by kernel_rfl) (by kernel_rfl) ?_ | (apply GE.isAny; first | apply GE.again | apply GE.thenG | apply GE.blockN | apply GE.blockE | apply GE.thenE | apply GE.thenR | apply GE.blockR | refine GE.blockO rfl ?_ | apply GE.only) | (apply GD.isAny; first | refine GD.runA rfl ?_ | refine GD.guardY rfl rfl ?_ | refine GD.guardN rfl rfl rfl ?_ | refine GD.guardU rfl rfl rfl ?_) | apply GD.nilE | apply GD.nilL | (apply GT.isAny; refine GT.runA rfl rfl ?_) | ((first | (apply GL.isAny; refine GL.guard rfl rfl (fun hc => ?_) (fun hc => ?_)) | (apply G.isCond; refine G.cond rfl (fun hc => ?_) (fun hc => ?_)) | (apply GD.isAny; refine GD.guard rfl rfl (fun hc => ?_) (fun hc => ?_))) <;> ((try simp only [decide_eq_true_eq, decide_eq_false_iff_not, Bool.not_true, Bool.not_false, ne_eq, Classical.not_not, Int.not_lt, Int.not_le] at hc); (try (exfalso; first | omega | exact hc trivial | exact hc rfl)))))
          refine GE.ret0 rfl (fun w h => ⟨_, rfl, false, k + 1, (fun h => by cases h), fun _ => ⟨by omega, by rw [hLl]; omega⟩, h⟩)
        · repeat' (first | (apply GL.isAny; first | refine GL.runA rfl ?_ | (apply GL.isStore; first | refine GL.storeBlk rfl rfl rfl rfl rfl ?_ | refine GL.storeWhole rfl rfl rfl rfl rfl ?_ | refine GL.storeBlkA rfl rfl rfl rfl rfl ?_) | refine GL.guardY rfl rfl ?_ | refine GL.guardN rfl rfl rfl ?_ | refine GL.guardU rfl rfl rfl ?_ | (apply GL.isBox; first | refine GL.boxA rfl rfl (fun _ => ?_) | refine GL.box1 rfl rfl rfl (fun _ => ?_) | refine GL.box rfl rfl (fun _ => ?_)) | (apply GL.isBuildS; first | refine GL.buildSlice1A rfl rfl rfl rfl rfl (fun _ => ?_) | refine GL.buildSlice1 rfl rfl rfl rfl rfl (fun _ => ?_)) | (apply GL.isCall; refine GL.append1 _ rfl rfl rfl rfl (by rfl) (by omega) (by omega) rfl (fun _ => ?_)) | (apply GL.isAlloc; refine GL.alloc rfl (fun _ => ?_))) | apply GL.nil | first | apply G.seq | apply G.region | apply G.block | apply G.skip | apply G.exit | apply G.ret | (apply G.isCond; first | refine G.condT rfl ?_ | refine G.condF rfl ?_) | refine G.draw (by kernel_rfl) (by kernel_rfl) ?_ | (apply GE.isAny; first | apply GE.again | apply GE.thenG | apply GE.blockN | apply GE.blockE | apply GE.thenE | apply GE.thenR | apply GE.blockR | refine GE.blockO rfl ?_ | apply GE.only) | (apply GD.isAny; first | refine GD.runA rfl ?_ | refine GD.guardY rfl rfl ?_ | refine GD.guardN rfl rfl rfl ?_ | refine GD.guardU rfl rfl rfl ?_) | apply GD.nilE | apply GD.nilL | (apply GT.isAny; refine GT.runA rfl rfl ?_) | ((first | (apply GL.isAny; refine GL.guard rfl rfl (fun hc => ?_) (fun hc => ?_)) | (apply G.isCond; refine G.cond rfl (fun hc => ?_) (fun hc => ?_)) | (apply GD.isAny; refine GD.guard rfl rfl (fun hc => ?_) (fun hc => ?_))) <;> ((try simp only [decide_eq_true_eq, decide_eq_false_iff_not, Bool.not_true, Bool.not_false, ne_eq, Classical.not_not, Int.not_lt, Int.not_le] at hc); (try (exfalso; first | omega | exact hc trivial | exact hc rfl)))))
          refine GE.round (k + 1) ⟨by omega, by omega⟩ (by repeat (first | exact trivial | refine And.intro rfl ?_)) (fun w h => by (try dsimp only); rw [hsu]; exact h) (by omega)
      · obtain rfl : k = line.length := by omega
        rw [List.drop_length]
        repeat' (first | (first | (apply GL.isCall; refine GL.callH1 (waitsAt (.pointer (some ⟨b, 0, none⟩)) n [] cc) rfl rfl (fun w h => waits_TakeN (.pointer (some ⟨b, 0, none⟩)) n cc hcc w _ h) ?_)) | first | (apply GL.isAny; first | refine GL.runA rfl ?_ | (apply GL.isStore; first | refine GL.storeBlk rfl rfl rfl rfl rfl ?_ | refine GL.storeWhole rfl rfl rfl rfl rfl ?_ | refine GL.storeBlkA rfl rfl rfl rfl rfl ?_) | refine GL.guardY rfl rfl ?_ | refine GL.guardN rfl rfl rfl ?_ | refine GL.guardU rfl rfl rfl ?_ | (apply GL.isBox; first | refine GL.boxA rfl rfl (fun _ => ?_) | refine GL.box1 rfl rfl rfl (fun _ => ?_) | refine GL.box rfl rfl (fun _ => ?_)) | (apply GL.isBuildS; first | refine GL.buildSlice1A rfl rfl rfl rfl rfl (fun _ => ?_) | refine GL.buildSlice1 rfl rfl rfl rfl rfl (fun _ => ?_)) | (apply GL.isCall; refine GL.append1 _ rfl rfl rfl rfl (by rfl) (by omega) (by omega) rfl (fun _ => ?_)) | (apply GL.isAlloc; refine GL.alloc rfl (fun _ => ?_))) | apply GL.nil | first | apply G.seq | apply G.region | apply G.block | apply G.skip | apply G.exit | apply G.ret | (apply G.isCond; first | refine G.condT rfl ?_ | refine G.condF rfl ?_) | refine G.draw (by kernel_rfl) (by kernel_rfl) ?_ | (apply GE.isAny; first | apply GE.again | apply GE.thenG | apply GE.blockN | apply GE.blockE | apply GE.thenE | apply GE.thenR | apply GE.blockR | refine GE.blockO rfl ?_ | apply GE.only) | (apply GD.isAny; first | refine GD.runA rfl ?_ | refine GD.guardY rfl rfl ?_ | refine GD.guardN rfl rfl rfl ?_ | refine GD.guardU rfl rfl rfl ?_) | apply GD.nilE | apply GD.nilL | (apply GT.isAny; refine GT.runA rfl rfl ?_) | ((first | (apply GL.isAny; refine GL.guard rfl rfl (fun hc => ?_) (fun hc => ?_)) | (apply G.isCond; refine G.cond rfl (fun hc => ?_) (fun hc => ?_)) | (apply GD.isAny; refine GD.guard rfl rfl (fun hc => ?_) (fun hc => ?_))) <;> ((try simp only [decide_eq_true_eq, decide_eq_false_iff_not, Bool.not_true, Bool.not_false, ne_eq, Classical.not_not, Int.not_lt, Int.not_le] at hc); (try (exfalso; first | omega | exact hc trivial | exact hc rfl)))))
        all_goals (first | (exfalso; simp at hc; done) | skip)
        refine GE.ret0 rfl (fun w h => ⟨_, rfl, true, line.length, fun _ => by rw [hLl]; omega, (fun h => by cases h), ?_⟩)
        show holds w (J true line.length :: storeP sb (Rc.drain line.length t line).1 :: waitsAt (.pointer (some ⟨b, 0, none⟩)) n (line.drop line.length) cc :: F)
        rw [List.drop_length]
        exact h.sub
    · repeat' (first | (apply GL.isAny; first | refine GL.runA rfl ?_ | (apply GL.isStore; first | refine GL.storeBlk rfl rfl rfl rfl rfl ?_ | refine GL.storeWhole rfl rfl rfl rfl rfl ?_ | refine GL.storeBlkA rfl rfl rfl rfl rfl ?_) | refine GL.guardY rfl rfl ?_ | refine GL.guardN rfl rfl rfl ?_ | refine GL.guardU rfl rfl rfl ?_ | (apply GL.isBox; first | refine GL.boxA rfl rfl (fun _ => ?_) | refine GL.box1 rfl rfl rfl (fun _ => ?_) | refine GL.box rfl rfl (fun _ => ?_)) | (apply GL.isBuildS; first | refine GL.buildSlice1A rfl rfl rfl rfl rfl (fun _ => ?_) | refine GL.buildSlice1 rfl rfl rfl rfl rfl (fun _ => ?_)) | (apply GL.isCall; refine GL.append1 _ rfl rfl rfl rfl (by rfl) (by omega) (by omega) rfl (fun _ => ?_)) | (apply GL.isAlloc; refine GL.alloc rfl (fun _ => ?_))) | apply GL.nil | first | apply G.seq | apply G.region | apply G.block | apply G.skip | apply G.exit | apply G.ret | (apply G.isCond; first | refine G.condT rfl ?_ | refine G.condF rfl ?_) | refine G.draw (by kernel_rfl) (by kernel_rfl) ?_ | (apply GE.isAny; first | apply GE.again | apply GE.thenG | apply GE.blockN | apply GE.blockE | apply GE.thenE | apply GE.thenR | apply GE.blockR | refine GE.blockO rfl ?_ | apply GE.only) | (apply GD.isAny; first | refine GD.runA rfl ?_ | refine GD.guardY rfl rfl ?_ | refine GD.guardN rfl rfl rfl ?_ | refine GD.guardU rfl rfl rfl ?_) | apply GD.nilE | apply GD.nilL | (apply GT.isAny; refine GT.runA rfl rfl ?_) | ((first | (apply GL.isAny; refine GL.guard rfl rfl (fun hc => ?_) (fun hc => ?_)) | (apply G.isCond; refine G.cond rfl (fun hc => ?_) (fun hc => ?_)) | (apply GD.isAny; refine GD.guard rfl rfl (fun hc => ?_) (fun hc => ?_))) <;> ((try simp only [decide_eq_true_eq, decide_eq_false_iff_not, Bool.not_true, Bool.not_false, ne_eq, Classical.not_not, Int.not_lt, Int.not_le] at hc); (try (exfalso; first | omega | exact hc trivial | exact hc rfl)))))
      refine GE.end0 rfl (fun w h => ⟨_, rfl, true, k, fun _ => by rw [hLl]; omega, (fun h => by cases h), ?_⟩)
      exact h
  simpa using hgo
end Go.Proofs.YtipkgamiejenaaaGreat

/- A drawn region behind a range over a function: the activation bears a mark. -/
namespace Go.Proofs.YtipkgamiejenaaaGreat
open Go Go.RowKit Go.MapKept
set_option linter.unusedVariables false
set_option linter.unusedSectionVars false
set_option linter.unusedSimpArgs false
section
variable {Pr : Program}
theorem wpAny_region_tok {Q : Exit → Act → World → Prop} {a : Act} {w : World} {l : List Oper} (toks : List Tok) (S : Nat → TSpec) (B : List HProp) (start last : List Nat) 
    (hB : (tokB l.toArray toks S .any && (((List.range toks.length).filter (fun i => (tokNo toks i).prod.isNone) == start) && ((List.range toks.length).filter (fun i => (tokNo toks i).cons.isNone) == last))) = true)
    (hC : holds w (toksAt l.toArray toks a start ++ B)) (h : wpTok Pr l.toArray toks S B (fun a' => ∀ w', holds w' (toksAt l.toArray toks a' last ++ B) → Q .normal a' w') 0 l a) : wpAny Pr .any l.toArray Q l.toArray.size (Array.replicate l.toArray.size false) a { w with drawn := w.drawn + 1 } := by
  rw [Bool.and_eq_true, Bool.and_eq_true ((List.range toks.length).filter _ == _)] at hB
  obtain ⟨h1, h2, h3⟩ := hB
  have ok := TokOk.of h1
  rw [beq_iff_eq] at h2 h3
  have hC' : holds { w with drawn := w.drawn + 1 } (toksAt l.toArray toks a start ++ B) := hC.drew
  have hav : ∀ (listed : Array Bool), (∀ i, i < l.toArray.size → listed.getD i false = false) → listed.size = l.toArray.size → av l.toArray toks listed a = toksAt l.toArray toks a start := fun listed hf hsz => by
    unfold av
    rw [← h2]
    congr 1
    refine List.filter_congr fun i hi => ?_
    have hi' := List.mem_range.1 hi
    unfold live
    cases hp : (tokNo toks i).prod with
    | some p =>
      have := hf p (ok.prod i hi' p hp).1
      simp [this]
    | none =>
      cases hc : (tokNo toks i).cons with
      | none => simp
      | some c =>
        have hcs := (ok.cons i hi' c hc).1
        have := hf c hcs
        have hcs' : c < listed.size := by omega
        simp [hcs'] at this ⊢
        exact this
  have hlast : ∀ (listed : Array Bool) a, (∀ i, i < l.toArray.size → listed.getD i false = true) → av l.toArray toks listed a = toksAt l.toArray toks a last := fun listed a hf => by
    unfold av
    rw [← h3]
    congr 1
    refine List.filter_congr fun i hi => ?_
    have hi' := List.mem_range.1 hi
    unfold live
    cases hc : (tokNo toks i).cons with
    | some c =>
      have := hf c (ok.cons i hi' c hc).1
      have h5 : listed.getD c true = true := by
        rcases Nat.lt_or_ge c listed.size with h' | h'
        · simp [h'] at this ⊢; exact this
        · simp [h']
      dsimp only
      rw [h5]
      simp
    | none =>
      cases hp : (tokNo toks i).prod with
      | none => simp
      | some p => dsimp only; rw [hf p (ok.prod i hi' p hp).1]; simp
  have R0 := rem_of_tok (Pr := Pr) (ops := l.toArray) (toks := toks) (S := S) (B := B) l 0 a (by simp) h
  have := wpAny_of_rem (Pr := Pr) (Q' := Q) ok (Q := fun a' => ∀ w', holds w' (toksAt l.toArray toks a' last ++ B) → Q .normal a' w') (fun listed a w hf hw hq => hq w (by rw [← hlast listed a hf]; exact hw)) l.length _ (Array.replicate l.toArray.size false) a { w with drawn := w.drawn + 1 } (by simp) ⟨by simp, fun j oj _ hl => (by rw [getD_replicate_false] at hl; cases hl)⟩
    ⟨fun i => by
      rw [List.mem_range'_1]
      constructor
      · rintro ⟨_, h5⟩
        have : i < l.toArray.size := by simpa using h5
        exact ⟨this, getD_in (by simpa using this) (getD_replicate_false _ _)⟩
      · rintro ⟨h5, _⟩
        exact ⟨Nat.zero_le _, by simpa using h5⟩, List.pairwise_lt_range'⟩ (by rw [hav _ (fun i _ => getD_replicate_false _ _) (by simp)]; exact hC') R0
  simpa using this

end
def notDefer (o : Oper) : Bool := match o.op with | .defer _ => false | _ => true
theorem notDefer_ne {o : Oper} (h : notDefer o = true) : ∀ c, o.op ≠ .defer c := fun c e => by unfold notDefer at h; rw [e] at h; cases h
/-- What comes of an operation does not ask for the marks. -/
theorem opIn_bare {Fc : Fence} {P : Program} {ops : Array Oper} {Q0 Q : Exit → Act → World → Prop} {i : Nat} {K K' : Act → World → Prop} {ds : List Deferred} (hW : WideF Fc) (hnd : ∀ o, ops[i]? = some o → ∀ c, o.op ≠ .defer c) (hQ : ∀ e a w, Q0 e a w → e = .normal)
    (hK : ∀ (ts : Array Value) dd w, K ⟨ts, dd⟩ w → K' ⟨ts, dd ++ ds⟩ w) (ts : Array Value) (dd : List Deferred) (w : World) (h : wpOp P ops Q0 i K ⟨ts, dd⟩ w) : wpOpIn Fc 5 P ops Q i K' ⟨ts, dd ++ ds⟩ w := by
  have hput : ∀ (d : Option Tmp) (v : Value) (x : World), K ((⟨ts, dd⟩ : Act).put d v) x → K' ((⟨ts, dd ++ ds⟩ : Act).put d v) x := fun d v x hk => by
    cases d with
    | none => exact hK _ _ _ hk
    | some d => exact hK _ _ _ hk
  unfold wpOp at h
  unfold wpOpIn
  cases ho : ops[i]? with
  | none => rw [ho] at h; exact hK _ _ _ h
  | some o =>
    rw [ho] at h
    dsimp only at h ⊢
    have hy : yielded ops (⟨ts, dd⟩ : Act).tmps = yielded ops (⟨ts, dd ++ ds⟩ : Act).tmps := rfl
    rw [hy] at h
    split at h
    · rename_i hwt
      rw [if_pos hwt]
      refine ⟨fun f _ => hW.fn f, ?_⟩
      rw [Oper.semAt_eq _ _ _ (hnd o ho)]
      rcases h with h | ⟨_, a', w', h2⟩
      · unfold Oper.wp at h
        have he : (⟨ts, dd⟩ : Act).eval = (⟨ts, dd ++ ds⟩ : Act).eval := rfl
        rw [he] at h
        have hdef : ∀ (d : Deferred) (x : World), K (({ tmps := ts, defers := d :: dd } : Act).put o.dst undef) x → K' (({ tmps := ts, defers := d :: (dd ++ ds) } : Act).put o.dst undef) x := fun d x hk => by
          revert hk
          cases o.dst <;> exact fun hk => hK _ (d :: dd) _ hk
        revert h
        generalize (execOp (⟨ts, dd ++ ds⟩ : Act).eval o).run P w = r
        intro h
        cases r with
        | ok x w1 =>
          cases x with
          | value v => exact hput _ _ _ h
          | skip => exact hput _ _ _ h
          | defer d => exact hdef d _ h
          | enter f args =>
            refine ⟨hW.depth, hW.calls (h.mono fun e w' h2 => ?_)⟩
            cases e with
            | returned v => exact hput _ _ _ h2
            | panicked ch => exact absurd (hQ _ _ _ h2) (by simp)
            | outgrown => obtain ⟨_, _, h2⟩ := h2; exact absurd (hQ _ _ _ h2) (by simp)
          | row rw args =>
            refine ⟨hW.depth, hW.rows ?_⟩
            intro c cs
            obtain ⟨v, w', h2, hs⟩ := h c cs
            exact ⟨v, w', hput _ _ _ h2, hs⟩
          | _ => exact h.elim
        | halt x w1 =>
          cases x with
          | panic v => exact absurd (hQ _ _ _ h) (by simp)
          | _ => exact h.elim
      · exact absurd (hQ _ _ _ h2) (by simp)
    · rename_i hwt
      rw [if_neg hwt]
      exact ⟨fun f _ => hW.fn f, hput _ _ _ h⟩
theorem anyIn_bare {Fc : Fence} {P : Program} {ops : Array Oper} {md : Region.Mode} {Q : Exit → Act → World → Prop} {ds : List Deferred} (hW : WideF Fc) (hnd : ops.toList.all notDefer = true) : ∀ (fuel : Nat) (listed : Array Bool) (ts : Array Value) (dd : List Deferred) (w : World),
    wpAny P md ops (IQ fun a' w' => ∀ a1 : Act, a1.tmps = a'.tmps → a1.defers = ds → Q .normal a1 w') fuel listed ⟨ts, dd⟩ w → wpAnyIn Fc 5 P md ops Q fuel listed ⟨ts, dd ++ ds⟩ w
  | 0, _, ts, dd, w, h => by
    obtain ⟨h0, _, h1, h2⟩ := h
    dsimp only at h1; subst h1
    exact ⟨h0, h2 _ rfl rfl⟩
  | fuel + 1, listed, ts, dd, w, h => ⟨fun h0 => by
    obtain ⟨_, h1, h2⟩ := h.1 h0
    dsimp only at h1; subst h1
    exact h2 _ rfl rfl, fun i hi => opIn_bare hW (fun o ho => notDefer_ne (List.all_eq_true.1 hnd o (by
      have := Array.mem_of_getElem? ho
      exact Array.mem_def.1 this))) (fun e a w he => he.1) (fun ts dd w hk => anyIn_bare hW hnd fuel _ ts dd w hk) ts dd w (h.2 i hi)⟩
section
variable {Fc : Fence} {P : Program} {n : Nat} {ds : List Deferred} {Q : Exit → Act → World → Prop} {env : Env} {F : List HProp}
theorem GE.iqE (h : GEI n ds .normal Q env F) : GE n .normal (IQ fun a' w' => ∀ a1 : Act, a1.tmps = a'.tmps → a1.defers = ds → Q .normal a1 w') env F :=
  .mk fun a w hf hw => ⟨rfl, hf.defs, fun a1 h1 h2 => h.out a1 w ⟨by rw [h1]; exact hf.size, h2, fun k v hk => by rw [h1]; exact hf.at_ k v hk⟩ hw⟩
theorem GI.drawW {id : Nat} {l : List Oper} {S B : List HProp} (hW : WideF Fc) (hnd : l.toArray.toList.all notDefer = true) (E : List Wff) (V : List (Nat × List Nat)) (start last : List Nat) (hm : P.follows .mixedOrders = true)
    (hB : (tokB l.toArray (wffToks E) (wffS E V) .any && (((List.range (wffToks E).length).filter (fun i => (tokNo (wffToks E) i).prod.isNone) == start) && ((List.range (wffToks E).length).filter (fun i => (tokNo (wffToks E) i).cons.isNone) == last))) = true)
    (hS : wffNow E env start = some S) (hd : wffDef E env start) [ht : Takes F S B]
    (h : GW P n l.toArray E V B (fun a' => ∀ w', holds w' (toksAt l.toArray (wffToks E) a' last ++ B) → (IQ fun a' w' => ∀ a1 : Act, a1.tmps = a'.tmps → a1.defers = ds → Q .normal a1 w') .normal a' w') 0 l env) : GI Fc P n ds (.region id l.toArray true) Q env F := ⟨fun a w hf hw => by
  have h1 := wpAny_region_tok (wffToks E) (wffS E V) B start last hB (by rw [wffNow_at hf.bare start S hS hd]; exact hw.perm ht.perm) (h.out ⟨a.tmps, []⟩ hf.bare)
  refine wpIn_region_any hm ?_
  have h2 := anyIn_bare (ds := ds) hW hnd _ _ _ _ _ h1
  have ha : (⟨a.tmps, [] ++ ds⟩ : Act) = a := by rw [← hf.defs]; rfl
  rw [ha] at h2
  exact h2⟩
end
end Go.Proofs.YtipkgamiejenaaaGreat
