import Derived.Test.YtipkgamiejenaaaGreatMg19
import Derived.Test.YtipkgamiejenaaaGreatMg5
/- The law ReclaimWhen of chapter 25: the walk. -/
namespace Go.Proofs.YtipkgamiejenaaaGreat
open Go Go.RowKit Go.MapKept
set_option linter.unusedVariables false
set_option linter.unusedSectionVars false
set_option linter.unusedSimpArgs false
set_option maxRecDepth 100000
set_option maxHeartbeats 4000000
theorem St.Inv.phc {t : St.S} {K : Nat} (h : St.Inv t K) {x : Nat} (hx : x < t.ch.length) (hp : (t.c x).phase = 0) : St.clean t x = true := by
  rw [t.c_eq x hx] at hp
  exact decide_eq_true (Or.inr ((h.cell x hx).zero hp))
theorem law25_When (a0 a1 a2 : Int) (h0 : 0 ≤ a0 ∧ a0 ≤ 255) (h1 : 0 ≤ a1 ∧ a1 ≤ 255) (h2 : 0 ≤ a2 ∧ a2 ≤ 255) (w : World) (F : List HProp) (hw : holds w F) :
    Ct Tryz.prog 6 #[.int .u8 a0, .int .u8 a1, .int .u8 a2] w fun e w' => e = .returned (.bool true) ∧ holds w' F := by
  refine Ct.go (args := [.int .u8 a0, .int .u8 a1, .int .u8 a2]) Tryz.func6 rfl rfl rfl hw ?_
  obtain ⟨d, hd⟩ : ∃ d : Nat, a1 % 12 = d := ⟨(a1 % 12).toNat, by omega⟩
  obtain ⟨q, hq⟩ : ∃ q : Nat, 1 + a0 % 5 = q := ⟨(1 + a0 % 5).toNat, by omega⟩
  obtain ⟨n, hn⟩ : ∃ n : Nat, (d : Int) + 1 + a2 % 6 = n := ⟨((d : Int) + 1 + a2 % 6).toNat, by omega⟩
  have hdb : d ≤ 11 := by omega
  have hqb : 1 ≤ q ∧ q ≤ 5 := by omega
  have hnb : d + 1 ≤ n ∧ n ≤ d + 6 := by omega
  have hI0 : St.Inv (St.new n 64) 0 := St.Inv.new n 64 (by omega) (by omega)
  have hO0 : Rc.Ok (⟨St.new n 64, q, 0, [], List.replicate 64 0, [], 0⟩ : Rc.S) 0 := Rc.Ok.new hI0 (by omega) (by omega)
  obtain ⟨M0, hM0⟩ : ∃ M0, M0 = (⟨St.new n 64, q, 0, [], List.replicate 64 0, [], 0⟩ : Rc.S) := ⟨_, rfl⟩
  have hMk := fun w (F : List HProp) h => store_Make n 64 (by omega) (by omega) (by omega) (by omega) (by decide) w F h
  have hNw := fun sb w (F : List HProp) h => rec_New sb (St.new n 64) 0 hI0 (by omega) (q : Int) 0 (by omega) (by omega) w F h
  rw [← hM0] at hNw
  repeat' (first | (first | (rw [hd]) | (rw [hq]) | (rw [hn]) | (apply GL.isCall; refine GL.call (vs := [.int .i64 (n : Nat), .int .i64 ((64 : Nat) : Int)]) rfl rfl (fun w h => hMk w _ h) (fun sb => ?_)) | (apply GL.isCall; refine GL.callH (storeP sb (St.new n 64)) (vs := [.pointer (some ⟨sb, 0, none⟩), .int .i64 (q : Nat), .int .i64 0]) rfl rfl (fun w h => hNw sb w _ h) (fun rb => ?_)) | (apply GL.isAny; refine GL.run (Runs.rem rfl rfl (by omega)) rfl ?_)) | first | refine stp ?_ | (refine stpB ?_; intro _) | (refine spl ?_ ?_ <;> intro hc <;> ((try simp only [decide_eq_true_eq, decide_eq_false_iff_not, Bool.not_true, Bool.not_false, ne_eq, Classical.not_not, Int.not_lt, Int.not_le] at hc); (try (exfalso; first | omega | exact hc trivial | exact hc rfl)))))
  all_goals (first | (exfalso; omega) | (exfalso; simp at hc; done) | skip)
  refine G.sub (e := [(14, .int .i64 0), (7, .int .i64 (d : Nat)), (8, .int .i64 (q : Nat)), (9, .int .i64 (n : Nat)), (10, .pointer (some ⟨sb, 0, none⟩)), (12, .pointer (some ⟨rb, 0, none⟩))]) ?_ ⟨rfl, rfl, rfl, rfl, rfl, rfl, trivial⟩
  have hl0 : (St.new n 64).ch.length = n := by simp [St.new]
  have hM0l : M0.t.ch.length = n := by rw [hM0]; exact hl0
  refine G.loopK [7, 8, 9, 10, 12] (Nat × St.S) (fun y => [(14, .int .i64 (y.1 : Nat))]) (fun y => recP rb sb M0 0 :: storeP sb y.2 :: F) (fun y => y.1 ≤ n ∧ St.Inv y.2 (2 * y.1) ∧ Rw.Tk y.2 n y.1) (fun y => n - y.1) ((0, St.new n 64)) (⟨Nat.zero_le _, hI0, Rw.Tk.new n⟩) (by repeat (first | exact trivial | refine And.intro rfl ?_)) (fun w h => by (try dsimp only); first | exact h | exact h.sub | ((try simp only [List.take_zero, List.drop_zero, List.map_nil, List.nil_append, List.zipIdx_nil, List.filter_nil]); exact h.sub)) ?_
  rintro ⟨i, t⟩ ⟨hi, hI, hT⟩
  dsimp only at hi hI hT ⊢
  by_cases hlt : i < n
  · obtain ⟨e1, hT1⟩ := hT.take hlt
    have hI1 := hI.take 1
    have cT := fun (w : World) (F : List HProp) h' => store_Take sb t (2 * i) hI (by omega) 1 w F h'
    have e1a : (St.take t 1).2.1 = i := by rw [e1]
    have e1b : (St.take t 1).2.2 = 0 := by rw [e1]
    rw [e1a, e1b] at cT
    obtain ⟨t1, ht1⟩ : ∃ t1, t1 = (St.take t 1).1 := ⟨_, rfl⟩
    rw [← ht1] at cT hI1 hT1
    obtain ⟨e2, hT2⟩ := hT1.put hI1 hlt [100, 97, 116, 97] rfl
    have hI2 := hI1.put (i : Nat) 0 5 [100, 97, 116, 97]
    have cS := fun (w : World) (F : List HProp) h' => store_Store sb t1 (2 * i + 1) hI1 (by omega) (i : Nat) 0 5 [100, 97, 116, 97] (by simp) w F h'
    rw [e2] at cS
    obtain ⟨t2, ht2⟩ : ∃ t2, t2 = (St.put t1 i 0 5 [100, 97, 116, 97]).1 := ⟨_, rfl⟩
    rw [← ht2] at cS hI2 hT2
    repeat' (first | (first | (apply GL.isAny; first | refine GL.run (Runs.neqIF rfl rfl rfl) rfl ?_ | refine GL.run (Runs.neBl rfl rfl) rfl ?_) | (apply GL.isCall; refine GL.callH1 (storeP sb t) (vs := [.pointer (some ⟨sb, 0, none⟩), .int .i64 1]) rfl rfl (fun w h => cT w _ h) ?_) | (apply GL.isCall; refine GL.callH1 (storeP sb t1) (vs := [.pointer (some ⟨sb, 0, none⟩), .int .i64 (i : Nat), .int .i64 0, .int .i64 5, .string (bs [100, 97, 116, 97])]) rfl rfl (fun w h => cS w _ h) ?_)) | first | refine stp ?_ | (refine stpB ?_; intro _) | (refine spl ?_ ?_ <;> intro hc <;> ((try simp only [decide_eq_true_eq, decide_eq_false_iff_not, Bool.not_true, Bool.not_false, ne_eq, Classical.not_not, Int.not_lt, Int.not_le] at hc); (try (exfalso; first | omega | exact hc trivial | exact hc rfl)))))
    all_goals (first | (exfalso; omega) | (exfalso; simp at hc; done) | skip)
    refine GE.round (i + 1, t2) ⟨hlt, by dsimp only; exact hI2, hT2⟩ (by repeat (first | exact trivial | refine And.intro rfl ?_)) (fun w h => by (try dsimp only); exact h.sub) (by (try dsimp only); omega)
  obtain rfl : n = i := by omega
  have hTl := hT.len
  obtain ⟨M1, hM1⟩ : ∃ M1, M1 = ({ M0 with t := t } : Rc.S) := ⟨_, rfl⟩
  have hO1 : Rc.Ok M1 (2 * n) := by
    rw [hM1, hM0]
    exact Rc.Ok.new (q := ((q : Nat) : Int)) (low := 0) hI (by omega) (by omega)
  have hP1 : Rw.Pt M1 n 0 := ⟨by rw [hM1, hM0]; rfl, by rw [hM1]; exact hTl, fun j hj => by rw [hM1]; exact hT.own j (by omega), fun j hj => by rw [hM1]; exact hT.ge j hj⟩
  have hM1t : M1.t = t := by rw [hM1]
  have hM1q : M1.q = q := by rw [hM1, hM0]
  repeat' (first | refine stp ?_ | (refine stpB ?_; intro _) | (refine spl ?_ ?_ <;> intro hc <;> ((try simp only [decide_eq_true_eq, decide_eq_false_iff_not, Bool.not_true, Bool.not_false, ne_eq, Classical.not_not, Int.not_lt, Int.not_le] at hc); (try (exfalso; first | omega | exact hc trivial | exact hc rfl)))))
  all_goals (first | (exfalso; omega) | skip)
  refine G.imp (F' := recP rb sb M1 (2 * n) :: storeP sb M1.t :: F) ?_ (fun w h => by
    have h2 : holds w (recP rb sb M0 0 :: storeP sb M1.t :: F) := by rw [hM1t]; exact h.sub
    rw [← recP.same (m := M0) (t := t) (K := 0) (by rw [hM0l, hTl]), ← hM1] at h2
    exact recP.grow (by omega) h2)
  refine G.loopK [7, 8, 9, 10, 12] (Nat × Rc.S) (fun y => [(17, .int .i64 (y.1 : Nat))]) (fun y => recP rb sb y.2 (2 * n + y.1) :: storeP sb y.2.t :: F) (fun y => y.1 ≤ d + 1 ∧ Rc.Ok y.2 (2 * n + y.1) ∧ Rw.Pt y.2 n y.1 ∧ y.2.q = q) (fun y => d + 1 - y.1) ((0, M1)) (⟨Nat.zero_le _, hO1, hP1, hM1q⟩) (by repeat (first | exact trivial | refine And.intro rfl ?_)) (fun w h => by (try dsimp only); first | exact h | exact h.sub | ((try simp only [List.take_zero, List.drop_zero, List.map_nil, List.nil_append, List.zipIdx_nil, List.filter_nil]); exact h.sub)) ?_
  clear hI hT hTl hM1 hO1 hP1 hM1t hM1q hM0 hNw hM0l
  rintro ⟨i, m⟩ ⟨hi, hO, hP, hmq⟩
  dsimp only at hi hO hP hmq ⊢
  by_cases hlt : i < d + 1
  · obtain ⟨e1, hP2⟩ := hP.put (by omega)
    have hO2 := hO.put ((n - 1 - i : Nat) : Int) 1
    have hx : (n : Int) - 1 - (i : Nat) = ((n - 1 - i : Nat) : Int) := by omega
    have cP := fun (w : World) (F : List HProp) h' => rec_Put rb sb m (2 * n + i) hO (by omega) ((n - 1 - i : Nat) : Int) 1 w F h'
    rw [e1] at cP
    have hmq2 : (Rc.put m ((n - 1 - i : Nat) : Int) 1).1.q = q := by rw [← hmq]; unfold Rc.put; split <;> rfl
    obtain ⟨m2, hm2⟩ : ∃ m2, m2 = (Rc.put m ((n - 1 - i : Nat) : Int) 1).1 := ⟨_, rfl⟩
    rw [← hm2] at cP hP2 hO2 hmq2
    repeat' (first | (first | (rw [hx]) | (apply GL.isAny; first | refine GL.run (Runs.neqIF rfl rfl rfl) rfl ?_ | refine GL.run (Runs.neBl rfl rfl) rfl ?_) | (apply GL.isCall; refine GL.callHH1 (recP rb sb m (2 * n + i)) (storeP sb m.t) (vs := [.pointer (some ⟨rb, 0, none⟩), .int .i64 ((n - 1 - i : Nat) : Int), .int .i64 1]) rfl rfl (fun w h => cP w _ h) ?_)) | first | refine stp ?_ | (refine stpB ?_; intro _) | (refine spl ?_ ?_ <;> intro hc <;> ((try simp only [decide_eq_true_eq, decide_eq_false_iff_not, Bool.not_true, Bool.not_false, ne_eq, Classical.not_not, Int.not_lt, Int.not_le] at hc); (try (exfalso; first | omega | exact hc trivial | exact hc rfl)))))
    all_goals (first | (exfalso; omega) | (exfalso; simp at hc; done) | skip)
    refine GE.round (i + 1, m2) ⟨hlt, by dsimp only; exact hO2, hP2, hmq2⟩ (by repeat (first | exact trivial | refine And.intro rfl ?_)) (fun w h => by (try dsimp only); exact h.sub) (by (try dsimp only); omega)
  obtain rfl : i = d + 1 := by omega
  have hW0 := Rw.Wn.start hP (by omega) hmq
  have hx : (n : Int) - 1 - (d : Nat) = ((n - 1 - d : Nat) : Int) := by omega
  obtain ⟨x, hxd⟩ : ∃ x : Nat, n - 1 - d = x := ⟨_, rfl⟩
  rw [hxd] at hx
  obtain ⟨k, hk⟩ : ∃ k : Nat, (d : Int) / (q : Int) + 1 = k := ⟨d / q + 1, by simp⟩
  have hkq : k = d / q + 1 := by
    have : ((d / q + 1 : Nat) : Int) = k := by rw [← hk]; simp
    omega
  have hk1 : q * (k - 1) ≤ d := by rw [hkq, Nat.add_sub_cancel]; exact Nat.mul_div_le d q
  have hk2 : d < q * k := by rw [hkq]; exact Nat.lt_mul_div_succ d (by omega)
  have hk0 : 1 ≤ k := by rw [hkq]; exact Nat.le_add_left 1 _
  have hk12 : k ≤ 12 := by rw [hkq]; have := Nat.div_le_self d q; omega
  have cA := fun (w : World) (F : List HProp) h' => rec_Ahead rb sb m (2 * n + (d + 1)) hO (by omega) (x : Nat) w F h'
  have hix := hW0.idx (by omega) (by omega)
  rw [hxd, Nat.mul_zero, Nat.sub_zero] at hix
  rw [hix] at cA
  have cT := fun (w : World) (F : List HProp) h' => ref22_Ticks (d : Nat) (q : Nat) (by omega) w F h'
  rw [hk] at cT
  repeat' (first | (first | (rw [hx]) | (apply GL.isAny; first | refine GL.run (Runs.neqIF rfl rfl rfl) rfl ?_ | refine GL.run (Runs.neBl rfl rfl) rfl ?_) | (apply GL.isCall; refine GL.call1 (vs := [.int .i64 (d : Nat), .int .i64 (q : Nat)]) rfl rfl (fun w h => cT w _ h) ?_) | (apply GL.isCall; refine GL.callH1 (recP rb sb m (2 * n + (d + 1))) (vs := [.pointer (some ⟨rb, 0, none⟩), .int .i64 (x : Nat)]) rfl rfl (fun w h => cA w _ h) ?_)) | first | refine stp ?_ | (refine stpB ?_; intro _) | (refine spl ?_ ?_ <;> intro hc <;> ((try simp only [decide_eq_true_eq, decide_eq_false_iff_not, Bool.not_true, Bool.not_false, ne_eq, Classical.not_not, Int.not_lt, Int.not_le] at hc); (try (exfalso; first | omega | exact hc trivial | exact hc rfl)))))
  all_goals (first | (exfalso; omega) | (exfalso; simp at hc; done) | skip)
  refine G.sub (e := [(22, .int .i64 1), (21, .int .i64 ((n : Int) - 1)), (8, .int .i64 (q : Nat)), (10, .pointer (some ⟨sb, 0, none⟩)), (12, .pointer (some ⟨rb, 0, none⟩)), (18, .int .i64 (x : Nat)), (19, .int .i64 (k : Nat))]) ?_ ⟨rfl, rfl, rfl, rfl, rfl, rfl, rfl, trivial⟩
  refine G.loopK [8, 10, 12, 18, 19] (Nat × Rc.S × Nat × Int) (fun y => [(22, .int .i64 ((y.1 : Nat) + 1)), (21, .int .i64 y.2.2.2)]) (fun y => recP rb sb y.2.1 y.2.2.1 :: storeP sb y.2.1.t :: F) (fun y => y.1 ≤ k ∧ Rc.Ok y.2.1 y.2.2.1 ∧ y.2.1.t.ch.length = n ∧ y.2.2.1 ≤ 100 + 40 * y.1 ∧ (y.1 < k → Rw.Wn y.2.1 n d q y.1 ∧ y.2.2.2 = ((n : Nat) : Int) - 1 - ((q * y.1 : Nat) : Int)) ∧ (y.1 = k → y.2.1.t.c x = ⟨0, 0, 1⟩ ∧ placeOf y.2.1.line x = -1)) (fun y => k - y.1) ((0, m, 2 * n + (d + 1), (n : Int) - 1)) (⟨Nat.zero_le _, hO, hP.len, by dsimp only; omega, fun _ => ⟨hW0, by simp⟩, fun e => by dsimp only at e; omega⟩) (by repeat (first | exact trivial | refine And.intro rfl ?_)) (fun w h => by (try dsimp only); first | exact h | exact h.sub | ((try simp only [List.take_zero, List.drop_zero, List.map_nil, List.nil_append, List.zipIdx_nil, List.filter_nil]); exact h.sub)) ?_
  clear hO hP hW0 hix cA hmq
  rintro ⟨s, m, K, nx⟩ ⟨hs, hO, hml, hK, hWn, hFn⟩
  dsimp only at hs hO hml hK hWn hFn ⊢
  have hln := hO.wt.len
  by_cases hlt : s < k
  · obtain ⟨hW, hnx⟩ := hWn hlt
    have hqs : q * s ≤ d := Nat.le_trans (Nat.mul_le_mul_left q (by omega)) hk1
    have hs1 : ((s : Nat) : Int) + 1 - 1 = (s : Nat) := by omega
    repeat' (first | (first | (rw [hs1]) | (refine G.isRegion 26 ?_; apply G.joinX (α := Rc.S × Nat) (fun y => [(22, .int .i64 ((s : Nat) + 1)), (21, .int .i64 nx), (8, .int .i64 (q : Nat)), (10, .pointer (some ⟨sb, 0, none⟩)), (12, .pointer (some ⟨rb, 0, none⟩)), (18, .int .i64 (x : Nat)), (19, .int .i64 (k : Nat))]) (fun y => recP rb sb y.1 y.2 :: storeP sb y.1.t :: F) (fun y => Rc.Ok y.1 y.2 ∧ y.2 ≤ K + 1 ∧ Rw.Wn y.1 n d q s); intro KJ; apply G.region) | (apply GL.isCall; refine GL.callHH1 (recP rb sb m K) (storeP sb m.t) (vs := [.pointer (some ⟨rb, 0, none⟩), .int .i64 (s : Nat), .int .i64 1]) rfl rfl (fun w h => rec_Put rb sb m K hO (by omega) (s : Nat) 1 w _ h) ?_) | (refine G.isRegion 28 ?_; first | exact ((KJ ((Rc.put m (s : Nat) 1).1, K + 1) ⟨hO.put _ _, Nat.le_refl _, hW.put s (by omega)⟩).sub (by repeat (first | exact trivial | refine And.intro rfl ?_))).imp (fun w h => (show holds w (recP rb sb (Rc.put m (s : Nat) 1).1 (K + 1) :: storeP sb (Rc.put m (s : Nat) 1).1.t :: F) from h.sub)) | exact ((KJ (m, K) ⟨hO, Nat.le_succ K, hW⟩).sub (by repeat (first | exact trivial | refine And.intro rfl ?_))).imp (fun w h => (show holds w (recP rb sb m K :: storeP sb m.t :: F) from h.sub)))) | first | refine stp ?_ | (refine stpB ?_; intro _) | (refine spl ?_ ?_ <;> intro hc <;> ((try simp only [decide_eq_true_eq, decide_eq_false_iff_not, Bool.not_true, Bool.not_false, ne_eq, Classical.not_not, Int.not_lt, Int.not_le] at hc); (try (exfalso; first | omega | exact hc trivial | exact hc rfl)))))
    all_goals (first | (exfalso; omega) | skip)
    rintro ⟨m1, K1⟩ ⟨hO1, hK1, hW1⟩
    dsimp only at hO1 hK1 hW1 ⊢
    have hlen1 := hW1.len
    have hln1 := hO1.wt.len
    have hmem := hW1.mem (by omega) hqs
    have hT := hW1.tick hO1 (by omega) hqs hqb.1
    have hou := fun j hj hj2 => hW1.out j hj hj2
    rw [hxd] at hmem hT
    have hph : (m1.t.c (x : Nat)).phase = 2 := by
      obtain ⟨x', e, _, h3⟩ := hO1.wt.ph _ hmem
      obtain rfl : x = x' := by omega
      exact h3
    have hto : St.told m1.t (x : Nat) = (m1.t.c (x : Nat), true) := by unfold St.told; rw [if_neg (by unfold St.S.out; omega)]
    have cC := fun (w : World) (F : List HProp) h' => store_Chunk sb m1.t K1 hO1.inv (by omega) (x : Nat) w F h'
    rw [hto] at cC
    have cK := fun (w : World) (F : List HProp) (ir : Reads F (.slice none 0 0) encI1 1 []) h' => rec_Tick rb sb m1 K1 hO1 (by omega) (.slice none 0 0) [] (by simp) w F h'
    have hqq : m1.q.toNat = q := by rw [hW1.q]; rfl
    have hO2 := hO1.tick [] (by simp)
    rw [hqq] at cK
    obtain ⟨o, ho⟩ : ∃ o, o = m1.line.take q := ⟨_, rfl⟩
    have hol : o.length ≤ q := by rw [ho, List.length_take]; omega
    rw [← ho] at cK hT hou
    obtain ⟨m2, hm2⟩ : ∃ m2, m2 = Rc.tick m1 [] := ⟨_, rfl⟩
    rw [← hm2] at cK hT hO2
    obtain ⟨c, hcc⟩ : ∃ c, c = m1.t.c (x : Nat) := ⟨_, rfl⟩
    rw [← hcc] at cC hph
    obtain ⟨K2, hK2⟩ : ∃ K2, K2 = K1 + 1 + 2 * m1.line.length := ⟨_, rfl⟩
    rw [← hK2] at cK hO2
    repeat' (first | (first | (apply GL.isAny; refine GL.run (Runs.neqIF hph rfl rfl) rfl ?_) | (apply GL.isAlloc; refine GL.alloc (e := 84) rfl (fun b23 => ?_)) | (apply GL.isCall; refine GL.callH1 (storeP sb m1.t) (vs := [.pointer (some ⟨sb, 0, none⟩), .int .i64 (x : Nat)]) rfl rfl (fun w h => cC w _ h) ?_) | (refine G.isRegion 31 ?_; refine G.nilOwn 3 encI1 1 ?_; apply G.region) | (apply GL.isCall; refine GL.callHH (recP rb sb m1 K1) (storeP sb m1.t) (vs := [.pointer (some ⟨rb, 0, none⟩), .slice none 0 0]) rfl rfl (fun w h => cK w _ inferInstance h) (fun u => ?_))) | first | refine stp ?_ | (refine stpB ?_; intro _) | (refine spl ?_ ?_ <;> intro hc <;> ((try simp only [decide_eq_true_eq, decide_eq_false_iff_not, Bool.not_true, Bool.not_false, ne_eq, Classical.not_not, Int.not_lt, Int.not_le] at hc); (try (exfalso; first | omega | exact hc trivial | exact hc rfl)))))
    all_goals (first | (exfalso; omega) | (exfalso; simp at hc; done) | skip)
    refine G.sub (e := [(27, .int .i64 0), (21, .int .i64 nx), (8, .int .i64 (q : Nat)), (10, .pointer (some ⟨sb, 0, none⟩)), (12, .pointer (some ⟨rb, 0, none⟩)), (18, .int .i64 (x : Nat)), (19, .int .i64 (k : Nat)), (22, .int .i64 ((s : Nat) + 1)), (25, u), (26, .int .i64 0)]) ?_ ⟨rfl, rfl, rfl, rfl, rfl, rfl, rfl, rfl, rfl, rfl, trivial⟩
    refine G.loopK [8, 10, 12, 18, 19, 22, 25, 26] (Nat × Int) (fun y => [(27, .int .i64 (y.1 : Nat)), (21, .int .i64 y.2)]) (fun y => owns 3 encI1 1 u o :: recP rb sb m2 K2 :: storeP sb m2.t :: F) (fun y => y.1 ≤ o.length ∧ y.2 = nx - (y.1 : Nat)) (fun y => o.length - y.1) ((0, nx)) (⟨Nat.zero_le _, by simp⟩) (by repeat (first | exact trivial | refine And.intro rfl ?_)) (fun w h => by (try dsimp only); first | exact h | exact h.sub | ((try simp only [List.take_zero, List.drop_zero, List.map_nil, List.nil_append, List.zipIdx_nil, List.filter_nil]); exact h.sub)) ?_
    rintro ⟨j, ny⟩ ⟨hj, hny⟩
    dsimp only at hj hny ⊢
    by_cases hjl : j < o.length
    · by_cases hjx : j < d + 1 - q * s
      · have hoj : o[j] = ny := by rw [hou j hjl hjx]; omega
        repeat' (first | (first | (apply GL.isAny; first | refine GL.run (Runs.neqIF rfl rfl rfl) rfl ?_ | refine GL.run (Runs.neBl rfl rfl) rfl ?_) | (rw [hoj])) | first | refine stp ?_ | (refine stpB ?_; intro _) | (refine spl ?_ ?_ <;> intro hc <;> ((try simp only [decide_eq_true_eq, decide_eq_false_iff_not, Bool.not_true, Bool.not_false, ne_eq, Classical.not_not, Int.not_lt, Int.not_le] at hc); (try (exfalso; first | omega | exact hc trivial | exact hc rfl)))))
        all_goals (first | (exfalso; omega) | (exfalso; simp at hc; done) | skip)
        all_goals (refine GE.round (j + 1, ny - 1) ⟨hjl, by dsimp only; omega⟩ (by repeat (first | exact trivial | refine And.intro rfl ?_)) (fun w h => by (try dsimp only); exact h.sub) (by (try dsimp only); omega))
      · repeat' (first | refine stp ?_ | (refine stpB ?_; intro _) | (refine spl ?_ ?_ <;> intro hc <;> ((try simp only [decide_eq_true_eq, decide_eq_false_iff_not, Bool.not_true, Bool.not_false, ne_eq, Classical.not_not, Int.not_lt, Int.not_le] at hc); (try (exfalso; first | omega | exact hc trivial | exact hc rfl)))))
        all_goals (first | (exfalso; omega) | (exfalso; simp at hc; done) | skip)
        all_goals (refine GE.round (j + 1, ny - 1) ⟨hjl, by dsimp only; omega⟩ (by repeat (first | exact trivial | refine And.intro rfl ?_)) (fun w h => by (try dsimp only); exact h.sub) (by (try dsimp only); omega))
    obtain rfl : j = o.length := by omega
    repeat' (first | ((apply GL.isAny; first | refine GL.run (Runs.neqIF rfl rfl rfl) rfl ?_ | refine GL.run (Runs.neBl rfl rfl) rfl ?_)) | first | refine stp ?_ | (refine stpB ?_; intro _) | (refine spl ?_ ?_ <;> intro hc <;> ((try simp only [decide_eq_true_eq, decide_eq_false_iff_not, Bool.not_true, Bool.not_false, ne_eq, Classical.not_not, Int.not_lt, Int.not_le] at hc); (try (exfalso; first | omega | exact hc trivial | exact hc rfl)))))
    all_goals (first | (exfalso; omega) | (exfalso; simp at hc; done) | skip)
    have e3 : q * (s + 1) = q * s + q := Nat.mul_succ q s
    have hm2l : m2.t.ch.length = n := by
      by_cases hd2 : q * (s + 1) ≤ d
      · exact (hT.1 hd2).2.len
      · exact (hT.2 (by omega)).2.2
    refine GE.round (s + 1, m2, K2, ny) ⟨hlt, hO2, hm2l, by dsimp only; omega, fun hs2 => ?_, fun hs2 => ?_⟩ (by repeat (first | exact trivial | refine And.intro rfl ?_)) (fun w h => by (try dsimp only); exact h.sub) (by (try dsimp only); omega)
    · dsimp only at hs2 ⊢
      have h5 : q * (s + 1) ≤ d := Nat.le_trans (Nat.mul_le_mul_left q (by omega)) hk1
      obtain ⟨h6, h7⟩ := hT.1 h5
      exact ⟨h7, by rw [hny, hnx, h6, e3]; omega⟩
    · dsimp only at hs2 ⊢
      obtain ⟨h6, h7, _⟩ := hT.2 (by rw [hs2]; exact hk2)
      exact ⟨h6, h7⟩
  obtain rfl : s = k := by omega
  obtain ⟨hcx, hpl⟩ := hFn rfl
  have hto : St.told m.t (x : Nat) = (m.t.c (x : Nat), true) := by unfold St.told; rw [if_neg (by unfold St.S.out; omega)]
  rw [hcx] at hto
  have hcl := hO.inv.phc (x := x) (by omega) (by rw [hcx])
  have cC := fun (w : World) (F : List HProp) h' => store_Chunk sb m.t K hO.inv (by omega) (x : Nat) w F h'
  rw [hto] at cC
  have cL := fun (w : World) (F : List HProp) h' => store_Clean sb m.t K hO.inv (by omega) (x : Nat) w F h'
  rw [hcl] at cL
  have cA := fun (w : World) (F : List HProp) h' => rec_Ahead rb sb m K hO (by omega) (x : Nat) w F h'
  rw [hpl] at cA
  repeat' (first | (first | (apply GL.isAny; refine GL.run (Runs.eqlInts (cs := #[.int .i64 0, .int .i64 0, .int .i64 1]) (ds := #[.int .i64 0, .int .i64 0, .int .i64 1]) (m := 3) rfl rfl rfl rfl) rfl ?_) | (apply GL.isCall; refine GL.call1 rfl rfl (fun w h => law25_works w _ h) ?_) | (apply GL.isAlloc; refine GL.alloc (e := 84) rfl (fun b28 => ?_)) | (apply GL.isCall; refine GL.callH1 (storeP sb m.t) (vs := [.pointer (some ⟨sb, 0, none⟩), .int .i64 (x : Nat)]) rfl rfl (fun w h => cC w _ h) ?_) | (apply GL.isCall; refine GL.callH1 (storeP sb m.t) (vs := [.pointer (some ⟨sb, 0, none⟩), .int .i64 (x : Nat)]) rfl rfl (fun w h => cL w _ h) ?_) | (apply GL.isCall; refine GL.callH1 (recP rb sb m K) (vs := [.pointer (some ⟨rb, 0, none⟩), .int .i64 (x : Nat)]) rfl rfl (fun w h => cA w _ h) ?_)) | first | refine stp ?_ | (refine stpB ?_; intro _) | (refine spl ?_ ?_ <;> intro hc <;> ((try simp only [decide_eq_true_eq, decide_eq_false_iff_not, Bool.not_true, Bool.not_false, ne_eq, Classical.not_not, Int.not_lt, Int.not_le] at hc); (try (exfalso; first | omega | exact hc trivial | exact hc rfl)))))
  all_goals (first | (exfalso; omega) | (exfalso; simp at hc; done) | skip)
  all_goals (refine GE.resOne rfl (by (repeat (first | apply Res.nil | (apply Res.tmp; rfl) | (refine Res.cellA rfl rfl rfl ?_) | (refine Res.cell1 rfl rfl ?_)))) (fun w h => ?_); exact ⟨rfl, h.sub⟩)
end Go.Proofs.YtipkgamiejenaaaGreat

/- Arguments: bytes, and rows of bytes. -/
namespace Go.Proofs.YtipkgamiejenaaaGreat
open Go Go.RowKit Go.MapKept Go.ChangeShapes Go.WideShapes Go.Deep Go.Joins
set_option linter.unusedVariables false
set_option maxRecDepth 100000
namespace Rw
def encU8 (a : Int) : List Value := [.int .u8 a]
instance : Enc encU8 1 := ⟨fun _ => rfl, fun _ => by simp [encU8, Value.oneCell'], by omega⟩
theorem wf_u8 {a : Int} (h : (Lit.int .u8 a).wf = true) : 0 ≤ a ∧ a ≤ 255 := by
  have h1 : IntKind.u8.min = 0 := by decide
  have h2 : IntKind.u8.max = 255 := by decide
  simp [Lit.wf, h1, h2] at h
  exact h
section
variable {H : Type} {enc0 : TypeId × Value → H} {W : World} {sp : Nat → Bool} {held : Bool}
end
end Rw
end Go.Proofs.YtipkgamiejenaaaGreat
