import Derived.Test.YtfiggkbclldccaaGreatMg19
import Derived.Test.YtfiggkbclldccaaGreatMg5
/- The laws of chapter 19: the example, and StoreNone. -/
namespace Go.Proofs.YtfiggkbclldccaaGreat
open Go Go.RowKit Go.MapKept
set_option linter.unusedVariables false
set_option linter.unusedSectionVars false
set_option linter.unusedSimpArgs false
set_option maxRecDepth 100000
set_option maxHeartbeats 4000000
namespace St
def w1 : S := (take (new 2 64) 7).1
def w2 : S := (put w1 0 0 3 [97, 98, 99]).1
def w3 : S := (give w2 0 7).1
def w4 : S := (start w3 0).1
def w5 : S := (step w4 0 64).1
theorem wr1 : (take (new 2 64) 7).2.1 = 0 ∧ (take (new 2 64) 7).2.2 = 0 := by decide +kernel
theorem wr2 : (put w1 0 0 3 [97, 98, 99]).2 = 0 := by decide +kernel
theorem wr3 : (give w2 0 7).2 = 0 := by decide +kernel
theorem wr4 : (start w3 0).2 = 0 := by decide +kernel
theorem wr5 : (step w4 0 64).2.1 = true ∧ (step w4 0 64).2.2 = 0 := by decide +kernel
theorem wr6 : (told w5 0).1.phase = 0 ∧ (told w5 0).1.owner = 0 ∧ (told w5 0).1.gen = 1 ∧ (told w5 0).2 = true := by decide +kernel
theorem wr7 : clean w5 0 = true := by decide +kernel
theorem wr8 : cntP w5.ch 0 = 2 ∧ cntP w5.ch 1 = 0 ∧ cntP w5.ch 2 = 0 ∧ cntP w5.ch 3 = 0 := by decide +kernel
theorem wi0 : Inv (new 2 64) 0 := Inv.new 2 64 (by omega) (by omega)
theorem wi1 : Inv w1 1 := wi0.take 7
theorem wi2 : Inv w2 2 := wi1.put 0 0 3 _
theorem wi3 : Inv w3 3 := wi2.give 0 7
theorem wi4 : Inv w4 4 := wi3.start 0
theorem wi5 : Inv w5 5 := wi4.step 0 64
end St
theorem law19_works (w : World) (F : List HProp) (hw : holds w F) :
    Ct Tryz.prog 28 #[] w fun e w' => e = .returned (.bool true) ∧ holds w' F := by
  refine Ct.go (args := []) Tryz.func28 rfl rfl rfl hw ?_
  have c0 := fun w (F : List HProp) h => store_Make 2 64 (by omega) (by omega) (by omega) (by omega) (by kernel_rfl) w F h
  have c1 := fun sb w (F : List HProp) h => store_Take sb _ 0 St.wi0 (by omega) 7 w F h
  have c2 := fun sb w (F : List HProp) h => store_Store sb _ 1 St.wi1 (by omega) 0 0 3 [97, 98, 99] (by decide) w F h
  have c3 := fun sb w (F : List HProp) h => store_Defer sb _ 2 St.wi2 (by omega) 0 7 w F h
  have c4 := fun sb w (F : List HProp) h => store_Begin sb _ 3 St.wi3 (by omega) 0 w F h
  have c5 := fun sb w (F : List HProp) h => store_Step sb _ 4 St.wi4 (by omega) 0 64 w F h
  have c6 := fun sb w (F : List HProp) h => store_Chunk sb _ 5 St.wi5 (by omega) 0 w F h
  have c7 := fun sb w (F : List HProp) h => store_Clean sb _ 5 St.wi5 (by omega) 0 w F h
  have c8 := fun sb w (F : List HProp) h => store_Many sb _ 5 St.wi5 (by omega) w F h
  rw [St.wr1.1, St.wr1.2, show (St.take (St.new 2 64) 7).1 = St.w1 from rfl] at c1
  rw [St.wr2, show (St.put St.w1 0 0 3 [97, 98, 99]).1 = St.w2 from rfl] at c2
  rw [St.wr3, show (St.give St.w2 0 7).1 = St.w3 from rfl] at c3
  rw [St.wr4, show (St.start St.w3 0).1 = St.w4 from rfl] at c4
  rw [St.wr5.1, St.wr5.2, show (St.step St.w4 0 64).1 = St.w5 from rfl] at c5
  unfold encCk at c6
  rw [St.wr6.1, St.wr6.2.1, St.wr6.2.2.1, St.wr6.2.2.2] at c6
  rw [St.wr7] at c7
  rw [St.wr8.1, St.wr8.2.1, St.wr8.2.2.1, St.wr8.2.2.2] at c8
  repeat' (first | (first | (apply GL.isAny; refine GL.run (Runs.eqlInts (cs := #[.int .i64 0, .int .i64 0, .int .i64 1]) (ds := #[.int .i64 0, .int .i64 0, .int .i64 1]) (m := 3) rfl rfl rfl rfl) rfl ?_) | (apply GL.isAny; refine GL.run (Runs.eqlInts (cs := #[.int .i64 2, .int .i64 0, .int .i64 0, .int .i64 0]) (ds := #[.int .i64 2, .int .i64 0, .int .i64 0, .int .i64 0]) (m := 4) rfl rfl rfl rfl) rfl ?_) | (apply GL.isCall; refine GL.call (vs := [.int .i64 ((2 : Nat) : Int), .int .i64 ((64 : Nat) : Int)]) rfl rfl (fun w h => c0 w _ h) (fun sb => ?_)) | (apply GL.isCall; refine GL.call1 (vs := [.pointer (some ⟨sb, 0, none⟩), .int .i64 7]) rfl rfl (fun w h => c1 sb w _ h) ?_) | (apply GL.isCall; refine GL.call1 (vs := [.pointer (some ⟨sb, 0, none⟩), .int .i64 0, .int .i64 0, .int .i64 3, .string (bs [97, 98, 99])]) rfl rfl (fun w h => c2 sb w _ h) ?_) | (apply GL.isCall; refine GL.call1 (vs := [.pointer (some ⟨sb, 0, none⟩), .int .i64 0, .int .i64 7]) rfl rfl (fun w h => c3 sb w _ h) ?_) | (apply GL.isCall; refine GL.call1 (vs := [.pointer (some ⟨sb, 0, none⟩), .int .i64 0]) rfl rfl (fun w h => c4 sb w _ h) ?_) | (apply GL.isCall; refine GL.call1 (vs := [.pointer (some ⟨sb, 0, none⟩), .int .i64 0, .int .i64 64]) rfl rfl (fun w h => c5 sb w _ h) ?_) | (apply GL.isCall; refine GL.callH1 (storeP sb St.w5) (vs := [.pointer (some ⟨sb, 0, none⟩), .int .i64 0]) rfl rfl (fun w h => c6 sb w _ h) ?_) | (apply GL.isAlloc; refine GL.alloc rfl (fun b4 => ?_)) | (apply GL.isCall; refine GL.callH1 (storeP sb St.w5) (vs := [.pointer (some ⟨sb, 0, none⟩), .int .i64 0]) rfl rfl (fun w h => c7 sb w _ h) ?_) | (apply GL.isCall; refine GL.callH1 (storeP sb St.w5) (vs := [.pointer (some ⟨sb, 0, none⟩)]) rfl rfl (fun w h => c8 sb w _ h) ?_)) | first | (apply GL.isAny; first | refine GL.runA rfl ?_ | (apply GL.isStore; first | refine GL.storeBlk rfl rfl rfl rfl rfl ?_ | refine GL.storeWhole rfl rfl rfl rfl rfl ?_ | refine GL.storeBlkA rfl rfl rfl rfl rfl ?_) | refine GL.guardY rfl rfl ?_ | refine GL.guardN rfl rfl rfl ?_ | refine GL.guardU rfl rfl rfl ?_ | (apply GL.isBox; first | refine GL.boxA rfl rfl (fun _ => ?_) | refine GL.box1 rfl rfl rfl (fun _ => ?_) | refine GL.box rfl rfl (fun _ => ?_)) | (apply GL.isBuildS; first | refine GL.buildSlice1A rfl rfl rfl rfl rfl (fun _ => ?_) | refine GL.buildSlice1 rfl rfl rfl rfl rfl (fun _ => ?_)) | (apply GL.isCall; refine GL.append1 _ rfl rfl rfl rfl (by rfl) (by omega) (by omega) rfl (fun _ => ?_)) | (apply GL.isAlloc; refine GL.alloc rfl (fun _ => ?_))) | apply GL.nil | first | apply G.seq | apply G.region | apply G.block | apply G.skip | apply G.exit | apply G.ret | (apply G.isCond; first | refine G.condT rfl ?_ | refine G.condF rfl ?_) | refine G.draw (by kernel_rfl) (by kernel_rfl) ?_ | (apply GE.isAny; first | apply GE.again | apply GE.thenG | apply GE.blockN | apply GE.blockE | apply GE.thenE | apply GE.thenR | apply GE.blockR | refine GE.blockO rfl ?_ | apply GE.only) | (apply GD.isAny; first | refine GD.runA rfl ?_ | refine GD.guardY rfl rfl ?_ | refine GD.guardN rfl rfl rfl ?_ | refine GD.guardU rfl rfl rfl ?_) | apply GD.nilE | apply GD.nilL | (apply GT.isAny; refine GT.runA rfl rfl ?_) | ((first | (apply GL.isAny; refine GL.guard rfl rfl (fun hc => ?_) (fun hc => ?_)) | (apply G.isCond; refine G.cond rfl (fun hc => ?_) (fun hc => ?_)) | (apply GD.isAny; refine GD.guard rfl rfl (fun hc => ?_) (fun hc => ?_))) <;> ((try simp only [decide_eq_true_eq, decide_eq_false_iff_not, Bool.not_true, Bool.not_false, ne_eq, Classical.not_not, Int.not_lt, Int.not_le] at hc); (try (exfalso; first | omega | exact hc trivial | exact hc rfl)))))
  all_goals (first | (exfalso; simp at hc; done) | skip)
  all_goals (refine GE.resOne rfl (by (repeat (first | apply Res.nil | (apply Res.tmp; rfl) | (refine Res.cellA rfl rfl rfl ?_) | (refine Res.cell1 rfl rfl ?_)))) (fun w h => ?_); exact ⟨rfl, h.sub⟩)
end Go.Proofs.YtfiggkbclldccaaGreat

/- '==' and '!=' of bools. -/
namespace Go.Proofs.YtfiggkbclldccaaGreat
open Go Go.RowKit Go.MapKept
set_option linter.unusedVariables false
section
variable {P : Program} {n : Nat} {env : Env} {F : List HProp} {x y : Operand} {xT yT : TypeId}
class BoT (P : Program) (t : TypeId) : Prop where
  ok : P.underlying t = some .bool
theorem run_eq_bo {t : TypeId} (hm : P.underlying t = some .bool) (a b : Bool) (w : World) (d : Nat) : (Op.equalIn (d + 1) t (.bool a) (.bool b)).run P w = .ok (a == b) w := by
  simp [Op.equalIn, run_underlying hm, Result.andThen]
theorem Runs.neBl [ht : BoT P xT] {a b : Bool} (hx : opnd env x = some (.bool a)) (hy : opnd env y = some (.bool b)) : Runs P n env F (.binOp .neq xT x y yT) (.bool (decide (a ≠ b))) := .mk fun ac w ty pos aft g d hf hw => by
  have e2 : (Op.equal xT (.bool a) (.bool b)).run P w = .ok (a == b) w := run_eq_bo ht.ok a b w 9999
  simp [execOp, hf.eval hx, hf.eval hy, eqGuard, binOp, e2, Result.andThen]
  cases a <;> cases b <;> rfl
end
instance : BoT Tryz.prog 4 := ⟨by kernel_rfl⟩
end Go.Proofs.YtfiggkbclldccaaGreat

/- The law StoreRound of chapter 19. -/
namespace Go.Proofs.YtfiggkbclldccaaGreat
open Go Go.RowKit Go.MapKept
set_option linter.unusedVariables false
set_option linter.unusedSectionVars false
set_option linter.unusedSimpArgs false
set_option maxRecDepth 100000
set_option maxHeartbeats 4000000
section
variable {P : Program} {n k d : Nat} {env : Env} {F F0 : List HProp} {ops : Array Oper} {rest : List Oper} {ty : TypeId} {pos : String} {aft : Array Edge} {Z : Act → Prop}
theorem GD.callP {f : FuncId} {xs : List Operand} {ts : Array TypeId} {vs : List Value} {v : Value} (X : HProp) [hX : Has F X F0] [ho : Own P f] (hx : opnds env xs = some vs) (hd : Nat.blt d n = true)
    (hc : ∀ w G, holds w (X :: (F0 ++ G)) → Ct P f vs.toArray w fun e w' => e = .returned v ∧ holds w' (X :: (F0 ++ G))) (h : GD P n ops F Z (k + 1) rest ((d, v) :: env)) :
    GD P n ops F Z k (⟨some d, .call { callee := .value (.func f), args := xs.toArray, argTypes := ts }, ty, pos, aft, none⟩ :: rest) env :=
  GD.call hx hd (fun w F' hw => by
    have hp : (F ++ F').Perm (X :: (F0 ++ F')) := hX.perm.append_right F'
    exact (hc w F' (hw.perm hp)).mono fun e w' ⟨he, hh⟩ => ⟨he, hh.perm hp.symm⟩) h
end
structure ActM where
  kd : Int
  i : Int
  ow : Int
  ge : Int
  at_ : Int
  n : Int
  tx : List UInt8
def encAct (a : ActM) : List Value := [.int .i64 a.kd, .int .i64 a.i, .int .i64 a.ow, .int .i64 a.ge, .int .i64 a.at_, .int .i64 a.n, .string (bs a.tx)]
instance : Enc encAct 7 := ⟨fun _ => rfl, fun _ => by simp [encAct, Value.oneCell'], by omega⟩
namespace St
theorem take_len (t : S) (ow : Int) : (take t ow).1.ch.length = t.ch.length := by
  unfold take
  split
  · rfl
  · cases t.stack.getLast? with
    | none => rfl
    | some i => simp
theorem give_len (t : S) (i ow : Int) : (give t i ow).1.ch.length = t.ch.length := by unfold give; split; rfl; split; rfl; simp
theorem start_len (t : S) (i : Int) : (start t i).1.ch.length = t.ch.length := by unfold start; split; rfl; split; rfl; simp
theorem step_len (t : S) (i n : Int) : (step t i n).1.ch.length = t.ch.length := by
  unfold step
  split; rfl
  split; rfl
  split; rfl
  simp
theorem put_len (t : S) (i ge at_ : Int) (s : List UInt8) : (put t i ge at_ s).1.ch.length = t.ch.length := by
  unfold put
  split; rfl
  split; rfl
  split; rfl
  rfl
theorem gens_snoc (l : List ChunkM) (k : Nat) (hk : k < l.length) : gens (l.take (k + 1)) = gens (l.take k) + (l[k]).gen := by
  unfold gens
  rw [List.take_succ_eq_append_getElem hk, List.map_append, List.sum_append]
  simp
theorem gens_bd (K : Int) : ∀ l : List ChunkM, (∀ c ∈ l, 0 ≤ c.gen ∧ c.gen ≤ K) → 0 ≤ gens l ∧ gens l ≤ (l.length : Int) * K
  | [], _ => by simp [gens]
  | a :: l, h => by
    have ih := gens_bd K l fun c hc => h c (by simp [hc])
    have ha := h a (by simp)
    simp only [gens, List.map_cons, List.sum_cons, List.length_cons] at ih ⊢
    have : ((l.length + 1 : Nat) : Int) * K = (l.length : Int) * K + K := by rw [Int.natCast_succ, Int.add_mul, Int.one_mul]
    omega
theorem Inv.gens_all {t : S} {K : Nat} (h : Inv t K) : ∀ c ∈ t.ch, 0 ≤ c.gen ∧ c.gen ≤ (K : Int) := fun c hc => by
  obtain ⟨i, hi, rfl⟩ := List.getElem_of_mem hc
  exact (h.cell i hi).ge
theorem wi4r : Inv (new 4 64) 0 := Inv.new 4 64 (by omega) (by omega)
theorem cntP_nn (l : List ChunkM) (p : Int) : 0 ≤ cntP l p := Int.natCast_nonneg _
end St
theorem law19_Round (v : Value) (L : List ActM) (w : World) (F : List HProp) [hrd : Reads F v encAct 7 L] (hw : holds w F) :
    Ct Tryz.prog 4 #[v] w fun e w' => e = .returned (.bool true) ∧ holds w' F := by
  refine Ct.go (args := [v]) Tryz.func4 rfl rfl rfl hw ?_
  by_cases hL : (L.length : Int) > 80
  · repeat' (first | ((apply GL.isCall; refine GL.call1 rfl rfl (fun w h => law19_works w _ h) ?_)) | first | (apply GL.isAny; first | refine GL.runA rfl ?_ | (apply GL.isStore; first | refine GL.storeBlk rfl rfl rfl rfl rfl ?_ | refine GL.storeWhole rfl rfl rfl rfl rfl ?_ | refine GL.storeBlkA rfl rfl rfl rfl rfl ?_) | refine GL.guardY rfl rfl ?_ | refine GL.guardN rfl rfl rfl ?_ | refine GL.guardU rfl rfl rfl ?_ | (apply GL.isBox; first | refine GL.boxA rfl rfl (fun _ => ?_) | refine GL.box1 rfl rfl rfl (fun _ => ?_) | refine GL.box rfl rfl (fun _ => ?_)) | (apply GL.isBuildS; first | refine GL.buildSlice1A rfl rfl rfl rfl rfl (fun _ => ?_) | refine GL.buildSlice1 rfl rfl rfl rfl rfl (fun _ => ?_)) | (apply GL.isCall; refine GL.append1 _ rfl rfl rfl rfl (by rfl) (by omega) (by omega) rfl (fun _ => ?_)) | (apply GL.isAlloc; refine GL.alloc rfl (fun _ => ?_))) | apply GL.nil | first | apply G.seq | apply G.region | apply G.block | apply G.skip | apply G.exit | apply G.ret | (apply G.isCond; first | refine G.condT rfl ?_ | refine G.condF rfl ?_) | refine G.draw (by kernel_rfl) (by kernel_rfl) ?_ | (apply GE.isAny; first | apply GE.again | apply GE.thenG | apply GE.blockN | apply GE.blockE | apply GE.thenE | apply GE.thenR | apply GE.blockR | refine GE.blockO rfl ?_ | apply GE.only) | (apply GD.isAny; first | refine GD.runA rfl ?_ | refine GD.guardY rfl rfl ?_ | refine GD.guardN rfl rfl rfl ?_ | refine GD.guardU rfl rfl rfl ?_) | apply GD.nilE | apply GD.nilL | (apply GT.isAny; refine GT.runA rfl rfl ?_) | ((first | (apply GL.isAny; refine GL.guard rfl rfl (fun hc => ?_) (fun hc => ?_)) | (apply G.isCond; refine G.cond rfl (fun hc => ?_) (fun hc => ?_)) | (apply GD.isAny; refine GD.guard rfl rfl (fun hc => ?_) (fun hc => ?_))) <;> ((try simp only [decide_eq_true_eq, decide_eq_false_iff_not, Bool.not_true, Bool.not_false, ne_eq, Classical.not_not, Int.not_lt, Int.not_le] at hc); (try (exfalso; first | omega | exact hc trivial | exact hc rfl)))))
    all_goals (first | (exfalso; omega) | (refine GE.resOne rfl (by (repeat (first | apply Res.nil | (apply Res.tmp; rfl) | (refine Res.cellA rfl rfl rfl ?_) | (refine Res.cell1 rfl rfl ?_)))) (fun w h => ?_); exact ⟨rfl, h.sub⟩))
  repeat' (first | ((apply GL.isCall; refine GL.call (vs := [.int .i64 ((4 : Nat) : Int), .int .i64 ((64 : Nat) : Int)]) rfl rfl (fun w h => store_Make 4 64 (by omega) (by omega) (by omega) (by omega) (by kernel_rfl) w _ h) (fun sb => ?_))) | first | (apply GL.isAny; first | refine GL.runA rfl ?_ | (apply GL.isStore; first | refine GL.storeBlk rfl rfl rfl rfl rfl ?_ | refine GL.storeWhole rfl rfl rfl rfl rfl ?_ | refine GL.storeBlkA rfl rfl rfl rfl rfl ?_) | refine GL.guardY rfl rfl ?_ | refine GL.guardN rfl rfl rfl ?_ | refine GL.guardU rfl rfl rfl ?_ | (apply GL.isBox; first | refine GL.boxA rfl rfl (fun _ => ?_) | refine GL.box1 rfl rfl rfl (fun _ => ?_) | refine GL.box rfl rfl (fun _ => ?_)) | (apply GL.isBuildS; first | refine GL.buildSlice1A rfl rfl rfl rfl rfl (fun _ => ?_) | refine GL.buildSlice1 rfl rfl rfl rfl rfl (fun _ => ?_)) | (apply GL.isCall; refine GL.append1 _ rfl rfl rfl rfl (by rfl) (by omega) (by omega) rfl (fun _ => ?_)) | (apply GL.isAlloc; refine GL.alloc rfl (fun _ => ?_))) | apply GL.nil | first | apply G.seq | apply G.region | apply G.block | apply G.skip | apply G.exit | apply G.ret | (apply G.isCond; first | refine G.condT rfl ?_ | refine G.condF rfl ?_) | refine G.draw (by kernel_rfl) (by kernel_rfl) ?_ | (apply GE.isAny; first | apply GE.again | apply GE.thenG | apply GE.blockN | apply GE.blockE | apply GE.thenE | apply GE.thenR | apply GE.blockR | refine GE.blockO rfl ?_ | apply GE.only) | (apply GD.isAny; first | refine GD.runA rfl ?_ | refine GD.guardY rfl rfl ?_ | refine GD.guardN rfl rfl rfl ?_ | refine GD.guardU rfl rfl rfl ?_) | apply GD.nilE | apply GD.nilL | (apply GT.isAny; refine GT.runA rfl rfl ?_) | ((first | (apply GL.isAny; refine GL.guard rfl rfl (fun hc => ?_) (fun hc => ?_)) | (apply G.isCond; refine G.cond rfl (fun hc => ?_) (fun hc => ?_)) | (apply GD.isAny; refine GD.guard rfl rfl (fun hc => ?_) (fun hc => ?_))) <;> ((try simp only [decide_eq_true_eq, decide_eq_false_iff_not, Bool.not_true, Bool.not_false, ne_eq, Classical.not_not, Int.not_lt, Int.not_le] at hc); (try (exfalso; first | omega | exact hc trivial | exact hc rfl)))))
  all_goals (first | (exfalso; simp at hc; done) | skip)
  refine G.loopK [0, 3] (Nat × St.S) (fun y => [(5, .int .i64 y.1)]) (fun y => storeP sb y.2 :: F) (fun y => y.1 ≤ L.length ∧ St.Inv y.2 y.1 ∧ y.2.ch.length = 4) (fun y => L.length - y.1) ((0, St.new 4 64)) (⟨Nat.zero_le _, St.wi4r, by kernel_rfl⟩) (by repeat (first | exact trivial | refine And.intro rfl ?_)) (fun w h => by (try dsimp only); first | exact h | exact h.sub | ((try simp only [List.take_zero, List.drop_zero, List.map_nil, List.nil_append, List.zipIdx_nil, List.filter_nil]); exact h.sub)) ?_
  rintro ⟨i, t⟩ ⟨hi, hI, hn⟩
  dsimp only at hi hI hn ⊢
  by_cases hlt : i < L.length
  · by_cases hx : ((L[i]).tx.length : Int) > 400
    · repeat' (first | (first | (apply GL.isAny; refine GL.run (Runs.strLen rfl) rfl ?_) | (apply GL.isCall; refine GL.call1 rfl rfl (fun w h => law19_works w _ h) ?_)) | first | (apply GL.isAny; first | refine GL.runA rfl ?_ | (apply GL.isStore; first | refine GL.storeBlk rfl rfl rfl rfl rfl ?_ | refine GL.storeWhole rfl rfl rfl rfl rfl ?_ | refine GL.storeBlkA rfl rfl rfl rfl rfl ?_) | refine GL.guardY rfl rfl ?_ | refine GL.guardN rfl rfl rfl ?_ | refine GL.guardU rfl rfl rfl ?_ | (apply GL.isBox; first | refine GL.boxA rfl rfl (fun _ => ?_) | refine GL.box1 rfl rfl rfl (fun _ => ?_) | refine GL.box rfl rfl (fun _ => ?_)) | (apply GL.isBuildS; first | refine GL.buildSlice1A rfl rfl rfl rfl rfl (fun _ => ?_) | refine GL.buildSlice1 rfl rfl rfl rfl rfl (fun _ => ?_)) | (apply GL.isCall; refine GL.append1 _ rfl rfl rfl rfl (by rfl) (by omega) (by omega) rfl (fun _ => ?_)) | (apply GL.isAlloc; refine GL.alloc rfl (fun _ => ?_))) | apply GL.nil | first | apply G.seq | apply G.region | apply G.block | apply G.skip | apply G.exit | apply G.ret | (apply G.isCond; first | refine G.condT rfl ?_ | refine G.condF rfl ?_) | refine G.draw (by kernel_rfl) (by kernel_rfl) ?_ | (apply GE.isAny; first | apply GE.again | apply GE.thenG | apply GE.blockN | apply GE.blockE | apply GE.thenE | apply GE.thenR | apply GE.blockR | refine GE.blockO rfl ?_ | apply GE.only) | (apply GD.isAny; first | refine GD.runA rfl ?_ | refine GD.guardY rfl rfl ?_ | refine GD.guardN rfl rfl rfl ?_ | refine GD.guardU rfl rfl rfl ?_) | apply GD.nilE | apply GD.nilL | (apply GT.isAny; refine GT.runA rfl rfl ?_) | ((first | (apply GL.isAny; refine GL.guard rfl rfl (fun hc => ?_) (fun hc => ?_)) | (apply G.isCond; refine G.cond rfl (fun hc => ?_) (fun hc => ?_)) | (apply GD.isAny; refine GD.guard rfl rfl (fun hc => ?_) (fun hc => ?_))) <;> ((try simp only [decide_eq_true_eq, decide_eq_false_iff_not, Bool.not_true, Bool.not_false, ne_eq, Classical.not_not, Int.not_lt, Int.not_le] at hc); (try (exfalso; first | omega | exact hc trivial | exact hc rfl)))))
      all_goals (first | (exfalso; omega) | (refine GE.resOne rfl (by (repeat (first | apply Res.nil | (apply Res.tmp; rfl) | (refine Res.cellA rfl rfl rfl ?_) | (refine Res.cell1 rfl rfl ?_)))) (fun w h => ?_); exact ⟨rfl, h.sub⟩))
    have hk1 : i ≤ 1000000 := by omega
    have J0 := hI.take 1
    have J1 := hI.give (L[i]).i (St.told t (L[i]).i).1.owner
    have J2 := hI.start (L[i]).i
    have J3 := hI.step (L[i]).i (L[i]).n
    have J5 := hI.put (L[i]).i (St.told t (L[i]).i).1.gen (L[i]).at_ (L[i]).tx
    have J9 := hI.mono (show i ≤ i + 1 by omega)
    repeat' (first | (first | (apply GL.isAny; refine GL.run (Runs.strLen rfl) rfl ?_) | (apply GL.isAlloc; refine GL.alloc (e := 59) rfl (fun b6 => ?_)) | (apply GL.isAlloc; refine GL.alloc (e := 61) rfl (fun b7 => ?_)) | (apply GL.isCall; refine GL.callH1 (storeP sb t) (vs := [.pointer (some ⟨sb, 0, none⟩), .int .i64 (L[i]).i]) rfl rfl (fun w h => store_Chunk sb t i hI hk1 (L[i]).i w _ h) ?_) | (refine G.isRegion 13 ?_; apply G.joinX (α := St.S) (fun x => [(0, v), (3, .pointer (some ⟨sb, 0, none⟩)), (5, .int .i64 i)]) (fun x => storeP sb x :: F) (fun x => St.Inv x (i + 1) ∧ x.ch.length = 4); intro K; apply G.region) | (refine G.isRegion 24 ?_; first | exact ((K (St.take t 1).1 ⟨J0, (St.take_len _ _).trans hn⟩).sub (by repeat (first | exact trivial | refine And.intro rfl ?_))).imp (fun w h => h.sub) | exact ((K (St.give t (L[i]).i (St.told t (L[i]).i).1.owner).1 ⟨J1, (St.give_len _ _ _).trans hn⟩).sub (by repeat (first | exact trivial | refine And.intro rfl ?_))).imp (fun w h => h.sub) | exact ((K (St.start t (L[i]).i).1 ⟨J2, (St.start_len _ _).trans hn⟩).sub (by repeat (first | exact trivial | refine And.intro rfl ?_))).imp (fun w h => h.sub) | exact ((K (St.step t (L[i]).i (L[i]).n).1 ⟨J3, (St.step_len _ _ _).trans hn⟩).sub (by repeat (first | exact trivial | refine And.intro rfl ?_))).imp (fun w h => h.sub) | exact ((K (St.put t (L[i]).i (St.told t (L[i]).i).1.gen (L[i]).at_ (L[i]).tx).1 ⟨J5, (St.put_len _ _ _ _ _).trans hn⟩).sub (by repeat (first | exact trivial | refine And.intro rfl ?_))).imp (fun w h => h.sub) | exact ((K t ⟨J9, hn⟩).sub (by repeat (first | exact trivial | refine And.intro rfl ?_))).imp (fun w h => h.sub)) | (apply GL.isCall; refine GL.callH1 (storeP sb t) (vs := [.pointer (some ⟨sb, 0, none⟩), .int .i64 1]) rfl rfl (fun w h => store_Take sb t i hI hk1 1 w _ h) ?_) | (apply GL.isCall; refine GL.callH1 (storeP sb t) (vs := [.pointer (some ⟨sb, 0, none⟩), .int .i64 (L[i]).i, .int .i64 (St.told t (L[i]).i).1.owner]) rfl rfl (fun w h => store_Defer sb t i hI hk1 (L[i]).i (St.told t (L[i]).i).1.owner w _ h) ?_) | (apply GL.isCall; refine GL.callH1 (storeP sb t) (vs := [.pointer (some ⟨sb, 0, none⟩), .int .i64 (L[i]).i]) rfl rfl (fun w h => store_Begin sb t i hI hk1 (L[i]).i w _ h) ?_) | (apply GL.isCall; refine GL.callH1 (storeP sb t) (vs := [.pointer (some ⟨sb, 0, none⟩), .int .i64 (L[i]).i, .int .i64 (L[i]).n]) rfl rfl (fun w h => store_Step sb t i hI hk1 (L[i]).i (L[i]).n w _ h) ?_) | (apply GL.isCall; refine GL.callH1 (storeP sb t) (vs := [.pointer (some ⟨sb, 0, none⟩), .int .i64 (L[i]).i, .int .i64 (St.told t (L[i]).i).1.gen, .int .i64 (L[i]).at_, .string (bs (L[i]).tx)]) rfl rfl (fun w h => store_Store sb t i hI hk1 (L[i]).i (St.told t (L[i]).i).1.gen (L[i]).at_ (L[i]).tx (by omega) w _ h) ?_)) | first | (apply GL.isAny; first | refine GL.runA rfl ?_ | (apply GL.isStore; first | refine GL.storeBlk rfl rfl rfl rfl rfl ?_ | refine GL.storeWhole rfl rfl rfl rfl rfl ?_ | refine GL.storeBlkA rfl rfl rfl rfl rfl ?_) | refine GL.guardY rfl rfl ?_ | refine GL.guardN rfl rfl rfl ?_ | refine GL.guardU rfl rfl rfl ?_ | (apply GL.isBox; first | refine GL.boxA rfl rfl (fun _ => ?_) | refine GL.box1 rfl rfl rfl (fun _ => ?_) | refine GL.box rfl rfl (fun _ => ?_)) | (apply GL.isBuildS; first | refine GL.buildSlice1A rfl rfl rfl rfl rfl (fun _ => ?_) | refine GL.buildSlice1 rfl rfl rfl rfl rfl (fun _ => ?_)) | (apply GL.isCall; refine GL.append1 _ rfl rfl rfl rfl (by rfl) (by omega) (by omega) rfl (fun _ => ?_)) | (apply GL.isAlloc; refine GL.alloc rfl (fun _ => ?_))) | apply GL.nil | first | apply G.seq | apply G.region | apply G.block | apply G.skip | apply G.exit | apply G.ret | (apply G.isCond; first | refine G.condT rfl ?_ | refine G.condF rfl ?_) | refine G.draw (by kernel_rfl) (by kernel_rfl) ?_ | (apply GE.isAny; first | apply GE.again | apply GE.thenG | apply GE.blockN | apply GE.blockE | apply GE.thenE | apply GE.thenR | apply GE.blockR | refine GE.blockO rfl ?_ | apply GE.only) | (apply GD.isAny; first | refine GD.runA rfl ?_ | refine GD.guardY rfl rfl ?_ | refine GD.guardN rfl rfl rfl ?_ | refine GD.guardU rfl rfl rfl ?_) | apply GD.nilE | apply GD.nilL | (apply GT.isAny; refine GT.runA rfl rfl ?_) | ((first | (apply GL.isAny; refine GL.guard rfl rfl (fun hc => ?_) (fun hc => ?_)) | (apply G.isCond; refine G.cond rfl (fun hc => ?_) (fun hc => ?_)) | (apply GD.isAny; refine GD.guard rfl rfl (fun hc => ?_) (fun hc => ?_))) <;> ((try simp only [decide_eq_true_eq, decide_eq_false_iff_not, Bool.not_true, Bool.not_false, ne_eq, Classical.not_not, Int.not_lt, Int.not_le] at hc); (try (exfalso; first | omega | exact hc trivial | exact hc rfl)))))
    rintro t2 ⟨hI2, hn2⟩
    try dsimp only at hI2 hn2 ⊢
    have hsum := St.cntP_sum t2.ch hI2.phs
    have nn0 := St.cntP_nn t2.ch 0
    have nn1 := St.cntP_nn t2.ch 1
    have nn2 := St.cntP_nn t2.ch 2
    have nn3 := St.cntP_nn t2.ch 3
    have hga := hI2.gens_all
    have hk2 : i + 1 ≤ 1000000 := by omega
    have CA := fun w (F : List HProp) h => store_All sb t2 (i + 1) hI2 hk2 w F h
    rw [hn2] at CA hsum
    repeat' (first | (first | (apply GL.isAlloc; refine GL.alloc (e := 69) rfl (fun b9 => ?_)) | (apply GL.isCall; refine GL.callH1 (storeP sb t2) (vs := [.pointer (some ⟨sb, 0, none⟩)]) rfl rfl (fun w h => store_Many sb t2 (i + 1) hI2 hk2 w _ h) ?_) | (apply GL.isCall; refine GL.callH (storeP sb t2) (vs := [.pointer (some ⟨sb, 0, none⟩)]) rfl rfl (fun w h => CA w _ h) (fun u => ?_))) | first | (apply GL.isAny; first | refine GL.runA rfl ?_ | (apply GL.isStore; first | refine GL.storeBlk rfl rfl rfl rfl rfl ?_ | refine GL.storeWhole rfl rfl rfl rfl rfl ?_ | refine GL.storeBlkA rfl rfl rfl rfl rfl ?_) | refine GL.guardY rfl rfl ?_ | refine GL.guardN rfl rfl rfl ?_ | refine GL.guardU rfl rfl rfl ?_ | (apply GL.isBox; first | refine GL.boxA rfl rfl (fun _ => ?_) | refine GL.box1 rfl rfl rfl (fun _ => ?_) | refine GL.box rfl rfl (fun _ => ?_)) | (apply GL.isBuildS; first | refine GL.buildSlice1A rfl rfl rfl rfl rfl (fun _ => ?_) | refine GL.buildSlice1 rfl rfl rfl rfl rfl (fun _ => ?_)) | (apply GL.isCall; refine GL.append1 _ rfl rfl rfl rfl (by rfl) (by omega) (by omega) rfl (fun _ => ?_)) | (apply GL.isAlloc; refine GL.alloc rfl (fun _ => ?_))) | apply GL.nil | first | apply G.seq | apply G.region | apply G.block | apply G.skip | apply G.exit | apply G.ret | (apply G.isCond; first | refine G.condT rfl ?_ | refine G.condF rfl ?_) | refine G.draw (by kernel_rfl) (by kernel_rfl) ?_ | (apply GE.isAny; first | apply GE.again | apply GE.thenG | apply GE.blockN | apply GE.blockE | apply GE.thenE | apply GE.thenR | apply GE.blockR | refine GE.blockO rfl ?_ | apply GE.only) | (apply GD.isAny; first | refine GD.runA rfl ?_ | refine GD.guardY rfl rfl ?_ | refine GD.guardN rfl rfl rfl ?_ | refine GD.guardU rfl rfl rfl ?_) | apply GD.nilE | apply GD.nilL | (apply GT.isAny; refine GT.runA rfl rfl ?_) | ((first | (apply GL.isAny; refine GL.guard rfl rfl (fun hc => ?_) (fun hc => ?_)) | (apply G.isCond; refine G.cond rfl (fun hc => ?_) (fun hc => ?_)) | (apply GD.isAny; refine GD.guard rfl rfl (fun hc => ?_) (fun hc => ?_))) <;> ((try simp only [decide_eq_true_eq, decide_eq_false_iff_not, Bool.not_true, Bool.not_false, ne_eq, Classical.not_not, Int.not_lt, Int.not_le] at hc); (try (exfalso; first | omega | exact hc trivial | exact hc rfl)))))
    refine G.loopK [0, 3, 5, 9, 11] (Nat) (fun k => [(10, .int .i64 (St.gens (t2.ch.take k))), (12, .int .i64 k)]) (fun _ => owns 61 encCk 3 (.slice (some ⟨u, 0, none⟩) 4 4) t2.ch :: storeP sb t2 :: blk b9 (.cells #[.int .i64 (St.cntP t2.ch 0), .int .i64 (St.cntP t2.ch 1), .int .i64 (St.cntP t2.ch 2), .int .i64 (St.cntP t2.ch 3)] 69 (0, 0)) :: F) (fun k => k ≤ 4) (fun k => 4 - k) (0) (Nat.zero_le _) (by repeat (first | exact trivial | refine And.intro rfl ?_)) (fun w h => by (try dsimp only); first | exact h | exact h.sub | ((try simp only [List.take_zero, List.drop_zero, List.map_nil, List.nil_append, List.zipIdx_nil, List.filter_nil]); exact h.sub)) ?_
    intro k hk
    by_cases hkl : k < 4
    · have hkc : k < t2.ch.length := by omega
      have hC := hI2.cell k hkc
      have hs := St.gens_snoc t2.ch k hkc
      have hb1 := St.gens_bd 1000 (t2.ch.take k) (fun c hc => by have := hga c (List.mem_of_mem_take hc); omega)
      have hbl : (t2.ch.take k).length = k := by rw [List.length_take]; omega
      rw [hbl] at hb1
      have hge := hC.ge
      have hob : decide (decide ((t2.ch[k]).phase = 1) ≠ decide (0 < (t2.ch[k]).owner)) = false := by
        rcases hC.ow with h | h
        · rw [decide_eq_true h.1, decide_eq_true h.2]; rfl
        · rw [decide_eq_false h.1, h.2]; rfl
      have CC := fun w (F : List HProp) h => store_Clean sb t2 (i + 1) hI2 hk2 k w F h
      by_cases hp0 : (t2.ch[k]).phase = 0
      · have hcl : St.clean t2 k = true := decide_eq_true (Or.inr (hC.zero hp0))
        rw [hcl] at CC
        repeat' (first | (first | (apply GD.isAny; refine GD.run (by apply Runs.isBin; exact Runs.neBl rfl rfl) rfl ?_) | (apply GD.isAny; refine GD.callP (storeP sb t2) (vs := [.pointer (some ⟨sb, 0, none⟩), .int .i64 k]) rfl rfl (fun w G h => CC w _ h) ?_)) | first | (apply GL.isAny; first | refine GL.runA rfl ?_ | (apply GL.isStore; first | refine GL.storeBlk rfl rfl rfl rfl rfl ?_ | refine GL.storeWhole rfl rfl rfl rfl rfl ?_ | refine GL.storeBlkA rfl rfl rfl rfl rfl ?_) | refine GL.guardY rfl rfl ?_ | refine GL.guardN rfl rfl rfl ?_ | refine GL.guardU rfl rfl rfl ?_ | (apply GL.isBox; first | refine GL.boxA rfl rfl (fun _ => ?_) | refine GL.box1 rfl rfl rfl (fun _ => ?_) | refine GL.box rfl rfl (fun _ => ?_)) | (apply GL.isBuildS; first | refine GL.buildSlice1A rfl rfl rfl rfl rfl (fun _ => ?_) | refine GL.buildSlice1 rfl rfl rfl rfl rfl (fun _ => ?_)) | (apply GL.isCall; refine GL.append1 _ rfl rfl rfl rfl (by rfl) (by omega) (by omega) rfl (fun _ => ?_)) | (apply GL.isAlloc; refine GL.alloc rfl (fun _ => ?_))) | apply GL.nil | first | apply G.seq | apply G.region | apply G.block | apply G.skip | apply G.exit | apply G.ret | (apply G.isCond; first | refine G.condT rfl ?_ | refine G.condF rfl ?_) | refine G.draw (by kernel_rfl) (by kernel_rfl) ?_ | (apply GE.isAny; first | apply GE.again | apply GE.thenG | apply GE.blockN | apply GE.blockE | apply GE.thenE | apply GE.thenR | apply GE.blockR | refine GE.blockO rfl ?_ | apply GE.only) | (apply GD.isAny; first | refine GD.runA rfl ?_ | refine GD.guardY rfl rfl ?_ | refine GD.guardN rfl rfl rfl ?_ | refine GD.guardU rfl rfl rfl ?_) | apply GD.nilE | apply GD.nilL | (apply GT.isAny; refine GT.runA rfl rfl ?_) | ((first | (apply GL.isAny; refine GL.guard rfl rfl (fun hc => ?_) (fun hc => ?_)) | (apply G.isCond; refine G.cond rfl (fun hc => ?_) (fun hc => ?_)) | (apply GD.isAny; refine GD.guard rfl rfl (fun hc => ?_) (fun hc => ?_))) <;> ((try simp only [decide_eq_true_eq, decide_eq_false_iff_not, Bool.not_true, Bool.not_false, ne_eq, Classical.not_not, Int.not_lt, Int.not_le] at hc); (try (exfalso; first | omega | exact hc trivial | exact hc rfl)))))
        all_goals (first | (exfalso; simp at hc; done) | (exfalso; omega) | (exfalso; rw [decide_eq_false_iff_not] at hob; exact hob hc) | skip)
        all_goals (refine GE.round (k + 1) hkl (by (try dsimp only); rw [hs]; repeat (first | exact trivial | refine And.intro rfl ?_)) (fun w h => by (try dsimp only); exact h.sub) (by (try dsimp only); omega))
      · repeat' (first | (first | (apply GD.isAny; refine GD.run (by apply Runs.isBin; exact Runs.neBl rfl rfl) rfl ?_)) | first | (apply GL.isAny; first | refine GL.runA rfl ?_ | (apply GL.isStore; first | refine GL.storeBlk rfl rfl rfl rfl rfl ?_ | refine GL.storeWhole rfl rfl rfl rfl rfl ?_ | refine GL.storeBlkA rfl rfl rfl rfl rfl ?_) | refine GL.guardY rfl rfl ?_ | refine GL.guardN rfl rfl rfl ?_ | refine GL.guardU rfl rfl rfl ?_ | (apply GL.isBox; first | refine GL.boxA rfl rfl (fun _ => ?_) | refine GL.box1 rfl rfl rfl (fun _ => ?_) | refine GL.box rfl rfl (fun _ => ?_)) | (apply GL.isBuildS; first | refine GL.buildSlice1A rfl rfl rfl rfl rfl (fun _ => ?_) | refine GL.buildSlice1 rfl rfl rfl rfl rfl (fun _ => ?_)) | (apply GL.isCall; refine GL.append1 _ rfl rfl rfl rfl (by rfl) (by omega) (by omega) rfl (fun _ => ?_)) | (apply GL.isAlloc; refine GL.alloc rfl (fun _ => ?_))) | apply GL.nil | first | apply G.seq | apply G.region | apply G.block | apply G.skip | apply G.exit | apply G.ret | (apply G.isCond; first | refine G.condT rfl ?_ | refine G.condF rfl ?_) | refine G.draw (by kernel_rfl) (by kernel_rfl) ?_ | (apply GE.isAny; first | apply GE.again | apply GE.thenG | apply GE.blockN | apply GE.blockE | apply GE.thenE | apply GE.thenR | apply GE.blockR | refine GE.blockO rfl ?_ | apply GE.only) | (apply GD.isAny; first | refine GD.runA rfl ?_ | refine GD.guardY rfl rfl ?_ | refine GD.guardN rfl rfl rfl ?_ | refine GD.guardU rfl rfl rfl ?_) | apply GD.nilE | apply GD.nilL | (apply GT.isAny; refine GT.runA rfl rfl ?_) | ((first | (apply GL.isAny; refine GL.guard rfl rfl (fun hc => ?_) (fun hc => ?_)) | (apply G.isCond; refine G.cond rfl (fun hc => ?_) (fun hc => ?_)) | (apply GD.isAny; refine GD.guard rfl rfl (fun hc => ?_) (fun hc => ?_))) <;> ((try simp only [decide_eq_true_eq, decide_eq_false_iff_not, Bool.not_true, Bool.not_false, ne_eq, Classical.not_not, Int.not_lt, Int.not_le] at hc); (try (exfalso; first | omega | exact hc trivial | exact hc rfl)))))
        all_goals (first | (exfalso; simp at hc; done) | (exfalso; omega) | (exfalso; rw [decide_eq_false_iff_not] at hob; exact hob hc) | skip)
        all_goals (refine GE.round (k + 1) hkl (by (try dsimp only); rw [hs]; repeat (first | exact trivial | refine And.intro rfl ?_)) (fun w h => by (try dsimp only); exact h.sub) (by (try dsimp only); omega))
    have hk4 : k = 4 := by omega
    subst hk4
    have htk : t2.ch.take 4 = t2.ch := List.take_of_length_le (by omega)
    have hev : t2.ev[Int.toNat 3]'(by have := hI2.n3; omega) = St.gens (t2.ch.take 4) := by
      rw [htk, ← hI2.gen, List.getD_eq_getElem?_getD, List.getElem?_eq_getElem (by have := hI2.n3; omega)]; rfl
    have hn3 := hI2.n3
    repeat' (first | (first | (apply GL.isCall; refine GL.callH (storeP sb t2) (vs := [.pointer (some ⟨sb, 0, none⟩)]) rfl rfl (fun w h => store_Events sb t2 (i + 1) hI2 hk2 w _ h) (fun u2 => ?_))) | first | (apply GL.isAny; first | refine GL.runA rfl ?_ | (apply GL.isStore; first | refine GL.storeBlk rfl rfl rfl rfl rfl ?_ | refine GL.storeWhole rfl rfl rfl rfl rfl ?_ | refine GL.storeBlkA rfl rfl rfl rfl rfl ?_) | refine GL.guardY rfl rfl ?_ | refine GL.guardN rfl rfl rfl ?_ | refine GL.guardU rfl rfl rfl ?_ | (apply GL.isBox; first | refine GL.boxA rfl rfl (fun _ => ?_) | refine GL.box1 rfl rfl rfl (fun _ => ?_) | refine GL.box rfl rfl (fun _ => ?_)) | (apply GL.isBuildS; first | refine GL.buildSlice1A rfl rfl rfl rfl rfl (fun _ => ?_) | refine GL.buildSlice1 rfl rfl rfl rfl rfl (fun _ => ?_)) | (apply GL.isCall; refine GL.append1 _ rfl rfl rfl rfl (by rfl) (by omega) (by omega) rfl (fun _ => ?_)) | (apply GL.isAlloc; refine GL.alloc rfl (fun _ => ?_))) | apply GL.nil | first | apply G.seq | apply G.region | apply G.block | apply G.skip | apply G.exit | apply G.ret | (apply G.isCond; first | refine G.condT rfl ?_ | refine G.condF rfl ?_) | refine G.draw (by kernel_rfl) (by kernel_rfl) ?_ | (apply GE.isAny; first | apply GE.again | apply GE.thenG | apply GE.blockN | apply GE.blockE | apply GE.thenE | apply GE.thenR | apply GE.blockR | refine GE.blockO rfl ?_ | apply GE.only) | (apply GD.isAny; first | refine GD.runA rfl ?_ | refine GD.guardY rfl rfl ?_ | refine GD.guardN rfl rfl rfl ?_ | refine GD.guardU rfl rfl rfl ?_) | apply GD.nilE | apply GD.nilL | (apply GT.isAny; refine GT.runA rfl rfl ?_) | ((first | (apply GL.isAny; refine GL.guard rfl rfl (fun hc => ?_) (fun hc => ?_)) | (apply G.isCond; refine G.cond rfl (fun hc => ?_) (fun hc => ?_)) | (apply GD.isAny; refine GD.guard rfl rfl (fun hc => ?_) (fun hc => ?_))) <;> ((try simp only [decide_eq_true_eq, decide_eq_false_iff_not, Bool.not_true, Bool.not_false, ne_eq, Classical.not_not, Int.not_lt, Int.not_le] at hc); (try (exfalso; first | omega | exact hc trivial | exact hc rfl)))))
    all_goals (first | (exfalso; simp at hc; done) | skip)
    all_goals (first | (exfalso; exact hc hev) | skip)
    all_goals (refine GE.round ((i + 1, t2)) (⟨hlt, hI2, hn2⟩) (by repeat (first | exact trivial | refine And.intro rfl ?_)) (fun w h => by (try dsimp only); exact h.sub) (by (try dsimp only); omega))
  · repeat' (first | ((apply GL.isCall; refine GL.call1 rfl rfl (fun w h => law19_works w _ h) ?_)) | first | (apply GL.isAny; first | refine GL.runA rfl ?_ | (apply GL.isStore; first | refine GL.storeBlk rfl rfl rfl rfl rfl ?_ | refine GL.storeWhole rfl rfl rfl rfl rfl ?_ | refine GL.storeBlkA rfl rfl rfl rfl rfl ?_) | refine GL.guardY rfl rfl ?_ | refine GL.guardN rfl rfl rfl ?_ | refine GL.guardU rfl rfl rfl ?_ | (apply GL.isBox; first | refine GL.boxA rfl rfl (fun _ => ?_) | refine GL.box1 rfl rfl rfl (fun _ => ?_) | refine GL.box rfl rfl (fun _ => ?_)) | (apply GL.isBuildS; first | refine GL.buildSlice1A rfl rfl rfl rfl rfl (fun _ => ?_) | refine GL.buildSlice1 rfl rfl rfl rfl rfl (fun _ => ?_)) | (apply GL.isCall; refine GL.append1 _ rfl rfl rfl rfl (by rfl) (by omega) (by omega) rfl (fun _ => ?_)) | (apply GL.isAlloc; refine GL.alloc rfl (fun _ => ?_))) | apply GL.nil | first | apply G.seq | apply G.region | apply G.block | apply G.skip | apply G.exit | apply G.ret | (apply G.isCond; first | refine G.condT rfl ?_ | refine G.condF rfl ?_) | refine G.draw (by kernel_rfl) (by kernel_rfl) ?_ | (apply GE.isAny; first | apply GE.again | apply GE.thenG | apply GE.blockN | apply GE.blockE | apply GE.thenE | apply GE.thenR | apply GE.blockR | refine GE.blockO rfl ?_ | apply GE.only) | (apply GD.isAny; first | refine GD.runA rfl ?_ | refine GD.guardY rfl rfl ?_ | refine GD.guardN rfl rfl rfl ?_ | refine GD.guardU rfl rfl rfl ?_) | apply GD.nilE | apply GD.nilL | (apply GT.isAny; refine GT.runA rfl rfl ?_) | ((first | (apply GL.isAny; refine GL.guard rfl rfl (fun hc => ?_) (fun hc => ?_)) | (apply G.isCond; refine G.cond rfl (fun hc => ?_) (fun hc => ?_)) | (apply GD.isAny; refine GD.guard rfl rfl (fun hc => ?_) (fun hc => ?_))) <;> ((try simp only [decide_eq_true_eq, decide_eq_false_iff_not, Bool.not_true, Bool.not_false, ne_eq, Classical.not_not, Int.not_lt, Int.not_le] at hc); (try (exfalso; first | omega | exact hc trivial | exact hc rfl)))))
    all_goals (first | (exfalso; omega) | (refine GE.resOne rfl (by (repeat (first | apply Res.nil | (apply Res.tmp; rfl) | (refine Res.cellA rfl rfl rfl ?_) | (refine Res.cell1 rfl rfl ?_)))) (fun w h => ?_); exact ⟨rfl, h.sub⟩))
end Go.Proofs.YtfiggkbclldccaaGreat

/- Arguments of chapter 19's laws: what is done to a store. -/
namespace Go.Proofs.YtfiggkbclldccaaGreat
open Go Go.RowKit Go.MapKept Go.ChangeShapes Go.WideShapes Go.Deep Go.Joins
set_option linter.unusedVariables false
set_option maxRecDepth 100000
theorem bs_backS (x : ByteArray) : bs x.data.toList = x := by cases x; simp [bs]
section
variable {H : Type} {enc0 : TypeId × Value → H} {W : World} {sp : Nat → Bool} {held : Bool}
theorem el_act (n : Nat) (cs : List Value) (x : DataW H × List MemPlace) (h : DataW.trod enc0 Tryz.prog W 0 sp held n 59 cs = some x) : ∃ a : ActM, True ∧ cs = encAct a := by
  obtain ⟨v1, c1, rfl, ⟨a1, rfl, w1⟩, v2, c2, rfl, ⟨a2, rfl, w2⟩, v3, c3, rfl, ⟨a3, rfl, w3⟩, v4, c4, rfl, ⟨a4, rfl, w4⟩, v5, c5, rfl, ⟨a5, rfl, w5⟩, v6, c6, rfl, ⟨a6, rfl, w6⟩, v7, c7, rfl, ⟨s, rfl, _⟩, rfl⟩ := ckind_ok 8 _ [.int .i64, .int .i64, .int .i64, .int .i64, .int .i64, .int .i64, .str] (by kernel_rfl) n cs x h
  exact ⟨⟨a1, a2, a3, a4, a5, a6, s.data.toList⟩, trivial, by unfold encAct; dsimp only; rw [bs_backS]⟩
end
end Go.Proofs.YtfiggkbclldccaaGreat
