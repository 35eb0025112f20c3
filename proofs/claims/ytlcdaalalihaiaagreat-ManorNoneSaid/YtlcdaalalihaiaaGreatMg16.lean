import Derived.Test.YtlcdaalalihaiaaGreatMg15
import Derived.Test.YtlcdaalalihaiaaGreatMg8
import Derived.Test.YtlcdaalalihaiaaGreatProg
import Derived.Laws.LoneSync
/- Chained nodes: New; the piece that hides rows. -/
namespace Go.Proofs.YtlcdaalalihaiaaGreat
open Go Go.RowKit Go.MapKept
set_option linter.unusedVariables false
set_option linter.unusedSectionVars false
set_option linter.unusedSimpArgs false
set_option maxRecDepth 100000
set_option maxHeartbeats 4000000
section
variable {P : Program} {n : Nat} {F : List HProp} {ops : Array Oper} {Z : Act → Prop} {k : Nat} {rest : List Oper} {env : Env} {d : Tmp} {ty : TypeId} {pos : String} {aft : Array Edge}
/-- A call of a closure that only reads, in a drawn region. -/
theorem GD.callV {x : Operand} {f : FuncId} {first captured : List Value} {xs : List Operand} {ts : Array TypeId} {vs : List Value} {v : Value} [ho : Own P f] (hff : opnd env x = some (.func (.func f) first.toArray captured.toArray)) (hx : opnds env xs = some vs) (hd : Nat.blt d n = true)
    (hc : ∀ w F', holds w (F ++ F') → Ct P f (first ++ vs ++ captured).toArray w fun e w' => e = .returned v ∧ holds w' (F ++ F')) (h : GD P n ops F Z (k + 1) rest ((d, v) :: env)) :
    GD P n ops F Z k (⟨some d, .call { callee := .value x, args := xs.toArray, argTypes := ts }, ty, pos, aft, none⟩ :: rest) env := by
  refine GD.step (some ⟨fun u => u = v, fun _ => []⟩) (fun s hs u => by cases hs; cases u <;> simp) (fun a hf => rfl) (fun a hf => ⟨fun w F' hh => ?_, fun u hu => by subst hu; exact hf.put hd _⟩) h
  have hr : (execOp a.eval ⟨some d, .call { callee := .value x, args := xs.toArray, argTypes := ts }, ty, pos, aft, none⟩).run P w = .ok (.enter f (first ++ vs ++ captured).toArray) w := by
    simp [execOp, resolve, Deferred.ofValue, invoke, hf.evals hx, hf.eval hff, Result.andThen]
    exact ho.run _ _
  rw [hr]
  exact (hc w F' hh).out.mono fun e w' ⟨he, hh'⟩ => ⟨v, he, rfl, hh'⟩
end
theorem chain_none (w : World) (F : List HProp) (hw : holds w F) :
    Ct Tryz.prog 248 #[] w fun e w' => e = .returned (.agg #[.int .i64 (-1), .int .i64 (-1)]) ∧ holds w' F := by
  refine Ct.go (args := []) Tryz.func248 rfl rfl rfl hw ?_
  repeat' (first | refine stp ?_ | (refine stpB ?_; intro _) | (refine spl ?_ ?_ <;> first | exact trivial | intro hc))
  refine GE.r1 rfl (fun w h => ?_)
  exact ⟨rfl, h.sub⟩
namespace Chn
def z0 : Nd := ⟨0, 0, 0⟩
def e0 : Nd := ⟨-1, -1, 0⟩
end Chn
def chNewP (a b : Nat) (u : Value) : HProp := fun f => ∃ x : Nat × Nat, u = .agg #[.slice (some ⟨x.1, 0, none⟩) b b, .slice (some ⟨x.2, 0, none⟩) a a] ∧ sep [owns 346 Chn.encNd 3 (.slice (some ⟨x.1, 0, none⟩) b b) (List.replicate b Chn.z0), owns 348 Chn.encNd 3 (.slice (some ⟨x.2, 0, none⟩) a a) (List.replicate a Chn.z0)] f
def IsChNew (a b : Nat) (u : Value) : Prop := ∃ x : Nat × Nat, u = .agg #[.slice (some ⟨x.1, 0, none⟩) b b, .slice (some ⟨x.2, 0, none⟩) a a]
def chBox (a b cb : Nat) : HProp := fun f => ∃ x : Nat × Nat, sep [blk cb (.cells #[.slice (some ⟨x.1, 0, none⟩) b b, .slice (some ⟨x.2, 0, none⟩) a a] 341 (0, 0)), owns 346 Chn.encNd 3 (.slice (some ⟨x.1, 0, none⟩) b b) (List.replicate b Chn.z0), owns 348 Chn.encNd 3 (.slice (some ⟨x.2, 0, none⟩) a a) (List.replicate a Chn.z0)] f
theorem chBox.shut {a b cb : Nat} {x : Nat × Nat} {w : World} {G : List HProp} (h : holds w (blk cb (.cells #[.slice (some ⟨x.1, 0, none⟩) b b, .slice (some ⟨x.2, 0, none⟩) a a] 341 (0, 0)) :: chNewP a b (.agg #[.slice (some ⟨x.1, 0, none⟩) b b, .slice (some ⟨x.2, 0, none⟩) a a]) :: G)) : holds w (chBox a b cb :: G) := by
  have h1 := h.order [1, 0]
  obtain ⟨y, h1⟩ := holds.open_ex h1
  obtain ⟨e, h1⟩ := holds.open_pure h1
  have e2 : x = y := by
    simp only [Value.agg.injEq, Array.mk.injEq, List.cons.injEq, Value.slice.injEq, Option.some.injEq, Addr.mk.injEq, and_true, true_and] at e
    exact Prod.ext e.1 e.2
  subst e2
  have h2 := holds_sep.1 h1
  have h3 : holds w (blk cb (.cells #[.slice (some ⟨x.1, 0, none⟩) b b, .slice (some ⟨x.2, 0, none⟩) a a] 341 (0, 0)) :: owns 346 Chn.encNd 3 (.slice (some ⟨x.1, 0, none⟩) b b) (List.replicate b Chn.z0) :: owns 348 Chn.encNd 3 (.slice (some ⟨x.2, 0, none⟩) a a) (List.replicate a Chn.z0) :: G) := h2.order [2, 0, 1]
  exact (holds_sep (l := [_, _, _]).2 h3).mono fun f hf => ⟨x, hf⟩
theorem chBox.opens {a b cb : Nat} {w : World} {G : List HProp} (h : holds w (chBox a b cb :: G)) : ∃ x : Nat × Nat, holds w (blk cb (.cells #[.slice (some ⟨x.1, 0, none⟩) b b, .slice (some ⟨x.2, 0, none⟩) a a] 341 (0, 0)) :: owns 346 Chn.encNd 3 (.slice (some ⟨x.1, 0, none⟩) b b) (List.replicate b Chn.z0) :: owns 348 Chn.encNd 3 (.slice (some ⟨x.2, 0, none⟩) a a) (List.replicate a Chn.z0) :: G) := by
  obtain ⟨x, h⟩ := holds.open_ex h
  exact ⟨x, holds_sep.1 h⟩
theorem rep_set {α : Type} (x z : α) (n k : Nat) (h : k < n) : (List.replicate k x ++ List.replicate (n - k) z).set k x = List.replicate (k + 1) x ++ List.replicate (n - (k + 1)) z := by
  refine List.ext_getElem (by simp; omega) fun i h1 h2 => ?_
  simp only [List.getElem_set, List.getElem_append, List.length_replicate, List.getElem_replicate]
  split
  · rw [dif_pos (by omega)]
  · split <;> split <;> first | rfl | (exfalso; omega)
theorem rep_at {α : Type} (x z : α) (n k : Nat) (h : k < n) : (List.replicate k x ++ List.replicate (n - k) z)[k]'(by simp; omega) = z := by
  rw [List.getElem_append_right (by simp)]; simp
theorem chain_New0 (a b : Nat) (ha : a ≤ 1048576) (hb : b ≤ 1048576) (w : World) (F : List HProp) (hw : holds w F) :
    Ct Tryz.prog 162 #[.int .i64 (a : Nat), .int .i64 (b : Nat)] w fun e w' => ∃ x : Nat × Nat × Nat, e = .returned (.pointer (some ⟨x.1, 0, none⟩)) ∧ holds w' (blk x.1 (.cells #[.slice (some ⟨x.2.1, 0, none⟩) b b, .slice (some ⟨x.2.2, 0, none⟩) a a] 341 (0, 0)) :: owns 346 Chn.encNd 3 (.slice (some ⟨x.2.1, 0, none⟩) b b) (List.replicate b Chn.nd0) :: owns 348 Chn.encNd 3 (.slice (some ⟨x.2.2, 0, none⟩) a a) (List.replicate a Chn.e0) :: F) := by
  refine Ct.go (args := [.int .i64 (a : Nat), .int .i64 (b : Nat)]) Tryz.func162 rfl rfl rfl hw ?_
  repeat' (first | (first | (refine G.isRegion 3 ?_; refine G.drawW [⟨some 1, [], some 4, some 24, IsSl b b, fun u => owns 346 Chn.encNd 3 u (List.replicate b Chn.z0)⟩, ⟨some 3, [], some 4, some 26, IsSl a a, fun u => owns 348 Chn.encNd 3 u (List.replicate a Chn.z0)⟩, ⟨some 4, [0, 1], some 5, some 27, IsChNew a b, fun u => chNewP a b u⟩, ⟨some 5, [2], none, some 28, IsPt, fun u => chBox a b (ptB u)⟩] [] [] [3] (by kernel_rfl) (by kernel_rfl) rfl trivial ?_)) | first | refine stp ?_ | (refine stpB ?_; intro _) | (refine spl ?_ ?_ <;> first | exact trivial | intro hc))
  all_goals (try (exfalso; omega))
  repeat' ((apply GW.isAny; first | refine GW.runA rfl rfl ?_ | refine GW.seeA rfl rfl ⟨⟨_, rfl, .inl rfl⟩, trivial⟩ rfl ?_))
  (apply GW.isAny; refine GW.eff rfl rfl rfl rfl rfl trivial rfl trivial (fun u hu => hu.defd) (DoesW.makeSl Chn.encNd Chn.z0 b b rfl rfl rfl rfl rfl (Nat.le_refl _) (by omega) (by unfold maxLen; omega)) rfl (fun u hu => ?_))
  obtain ⟨g1, rfl⟩ := hu
  repeat' ((apply GW.isAny; first | refine GW.runA rfl rfl ?_ | refine GW.seeA rfl rfl ⟨⟨_, rfl, .inl rfl⟩, trivial⟩ rfl ?_))
  (apply GW.isAny; refine GW.eff rfl rfl rfl rfl rfl trivial rfl trivial (fun u hu => hu.defd) (DoesW.makeSl Chn.encNd Chn.z0 a a rfl rfl rfl rfl rfl (Nat.le_refl _) (by omega) (by unfold maxLen; omega)) rfl (fun u hu => ?_))
  obtain ⟨g2, rfl⟩ := hu
  repeat' ((apply GW.isAny; first | refine GW.runA rfl rfl ?_ | refine GW.seeA rfl rfl ⟨⟨_, rfl, .inl rfl⟩, trivial⟩ rfl ?_))
  (apply GW.isAny; refine GW.eff rfl rfl rfl rfl rfl ⟨⟨_, rfl, .inr (.inr ⟨_, _, rfl, rfl, rfl⟩)⟩, ⟨_, rfl, .inr (.inr ⟨_, _, rfl, rfl, rfl⟩)⟩, trivial⟩ rfl trivial (fun u hu => by obtain ⟨x, rfl⟩ := hu; rfl) (DoesW.gather (v := .agg #[.slice (some ⟨g1, 0, none⟩) b b, .slice (some ⟨g2, 0, none⟩) a a]) (IsChNew a b) (chNewP a b) (by apply Runs.isBuild; exact Runs.build rfl rfl) ⟨(g1, g2), rfl⟩ (fun w G h => (holds_sep.2 (show holds w ([owns 346 Chn.encNd 3 (.slice (some ⟨g1, 0, none⟩) b b) (List.replicate b Chn.z0), owns 348 Chn.encNd 3 (.slice (some ⟨g2, 0, none⟩) a a) (List.replicate a Chn.z0)] ++ G) from h)).mono fun f hf => ⟨(g1, g2), rfl, hf⟩)) rfl (fun u hu => ?_); obtain ⟨x, rfl⟩ := hu)
  (apply GW.isAny; refine GW.eff rfl rfl rfl rfl rfl ⟨⟨_, rfl, .inr (.inr ⟨_, _, rfl, rfl, rfl⟩)⟩, trivial⟩ rfl trivial (fun u hu => hu.defd) (DoesW.boxTake (fun cb => chBox a b cb) rfl (fun cb w G h => chBox.shut h)) rfl (fun u hu => ?_); obtain ⟨cb, rfl⟩ := hu)
  repeat' ((apply GW.isAny; first | refine GW.runA rfl rfl ?_ | refine GW.seeA rfl rfl ⟨⟨_, rfl, .inl rfl⟩, trivial⟩ rfl ?_))
  refine GW.nilE rfl ⟨⟨_, rfl, .inr (.inr ⟨_, _, rfl, rfl, rfl⟩)⟩, trivial⟩ ?_
  apply GE.thenG
  refine G.case (F' := fun x : Nat × Nat => blk cb (.cells #[.slice (some ⟨x.1, 0, none⟩) b b, .slice (some ⟨x.2, 0, none⟩) a a] 341 (0, 0)) :: owns 346 Chn.encNd 3 (.slice (some ⟨x.1, 0, none⟩) b b) (List.replicate b Chn.z0) :: owns 348 Chn.encNd 3 (.slice (some ⟨x.2, 0, none⟩) a a) (List.replicate a Chn.z0) :: F) (fun ⟨g1, g2⟩ => ?_) (fun w h => chBox.opens h)
  dsimp only
  have lb : (List.replicate b Chn.z0).length = b := List.length_replicate
  have la : (List.replicate a Chn.z0).length = a := List.length_replicate
  repeat' (first | refine stp ?_ | (refine stpB ?_; intro _) | (refine spl ?_ ?_ <;> first | exact trivial | intro hc))
  refine G.loop (α := Nat) (fun k => [(5, .pointer (some ⟨cb, 0, none⟩)), (6, .func (.func 248) #[] #[]), (33, .int .i64 ((List.replicate b Chn.z0).length : Nat)), (34, .int .i64 k)]) (fun k => blk cb (.cells #[.slice (some ⟨g1, 0, none⟩) b b, .slice (some ⟨g2, 0, none⟩) a a] 341 (0, 0)) :: owns 346 Chn.encNd 3 (.slice (some ⟨g1, 0, none⟩) b b) (List.replicate k Chn.nd0 ++ List.replicate (b - k) Chn.z0) :: owns 348 Chn.encNd 3 (.slice (some ⟨g2, 0, none⟩) a a) (List.replicate a Chn.z0) :: F) (fun k => k ≤ b) (fun k => b - k) 0 (Nat.zero_le _) ⟨rfl, rfl, rfl, rfl, trivial⟩ (fun w h => h) ?_
  · intro k hk
    have hll : (List.replicate k Chn.nd0 ++ List.replicate (b - k) Chn.z0).length = b := by simp; omega
    repeat' (first | (first | (refine G.isRegion 8 ?_; refine G.drawTail 8 (by kernel_rfl) (by simp only [List.take_succ_cons, List.take_zero]; rfl) (by simp only [List.drop_succ_cons, List.drop_zero]; rfl) (by kernel_rfl) ?_) | (apply GD.isAny; refine GD.callV (first := []) (captured := []) rfl rfl rfl (fun w F' h => chain_none w _ h) ?_) | (apply GL.isStore; refine GL.storeElemA (enc := Chn.encNd) (v := .slice (some ⟨g1, 0, none⟩) b b) (i := k) (f := 0) (size := 3) Chn.nd0 rfl rfl (by rw [hll]; omega) rfl rfl rfl rfl ?_)) | first | refine stp ?_ | (refine stpB ?_; intro _) | (refine spl ?_ ?_ <;> first | exact trivial | intro hc))
    · refine GE.round (k + 1) (by omega) ⟨rfl, rfl, rfl, rfl, trivial⟩ (fun w h => ?_) (by omega)
      rw [rep_set _ _ _ _ (by omega)] at h
      exact h.sub
    · obtain hk1 : k = b := by omega
      subst hk1
      refine G.loop (α := Nat) (fun j => [(5, .pointer (some ⟨cb, 0, none⟩)), (6, .func (.func 248) #[] #[]), (51, .int .i64 ((List.replicate a Chn.z0).length : Nat)), (52, .int .i64 j)]) (fun j => blk cb (.cells #[.slice (some ⟨g1, 0, none⟩) k k, .slice (some ⟨g2, 0, none⟩) a a] 341 (0, 0)) :: owns 346 Chn.encNd 3 (.slice (some ⟨g1, 0, none⟩) k k) (List.replicate k Chn.nd0) :: owns 348 Chn.encNd 3 (.slice (some ⟨g2, 0, none⟩) a a) (List.replicate j Chn.e0 ++ List.replicate (a - j) Chn.z0) :: F) (fun j => j ≤ a) (fun j => a - j) 0 (Nat.zero_le _) ⟨rfl, rfl, rfl, rfl, trivial⟩ (fun w h => by rw [Nat.sub_self, List.replicate_zero, List.append_nil] at h; exact h) ?_
      intro j hj
      have hjl : (List.replicate j Chn.e0 ++ List.replicate (a - j) Chn.z0).length = a := by simp; omega
      repeat' (first | (first | (refine G.isRegion 13 ?_; refine G.drawTail 7 (by kernel_rfl) (by simp only [List.take_succ_cons, List.take_zero]; rfl) (by simp only [List.drop_succ_cons, List.drop_zero]; rfl) (by kernel_rfl) ?_) | (apply GD.isAny; refine GD.callV (first := []) (captured := []) rfl rfl rfl (fun w F' h => chain_none w _ h) ?_) | (apply GL.isStore; refine GL.storeElemA (enc := Chn.encNd) (v := .slice (some ⟨g2, 0, none⟩) a a) (i := j) (f := 0) (size := 2) Chn.e0 rfl rfl (by rw [hjl]; omega) rfl rfl rfl (by rw [rep_at Chn.e0 Chn.z0 a j (by omega)]; rfl) ?_)) | first | refine stp ?_ | (refine stpB ?_; intro _) | (refine spl ?_ ?_ <;> first | exact trivial | intro hc))
      · refine GE.round (j + 1) (by omega) ⟨rfl, rfl, rfl, rfl, trivial⟩ (fun w h => ?_) (by omega)
        rw [rep_set _ _ _ _ (by omega)] at h
        exact h.sub
      · obtain rfl : a = j := by omega
        refine GE.r1 rfl (fun w h => ?_)
        rw [Nat.sub_self, List.replicate_zero, List.append_nil] at h
        exact ⟨(cb, g1, g2), rfl, h.sub⟩
end Go.Proofs.YtlcdaalalihaiaaGreat

/- Running code by calculation: what chain.New leaves is known ahead of its call. -/
namespace Go.Proofs.YtlcdaalalihaiaaGreat
open Go Go.RowKit
set_option linter.unusedVariables false
set_option linter.unusedSectionVars false
set_option maxRecDepth 100000
namespace Ex
variable [GN]
theorem own_blk {α : Type} {T : TypeId} {enc : α → List Value} {g n : Nat} {l : List α} (hl : l.length = n) {w : World} {G : List HProp} (h : holds w (owns T enc 3 (.slice (some ⟨g, 0, none⟩) n n) l :: G)) :
    ∃ cur : Array Value, cur.size = n * 3 ∧ cur.toList = l.flatMap enc ∧ holds w (blk g (.cells cur T (0, 0)) :: G) := by
  have h1 : holds w ((fun f => ∃ cur : Array Value, (cur.size = n * 3 ∧ cur.toList = l.flatMap enc) ∧ blk g (.cells cur T (0, 0)) f) :: G) := h.mono fun f hf => by
    obtain ⟨h1, h2 | ⟨g', cap, cur, e, h3, h4, h5, h6, h7⟩⟩ := hf
    · cases h2.1
    · cases e
      refine ⟨cur, ⟨h6, ?_⟩, h3⟩
      rw [← h7, hl, List.take_of_length_le]
      simp [h6]
  obtain ⟨cur, h2⟩ := h1.open_ex
  obtain ⟨⟨e1, e2⟩, h3⟩ := h2.open_pure
  exact ⟨cur, e1, e2, h3⟩
theorem blk_ne {b c : Nat} {o u : Obj} {w : World} {G : List HProp} (h : holds w (blk b o :: blk c u :: G)) : b ≠ c := fun e => by
  subst e
  obtain ⟨f, hf, f1, f2, ha, ⟨f3, f4, hb, hl, j2⟩, j1⟩ := h
  have h1 : f1.get b = some (o, true) := ha
  have h2 : f3.get b = some (u, true) := hb
  have h3 : ∃ x, f2.get b = some x := by
    rcases j2.at_ b with ⟨_, q⟩ | ⟨q, r⟩ | ⟨o', q, r, s⟩
    · rw [h2] at *; simp_all
    · exact ⟨_, r.symm.trans h2⟩
    · rw [h2] at q; cases q
  obtain ⟨x, h3⟩ := h3
  rcases j1.at_ b with ⟨q, _⟩ | ⟨q, r⟩ | ⟨o', q, r, s⟩
  · rw [h1] at q; cases q
  · rw [h3] at q; cases q
  · rw [h1] at q; cases q
theorem blk_new {b : Nat} {o : Obj} {W w : World} {G : List HProp} (h : holds w (blk b o :: allOf W :: G)) : W.heap.size ≤ b := by
  rcases Nat.lt_or_ge b W.heap.size with hlt | hge
  · exfalso
    have h2 := (h.order [1, 0]).all_ro (Array.getElem?_eq_getElem hlt)
    obtain ⟨f, hf, f1, f2, ha, hl, j⟩ := h2
    obtain ⟨g1, g2, hb, hl2, j2⟩ := hl
    obtain ⟨k1, k2, hc, hl3, j3⟩ := hl2
    have e1 : f1.get b = some (_, false) := ha
    have e3 : k1.get b = some (o, true) := hc
    have e4 : ∃ x, g2.get b = some (x, true) := by
      rcases j3.at_ b with ⟨q, _⟩ | ⟨q, r⟩ | ⟨o', q, r, s⟩
      · rw [e3] at q; cases q
      · exact ⟨_, r.symm.trans e3⟩
      · rw [e3] at q; cases q
    obtain ⟨x, e4⟩ := e4
    have e5 : ∃ x, f2.get b = some (x, true) := by
      rcases j2.at_ b with ⟨q, r⟩ | ⟨q, r⟩ | ⟨o', q, r, s⟩
      · exact ⟨_, r.symm.trans e4⟩
      · rw [e4] at q; cases q
      · rw [e4] at r; cases r
    obtain ⟨x, e5⟩ := e5
    rcases j.at_ b with ⟨q, r⟩ | ⟨q, r⟩ | ⟨o', q, r, s⟩
    · rw [e1] at q; cases q
    · rw [e5] at q; cases q
    · rw [e5] at r; cases r
  · exact hge
theorem rep3 {α : Type} {enc : α → List Value} {x : α} {z : List Value} (he : enc x = z) (hz : z.length = 3) : ∀ (n i : Nat), i < n * 3 → ((List.replicate n x).flatMap enc)[i]? = z[i % 3]?
  | 0, i, h => by omega
  | n + 1, i, h => by
    rw [List.replicate_succ, List.flatMap_cons, he, List.getElem?_append]
    split
    · rename_i hi; rw [hz] at hi; rw [Nat.mod_eq_of_lt hi]
    · rename_i hi
      rw [hz] at hi ⊢
      rw [rep3 he hz n (i - 3) (by omega)]
      congr 1
      omega
noncomputable def m1 : Value := .int .i64 (.negSucc 0)
noncomputable def chainR (a b nx : Nat) (h : Tr SO) : Option (Value × Tr SO × Nat) := some (.pointer (some ⟨Nat.add nx 2, 0, none⟩),
  ((h.put nx (.cells ⟨.leaf, Nat.mul b 3, [m1, m1, m1]⟩ 346 true 0)).put (Nat.add nx 1) (.cells ⟨.leaf, Nat.mul a 3, [m1, m1, .int .i64 (.ofNat 0)]⟩ 348 true 0)).put (Nat.add nx 2)
    (.cells ⟨.leaf, 2, [.slice (some ⟨nx, 0, none⟩) b b, .slice (some ⟨Nat.add nx 1, 0, none⟩) a a]⟩ 341 true 0), Nat.add nx 3)
noncomputable def chainM (l : List Value) (h : Tr SO) (nx : Nat) : Option (Value × Tr SO × Nat) := match l with
  | [.int .i64 (.ofNat a), .int .i64 (.ofNat b)] => bif Nat.ble a 1048576 && Nat.ble b 1048576 then chainR a b nx h else none
  | _ => none
theorem chainM_ok : XOK Tryz.prog 162 (.memo chainM) := by
  intro θ F ρ w h nx args args' v h' nx' hm ha hh base
  unfold chainM at hm
  split at hm
  · rename_i a b hl
    cases hc : (Nat.ble a 1048576 && Nat.ble b 1048576) with
    | false => rw [hc] at hm; cases hm
    | true =>
      rw [hc] at hm
      simp only [Bool.and_eq_true, Nat.ble_eq] at hc
      have hargs : args' = #[.int .i64 (a : Int), .int .i64 (b : Int)] := by
        have h2 := Ra.list.1 ha
        rw [hl] at h2
        obtain ⟨h3, h4⟩ := h2
        match hq : args'.toList, h3 with
        | [x, y], _ =>
          rw [hq] at h4
          have e1 := (h4 0 _ x rfl rfl).toInt
          have e2 := (h4 1 _ y rfl rfl).toInt
          rw [e1, e2] at hq
          apply Array.ext'
          rw [hq]; rfl
      subst hargs
      obtain ⟨e, w', fr, ⟨x, rfl, hw⟩, st, hfn, hlv⟩ := (chain_New0 a b hc.1 hc.2 w [allOf w] (holds.start w)).out base
      have hw := hw.order [1, 2, 0, 3]
      obtain ⟨c1, s1, t1, hw⟩ := own_blk (by simp) hw
      have hw := hw.order [1, 0, 2, 3]
      obtain ⟨c2, s2, t2, hw⟩ := own_blk (by simp) hw
      -- blocks: ends, nodes, chain
      have g2 := hw.get_blk
      have g1 := (hw.order [1, 0, 2, 3]).get_blk
      have g0 := (hw.order [2, 0, 1, 3]).get_blk
      have n2 := blk_new (hw.order [0, 3, 1, 2])
      have n1 := blk_new (hw.order [1, 3, 0, 2])
      have n0 := blk_new (hw.order [2, 3, 0, 1])
      have d21 := blk_ne hw
      have d20 := blk_ne (hw.order [0, 2, 1, 3])
      have d10 := blk_ne (hw.order [1, 2, 0, 3])
      have bel := (hw.order [3, 0, 1, 2]).below_all
      have H0 := HR.extend hh bel
      have f1 : ∀ k p, ρ k = some p → p.b ≠ x.2.1 := fun k p hk => by have := hh.lt k p hk; omega
      have f2 : ∀ k p, ρ k = some p → p.b ≠ x.2.2 := fun k p hk => by have := hh.lt k p hk; omega
      have f0 : ∀ k p, ρ k = some p → p.b ≠ x.1 := fun k p hk => by have := hh.lt k p hk; omega
      have hsz := hh.size
      obtain ⟨l1, H1⟩ := H0.add g1 f1 (by omega) (o := .cells ⟨.leaf, Nat.mul b 3, [m1, m1, m1]⟩ 346 true 0) (Ro.alike (by rfl) (by rw [s1]; rfl) fun i hi => by
        rw [← Array.getElem?_toList, t1]; exact rep3 (by rfl) (by rfl) b i hi) rfl
      have f2' := Ren.ext_ne (k := nx) (x := ⟨x.2.1, 0, none⟩) f2 (fun e => d21 e.symm)
      have f0' := Ren.ext_ne (k := nx) (x := ⟨x.2.1, 0, none⟩) f0 d10
      obtain ⟨l2, H2⟩ := H1.add g2 f2' (by omega) (o := .cells ⟨.leaf, Nat.mul a 3, [m1, m1, .int .i64 (.ofNat 0)]⟩ 348 true 0) (Ro.alike (by rfl) (by rw [s2]; rfl) fun i hi => by
        rw [← Array.getElem?_toList, t2]; exact rep3 (by rfl) (by rfl) a i hi) rfl
      have f0'' := Ren.ext_ne (k := nx + 1) (x := ⟨x.2.2, 0, none⟩) f0' d20
      have r1 : ((ρ.ext nx ⟨x.2.1, 0, none⟩).ext (nx + 1) ⟨x.2.2, 0, none⟩) nx = some ⟨x.2.1, 0, none⟩ := l2 _ _ Ren.ext_self
      have r2 : ((ρ.ext nx ⟨x.2.1, 0, none⟩).ext (nx + 1) ⟨x.2.2, 0, none⟩) (nx + 1) = some ⟨x.2.2, 0, none⟩ := Ren.ext_self
      obtain ⟨l3, H3⟩ := H2.add g0 f0'' (by omega) (o := .cells ⟨.leaf, 2, [.slice (some ⟨nx, 0, none⟩) b b, .slice (some ⟨Nat.add nx 1, 0, none⟩) a a]⟩ 341 true 0) (by
        refine ⟨rfl, rfl, ⟨by simp, fun sz' z e => by cases e⟩, fun i y hy => ?_⟩
        rw [CL.get_eq] at hy
        split at hy
        · rename_i hi
          have hq : nx + 1 + 1 ≠ nx := by omega
          match i, hi, hy with
          | 0, _, hy =>
            cases hy
            exact ⟨_, rfl, .sl (p := ⟨x.2.1, 0, none⟩) (by unfold Ren.ext; rw [if_neg (by omega)]; exact r1) (Nat.le_refl _) ⟨.inl rfl, .inr rfl⟩⟩
          | 1, _, hy =>
            cases hy
            exact ⟨_, rfl, .sl (p := ⟨x.2.2, 0, none⟩) (by unfold Ren.ext; rw [if_neg (show ¬ (nx + 1 = nx + 1 + 1) by omega)]; exact r2) (Nat.le_refl _) ⟨.inl rfl, .inr rfl⟩⟩
        · cases hy) rfl
      cases hm
      exact ⟨_, w', _, fr, (l1.trans l2).trans l3, .ptr (p := ⟨x.1, 0, none⟩) Ren.ext_self, H3, st, hfn, hlv⟩
  · cases hm
end Ex
end Go.Proofs.YtlcdaalalihaiaaGreat

/- Law 43: what is met in a run that has no body. -/
namespace Go.Proofs.YtlcdaalalihaiaaGreat
open Go Go.RowKit
set_option linter.unusedVariables false
set_option maxRecDepth 100000
set_option maxHeartbeats 4000000
namespace Ex
instance : GN := ⟨0⟩
theorem own_below {θ : Nat → Value} {w w' : World} {ρ : Ren} {h : Tr SO} {nx : Nat} (hh : HT θ (own w) ρ h nx w') : Below w.heap.size w w' := ⟨hh.os, hh.tape, hh.output, hh.size, fun k hk => hh.keep k hk⟩
/-- The functions without a body that are met. -/
noncomputable def xTab (f : Nat) : Option XK :=
  bif Nat.beq f 162 then some (.memo chainM) else
  bif Nat.beq f 325 then some (.load .u32) else
  bif Nat.beq f 351 then some .store else
  bif Nat.beq f 363 then some .mark0 else
  bif Nat.beq f 365 then some .mark0 else
  bif Nat.beq f 366 then some .markA else
  bif Nat.beq f 368 then some .markA else
  bif Nat.beq f 364 then some (.cas .i32) else
  bif Nat.beq f 369 then some (.add .i32) else
  bif Nat.beq f 226 then some (.load .i64) else
  bif Nat.beq f 315 then some (.add .i64) else none
theorem bifX {f g : Nat} {k k' : XK} {r : Option XK} (h : (bif Nat.beq f g then some k else r) = some k') : (f = g ∧ k = k') ∨ r = some k' := by
  cases hb : Nat.beq f g with
  | true => rw [hb] at h; cases h; exact .inl ⟨Nat.eq_of_beq_eq_true hb, rfl⟩
  | false => rw [hb] at h; exact .inr h
theorem xTab_ok : ∀ f k, xTab f = some k → XOK Tryz.prog f k := fun f k h => by
  unfold xTab at h
  rcases bifX h with ⟨rfl, rfl⟩ | h
  · exact chainM_ok
  rcases bifX h with ⟨rfl, rfl⟩ | h
  · exact fun a x w hc => run_call_load Tryz.func325 (by kernel_rfl) (by kernel_rfl) (by kernel_rfl) .u32 (by kernel_rfl) hc
  rcases bifX h with ⟨rfl, rfl⟩ | h
  · exact fun a k y u w hc hz => run_call_store Tryz.func351 (by kernel_rfl) (by kernel_rfl) (by kernel_rfl) (by kernel_rfl) hc hz
  rcases bifX h with ⟨rfl, rfl⟩ | h
  · exact fun w => run_call_mark0 Tryz.func363 (by kernel_rfl) (by kernel_rfl) (by kernel_rfl) .disable (by kernel_rfl) w
  rcases bifX h with ⟨rfl, rfl⟩ | h
  · exact fun w => run_call_mark0 Tryz.func365 (by kernel_rfl) (by kernel_rfl) (by kernel_rfl) .enable (by kernel_rfl) w
  rcases bifX h with ⟨rfl, rfl⟩ | h
  · exact fun a w => run_call_marked Tryz.func366 (by kernel_rfl) (by kernel_rfl) (by kernel_rfl) .acquire (by kernel_rfl) a w
  rcases bifX h with ⟨rfl, rfl⟩ | h
  · exact fun a w => run_call_marked Tryz.func368 (by kernel_rfl) (by kernel_rfl) (by kernel_rfl) .releaseMerge (by kernel_rfl) a w
  rcases bifX h with ⟨rfl, rfl⟩ | h
  · exact fun a x y w hc hz => run_call_cas_hit Tryz.func364 (by kernel_rfl) (by kernel_rfl) (by kernel_rfl) .i32 (by kernel_rfl) hc hz
  rcases bifX h with ⟨rfl, rfl⟩ | h
  · exact fun a x y w hc hz => run_call_add Tryz.func369 (by kernel_rfl) (by kernel_rfl) (by kernel_rfl) .i32 (by kernel_rfl) hc hz (by simp [Op.intArith])
  rcases bifX h with ⟨rfl, rfl⟩ | h
  · exact fun a x w hc => run_call_load Tryz.func226 (by kernel_rfl) (by kernel_rfl) (by kernel_rfl) .i64 (by kernel_rfl) hc
  rcases bifX h with ⟨rfl, rfl⟩ | h
  · exact fun a x y w hc hz => run_call_add Tryz.func315 (by kernel_rfl) (by kernel_rfl) (by kernel_rfl) .i64 (by kernel_rfl) hc hz (by simp [Op.intArith])
  cases h
theorem noNG_all : (Tryz.prog.funcs.toList.all fun fn => !(fn.name == "runtime.NumGoroutine")) = true := by kernel_rfl
theorem noNG : NoNG Tryz.prog := fun f fn hf => by
  have := List.all_eq_true.1 noNG_all fn (by
    have := Array.mem_of_getElem? hf
    exact Array.mem_toList_iff.2 this)
  simpa using this
end Ex
end Go.Proofs.YtlcdaalalihaiaaGreat
