import Derived.Test.YtipkgamiejenaaaGreatMg13

/- Package store: a chunk's bytes are laid once. -/
namespace Go.Proofs.YtipkgamiejenaaaGreat
open Go Go.RowKit Go.MapKept
set_option linter.unusedVariables false
set_option linter.unusedSimpArgs false
set_option maxRecDepth 100000
set_option maxHeartbeats 2000000
section
variable {P : Program} {n : Nat} {env : Env} {F : List HProp}
/-- A call that gives a pointer to something new. -/
theorem DoesW.callPt {f : FuncId} {xs : List Operand} {ts : Array TypeId} {vs : List Value} {L : List HProp} (pc : Nat → HProp) [ho : Own P f] (hx : opnds env xs = some vs)
    (hc : ∀ w G, holds w G → Ct P f vs.toArray w fun e w' => ∃ b : Nat, e = .returned (.pointer (some ⟨b, 0, none⟩)) ∧ holds w' (pc b :: G)) :
    DoesW P n env F [] L (.call { callee := .value (.func f), args := xs.toArray, argTypes := ts }) IsPt (fun u => pc (ptB u)) := ⟨fun a w F' ty pos aft g d hf hw => by
  have hr : (execOp a.eval ⟨d, .call { callee := .value (.func f), args := xs.toArray, argTypes := ts }, ty, pos, aft, g⟩).run P w = .ok (.enter f vs.toArray) w := by
    simp [execOp, resolve, Act.eval, Deferred.ofValue, invoke, hf.evals hx, Result.andThen]
    exact ho.run _ _
  rw [hr]
  exact (hc w (L ++ (F ++ F')) (by simpa using hw)).out.mono fun e w' ⟨b, he, hh⟩ => ⟨_, he, ⟨b, rfl⟩, hh⟩⟩
theorem flat_set_field {α : Type} {enc : α → List Value} {m : Nat} [he : Enc enc m] : ∀ (l : List α) (i f : Nat) (u : Value) (z : α) (hi : i < l.length), f < m → enc z = (enc l[i]).set f u → (l.flatMap enc).set (i * m + f) u = (l.set i z).flatMap enc
  | a :: l, 0, f, u, z, _, hf, hz => by
    simp only [List.getElem_cons_zero] at hz
    rw [List.flatMap_cons, List.set_cons_zero, List.flatMap_cons, hz, Nat.zero_mul, Nat.zero_add, List.set_append_left _ _ (by rw [he.len]; exact hf)]
  | a :: l, i + 1, f, u, z, hi, hf, hz => by
    have ih := flat_set_field l i f u z (by simpa using hi) hf (by simpa using hz)
    rw [List.flatMap_cons, List.set_cons_succ, List.flatMap_cons, ← ih, List.set_append_right _ _ (by rw [he.len, Nat.succ_mul]; omega), he.len]
    congr 2
    rw [Nat.succ_mul]; omega
  | [], i, f, u, z, hi, _, _ => by simp at hi
end
/-- The row of cells as a block. -/
def celB (cb n : Nat) (vs : List CellV) : HProp := fun f => vs.length = n ∧ blk cb (.cells (vs.flatMap encCell).toArray 148 (0, 0)) f
theorem celB.ofOwn {w : World} {cb n : Nat} {vs : List CellV} {F : List HProp} (h : holds w (owns 148 encCell 6 (.slice (some ⟨cb, 0, none⟩) n n) vs :: F)) : vs.length = n ∧ n ≤ maxLen ∧ holds w (blk cb (.cells (vs.flatMap encCell).toArray 148 (0, 0)) :: F) := by
  obtain ⟨hl, ho⟩ := holds.open_own h
  rcases ho with ⟨h1, _⟩ | ⟨g', cap, cur, h1, h2, h3, h4, h5, h6⟩
  · cases h1
  · simp only [Value.slice.injEq, Option.some.injEq, Addr.mk.injEq] at h1
    obtain ⟨⟨rfl, -, -⟩, hk, rfl⟩ := h1
    refine ⟨hk.symm, h3, ?_⟩
    have e : cur = (vs.flatMap encCell).toArray := by
      apply Array.ext'
      rw [List.take_of_length_le (by rw [Array.length_toList, h4, ← hk]; exact Nat.le_refl _)] at h5
      exact h5
    rw [← e]; exact h6
theorem celB.back {w : World} {cb n : Nat} {vs : List CellV} {F : List HProp} (hl : vs.length = n) (hm : n ≤ maxLen) (h : holds w (blk cb (.cells (vs.flatMap encCell).toArray 148 (0, 0)) :: F)) : holds w (owns 148 encCell 6 (.slice (some ⟨cb, 0, none⟩) n n) vs :: F) := by
  have h1 := h.mkRow (size := 6) (n := n) (cap := n) (Nat.le_refl _) hm (by rw [List.size_toArray, Enc.flat_len (enc := encCell) (n := 6), hl])
  have e : (vs.flatMap encCell).toArray.toList.take (n * 6) = vs.flatMap encCell := List.take_of_length_le (by show (vs.flatMap encCell).length ≤ n * 6; rw [Enc.flat_len (enc := encCell) (n := 6), hl]; exact Nat.le_refl _)
  rw [e] at h1
  unfold owns; rw [hl]; exact h1
section
variable (sb n sz : Nat) (q : StoM) (m0 m1 m2 m3 : Int)
abbrev fTake1 : FuncId := 83
theorem store_Take1 (h64 : sz % 64 = 0) (h0 : 1 ≤ sz) (h1 : sz ≤ 1048576) (b2 b8 i : Nat) (vs : List CellV) (hi : i < vs.length) (w : World) (F : List HProp) [SeesBlk F sb #[.pointer (some ⟨q.tb, 0, none⟩), .pointer (some ⟨q.fb, 0, none⟩), .slice (some ⟨q.cb, 0, none⟩) n n, .int .i64 (sz : Nat), .int .i64 m0, .int .i64 m1, .int .i64 m2, .int .i64 m3, .pointer (some ⟨q.kb, 0, none⟩)]] [SeesBlk F b2 #[.pointer (some ⟨sb, 0, none⟩)]] [SeesBlk F b8 #[.pointer (some ⟨rowB (.slice (some ⟨q.cb, 0, none⟩) n n), rowO (.slice (some ⟨q.cb, 0, none⟩) n n) + i * 6, none⟩)]] (hw : holds w (blk q.cb (.cells ((vs).flatMap encCell).toArray 148 (0, 0)) :: F)) :
    Ct Tryz.prog fTake1 #[.pointer (some ⟨b2, 0, none⟩), .pointer (some ⟨b8, 0, none⟩)] w fun e w' => ∃ b : Nat, e = .returned (.tuple #[]) ∧ holds w' (blk q.cb (.cells ((vs.set i { vs[i] with bp := some b }).flatMap encCell).toArray 148 (0, 0)) :: bytesP b sz (St.zeros sz) :: F) := by
  have hlen : i * 6 + 4 < (vs.flatMap encCell).toArray.size := by
    rw [List.size_toArray, Enc.flat_len (enc := encCell) (n := 6)]; omega
  have hblt : Nat.blt (rowO (.slice (some ⟨q.cb, 0, none⟩) n n) + i * 6 + 4) (vs.flatMap encCell).toArray.size = true := by
    rw [Nat.blt_eq]; show 0 + i * 6 + 4 < _; omega
  have hset : ∀ b : Nat, (((vs.flatMap encCell).toArray).toList.set (rowO (.slice (some ⟨q.cb, 0, none⟩) n n) + i * 6 + 4) (.pointer (some ⟨b, 0, none⟩))).toArray = ((vs.set i { vs[i] with bp := some b }).flatMap encCell).toArray := fun b => by
    have := flat_set_field (enc := encCell) (m := 6) vs i 4 (.pointer (some ⟨b, 0, none⟩)) { vs[i] with bp := some b } hi (by omega) rfl
    rw [← this]
    show ((vs.flatMap encCell).set (0 + i * 6 + 4) _).toArray = _
    rw [Nat.zero_add]
  refine Ct.go (args := [.pointer (some ⟨b2, 0, none⟩), .pointer (some ⟨b8, 0, none⟩)]) Tryz.func83 rfl rfl rfl hw ?_
  repeat' (first | (first | (refine G.isRegion 0 ?_; refine G.drawW [⟨none, [], some 8, none, fun _ => True, fun _ => blk q.cb (.cells ((vs).flatMap encCell).toArray 148 (0, 0))⟩, ⟨some 5, [], none, some 7, IsPt, fun u => bytesP (ptB u) sz (St.zeros sz)⟩, ⟨some 8, [0], none, some 7, fun _ => True, fun u => blk q.cb (.cells ((vs.set i { vs[i] with bp := some (ptB u) }).flatMap encCell).toArray 148 (0, 0))⟩] [] [0] [1, 2] (by kernel_rfl) (by kernel_rfl) rfl ⟨⟨_, rfl, .inl rfl⟩, trivial⟩ ?_) | (apply GW.isAny; first | refine GW.runA rfl rfl ?_ | refine GW.seeA rfl rfl ⟨⟨_, rfl, .inl rfl⟩, trivial⟩ rfl ?_) | (apply GW.isAny; refine GW.eff rfl rfl rfl rfl rfl trivial rfl trivial (fun u hu => hu.defd) (DoesW.callPt (vs := [.int .i64 (sz : Nat)]) (fun b => bytesP b sz (St.zeros sz)) rfl (fun w G h => bytes_New sz h64 h0 h1 w G h)) rfl (fun u hu => ?_); obtain ⟨bb, rfl⟩ := hu) | (apply GW.isAny; refine GW.storeOn (v7 := .pointer (some ⟨bb, 0, none⟩)) rfl rfl rfl rfl rfl rfl rfl ⟨⟨_, rfl, .inl rfl⟩, trivial⟩ rfl trivial rfl (DoesW.storeBlk (R := fun _ => True) rfl rfl rfl rfl hblt (hset bb)) ?_) | (refine GW.nilE rfl ⟨⟨_, rfl, .inr (.inr ⟨_, _, rfl, rfl, rfl⟩)⟩, ⟨_, rfl, .inr (.inr ⟨_, _, rfl, rfl, rfl⟩)⟩, trivial⟩ ?_; refine GE.imp (F' := bytesP bb sz (St.zeros sz) :: blk q.cb (.cells ((vs.set i { vs[i] with bp := some bb }).flatMap encCell).toArray 148 (0, 0)) :: F) ?_ (fun w h => h))) | first | refine stp ?_ | (refine stpB ?_; intro _) | (refine spl ?_ ?_ <;> intro hc <;> ((try simp only [decide_eq_true_eq, decide_eq_false_iff_not, Bool.not_true, Bool.not_false, ne_eq, Classical.not_not, Int.not_lt, Int.not_le] at hc); (try (exfalso; first | omega | exact hc trivial | exact hc rfl)))))
  (first | refine GE.res0 (.inl rfl) rfl (fun w h => ?_) | refine GE.res0 (.inr rfl) rfl (fun w h => ?_))
  exact ⟨bb, rfl, h.order [1, 0]⟩
/-- The cells around a chunk's once. -/
def celX (vs : List CellV) (i b : Nat) (s : List Value) (d l : Value) : HProp := blk b (.cells ((vs.take i).flatMap encCell ++ d :: l :: (s ++ (vs.drop (i + 1)).flatMap encCell)).toArray 148 (0, 0))
def celR (v : CellV) : List Value := [.int .u32 0, .int .i64 v.ph, pV v.bp, pV v.wp]
theorem celX_eq (vs : List CellV) (i b : Nat) (hi : i < vs.length) (v : CellV) : celX vs i b (celR v) (.int .u32 v.d) (.int .i32 v.l) = blk b (.cells ((vs.set i v).flatMap encCell).toArray 148 (0, 0)) := by
  have e : (vs.set i v).flatMap encCell = (vs.take i).flatMap encCell ++ Value.int .u32 v.d :: Value.int .i32 v.l :: (celR v ++ (vs.drop (i + 1)).flatMap encCell) := by
    rw [List.set_eq_take_append_cons_drop, if_pos hi, List.flatMap_append, List.flatMap_cons]; rfl
  unfold celX
  rw [e]
theorem celX_once (vs : List CellV) (i : Nat) (hi : i < vs.length) : OnceAt (rowB (.slice (some ⟨q.cb, 0, none⟩) n n)) (rowO (.slice (some ⟨q.cb, 0, none⟩) n n) + i * 6) (fun (s : List Value) d l => celX vs i (rowB (.slice (some ⟨q.cb, 0, none⟩) n n)) s d l) := by
  have hA : ((vs.take i).flatMap encCell).length = rowO (.slice (some ⟨q.cb, 0, none⟩) n n) + i * 6 := by
    rw [Enc.flat_len (enc := encCell) (n := 6), List.length_take]; show _ = 0 + i * 6; rw [Nat.min_eq_left (by omega)]; omega
  refine ⟨fun s l => ?_, fun s d => ?_⟩
  · have h := cellAt_blk (rowB (.slice (some ⟨q.cb, 0, none⟩) n n)) ((vs.take i).flatMap encCell) (l :: (s ++ (vs.drop (i + 1)).flatMap encCell)) 148
    rw [hA] at h; exact h
  · have h := cellAt_blk (rowB (.slice (some ⟨q.cb, 0, none⟩) n n)) ((vs.take i).flatMap encCell ++ [d]) (s ++ (vs.drop (i + 1)).flatMap encCell) 148
    have e : ∀ v, ((vs.take i).flatMap encCell ++ [d]) ++ v :: (s ++ (vs.drop (i + 1)).flatMap encCell) = (vs.take i).flatMap encCell ++ d :: v :: (s ++ (vs.drop (i + 1)).flatMap encCell) := fun v => by simp
    simp only [e] at h
    rw [List.length_append, hA, List.length_singleton] at h; exact h
/-- A chunk's bytes are there from now on. -/
theorem store_once (hsz : sz % 64 = 0 ∧ 1 ≤ sz ∧ sz ≤ 1048576) (b2 b8 i : Nat) (vs : List CellV) (hi : i < vs.length) (tx : List UInt8) (htl : tx.length = sz) (hl : (vs[i]).l = 0) (hd : (vs[i]).d = if (vs[i]).bp.isSome then 1 else 0) (w : World) (F : List HProp) [SeesBlk F sb #[.pointer (some ⟨q.tb, 0, none⟩), .pointer (some ⟨q.fb, 0, none⟩), .slice (some ⟨q.cb, 0, none⟩) n n, .int .i64 (sz : Nat), .int .i64 m0, .int .i64 m1, .int .i64 m2, .int .i64 m3, .pointer (some ⟨q.kb, 0, none⟩)]] [SeesBlk F b2 #[.pointer (some ⟨sb, 0, none⟩)]] [SeesBlk F b8 #[.pointer (some ⟨rowB (.slice (some ⟨q.cb, 0, none⟩) n n), rowO (.slice (some ⟨q.cb, 0, none⟩) n n) + i * 6, none⟩)]]
    (hw : holds w (owns 148 encCell 6 (.slice (some ⟨q.cb, 0, none⟩) n n) vs :: bytesO (vs[i]).bp sz tx :: F)) :
    Ct Tryz.prog 82 #[.pointer (some ⟨rowB (.slice (some ⟨q.cb, 0, none⟩) n n), rowO (.slice (some ⟨q.cb, 0, none⟩) n n) + i * 6, none⟩), .func (.func fTake1) #[] #[.pointer (some ⟨b2, 0, none⟩), .pointer (some ⟨b8, 0, none⟩)]] w fun e w' => ∃ b : Nat, e = .returned (.tuple #[]) ∧ holds w' (owns 148 encCell 6 (.slice (some ⟨q.cb, 0, none⟩) n n) (vs.set i { vs[i] with d := 1, bp := some b }) :: bytesP b sz tx :: F) := by
  obtain ⟨hvl, hmx, h1⟩ := celB.ofOwn hw
  obtain ⟨v, hv⟩ : ∃ v, v = vs[i] := ⟨_, rfl⟩
  have hs : vs = vs.set i v := by rw [hv, List.set_getElem_self]
  rw [← hv] at hl hd h1 ⊢
  obtain ⟨d, l, ph, bp, wp⟩ := v
  dsimp only at hl hd h1 ⊢
  subst hl
  cases bp with
  | some b =>
    have hd1 : d = 1 := hd
    subst hd1
    have h2 : holds w (celX vs i (rowB (.slice (some ⟨q.cb, 0, none⟩) n n)) (celR ⟨1, 0, ph, some b, wp⟩) (.int .u32 1) (.int .i32 0) :: bytesP b sz tx :: F) := by
      rw [celX_eq vs i _ hi ⟨1, 0, ph, some b, wp⟩, ← hs]; exact h1
    refine (once_Done (celX_once n q vs i hi) (celR ⟨1, 0, ph, some b, wp⟩) w (bytesP b sz tx :: F) _ h2).mono fun e w' ⟨he, h3⟩ => ⟨b, he, ?_⟩
    refine celB.back (by rw [List.length_set]; exact hvl) hmx ?_
    have h4 : holds w' (celX vs i (rowB (.slice (some ⟨q.cb, 0, none⟩) n n)) (celR ⟨1, 0, ph, some b, wp⟩) (.int .u32 1) (.int .i32 0) :: bytesP b sz tx :: F) := h3
    rw [celX_eq vs i _ hi ⟨1, 0, ph, some b, wp⟩] at h4
    exact h4
  | none =>
    have hd0 : d = 0 := hd
    subst hd0
    have hz : tx = St.zeros sz := by
      obtain ⟨f, _, f1, f2, ha, _, _⟩ := (h1.order [1, 0] : holds w (bytesO none sz tx :: _))
      have ha : ∀ y ∈ tx, y = 0 := ha
      exact List.eq_replicate_iff.2 ⟨htl, ha⟩
    subst hz
    have h2 : holds w (celX vs i (rowB (.slice (some ⟨q.cb, 0, none⟩) n n)) (celR ⟨0, 0, ph, none, wp⟩) (.int .u32 0) (.int .i32 0) :: F) := by
      rw [celX_eq vs i _ hi ⟨0, 0, ph, none, wp⟩, ← hs]; exact (h1.order [1, 0]).tail
    refine (once_Do (celX_once n q vs i hi) (celR ⟨0, 0, ph, none, wp⟩) (fun b : Nat => celR ⟨0, 0, ph, some b, wp⟩) fTake1 [] [.pointer (some ⟨b2, 0, none⟩), .pointer (some ⟨b8, 0, none⟩)] w F (fun b => bytesP b sz (St.zeros sz) :: F) (fun _ _ => rfl) (fun w h => ?_) h2).mono fun e w' ⟨b, he, h3⟩ => ⟨b, he, ?_⟩
    · have h3 : holds w (celX vs i (rowB (.slice (some ⟨q.cb, 0, none⟩) n n)) (celR ⟨0, 1, ph, none, wp⟩) (.int .u32 0) (.int .i32 1) :: F) := h
      rw [celX_eq vs i _ hi ⟨0, 1, ph, none, wp⟩] at h3
      have hi2 : i < (vs.set i ⟨0, 1, ph, none, wp⟩).length := by rw [List.length_set]; exact hi
      refine (store_Take1 sb n sz q m0 m1 m2 m3 hsz.1 hsz.2.1 hsz.2.2 b2 b8 i (vs.set i ⟨0, 1, ph, none, wp⟩) hi2 w F h3).mono fun e w' ⟨b, he, h4⟩ => ⟨b, he, ?_⟩
      rw [List.set_set, List.getElem_set_self] at h4
      have h5 : holds w' (blk (rowB (.slice (some ⟨q.cb, 0, none⟩) n n)) (.cells ((vs.set i ⟨0, 1, ph, some b, wp⟩).flatMap encCell).toArray 148 (0, 0)) :: bytesP b sz (St.zeros sz) :: F) := h4
      rw [← celX_eq vs i _ hi ⟨0, 1, ph, some b, wp⟩] at h5
      exact h5
    · refine celB.back (by rw [List.length_set]; exact hvl) hmx ?_
      have h4 : holds w' (celX vs i (rowB (.slice (some ⟨q.cb, 0, none⟩) n n)) (celR ⟨1, 0, ph, some b, wp⟩) (.int .u32 1) (.int .i32 0) :: bytesP b sz (St.zeros sz) :: F) := h3
      rw [celX_eq vs i _ hi ⟨1, 0, ph, some b, wp⟩] at h4
      exact h4
end
end Go.Proofs.YtipkgamiejenaaaGreat

/- Package store: Take. -/
namespace Go.Proofs.YtipkgamiejenaaaGreat
open Go Go.RowKit Go.MapKept
set_option linter.unusedVariables false
set_option linter.unusedSimpArgs false
set_option maxRecDepth 100000
set_option maxHeartbeats 4000000
theorem storeP.make {w : World} {sb : Nat} {F : List HProp} (t : St.S) (q : StoM) (vs : List CellV) (n : Nat) (n0 n1 n2 n3 : Int) (tags : List (Int × Int)) (e1 : t.ch.length = n) (c0 : St.cntP t.ch 0 = n0) (c1 : St.cntP t.ch 1 = n1) (c2 : St.cntP t.ch 2 = n2) (c3 : St.cntP t.ch 3 = n3) (et : (t.ch.map fun c => (c.owner, c.gen)) = tags) (hq : vs.length = n)
    (h : holds w (blk sb (.cells #[.pointer (some ⟨q.tb, 0, none⟩), .pointer (some ⟨q.fb, 0, none⟩), .slice (some ⟨q.cb, 0, none⟩) (n) (n), .int .i64 ((t.size : Nat) : Int), .int .i64 (n0), .int .i64 (n1), .int .i64 (n2), .int .i64 (n3), .pointer (some ⟨q.kb, 0, none⟩)] 123 (0, 0)) :: tagsAt (.pointer (some ⟨q.tb, 0, none⟩)) (tags) :: freeP (.pointer (some ⟨q.fb, 0, none⟩)) (n) (t.stack) :: owns 148 encCell 6 (.slice (some ⟨q.cb, 0, none⟩) (n) (n)) (vs) :: bigF n (chunkF t vs) :: bookP (.pointer (some ⟨q.kb, 0, none⟩)) 4 (t.ev) :: F)) : holds w (storeP sb t :: F) := by
  subst e1 c0 c1 c2 c3 et
  exact storeP.shut { q with vs := vs } hq h
/-- What is known of a chunk's cell. -/
theorem cell_ok {w : World} {t : St.S} {vs : List CellV} {k : Nat} {F : List HProp} (hk : k < t.ch.length) (hv : vs.length = t.ch.length) (h : holds w (bigF t.ch.length (chunkF t vs) :: F)) : (vs[k]'(by omega)).Ok (t.c k) := by
  have h1 := (chunkP.open (bigF.take hk h)).1
  rw [List.getD_eq_getElem?_getD, List.getElem?_eq_getElem (by omega)] at h1
  exact h1
/-- A chunk's pieces are taken out. -/
theorem cell_take {w : World} {t : St.S} {vs : List CellV} {k : Nat} {F : List HProp} (hk : k < t.ch.length) (hv : vs.length = t.ch.length) (v : CellV) (e : vs[k]'(by omega) = v) (h : holds w (bigF t.ch.length (chunkF t vs) :: F)) : holds w (bytesO v.bp t.size (t.x k) :: wipeO v.wp v.bp (t.w k) :: sep (((List.range t.ch.length).map (chunkF t vs)).eraseIdx k) :: F) := by
  have h1 := (chunkP.open (bigF.take hk h)).2
  rw [List.getD_eq_getElem?_getD, List.getElem?_eq_getElem (by omega)] at h1
  rw [← e]; exact h1
/-- .. and put back, changed. -/
theorem cell_put {w : World} {t t' : St.S} {vs : List CellV} {k : Nat} {F : List HProp} (v : CellV) (hk : k < t.ch.length) (hv : vs.length = t.ch.length) (hs : t'.size = t.size) (hc : ∀ j : Nat, j ≠ k → t'.c j = t.c j) (hx : ∀ j : Nat, j ≠ k → t'.x j = t.x j) (hw : ∀ j : Nat, j ≠ k → t'.w j = t.w j) (hok : v.Ok (t'.c k))
    (h : holds w (bytesO v.bp t.size (t'.x k) :: wipeO v.wp v.bp (t'.w k) :: sep (((List.range t.ch.length).map (chunkF t vs)).eraseIdx k) :: F)) : holds w (bigF t.ch.length (chunkF t' (vs.set k v)) :: F) := by
  refine bigF.put (f := chunkF t vs) hk (fun j hj hne => ?_) ?_
  · unfold chunkF
    rw [hs, hc j hne, hx j hne, hw j hne, St.getD_set _ _ _ _ _ (by omega), if_neg hne]
  · unfold chunkF
    rw [hs, St.getD_set _ _ _ _ _ (by omega), if_pos rfl]
    exact chunkP.shut hok h
theorem c_set (t : St.S) (k : Nat) (hk : k < t.ch.length) (c : ChunkM) (j : Nat) : (t.ch.set k c).getD j St.ch0 = if j = k then c else t.c j := by
  rw [St.getD_set _ _ _ _ _ hk]; rfl
/-- The counts of the phases when one chunk goes on. -/
theorem cnt_move (l : List ChunkM) (k : Nat) (hk : k < l.length) (p : Nat) (hp : p < 4) (h1 : (l[k]).phase = p) (c : ChunkM) (h2 : c.phase = (((p + 1) % 4 : Nat) : Int)) :
    [St.cntP (l.set k c) 0, St.cntP (l.set k c) 1, St.cntP (l.set k c) 2, St.cntP (l.set k c) 3] = ([St.cntP l 0, St.cntP l 1, St.cntP l 2, St.cntP l 3].set p ([St.cntP l 0, St.cntP l 1, St.cntP l 2, St.cntP l 3].getD p 0 - 1)).set ((p + 1) % 4) ([St.cntP l 0, St.cntP l 1, St.cntP l 2, St.cntP l 3].getD ((p + 1) % 4) 0 + 1) := by
  simp only [St.cntP_set l k hk c, h1, h2]
  have hc : p = 0 ∨ p = 1 ∨ p = 2 ∨ p = 3 := by omega
  rcases hc with rfl | rfl | rfl | rfl <;> simp <;> omega
theorem cnt_in (l : List ChunkM) (hl : l.length ≤ 1048576) : ∀ m ∈ [St.cntP l 0, St.cntP l 1, St.cntP l 2, St.cntP l 3], 0 ≤ m ∧ m ≤ 1099511627776 := by
  have h : ∀ p, 0 ≤ St.cntP l p ∧ St.cntP l p ≤ 1099511627776 := fun p => by
    have := List.length_filter_le (fun c : ChunkM => c.phase == p) l
    unfold St.cntP; omega
  intro m hm
  simp only [List.mem_cons, List.not_mem_nil, or_false] at hm
  rcases hm with rfl | rfl | rfl | rfl <;> exact h _
theorem ev_in {t : St.S} {K : Nat} (h : St.Inv t K) (p : Nat) (hp : p < 4) : 0 ≤ t.ev.getD p 0 ∧ t.ev.getD p 0 ≤ K := by
  rw [List.getD_eq_getElem?_getD, List.getElem?_eq_getElem (by rw [h.n3]; exact hp)]
  exact h.ev _ (List.getElem_mem _)
theorem tags_at (t : St.S) (k : Nat) (hk : k < t.ch.length) : (t.ch.map fun c => (c.owner, c.gen)).getD ((k : Nat) : Int).toNat (0, 0) = ((t.c k).owner, (t.c k).gen) := by
  rw [Int.toNat_natCast, List.getD_eq_getElem?_getD, List.getElem?_map, List.getElem?_eq_getElem hk, t.c_eq k hk]; rfl
end Go.Proofs.YtipkgamiejenaaaGreat

/- Package store: Take. -/
namespace Go.Proofs.YtipkgamiejenaaaGreat
open Go Go.RowKit Go.MapKept
set_option linter.unusedVariables false
set_option linter.unusedSimpArgs false
set_option maxRecDepth 100000
set_option maxHeartbeats 4000000
section
variable (sb : Nat) (t : St.S) (K : Nat) (hI : St.Inv t K) (hK : K ≤ 1000000)
include hI hK
theorem store_Take (ow : Int) (w : World) (F : List HProp) (hw : holds w (storeP sb t :: F)) :
    Ct Tryz.prog 25 #[.pointer (some ⟨sb, 0, none⟩), .int .i64 ow] w fun e w' => e = .returned (.tuple #[.int .i64 (St.take t ow).2.1, .int .i64 (St.take t ow).2.2]) ∧ holds w' (storeP sb (St.take t ow).1 :: F) := by
  obtain ⟨q, hq, h1⟩ := storeP.open hw
  unfold St.take
  have hnc := hI.ncap
  have hFT := fun w (F : List HProp) h => free_Take t.ch.length hnc t.stack (.pointer (some ⟨q.fb, 0, none⟩)) w F h
  refine Ct.go (args := [.pointer (some ⟨sb, 0, none⟩), .int .i64 ow]) Tryz.func25 rfl rfl rfl h1 ?_
  by_cases ho : ow < 1
  · rw [if_pos ho]
    repeat' (first | (first | (apply GL.isBox; refine GL.box1 rfl rfl rfl (fun b2 => ?_)) | first | (apply GL.isCall; refine GL.call1 rfl rfl (fun w h => store_is sb t.ch.length t.size q (St.cntP t.ch 0) (St.cntP t.ch 1) (St.cntP t.ch 2) (St.cntP t.ch 3) w _ h) ?_) | (apply GD.isAny; refine GD.call rfl rfl (fun w F' h => store_is sb t.ch.length t.size q (St.cntP t.ch 0) (St.cntP t.ch 1) (St.cntP t.ch 2) (St.cntP t.ch 3) w _ h) ?_)) | first | refine stp ?_ | (refine stpB ?_; intro _) | (refine spl ?_ ?_ <;> intro hc <;> ((try simp only [decide_eq_true_eq, decide_eq_false_iff_not, Bool.not_true, Bool.not_false, ne_eq, Classical.not_not, Int.not_lt, Int.not_le] at hc); (try (exfalso; first | omega | exact hc trivial | exact hc rfl)))))
    all_goals (first | (exfalso; omega) | (exfalso; simp at hc; done) | (refine GE.resMany rfl (by (repeat (first | apply Res.nil | (apply Res.tmp; rfl) | (refine Res.cellA rfl rfl rfl ?_) | (refine Res.cell1 rfl rfl ?_)))) (fun w h => ?_); exact ⟨rfl, storeP.shut q hq h.sub⟩))
  rw [if_neg ho]
  cases hl : t.stack.getLast? with
  | none =>
    have hs : t.stack = [] := List.getLast?_eq_none_iff.1 hl
    have hd : t.stack.dropLast = t.stack := by rw [hs]; rfl
    rw [hl, hd, decide_eq_false (fun h => h hs)] at hFT
    repeat' (first | (first | (apply GL.isBox; refine GL.box1 rfl rfl rfl (fun b2 => ?_)) | first | (apply GL.isCall; refine GL.call1 rfl rfl (fun w h => store_is sb t.ch.length t.size q (St.cntP t.ch 0) (St.cntP t.ch 1) (St.cntP t.ch 2) (St.cntP t.ch 3) w _ h) ?_) | (apply GD.isAny; refine GD.call rfl rfl (fun w F' h => store_is sb t.ch.length t.size q (St.cntP t.ch 0) (St.cntP t.ch 1) (St.cntP t.ch 2) (St.cntP t.ch 3) w _ h) ?_) | (apply GL.isCall; refine GL.callH1 ((freeP (.pointer (some ⟨q.fb, 0, none⟩)) (t.ch.length) (t.stack))) rfl rfl (fun w h => hFT w _ h) ?_)) | first | refine stp ?_ | (refine stpB ?_; intro _) | (refine spl ?_ ?_ <;> intro hc <;> ((try simp only [decide_eq_true_eq, decide_eq_false_iff_not, Bool.not_true, Bool.not_false, ne_eq, Classical.not_not, Int.not_lt, Int.not_le] at hc); (try (exfalso; first | omega | exact hc trivial | exact hc rfl)))))
    all_goals (first | (exfalso; omega) | (exfalso; simp at hc; done) | (refine GE.resMany rfl (by (repeat (first | apply Res.nil | (apply Res.tmp; rfl) | (refine Res.cellA rfl rfl rfl ?_) | (refine Res.cell1 rfl rfl ?_)))) (fun w h => ?_); exact ⟨rfl, storeP.shut q hq h.sub⟩))
  | some y =>
    have hs := St.snoc_last hl
    obtain ⟨k, hk, rfl, hph⟩ := (hI.free y).1 (by rw [← hs]; simp)
    have hne : t.stack ≠ [] := fun e => by rw [e] at hl; cases hl
    rw [hl, decide_eq_true hne] at hFT
    simp only [Option.getD_some] at hFT
    dsimp only
    simp only [Int.toNat_natCast]
    have hok := cell_ok hk hq (h1.pick 4)
    have hkv : k < q.vs.length := by omega
    obtain ⟨v, hv⟩ : ∃ v, v = q.vs[k] := ⟨_, rfl⟩
    rw [← hv] at hok
    have hcell := hI.cell k hk
    have hc0 := t.c_eq k hk
    have hwp : v.wp = none := by
      have := hok.wp
      rw [hc0, hph] at this
      cases hw : v.wp with
      | none => rfl
      | some x => rw [hw] at this; exact absurd (this.1 rfl) (by decide)
    obtain ⟨d, l, ph, bp, wp⟩ := v
    dsimp only at hwp
    subst hwp
    obtain ⟨hl0, hph0, hd0, _, _⟩ := hok
    dsimp only at hl0 hph0 hd0
    rw [hc0, hph] at hph0
    subst hl0 hph0
    have hown : Tags.own (t.ch.map fun c => (c.owner, c.gen)) k ow = (0, (t.ch.set k ⟨1, ow, (t.c k).gen⟩).map fun c => (c.owner, c.gen)) := by
      unfold Tags.own
      rw [if_neg (by rw [List.length_map]; omega), tags_at t k hk, if_neg (by
        dsimp only
        rw [hc0]
        rcases hcell.ow with h | h
        · omega
        · exact fun h2 => h2 h.2), Int.toNat_natCast, List.map_set]
    have hOw := fun w (F : List HProp) h => tags_Own w (.pointer (some ⟨q.tb, 0, none⟩)) (t.ch.map fun c => (c.owner, c.gen)) k ow F (by rw [List.length_map]; exact hnc) h
    rw [hown] at hOw
    have htl : (t.x k).length = t.size := hcell.len
    have hsz := hI.sz
    have hev := ev_in hI 0 (by omega)
    have hset : (q.vs.set k (⟨1, 0, 0, none, none⟩ : CellV)).length = q.vs.length := by simp
    have hON := fun (b2 b8 : Nat) w (F : List HProp) [SeesBlk F sb #[.pointer (some ⟨q.tb, 0, none⟩), .pointer (some ⟨q.fb, 0, none⟩), .slice (some ⟨q.cb, 0, none⟩) t.ch.length t.ch.length, .int .i64 (t.size : Nat), .int .i64 (St.cntP t.ch 0), .int .i64 (St.cntP t.ch 1), .int .i64 (St.cntP t.ch 2), .int .i64 (St.cntP t.ch 3), .pointer (some ⟨q.kb, 0, none⟩)]] [SeesBlk F b2 #[.pointer (some ⟨sb, 0, none⟩)]] [SeesBlk F b8 #[.pointer (some ⟨rowB (.slice (some ⟨q.cb, 0, none⟩) t.ch.length t.ch.length), rowO (.slice (some ⟨q.cb, 0, none⟩) t.ch.length t.ch.length) + k * 6, none⟩)]] h => store_once sb t.ch.length t.size q (St.cntP t.ch 0) (St.cntP t.ch 1) (St.cntP t.ch 2) (St.cntP t.ch 3) ⟨hsz.2.2, by omega, hsz.2.1⟩ b2 b8 k q.vs hkv (t.x k) htl (by rw [← hv]) (by rw [← hv]; exact hd0) w F h
    rw [← hv] at hON
    dsimp only at hON
    have hTk := fun w (G : List HProp) (h : holds w (bigF t.ch.length (chunkF t q.vs) :: G)) => (show holds w (bytesO bp t.size (t.x k) :: nilP :: sep (((List.range t.ch.length).map (chunkF t q.vs)).eraseIdx k) :: G) from cell_take hk hq ⟨d, 0, 0, bp, none⟩ hv.symm h)
    have hLd := fun (b : Nat) w (F : List HProp) h => store_lead sb t.ch.length t.size q (St.cntP t.ch 0) (St.cntP t.ch 1) (St.cntP t.ch 2) (St.cntP t.ch 3) (q.vs.set k ⟨1, 0, 0, some b, none⟩) t.ev hI.n3 k 0 (by rw [List.length_set]; exact hkv) (by omega) (by rw [List.getElem_set_self]; rfl) _ _ _ _ (cnt_move t.ch k hk 0 (by omega) hph ⟨1, ow, (t.c k).gen⟩ rfl) (cnt_in t.ch hnc) hev.1 (by omega) w F h
    simp only [List.set_set, List.getElem_set_self] at hLd
    repeat' (first | (first | (apply GL.isBox; refine GL.box1 rfl rfl rfl (fun b2 => ?_)) | first | (apply GL.isCall; refine GL.call1 rfl rfl (fun w h => store_is sb t.ch.length t.size q (St.cntP t.ch 0) (St.cntP t.ch 1) (St.cntP t.ch 2) (St.cntP t.ch 3) w _ h) ?_) | (apply GD.isAny; refine GD.call rfl rfl (fun w F' h => store_is sb t.ch.length t.size q (St.cntP t.ch 0) (St.cntP t.ch 1) (St.cntP t.ch 2) (St.cntP t.ch 3) w _ h) ?_) | (apply GL.isCall; refine GL.callH1 ((freeP (.pointer (some ⟨q.fb, 0, none⟩)) (t.ch.length) (t.stack))) rfl rfl (fun w h => hFT w _ h) ?_) | (apply GL.isAny; refine GL.run (by apply Runs.isIndexA; exact Runs.indexAddr (k := k) rfl rfl rfl rfl hkv) rfl ?_) | (apply GL.isAlloc; refine GL.alloc rfl (fun b8 => ?_)) | (refine G.isRegion 9 ?_; refine G.imp (F' := blk b8 (.cells #[.pointer (some ⟨rowB (.slice (some ⟨q.cb, 0, none⟩) t.ch.length t.ch.length), rowO (.slice (some ⟨q.cb, 0, none⟩) t.ch.length t.ch.length) + k * 6, none⟩)] 132 (0, 0)) :: freeP (.pointer (some ⟨q.fb, 0, none⟩)) (t.ch.length) (t.stack.dropLast) :: blk b2 (.cells #[.pointer (some ⟨sb, 0, none⟩)] 25 (0, 0)) :: blk sb (.cells #[.pointer (some ⟨q.tb, 0, none⟩), .pointer (some ⟨q.fb, 0, none⟩), .slice (some ⟨q.cb, 0, none⟩) (t.ch.length) (t.ch.length), .int .i64 ((t.size : Nat) : Int), .int .i64 (St.cntP t.ch 0), .int .i64 (St.cntP t.ch 1), .int .i64 (St.cntP t.ch 2), .int .i64 (St.cntP t.ch 3), .pointer (some ⟨q.kb, 0, none⟩)] 123 (0, 0)) :: tagsAt (.pointer (some ⟨q.tb, 0, none⟩)) (t.ch.map fun c => (c.owner, c.gen)) :: owns 148 encCell 6 (.slice (some ⟨q.cb, 0, none⟩) (t.ch.length) (t.ch.length)) (q.vs) :: bytesO bp t.size (t.x k) :: sep (((List.range t.ch.length).map (chunkF t q.vs)).eraseIdx k) :: bookP (.pointer (some ⟨q.kb, 0, none⟩)) 4 (t.ev) :: F) ?_ (fun w h => (hTk w (blk b8 (.cells #[.pointer (some ⟨rowB (.slice (some ⟨q.cb, 0, none⟩) t.ch.length t.ch.length), rowO (.slice (some ⟨q.cb, 0, none⟩) t.ch.length t.ch.length) + k * 6, none⟩)] 132 (0, 0)) :: freeP (.pointer (some ⟨q.fb, 0, none⟩)) (t.ch.length) (t.stack.dropLast) :: blk b2 (.cells #[.pointer (some ⟨sb, 0, none⟩)] 25 (0, 0)) :: blk sb (.cells #[.pointer (some ⟨q.tb, 0, none⟩), .pointer (some ⟨q.fb, 0, none⟩), .slice (some ⟨q.cb, 0, none⟩) (t.ch.length) (t.ch.length), .int .i64 ((t.size : Nat) : Int), .int .i64 (St.cntP t.ch 0), .int .i64 (St.cntP t.ch 1), .int .i64 (St.cntP t.ch 2), .int .i64 (St.cntP t.ch 3), .pointer (some ⟨q.kb, 0, none⟩)] 123 (0, 0)) :: tagsAt (.pointer (some ⟨q.tb, 0, none⟩)) (t.ch.map fun c => (c.owner, c.gen)) :: owns 148 encCell 6 (.slice (some ⟨q.cb, 0, none⟩) (t.ch.length) (t.ch.length)) (q.vs) :: bookP (.pointer (some ⟨q.kb, 0, none⟩)) 4 (t.ev) :: F) ((show holds w (blk b8 (.cells #[.pointer (some ⟨rowB (.slice (some ⟨q.cb, 0, none⟩) t.ch.length t.ch.length), rowO (.slice (some ⟨q.cb, 0, none⟩) t.ch.length t.ch.length) + k * 6, none⟩)] 132 (0, 0)) :: freeP (.pointer (some ⟨q.fb, 0, none⟩)) (t.ch.length) (t.stack.dropLast) :: blk b2 (.cells #[.pointer (some ⟨sb, 0, none⟩)] 25 (0, 0)) :: blk sb (.cells #[.pointer (some ⟨q.tb, 0, none⟩), .pointer (some ⟨q.fb, 0, none⟩), .slice (some ⟨q.cb, 0, none⟩) (t.ch.length) (t.ch.length), .int .i64 ((t.size : Nat) : Int), .int .i64 (St.cntP t.ch 0), .int .i64 (St.cntP t.ch 1), .int .i64 (St.cntP t.ch 2), .int .i64 (St.cntP t.ch 3), .pointer (some ⟨q.kb, 0, none⟩)] 123 (0, 0)) :: tagsAt (.pointer (some ⟨q.tb, 0, none⟩)) (t.ch.map fun c => (c.owner, c.gen)) :: owns 148 encCell 6 (.slice (some ⟨q.cb, 0, none⟩) (t.ch.length) (t.ch.length)) (q.vs) :: bigF t.ch.length (chunkF t q.vs) :: bookP (.pointer (some ⟨q.kb, 0, none⟩)) 4 (t.ev) :: F) from h).pick 6)).sub); apply G.region) | (apply GL.isCall; refine GL.call (vs := [.pointer (some ⟨rowB (.slice (some ⟨q.cb, 0, none⟩) t.ch.length t.ch.length), rowO (.slice (some ⟨q.cb, 0, none⟩) t.ch.length t.ch.length) + k * 6, none⟩), .func (.func fTake1) #[] #[.pointer (some ⟨b2, 0, none⟩), .pointer (some ⟨b8, 0, none⟩)]]) rfl rfl (fun w h => hON b2 b8 w (blk b8 (.cells #[.pointer (some ⟨rowB (.slice (some ⟨q.cb, 0, none⟩) t.ch.length t.ch.length), rowO (.slice (some ⟨q.cb, 0, none⟩) t.ch.length t.ch.length) + k * 6, none⟩)] 132 (0, 0)) :: freeP (.pointer (some ⟨q.fb, 0, none⟩)) (t.ch.length) (t.stack.dropLast) :: blk b2 (.cells #[.pointer (some ⟨sb, 0, none⟩)] 25 (0, 0)) :: blk sb (.cells #[.pointer (some ⟨q.tb, 0, none⟩), .pointer (some ⟨q.fb, 0, none⟩), .slice (some ⟨q.cb, 0, none⟩) (t.ch.length) (t.ch.length), .int .i64 ((t.size : Nat) : Int), .int .i64 (St.cntP t.ch 0), .int .i64 (St.cntP t.ch 1), .int .i64 (St.cntP t.ch 2), .int .i64 (St.cntP t.ch 3), .pointer (some ⟨q.kb, 0, none⟩)] 123 (0, 0)) :: tagsAt (.pointer (some ⟨q.tb, 0, none⟩)) (t.ch.map fun c => (c.owner, c.gen)) :: sep (((List.range t.ch.length).map (chunkF t q.vs)).eraseIdx k) :: bookP (.pointer (some ⟨q.kb, 0, none⟩)) 4 (t.ev) :: F) h.sub) (fun b => ?_)) | (apply GL.isCall; refine GL.callH1 ((tagsAt (.pointer (some ⟨q.tb, 0, none⟩)) (t.ch.map fun c => (c.owner, c.gen)))) rfl rfl (fun w h => ⟨hOw w _ h⟩) ?_) | (apply GL.isCall; refine GL.call1 (vs := [.pointer (some ⟨sb, 0, none⟩), .pointer (some ⟨rowB (.slice (some ⟨q.cb, 0, none⟩) t.ch.length t.ch.length), rowO (.slice (some ⟨q.cb, 0, none⟩) t.ch.length t.ch.length) + k * 6, none⟩), .int .i64 ((0 + 1 : Nat) : Int)]) rfl rfl (fun w h => hLd b w (tagsAt (.pointer (some ⟨q.tb, 0, none⟩)) ((t.ch.set k ⟨1, ow, (t.c k).gen⟩).map fun c => (c.owner, c.gen)) :: bytesP b t.size (t.x k) :: blk b8 (.cells #[.pointer (some ⟨rowB (.slice (some ⟨q.cb, 0, none⟩) t.ch.length t.ch.length), rowO (.slice (some ⟨q.cb, 0, none⟩) t.ch.length t.ch.length) + k * 6, none⟩)] 132 (0, 0)) :: freeP (.pointer (some ⟨q.fb, 0, none⟩)) (t.ch.length) (t.stack.dropLast) :: blk b2 (.cells #[.pointer (some ⟨sb, 0, none⟩)] 25 (0, 0)) :: sep (((List.range t.ch.length).map (chunkF t q.vs)).eraseIdx k) :: F) h.sub) ?_)) | first | refine stp ?_ | (refine stpB ?_; intro _) | (refine spl ?_ ?_ <;> intro hc <;> ((try simp only [decide_eq_true_eq, decide_eq_false_iff_not, Bool.not_true, Bool.not_false, ne_eq, Classical.not_not, Int.not_lt, Int.not_le] at hc); (try (exfalso; first | omega | exact hc trivial | exact hc rfl)))))
    all_goals (first | (exfalso; omega) | (exfalso; simp at hc; done) | skip)
    refine GE.resMany rfl (by (repeat (first | apply Res.nil | (apply Res.tmp; rfl) | (refine Res.cellA rfl rfl rfl ?_) | (refine Res.cell1 rfl rfl ?_)))) (fun w h => ?_)
    refine ⟨rfl, ?_⟩
    have ec : ∀ j : Nat, ({ t with stack := t.stack.dropLast, ch := t.ch.set k ⟨1, ow, (t.c k).gen⟩, ev := St.up t.ev 0 } : St.S).c j = if j = k then ⟨1, ow, (t.c k).gen⟩ else t.c j := fun j => by
      have := c_set t k hk ⟨1, ow, (t.c k).gen⟩ j
      rw [← this]; show (t.ch.set k _).getD ((j : Int)).toNat St.ch0 = _; rw [Int.toNat_natCast]
    have h5 := cell_put (t' := { t with stack := t.stack.dropLast, ch := t.ch.set k ⟨1, ow, (t.c k).gen⟩, ev := St.up t.ev 0 }) (⟨1, 0, 1, some b, none⟩ : CellV) hk hq rfl (fun j hj => by rw [ec, if_neg hj]) (fun j hj => rfl) (fun j hj => rfl) (by rw [ec, if_pos rfl]; exact ⟨rfl, rfl, rfl, fun _ => rfl, by simp⟩) (holds.addNil (holds.sub (H := bytesP b t.size (t.x k) :: sep (((List.range t.ch.length).map (chunkF t q.vs)).eraseIdx k) :: blk sb (.cells #[.pointer (some ⟨q.tb, 0, none⟩), .pointer (some ⟨q.fb, 0, none⟩), .slice (some ⟨q.cb, 0, none⟩) (t.ch.length) (t.ch.length), .int .i64 ((t.size : Nat) : Int), .int .i64 (St.cntP (t.ch.set k ⟨1, ow, (t.c k).gen⟩) 0), .int .i64 (St.cntP (t.ch.set k ⟨1, ow, (t.c k).gen⟩) 1), .int .i64 (St.cntP (t.ch.set k ⟨1, ow, (t.c k).gen⟩) 2), .int .i64 (St.cntP (t.ch.set k ⟨1, ow, (t.c k).gen⟩) 3), .pointer (some ⟨q.kb, 0, none⟩)] 123 (0, 0)) :: tagsAt (.pointer (some ⟨q.tb, 0, none⟩)) ((t.ch.set k ⟨1, ow, (t.c k).gen⟩).map fun c => (c.owner, c.gen)) :: freeP (.pointer (some ⟨q.fb, 0, none⟩)) (t.ch.length) (t.stack.dropLast) :: owns 148 encCell 6 (.slice (some ⟨q.cb, 0, none⟩) (t.ch.length) (t.ch.length)) (q.vs.set k ⟨1, 0, 1, some b, none⟩) :: bookP (.pointer (some ⟨q.kb, 0, none⟩)) 4 (t.ev.set 0 (t.ev.getD 0 0 + 1)) :: F) h) |>.order [1, 0])
    refine storeP.make _ q (q.vs.set k ⟨1, 0, 1, some b, none⟩) t.ch.length _ _ _ _ _ (by simp) rfl rfl rfl rfl rfl (by simpa using hq) ?_
    exact h5.order [1, 2, 3, 4, 0, 5]
end
end Go.Proofs.YtipkgamiejenaaaGreat

/- Package store: Defer, Begin. -/
namespace Go.Proofs.YtipkgamiejenaaaGreat
open Go Go.RowKit Go.MapKept
set_option linter.unusedVariables false
set_option linter.unusedSimpArgs false
set_option maxRecDepth 100000
set_option maxHeartbeats 4000000
theorem set_nat (t : St.S) (k : Nat) (c : ChunkM) (hk : k < t.ch.length) (t' : St.S) (h : t'.ch = t.ch.set k c) (j : Nat) : t'.c j = if j = k then c else t.c j := by
  have := c_set t k hk c j
  rw [← this]; show t'.ch.getD ((j : Int)).toNat St.ch0 = _; rw [Int.toNat_natCast, h]
section
variable (sb : Nat) (t : St.S) (K : Nat) (hI : St.Inv t K) (hK : K ≤ 1000000)
include hI hK
theorem store_Defer (i ow : Int) (w : World) (F : List HProp) (hw : holds w (storeP sb t :: F)) :
    Ct Tryz.prog 35 #[.pointer (some ⟨sb, 0, none⟩), .int .i64 i, .int .i64 ow] w fun e w' => e = .returned (.int .i64 (St.give t i ow).2) ∧ holds w' (storeP sb (St.give t i ow).1 :: F) := by
  obtain ⟨q, hq, h1⟩ := storeP.open hw
  unfold St.give
  have hnc := hI.ncap
  refine Ct.go (args := [.pointer (some ⟨sb, 0, none⟩), .int .i64 i, .int .i64 ow]) Tryz.func35 rfl rfl rfl h1 ?_
  by_cases ho : t.out i
  · rw [if_pos ho]
    repeat' (first | (first | (apply GL.isCall; refine GL.call1 rfl rfl (fun w h => store_findN sb t.ch.length t.size q (St.cntP t.ch 0) (St.cntP t.ch 1) (St.cntP t.ch 2) (St.cntP t.ch 3) q.vs hq i ho w _ h) ?_) | (apply GD.isAny; refine GD.call rfl rfl (fun w F' h => store_findN sb t.ch.length t.size q (St.cntP t.ch 0) (St.cntP t.ch 1) (St.cntP t.ch 2) (St.cntP t.ch 3) q.vs hq i ho w _ h) ?_)) | first | refine stp ?_ | (refine stpB ?_; intro _) | (refine spl ?_ ?_ <;> intro hc <;> ((try simp only [decide_eq_true_eq, decide_eq_false_iff_not, Bool.not_true, Bool.not_false, ne_eq, Classical.not_not, Int.not_lt, Int.not_le] at hc); (try (exfalso; first | omega | exact hc trivial | exact hc rfl)))))
    all_goals (first | (exfalso; simp at hc; done) | (refine GE.resOne rfl (by (repeat (first | apply Res.nil | (apply Res.tmp; rfl) | (refine Res.cellA rfl rfl rfl ?_) | (refine Res.cell1 rfl rfl ?_)))) (fun w h => ?_); exact ⟨rfl, storeP.shut q hq h.sub⟩))
  rw [if_neg ho]
  obtain ⟨k, rfl, hk⟩ := St.out_ex ho
  have hok := cell_ok hk hq (h1.pick 4)
  have hkv : k < q.vs.length := by omega
  have hcell := hI.cell k hk
  have hc0 := t.c_eq k hk
  have hph := hok.ph
  have hOr := fun w (F : List HProp) h => tags_Owner w (.pointer (some ⟨q.tb, 0, none⟩)) (t.ch.map fun c => (c.owner, c.gen)) k F (by rw [List.length_map]; exact hnc) h
  rw [if_pos (by rw [List.length_map]; omega), tags_at t k hk] at hOr
  dsimp only at hOr
  simp only [Int.toNat_natCast]
  by_cases hp : (t.c k).phase ≠ 1 ∨ (t.c k).owner ≠ ow
  · rw [if_pos hp]
    repeat' (first | (first | (rw [hph]) | first | (apply GL.isCall; refine GL.call1 rfl rfl (fun w h => store_find sb t.ch.length t.size q (St.cntP t.ch 0) (St.cntP t.ch 1) (St.cntP t.ch 2) (St.cntP t.ch 3) q.vs hq k hk w _ h) ?_) | (apply GD.isAny; refine GD.call rfl rfl (fun w F' h => store_find sb t.ch.length t.size q (St.cntP t.ch 0) (St.cntP t.ch 1) (St.cntP t.ch 2) (St.cntP t.ch 3) q.vs hq k hk w _ h) ?_) | (apply GL.isCall; refine GL.callH1 ((tagsAt (.pointer (some ⟨q.tb, 0, none⟩)) (t.ch.map fun c => (c.owner, c.gen)))) rfl rfl (fun w h => ⟨hOr w _ h⟩) ?_)) | first | refine stp ?_ | (refine stpB ?_; intro _) | (refine spl ?_ ?_ <;> intro hc <;> ((try simp only [decide_eq_true_eq, decide_eq_false_iff_not, Bool.not_true, Bool.not_false, ne_eq, Classical.not_not, Int.not_lt, Int.not_le] at hc); (try (exfalso; first | omega | exact hc trivial | exact hc rfl)))))
    all_goals (first | (exfalso; simp at hc; done) | (exfalso; omega) | (refine GE.resOne rfl (by (repeat (first | apply Res.nil | (apply Res.tmp; rfl) | (refine Res.cellA rfl rfl rfl ?_) | (refine Res.cell1 rfl rfl ?_)))) (fun w h => ?_); exact ⟨rfl, storeP.shut q hq h.sub⟩))
  rw [if_neg hp]
  obtain ⟨v, hv⟩ : ∃ v, v = q.vs[k] := ⟨_, rfl⟩
  rw [← hv] at hok hph
  have hp1 : (t.c k).phase = 1 := by omega
  have hown : 0 < (t.c k).owner := by rw [hc0] at hp1 ⊢; rcases hcell.ow with h | h <;> omega
  have hwp : v.wp = none := by
    have := hok.wp
    rw [hp1] at this
    cases hw : v.wp with
    | none => rfl
    | some x => rw [hw] at this; exact absurd (this.1 rfl) (by decide)
  obtain ⟨d, l, ph, bp, wp⟩ := v
  dsimp only at hwp hph
  subst hwp
  obtain ⟨hl0, hph0, hd0, hbp0, _⟩ := hok
  dsimp only at hl0 hph0 hd0 hbp0
  have hbs : bp.isSome = true := hbp0 (by omega)
  have hlv : Tags.leave (t.ch.map fun c => (c.owner, c.gen)) k = (0, (t.ch.set k ⟨2, 0, (t.c k).gen⟩).map fun c => (c.owner, c.gen)) := by
    unfold Tags.leave
    rw [if_neg (by rw [List.length_map]; omega), tags_at t k hk, if_neg (by dsimp only; omega), Int.toNat_natCast, List.map_set]
  have hLv := fun w (F : List HProp) h => tags_Leave w (.pointer (some ⟨q.tb, 0, none⟩)) (t.ch.map fun c => (c.owner, c.gen)) k F (by rw [List.length_map]; exact hnc) h
  rw [hlv] at hLv
  have hev := ev_in hI 1 (by omega)
  have hLd := fun w (F : List HProp) h => store_lead sb t.ch.length t.size q (St.cntP t.ch 0) (St.cntP t.ch 1) (St.cntP t.ch 2) (St.cntP t.ch 3) q.vs t.ev hI.n3 k 1 hkv (by omega) (by rw [← hv]; exact hph.trans hp1) _ _ _ _ (cnt_move t.ch k hk 1 (by omega) (by rw [← hc0]; exact hp1) ⟨2, 0, (t.c k).gen⟩ rfl) (cnt_in t.ch hnc) hev.1 (by omega) w F h
  rw [← hv] at hLd
  dsimp only at hLd
  have hph2 : (q.vs[k]).ph = (t.c k).phase := by rw [← hv]; exact hph
  repeat' (first | (first | (rw [hph2]) | first | (apply GL.isCall; refine GL.call1 rfl rfl (fun w h => store_find sb t.ch.length t.size q (St.cntP t.ch 0) (St.cntP t.ch 1) (St.cntP t.ch 2) (St.cntP t.ch 3) q.vs hq k hk w _ h) ?_) | (apply GD.isAny; refine GD.call rfl rfl (fun w F' h => store_find sb t.ch.length t.size q (St.cntP t.ch 0) (St.cntP t.ch 1) (St.cntP t.ch 2) (St.cntP t.ch 3) q.vs hq k hk w _ h) ?_) | (apply GL.isCall; refine GL.callH1 ((tagsAt (.pointer (some ⟨q.tb, 0, none⟩)) (t.ch.map fun c => (c.owner, c.gen)))) rfl rfl (fun w h => ⟨hOr w _ h⟩) ?_) | (apply GL.isCall; refine GL.callH1 ((tagsAt (.pointer (some ⟨q.tb, 0, none⟩)) (t.ch.map fun c => (c.owner, c.gen)))) rfl rfl (fun w h => ⟨hLv w _ h⟩) ?_) | (apply GL.isCall; refine GL.call1 (vs := [.pointer (some ⟨sb, 0, none⟩), .pointer (some ⟨rowB (.slice (some ⟨q.cb, 0, none⟩) t.ch.length t.ch.length), rowO (.slice (some ⟨q.cb, 0, none⟩) t.ch.length t.ch.length) + k * 6, none⟩), .int .i64 ((1 + 1 : Nat) : Int)]) rfl rfl (fun w h => hLd w (tagsAt (.pointer (some ⟨q.tb, 0, none⟩)) ((t.ch.set k ⟨2, 0, (t.c k).gen⟩).map fun c => (c.owner, c.gen)) :: freeP (.pointer (some ⟨q.fb, 0, none⟩)) (t.ch.length) (t.stack) :: bigF t.ch.length (chunkF t q.vs) :: F) h.sub) ?_)) | first | refine stp ?_ | (refine stpB ?_; intro _) | (refine spl ?_ ?_ <;> intro hc <;> ((try simp only [decide_eq_true_eq, decide_eq_false_iff_not, Bool.not_true, Bool.not_false, ne_eq, Classical.not_not, Int.not_lt, Int.not_le] at hc); (try (exfalso; first | omega | exact hc trivial | exact hc rfl)))))
  all_goals (first | (exfalso; omega) | (exfalso; simp at hc; done) | skip)
  refine GE.resOne rfl (by (repeat (first | apply Res.nil | (apply Res.tmp; rfl) | (refine Res.cellA rfl rfl rfl ?_) | (refine Res.cell1 rfl rfl ?_)))) (fun w h => ?_)
  refine ⟨rfl, ?_⟩
  have ec := set_nat t k ⟨2, 0, (t.c k).gen⟩ hk ({ t with ch := t.ch.set k ⟨2, 0, (t.c k).gen⟩, ev := St.up t.ev 1 } : St.S) rfl
  have h4 := cell_take hk hq ⟨d, l, ph, bp, none⟩ hv.symm (holds.sub (H := bigF t.ch.length (chunkF t q.vs) :: blk sb (.cells #[.pointer (some ⟨q.tb, 0, none⟩), .pointer (some ⟨q.fb, 0, none⟩), .slice (some ⟨q.cb, 0, none⟩) (t.ch.length) (t.ch.length), .int .i64 ((t.size : Nat) : Int), .int .i64 (St.cntP (t.ch.set k ⟨2, 0, (t.c k).gen⟩) 0), .int .i64 (St.cntP (t.ch.set k ⟨2, 0, (t.c k).gen⟩) 1), .int .i64 (St.cntP (t.ch.set k ⟨2, 0, (t.c k).gen⟩) 2), .int .i64 (St.cntP (t.ch.set k ⟨2, 0, (t.c k).gen⟩) 3), .pointer (some ⟨q.kb, 0, none⟩)] 123 (0, 0)) :: tagsAt (.pointer (some ⟨q.tb, 0, none⟩)) ((t.ch.set k ⟨2, 0, (t.c k).gen⟩).map fun c => (c.owner, c.gen)) :: freeP (.pointer (some ⟨q.fb, 0, none⟩)) (t.ch.length) (t.stack) :: owns 148 encCell 6 (.slice (some ⟨q.cb, 0, none⟩) (t.ch.length) (t.ch.length)) (q.vs.set k ⟨d, l, 2, bp, none⟩) :: bookP (.pointer (some ⟨q.kb, 0, none⟩)) 4 (t.ev.set 1 (t.ev.getD 1 0 + 1)) :: F) h)
  have h5 := cell_put (t' := { t with ch := t.ch.set k ⟨2, 0, (t.c k).gen⟩, ev := St.up t.ev 1 }) (⟨d, l, 2, bp, none⟩ : CellV) hk hq rfl (fun j hj => by rw [ec, if_neg hj]) (fun j hj => rfl) (fun j hj => rfl) (by rw [ec, if_pos rfl]; exact ⟨hl0, rfl, hd0, fun _ => hbs, by simp⟩) h4
  refine storeP.make _ q (q.vs.set k ⟨d, l, 2, bp, none⟩) t.ch.length _ _ _ _ _ (by simp) rfl rfl rfl rfl rfl (by simpa using hq) ?_
  exact h5.order [1, 2, 3, 4, 0, 5]
end
end Go.Proofs.YtipkgamiejenaaaGreat

/- Package store: Begin. -/
namespace Go.Proofs.YtipkgamiejenaaaGreat
open Go Go.RowKit Go.MapKept
set_option linter.unusedVariables false
set_option linter.unusedSimpArgs false
set_option maxRecDepth 100000
set_option maxHeartbeats 4000000
theorem set_nat_w (t : St.S) (k : Nat) (x : Int) (hk : k < t.wi.length) (t' : St.S) (h : t'.wi = t.wi.set k x) (j : Nat) : t'.w j = if j = k then x else t.w j := by
  show t'.wi.getD ((j : Int)).toNat 0 = if j = k then x else t.wi.getD ((j : Int)).toNat 0
  rw [Int.toNat_natCast, h, St.getD_set _ _ _ _ _ hk]
theorem set_nat_x (t : St.S) (k : Nat) (x : List UInt8) (hk : k < t.tx.length) (t' : St.S) (h : t'.tx = t.tx.set k x) (j : Nat) : t'.x j = if j = k then x else t.x j := by
  show t'.tx.getD ((j : Int)).toNat [] = if j = k then x else t.tx.getD ((j : Int)).toNat []
  rw [Int.toNat_natCast, h, St.getD_set _ _ _ _ _ hk]
section
variable (sb : Nat) (t : St.S) (K : Nat) (hI : St.Inv t K) (hK : K ≤ 1000000)
include hI hK
theorem store_Begin (i : Int) (w : World) (F : List HProp) (hw : holds w (storeP sb t :: F)) :
    Ct Tryz.prog 62 #[.pointer (some ⟨sb, 0, none⟩), .int .i64 i] w fun e w' => e = .returned (.int .i64 (St.start t i).2) ∧ holds w' (storeP sb (St.start t i).1 :: F) := by
  obtain ⟨q, hq, h1⟩ := storeP.open hw
  unfold St.start
  have hnc := hI.ncap
  refine Ct.go (args := [.pointer (some ⟨sb, 0, none⟩), .int .i64 i]) Tryz.func62 rfl rfl rfl h1 ?_
  by_cases ho : t.out i
  · rw [if_pos ho]
    repeat' (first | (first | (apply GL.isCall; refine GL.call1 rfl rfl (fun w h => store_findN sb t.ch.length t.size q (St.cntP t.ch 0) (St.cntP t.ch 1) (St.cntP t.ch 2) (St.cntP t.ch 3) q.vs hq i ho w _ h) ?_) | (apply GD.isAny; refine GD.call rfl rfl (fun w F' h => store_findN sb t.ch.length t.size q (St.cntP t.ch 0) (St.cntP t.ch 1) (St.cntP t.ch 2) (St.cntP t.ch 3) q.vs hq i ho w _ h) ?_)) | first | refine stp ?_ | (refine stpB ?_; intro _) | (refine spl ?_ ?_ <;> intro hc <;> ((try simp only [decide_eq_true_eq, decide_eq_false_iff_not, Bool.not_true, Bool.not_false, ne_eq, Classical.not_not, Int.not_lt, Int.not_le] at hc); (try (exfalso; first | omega | exact hc trivial | exact hc rfl)))))
    all_goals (first | (exfalso; simp at hc; done) | (refine GE.resOne rfl (by (repeat (first | apply Res.nil | (apply Res.tmp; rfl) | (refine Res.cellA rfl rfl rfl ?_) | (refine Res.cell1 rfl rfl ?_)))) (fun w h => ?_); exact ⟨rfl, storeP.shut q hq h.sub⟩))
  rw [if_neg ho]
  obtain ⟨k, rfl, hk⟩ := St.out_ex ho
  have hok := cell_ok hk hq (h1.pick 4)
  have hkv : k < q.vs.length := by omega
  have hcell := hI.cell k hk
  have hc0 := t.c_eq k hk
  have hph := hok.ph
  simp only [Int.toNat_natCast]
  by_cases hp : (t.c k).phase ≠ 2
  · rw [if_pos hp]
    have hpp := hcell.ph
    rw [← hc0] at hpp
    have hLN := fun w (F : List HProp) [Reads F (.slice (some ⟨q.cb, 0, none⟩) t.ch.length t.ch.length) encCell 6 q.vs] h => store_leadN sb t.ch.length q q.vs t.ev k (t.c k).phase.toNat 3 hkv (by omega) ⟨by omega, by omega⟩ (by omega) (by rw [hph]; omega) w F h
    repeat' (first | (first | first | (apply GL.isCall; refine GL.call1 rfl rfl (fun w h => store_find sb t.ch.length t.size q (St.cntP t.ch 0) (St.cntP t.ch 1) (St.cntP t.ch 2) (St.cntP t.ch 3) q.vs hq k hk w _ h) ?_) | (apply GD.isAny; refine GD.call rfl rfl (fun w F' h => store_find sb t.ch.length t.size q (St.cntP t.ch 0) (St.cntP t.ch 1) (St.cntP t.ch 2) (St.cntP t.ch 3) q.vs hq k hk w _ h) ?_) | (apply GL.isCall; refine GL.call1 (vs := [.pointer (some ⟨sb, 0, none⟩), .pointer (some ⟨rowB (.slice (some ⟨q.cb, 0, none⟩) t.ch.length t.ch.length), rowO (.slice (some ⟨q.cb, 0, none⟩) t.ch.length t.ch.length) + k * 6, none⟩), .int .i64 ((3 : Nat) : Int)]) rfl rfl (fun w h => hLN w _ h) ?_)) | first | refine stp ?_ | (refine stpB ?_; intro _) | (refine spl ?_ ?_ <;> intro hc <;> ((try simp only [decide_eq_true_eq, decide_eq_false_iff_not, Bool.not_true, Bool.not_false, ne_eq, Classical.not_not, Int.not_lt, Int.not_le] at hc); (try (exfalso; first | omega | exact hc trivial | exact hc rfl)))))
    all_goals (first | (exfalso; simp at hc; done) | (exfalso; omega) | (refine GE.resOne rfl (by (repeat (first | apply Res.nil | (apply Res.tmp; rfl) | (refine Res.cellA rfl rfl rfl ?_) | (refine Res.cell1 rfl rfl ?_)))) (fun w h => ?_); exact ⟨rfl, storeP.shut q hq h.sub⟩))
  rw [if_neg hp]
  obtain ⟨v, hv⟩ : ∃ v, v = q.vs[k] := ⟨_, rfl⟩
  rw [← hv] at hok hph
  have hp1 : (t.c k).phase = 2 := by omega
  have hwp : v.wp = none := by
    have := hok.wp
    rw [hp1] at this
    cases hw : v.wp with
    | none => rfl
    | some x => rw [hw] at this; exact absurd (this.1 rfl) (by decide)
  obtain ⟨d, l, ph, bp, wp⟩ := v
  dsimp only at hwp hph
  subst hwp
  obtain ⟨hl0, hph0, hd0, hbp0, _⟩ := hok
  dsimp only at hl0 hph0 hd0 hbp0
  have hbs : bp.isSome = true := hbp0 (by omega)
  obtain ⟨b, rfl⟩ := Option.isSome_iff_exists.1 hbs
  have htg : (t.ch.map fun c => (c.owner, c.gen)) = ((t.ch.set k ⟨3, 0, (t.c k).gen⟩).map fun c => (c.owner, c.gen)) := by
    have hown : (t.c k).owner = 0 := by rw [hc0] at hp1 ⊢; rcases hcell.ow with h | h <;> omega
    rw [List.map_set]
    have : ((0 : Int), (t.c k).gen) = (t.ch.map fun c => (c.owner, c.gen)).getD k (0, 0) := by
      have := tags_at t k hk
      rw [Int.toNat_natCast, hown] at this; exact this.symm
    dsimp only
    rw [this, St.set_self]
  have hev := ev_in hI 2 (by omega)
  have hsz := hI.sz
  have hLd := fun w (F : List HProp) h => store_lead sb t.ch.length t.size q (St.cntP t.ch 0) (St.cntP t.ch 1) (St.cntP t.ch 2) (St.cntP t.ch 3) q.vs t.ev hI.n3 k 2 hkv (by omega) (by rw [← hv]; exact hph.trans hp1) _ _ _ _ (cnt_move t.ch k hk 2 (by omega) (by rw [← hc0]; exact hp1) ⟨3, 0, (t.c k).gen⟩ rfl) (cnt_in t.ch hnc) hev.1 (by omega) w F h
  rw [← hv] at hLd
  dsimp only at hLd
  have hkv1 : k < (q.vs.set k ⟨d, l, ((2 + 1) % 4 : Nat), some b, none⟩).length := by rw [List.length_set]; exact hkv
  have hTk := fun w (G : List HProp) (h : holds w (bigF t.ch.length (chunkF t q.vs) :: G)) => (show holds w (bytesP b t.size (t.x k) :: nilP :: sep (((List.range t.ch.length).map (chunkF t q.vs)).eraseIdx k) :: G) from cell_take hk hq ⟨d, l, ph, some b, none⟩ hv.symm h)
  have hBg := fun w (F : List HProp) h => scrub_Begin b t.size (t.x k) (by omega) w F h
  have hb1 : (q.vs.set k ⟨d, l, ((2 + 1) % 4 : Nat), some b, none⟩)[k] = ⟨d, l, ((2 + 1) % 4 : Nat), some b, none⟩ := by rw [List.getElem_set_self]
  repeat' (first | (first | (rw [hb1]) | first | (apply GL.isCall; refine GL.call1 rfl rfl (fun w h => store_find sb t.ch.length t.size q (St.cntP t.ch 0) (St.cntP t.ch 1) (St.cntP t.ch 2) (St.cntP t.ch 3) q.vs hq k hk w _ h) ?_) | (apply GD.isAny; refine GD.call rfl rfl (fun w F' h => store_find sb t.ch.length t.size q (St.cntP t.ch 0) (St.cntP t.ch 1) (St.cntP t.ch 2) (St.cntP t.ch 3) q.vs hq k hk w _ h) ?_) | (apply GL.isCall; refine GL.call1 (vs := [.pointer (some ⟨sb, 0, none⟩), .pointer (some ⟨rowB (.slice (some ⟨q.cb, 0, none⟩) t.ch.length t.ch.length), rowO (.slice (some ⟨q.cb, 0, none⟩) t.ch.length t.ch.length) + k * 6, none⟩), .int .i64 ((2 + 1 : Nat) : Int)]) rfl rfl (fun w h => hLd w (tagsAt (.pointer (some ⟨q.tb, 0, none⟩)) (t.ch.map fun c => (c.owner, c.gen)) :: freeP (.pointer (some ⟨q.fb, 0, none⟩)) (t.ch.length) (t.stack) :: bigF t.ch.length (chunkF t q.vs) :: F) h.sub) ?_) | (apply GL.isCall; refine GL.call (vs := [.pointer (some ⟨b, 0, none⟩)]) rfl rfl (fun w h => hBg w (nilP :: sep (((List.range t.ch.length).map (chunkF t q.vs)).eraseIdx k) :: blk sb (.cells #[.pointer (some ⟨q.tb, 0, none⟩), .pointer (some ⟨q.fb, 0, none⟩), .slice (some ⟨q.cb, 0, none⟩) (t.ch.length) (t.ch.length), .int .i64 ((t.size : Nat) : Int), .int .i64 (St.cntP (t.ch.set k ⟨3, 0, (t.c k).gen⟩) 0), .int .i64 (St.cntP (t.ch.set k ⟨3, 0, (t.c k).gen⟩) 1), .int .i64 (St.cntP (t.ch.set k ⟨3, 0, (t.c k).gen⟩) 2), .int .i64 (St.cntP (t.ch.set k ⟨3, 0, (t.c k).gen⟩) 3), .pointer (some ⟨q.kb, 0, none⟩)] 123 (0, 0)) :: owns 148 encCell 6 (.slice (some ⟨q.cb, 0, none⟩) (t.ch.length) (t.ch.length)) ((q.vs.set k ⟨d, l, ((2 + 1) % 4 : Nat), some b, none⟩)) :: bookP (.pointer (some ⟨q.kb, 0, none⟩)) 4 (t.ev.set 2 (t.ev.getD 2 0 + 1)) :: tagsAt (.pointer (some ⟨q.tb, 0, none⟩)) (t.ch.map fun c => (c.owner, c.gen)) :: freeP (.pointer (some ⟨q.fb, 0, none⟩)) (t.ch.length) (t.stack) :: F) (hTk w (blk sb (.cells #[.pointer (some ⟨q.tb, 0, none⟩), .pointer (some ⟨q.fb, 0, none⟩), .slice (some ⟨q.cb, 0, none⟩) (t.ch.length) (t.ch.length), .int .i64 ((t.size : Nat) : Int), .int .i64 (St.cntP (t.ch.set k ⟨3, 0, (t.c k).gen⟩) 0), .int .i64 (St.cntP (t.ch.set k ⟨3, 0, (t.c k).gen⟩) 1), .int .i64 (St.cntP (t.ch.set k ⟨3, 0, (t.c k).gen⟩) 2), .int .i64 (St.cntP (t.ch.set k ⟨3, 0, (t.c k).gen⟩) 3), .pointer (some ⟨q.kb, 0, none⟩)] 123 (0, 0)) :: owns 148 encCell 6 (.slice (some ⟨q.cb, 0, none⟩) (t.ch.length) (t.ch.length)) ((q.vs.set k ⟨d, l, ((2 + 1) % 4 : Nat), some b, none⟩)) :: bookP (.pointer (some ⟨q.kb, 0, none⟩)) 4 (t.ev.set 2 (t.ev.getD 2 0 + 1)) :: tagsAt (.pointer (some ⟨q.tb, 0, none⟩)) (t.ch.map fun c => (c.owner, c.gen)) :: freeP (.pointer (some ⟨q.fb, 0, none⟩)) (t.ch.length) (t.stack) :: F) h.sub)) (fun wb => ?_)) | (apply GL.isStore; refine GL.storeElem (f := 5) (⟨d, l, 3, some b, some wb⟩ : CellV) rfl rfl hkv1 rfl rfl rfl (by rw [hb1]; rfl) ?_)) | first | refine stp ?_ | (refine stpB ?_; intro _) | (refine spl ?_ ?_ <;> intro hc <;> ((try simp only [decide_eq_true_eq, decide_eq_false_iff_not, Bool.not_true, Bool.not_false, ne_eq, Classical.not_not, Int.not_lt, Int.not_le] at hc); (try (exfalso; first | omega | exact hc trivial | exact hc rfl)))))
  all_goals (first | (exfalso; omega) | (exfalso; simp at hc; done) | skip)
  refine GE.resOne rfl (by (repeat (first | apply Res.nil | (apply Res.tmp; rfl) | (refine Res.cellA rfl rfl rfl ?_) | (refine Res.cell1 rfl rfl ?_)))) (fun w h => ?_)
  refine ⟨rfl, ?_⟩
  rw [List.set_set] at h
  have hkw : k < t.wi.length := by rw [hI.n2]; exact hk
  have ec := set_nat t k ⟨3, 0, (t.c k).gen⟩ hk ({ t with wi := t.wi.set k 0, ch := t.ch.set k ⟨3, 0, (t.c k).gen⟩, ev := St.up t.ev 2 } : St.S) rfl
  have ew := set_nat_w t k 0 hkw ({ t with wi := t.wi.set k 0, ch := t.ch.set k ⟨3, 0, (t.c k).gen⟩, ev := St.up t.ev 2 } : St.S) rfl
  have h4 : holds w (bytesP b t.size (t.x k) :: wipeO (some wb) (some b) 0 :: sep (((List.range t.ch.length).map (chunkF t q.vs)).eraseIdx k) :: blk sb (.cells #[.pointer (some ⟨q.tb, 0, none⟩), .pointer (some ⟨q.fb, 0, none⟩), .slice (some ⟨q.cb, 0, none⟩) (t.ch.length) (t.ch.length), .int .i64 ((t.size : Nat) : Int), .int .i64 (St.cntP (t.ch.set k ⟨3, 0, (t.c k).gen⟩) 0), .int .i64 (St.cntP (t.ch.set k ⟨3, 0, (t.c k).gen⟩) 1), .int .i64 (St.cntP (t.ch.set k ⟨3, 0, (t.c k).gen⟩) 2), .int .i64 (St.cntP (t.ch.set k ⟨3, 0, (t.c k).gen⟩) 3), .pointer (some ⟨q.kb, 0, none⟩)] 123 (0, 0)) :: tagsAt (.pointer (some ⟨q.tb, 0, none⟩)) (t.ch.map fun c => (c.owner, c.gen)) :: freeP (.pointer (some ⟨q.fb, 0, none⟩)) (t.ch.length) (t.stack) :: owns 148 encCell 6 (.slice (some ⟨q.cb, 0, none⟩) (t.ch.length) (t.ch.length)) (q.vs.set k ⟨d, l, 3, some b, some wb⟩) :: bookP (.pointer (some ⟨q.kb, 0, none⟩)) 4 (t.ev.set 2 (t.ev.getD 2 0 + 1)) :: F) := holds.sub (H := bytesP b t.size (t.x k) :: blk wb (.cells #[.pointer (some ⟨b, 0, none⟩), .int .i64 0] 262 (0, 0)) :: sep (((List.range t.ch.length).map (chunkF t q.vs)).eraseIdx k) :: blk sb (.cells #[.pointer (some ⟨q.tb, 0, none⟩), .pointer (some ⟨q.fb, 0, none⟩), .slice (some ⟨q.cb, 0, none⟩) (t.ch.length) (t.ch.length), .int .i64 ((t.size : Nat) : Int), .int .i64 (St.cntP (t.ch.set k ⟨3, 0, (t.c k).gen⟩) 0), .int .i64 (St.cntP (t.ch.set k ⟨3, 0, (t.c k).gen⟩) 1), .int .i64 (St.cntP (t.ch.set k ⟨3, 0, (t.c k).gen⟩) 2), .int .i64 (St.cntP (t.ch.set k ⟨3, 0, (t.c k).gen⟩) 3), .pointer (some ⟨q.kb, 0, none⟩)] 123 (0, 0)) :: tagsAt (.pointer (some ⟨q.tb, 0, none⟩)) (t.ch.map fun c => (c.owner, c.gen)) :: freeP (.pointer (some ⟨q.fb, 0, none⟩)) (t.ch.length) (t.stack) :: owns 148 encCell 6 (.slice (some ⟨q.cb, 0, none⟩) (t.ch.length) (t.ch.length)) (q.vs.set k ⟨d, l, 3, some b, some wb⟩) :: bookP (.pointer (some ⟨q.kb, 0, none⟩)) 4 (t.ev.set 2 (t.ev.getD 2 0 + 1)) :: F) h
  have h5 := cell_put (t' := { t with wi := t.wi.set k 0, ch := t.ch.set k ⟨3, 0, (t.c k).gen⟩, ev := St.up t.ev 2 }) (⟨d, l, 3, some b, some wb⟩ : CellV) hk hq rfl (fun j hj => by rw [ec, if_neg hj]) (fun j hj => rfl) (fun j hj => by rw [ew, if_neg hj]) (by rw [ec, if_pos rfl]; exact ⟨hl0, rfl, hd0, fun _ => rfl, by simp⟩) (by rw [ew, if_pos rfl]; exact h4)
  refine storeP.make _ q (q.vs.set k ⟨d, l, 3, some b, some wb⟩) t.ch.length _ _ _ _ _ (by simp) rfl rfl rfl rfl htg.symm (by simpa using hq) ?_
  exact h5.order [1, 2, 3, 4, 0, 5]
end
end Go.Proofs.YtipkgamiejenaaaGreat
