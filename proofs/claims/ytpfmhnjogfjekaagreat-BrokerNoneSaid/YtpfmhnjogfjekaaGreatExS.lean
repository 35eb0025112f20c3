/- Running code by calculation: a region run in the order of the text. -/
import Derived.Test.YtpfmhnjogfjekaaGreatExR
namespace Go.Proofs.YtpfmhnjogfjekaaGreat
open Go Go.RowKit
set_option linter.unusedVariables false
set_option linter.unusedSectionVars false
set_option linter.unusedSimpArgs false
set_option maxRecDepth 100000
namespace Ex
section
variable {P : Program} {X : FuncId → Option XK} {callF : FuncId → Array Value → Tr SO → Nat → Option (Value × Tr SO × Nat)} {n nx0 : Nat} {ops : Array Oper}
/-- What happens at an operation. -/
inductive Did (P : Program) (X : FuncId → Option XK) (callF : FuncId → Array Value → Tr SO → Nat → Option (Value × Tr SO × Nat)) (n nx0 : Nat) (ops : Array Oper) (i : Nat) (x : Pn1) (s s' : DS) (h : Tr SO) : Value → Prop where
  | off (hw : swanted ops (pickE s.env x.ns) x.o.guard = some false) (he : sput n s.env undef x.o.dst = some s'.env) (h1 : s'.recs = s.recs) (h2 : s'.hs = s.hs) (h3 : s'.nx = s.nx) (h4 : s'.effs = s.effs) (h5 : s'.als = s.als) : Did P X callF n nx0 ops i x s s' h undef
  | pure (v : Value) (hw : swanted ops (pickE s.env x.ns) x.o.guard = some true) (hk : opK x.o.op = .p) (hp : pop P (pickE s.env x.ns) h x.o = some v) (he : sput n s.env v x.o.dst = some s'.env)
      (h1 : (rds x.o.op = true → (⟨i, x.o, x.b, pickE s.env x.ns, v⟩ : Rec) ∈ s'.recs) ∧ ∀ r ∈ s.recs, r ∈ s'.recs) (h2 : s'.hs = s.hs) (h3 : s'.nx = s.nx) (h4 : s'.effs = s.effs) (h5 : s'.als = s.als) : Did P X callF n nx0 ops i x s s' h v
  | alloc (so : SO) (sh : Sh) (hw : swanted ops (pickE s.env x.ns) x.o.guard = some true) (hk : opK x.o.op = .a) (hp : aop P (pickE s.env x.ns) x.o = some (so, sh)) (he : sput n s.env (sh.mk (nx0 + i)) x.o.dst = some s'.env) (h1 : s'.recs = s.recs) (h2 : s'.hs = s.hs) (h3 : s'.nx = s.nx) (h4 : s'.effs = s.effs) (h5 : s'.als = (i, so) :: s.als) : Did P X callF n nx0 ops i x s s' h (sh.mk (nx0 + i))
  | eff (v : Value) (h' : Tr SO) (r : SN) (hw : swanted ops (pickE s.env x.ns) x.o.guard = some true) (hk : opK x.o.op = .e) (hc : chained x.b s.effs = true) (hp : eop P X (pickE s.env x.ns) (putAls nx0 x.b h s.als) s.nx x.o = some r) (hd : dEff callF (putAls nx0 x.b h s.als) s.nx r = some (v, h', s'.nx)) (he : sput n s.env v x.o.dst = some s'.env)
      (h1 : s'.recs = s.recs) (h2 : s'.hs = h' :: s.hs) (h4 : s'.effs = (i, x.b) :: s.effs) (h5 : s'.als = s.als.filter (fun y => !bitB x.b y.1)) : Did P X callF n nx0 ops i x s s' h v
theorem dstep_did {i : Nat} {x : Pn1} {s s' : DS} (h : dstep P X callF n nx0 ops i x s = some s') : ∃ hd tl v, s.hs = hd :: tl ∧ Did P X callF n nx0 ops i x s s' hd v := by
  unfold dstep at h
  cases hhs : s.hs with
  | nil => rw [hhs] at h; cases h
  | cons hd tl =>
    rw [hhs] at h
    have h : on1 (swanted ops (pickE s.env x.ns) x.o.guard) (dwant P X callF n nx0 i x.o x.b s (pickE s.env x.ns) hd) = some s' := h
    obtain ⟨b, hw, h⟩ := on1_ok h
    unfold dwant at h
    split at h
    · obtain ⟨e', he, h⟩ := on1_ok h
      cases h
      exact ⟨hd, tl, _, rfl, .off hw he rfl rfl rfl rfl rfl⟩
    · unfold dop at h
      split at h
      · rename_i hk
        obtain ⟨v, hv, h⟩ := on1_ok h
        obtain ⟨e', he, h⟩ := on1_ok h
        cases h
        refine ⟨hd, tl, v, rfl, .pure v hw hk hv he ⟨fun hr => ?_, fun r hr => ?_⟩ rfl rfl rfl rfl⟩
        · rw [hr]; exact .head _
        · dsimp only
          cases rds x.o.op with
          | true => exact .tail _ hr
          | false => exact hr
      · rename_i hk
        obtain ⟨⟨so, sh⟩, hv, h⟩ := on1_ok h
        obtain ⟨e', he, h⟩ := on1_ok h
        cases h
        exact ⟨hd, tl, _, rfl, .alloc so sh hw hk hv he rfl rfl rfl rfl rfl⟩
      · rename_i hk
        unfold dopE at h
        cases hc : (chained x.b s.effs && s.als.all (floats nx0 x.b (putAls nx0 x.b hd s.als))) with
        | false => rw [hc] at h; cases h
        | true =>
          rw [hc] at h
          obtain ⟨⟨v, h', nx'⟩, h1, h⟩ := on1_ok (show on1 (on1 (eop P X (pickE s.env x.ns) (putAls nx0 x.b hd s.als) s.nx x.o) (dEff callF (putAls nx0 x.b hd s.als) s.nx)) (deff n i x.o x.b s) = some s' from h)
          obtain ⟨r, hr, h1⟩ := on1_ok h1
          obtain ⟨e', he, h⟩ := on1_ok h
          cases h
          rw [Bool.and_eq_true] at hc
          exact ⟨hd, tl, v, rfl, .eff v h' r hw hk hc.1 hr h1 he rfl rfl rfl rfl⟩
theorem dgo_states : ∀ {l : List Pn1} {i : Nat} {s d : DS}, dgo P X callF n nx0 ops l i s = some d → ∃ S : Nat → DS, S i = s ∧ S (i + l.length) = d ∧ ∀ j x, l[j]? = some x → dstep P X callF n nx0 ops (i + j) x (S (i + j)) = some (S (i + j + 1))
  | [], i, s, d, h => by cases h; exact ⟨fun _ => s, rfl, rfl, fun j x hx => by simp at hx⟩
  | x :: l, i, s, d, h => by
    obtain ⟨s1, h1, h2⟩ := on1_ok (show on1 (dstep P X callF n nx0 ops i x s) (dgo P X callF n nx0 ops l (Nat.add i 1)) = some d from h)
    obtain ⟨S, g1, g2, g3⟩ := dgo_states h2
    refine ⟨fun m => if m = i then s else S m, if_pos rfl, ?_, fun j y hy => ?_⟩
    · dsimp only
      rw [if_neg (by simp), ← g2]; congr 1; simp; omega
    · cases j with
      | zero =>
        simp at hy; subst hy
        dsimp only
        rw [if_pos (by simp), if_neg (by simp)]
        have : S (i + 1) = s1 := g1
        rw [Nat.add_zero, this]; exact h1
      | succ j =>
        simp at hy
        dsimp only
        rw [if_neg (by omega), if_neg (by omega)]
        have := g3 j y hy
        rwa [show Nat.add i 1 + j = i + (j + 1) by simp; omega] at this
/-- A region's run in the order of the text. -/
structure RG (P : Program) (X : FuncId → Option XK) (callF : FuncId → Array Value → Tr SO → Nat → Option (Value × Tr SO × Nat)) (n nx0 : Nat) (ops : Array Oper) (L : List Pn1) (S : Nat → DS) (e0 : Tr Value) (h0 : Tr SO) : Prop where
  pl : PlanOK ops L
  len : L.length = ops.size
  s0 : S 0 = ⟨e0, [], [h0], nx0 + ops.size, [], []⟩
  st : ∀ i x, L[i]? = some x → dstep P X callF n nx0 ops i x (S i) = some (S (i + 1))
variable {L : List Pn1} {S : Nat → DS} {e0 : Tr Value} {h0 : Tr SO}
/-- How many effects there are ahead of i. -/
def mE (S : Nat → DS) (i : Nat) : Nat := (S i).effs.length
def isE (S : Nat → DS) (i : Nat) : Prop := mE S (i + 1) = mE S i + 1
theorem RG.at_ (R : RG P X callF n nx0 ops L S e0 h0) {i : Nat} (hi : i < ops.size) : ∃ x, L[i]? = some x := ⟨_, List.getElem?_eq_getElem (by rw [R.len]; exact hi)⟩
theorem RG.lt (R : RG P X callF n nx0 ops L S e0 h0) {i : Nat} {x : Pn1} (hx : L[i]? = some x) : i < ops.size := by rw [← R.len]; exact (List.getElem?_eq_some_iff.1 hx).1
theorem RG.did (R : RG P X callF n nx0 ops L S e0 h0) {i : Nat} {x : Pn1} (hx : L[i]? = some x) : ∃ hd tl v, (S i).hs = hd :: tl ∧ Did P X callF n nx0 ops i x (S i) (S (i + 1)) hd v := dstep_did (R.st i x hx)
/-- One step: no effect, all is as it was; or an effect. -/
theorem RG.one (R : RG P X callF n nx0 ops L S e0 h0) {i : Nat} {x : Pn1} (hx : L[i]? = some x) :
    ((S (i + 1)).effs = (S i).effs ∧ (S (i + 1)).hs = (S i).hs ∧ (S (i + 1)).nx = (S i).nx) ∨ ((S (i + 1)).effs = (i, x.b) :: (S i).effs ∧ (∃ h', (S (i + 1)).hs = h' :: (S i).hs) ∧ chained x.b (S i).effs = true) := by
  obtain ⟨hd, tl, v, _, hdid⟩ := R.did hx
  cases hdid with
  | off hw he h1 h2 h3 h4 h5 => exact .inl ⟨h4, h2, h3⟩
  | pure v hw hk hp he h1 h2 h3 h4 h5 => exact .inl ⟨h4, h2, h3⟩
  | alloc so sh hw hk hp he h1 h2 h3 h4 h5 => exact .inl ⟨h4, h2, h3⟩
  | eff v h' r hw hk hc hp hd he h1 h2 h4 h5 => exact .inr ⟨h4, ⟨h', h2⟩, hc⟩
theorem RG.mono1 (R : RG P X callF n nx0 ops L S e0 h0) {i : Nat} (hi : i < ops.size) : mE S i ≤ mE S (i + 1) ∧ mE S (i + 1) ≤ mE S i + 1 := by
  obtain ⟨x, hx⟩ := R.at_ hi
  unfold mE
  rcases R.one hx with ⟨h, _⟩ | ⟨h, _⟩ <;> rw [h] <;> simp
theorem RG.mono (R : RG P X callF n nx0 ops L S e0 h0) {i : Nat} : ∀ {j : Nat}, i ≤ j → j ≤ ops.size → mE S i ≤ mE S j
  | 0, h, _ => by rw [Nat.le_zero.1 h]; exact Nat.le_refl _
  | j + 1, h, hj => by
    rcases Nat.lt_or_eq_of_le h with h | rfl
    · exact Nat.le_trans (R.mono (Nat.le_of_lt_succ h) (by omega)) (R.mono1 (by omega)).1
    · exact Nat.le_refl _
/-- Where there is no effect between, all is as it was. -/
theorem RG.stage (R : RG P X callF n nx0 ops L S e0 h0) {i : Nat} : ∀ {j : Nat}, i ≤ j → j ≤ ops.size → mE S i = mE S j → (S i).hs = (S j).hs ∧ (S i).nx = (S j).nx ∧ (S i).effs = (S j).effs
  | 0, h, _, _ => by rw [Nat.le_zero.1 h]; exact ⟨rfl, rfl, rfl⟩
  | j + 1, h, hj, hm => by
    rcases Nat.lt_or_eq_of_le h with h | rfl
    · have h1 := R.mono (Nat.le_of_lt_succ h) (by omega : j ≤ ops.size)
      have h2 := (R.mono1 (by omega : j < ops.size)).1
      obtain ⟨g1, g2, g3⟩ := R.stage (Nat.le_of_lt_succ h) (by omega) (by omega)
      obtain ⟨x, hx⟩ := R.at_ (by omega : j < ops.size)
      rcases R.one hx with ⟨k1, k2, k3⟩ | ⟨k1, _⟩
      · exact ⟨g1.trans k2.symm, g2.trans k3.symm, g3.trans k1.symm⟩
      · exfalso
        have : mE S (j + 1) = mE S j + 1 := by unfold mE; rw [k1]; simp
        omega
    · exact ⟨rfl, rfl, rfl⟩
theorem RG.isE_iff (R : RG P X callF n nx0 ops L S e0 h0) {i : Nat} {x : Pn1} (hx : L[i]? = some x) (h : isE S i) : (S (i + 1)).effs = (i, x.b) :: (S i).effs ∧ chained x.b (S i).effs = true := by
  rcases R.one hx with ⟨h1, _⟩ | ⟨h1, _, h2⟩
  · unfold isE mE at h; rw [h1] at h; omega
  · exact ⟨h1, h2⟩
/-- The last effect ahead of i. -/
theorem RG.last (R : RG P X callF n nx0 ops L S e0 h0) : ∀ {i : Nat}, i ≤ ops.size → ((S i).effs = [] ∨ ∃ j x, j < i ∧ L[j]? = some x ∧ (S i).effs = (j, x.b) :: (S j).effs ∧ isE S j)
  | 0, _ => .inl (by rw [R.s0])
  | i + 1, hi => by
    obtain ⟨x, hx⟩ := R.at_ (by omega : i < ops.size)
    rcases R.one hx with ⟨h1, _⟩ | ⟨h1, _⟩
    · rcases R.last (by omega : i ≤ ops.size) with h2 | ⟨j, y, h2, h3, h4, h5⟩
      · exact .inl (h1.trans h2)
      · exact .inr ⟨j, y, by omega, h3, h1.trans h4, h5⟩
    · exact .inr ⟨i, x, by omega, hx, h1, by unfold isE mE; rw [h1]; simp⟩
def Closed (L : List Pn1) (D : Nat → Prop) : Prop := ∀ i x, L[i]? = some x → D i → ∀ j, bitB x.b j = true → D j
/-- Effects stand in a chain. -/
theorem RG.chain (R : RG P X callF n nx0 ops L S e0 h0) {D : Nat → Prop} (hD : Closed L D) : ∀ (i : Nat) (x : Pn1), L[i]? = some x → isE S i → (∀ j, bitB x.b j = true → D j) → ∀ j, j < i → isE S j → D j := by
  intro i
  induction i using Nat.strongRecOn with
  | _ i ih =>
    intro x hx hi hb j hj hej
    have hil := R.lt hx
    obtain ⟨_, hc⟩ := R.isE_iff hx hi
    rcases R.last (by omega : i ≤ ops.size) with h0 | ⟨j0, y, h1, h2, h3, h4⟩
    · exfalso
      have a := R.mono (i := j + 1) (j := i) (by omega) (by omega)
      have b : mE S i = 0 := by unfold mE; rw [h0]; rfl
      unfold isE at hej
      omega
    · have hj0 : D j0 := by
        rw [h3] at hc
        exact hb _ hc
      by_cases hjj : j = j0
      · rw [hjj]; exact hj0
      · by_cases hlt : j < j0
        · exact ih j0 h1 y h2 h4 (hD j0 y h2 hj0) j hlt hej
        · exfalso
          have a := R.mono (i := j + 1) (j := i) (by omega) (by omega)
          have b := R.mono (i := j0 + 1) (j := j) (by omega) (by omega)
          have c : mE S i = mE S j0 + 1 := by unfold mE; rw [h3]; simp
          unfold isE at hej h4
          omega
end
end Ex
end Go.Proofs.YtpfmhnjogfjekaaGreat
