/- Running code by calculation: a region's blocks, in any order. -/
import Derived.Test.YtpfmhnjogfjekaaGreatExT
import Derived.Test.YtpfmhnjogfjekaaGreatExO
namespace Go.Proofs.YtpfmhnjogfjekaaGreat
open Go Go.RowKit
set_option linter.unusedVariables false
set_option linter.unusedSectionVars false
set_option linter.unusedSimpArgs false
set_option maxRecDepth 100000
namespace Ex
section
variable {θ : Nat → Value} {ρ ρ' : Ren} {F : Fm} {w w' : World} {g g' : Nat → Option SO} {T T' : Tr SO} {nx nx' : Nat}
/-- The blocks under Q stay out of a part's reach. -/
def Fm.hold (F : Fm) (w : World) (ρ : Ren) (g : Nat → Option SO) (Q : Nat → Prop) : Fm := ⟨w, F.N, fun b => F.K b ∨ ∃ k p u, Q k ∧ g k = some u ∧ ρ k = some p ∧ p.b = b, F.R⟩
theorem HR.frame (hh : HR θ F ρ g nx w) (Q : Nat → Prop) (hT : ∀ k u, T.get k = some u → g k = some u ∧ ¬ Q k) : HT θ (F.hold w ρ g Q) ρ T nx w := by
  have h1 := hh.sub (fun k o ho => (hT k o ho).1)
  refine ⟨rfl, rfl, rfl, Nat.le_refl _, fun b _ => rfl, fun b hb => ?_, Nat.le_trans hh.nle hh.size, h1.inj, h1.lt, h1.new, h1.res, fun k o ho => ?_⟩
  · rcases hb with hb | ⟨k, p, u, _, _, h3, h4⟩
    · exact Nat.lt_of_lt_of_le (hh.klt b hb) hh.size
    · rw [← h4]; exact hh.lt k p h3
  · obtain ⟨p, o', a1, a2, a3, a4, a5⟩ := h1.obj k o ho
    refine ⟨p, o', a1, a2, a3, fun hr => ⟨(a4 hr).1, fun hK => ?_⟩, a5⟩
    rcases hK with hK | ⟨k2, p2, u, h1, h2, h3, h4⟩
    · exact (a4 hr).2 hK
    · have := hh.inj k k2 p p2 a1 h3 h4.symm (by rw [(hT k o ho).1]; rfl) (by rw [h2]; rfl)
      subst this
      exact (hT k o ho).2 h1
theorem HR.unframe (hh : HR θ F ρ g nx w) {Q : Nat → Prop} (hrw : ∀ k u, Q k → g k = some u → u.rw = true) (hl : ρ.le ρ') (hh' : HT θ (F.hold w ρ g Q) ρ' T' nx' w') {R' : Nat → Prop}
    (hg : ∀ k u, g' k = some u → (Q k ∧ g k = some u) ∨ T'.get k = some u) (hR : ∀ k, R' k → F.R k) : HR θ { F with R := R' } ρ' g' nx' w' ∧ ∀ k u, Q k → g k = some u → T'.get k = none := by
  have out : ∀ k u, Q k → g k = some u → ∀ j v p q, T'.get j = some v → ρ' k = some p → ρ' j = some q → q.b ≠ p.b := fun k u hq hgk j v p q hj hp hqj he => by
    obtain ⟨p1, o1, a1, a2, a3, a4⟩ := hh.obj k u hgk
    have := hl k p1 a1
    rw [hp] at this; cases this
    obtain ⟨q1, o2, b1, b2, b3, b4, b5⟩ := hh'.obj j v hj
    rw [hqj] at b1; cases b1
    cases hv : v.rw with
    | true => exact (b4 hv).2 (.inr ⟨k, p, u, hq, hgk, a1, he.symm⟩)
    | false =>
      have h1 := b5 hv
      have h2 := (a4.1 (hrw k u hq hgk)).1
      have h3 : q.b < F.N := h1
      omega
  have none_ : ∀ k u, Q k → g k = some u → T'.get k = none := fun k u hq hgk => by
    cases ht : T'.get k with
    | none => rfl
    | some v =>
      exfalso
      obtain ⟨p1, o1, a1, _⟩ := hh.obj k u hgk
      exact out k u hq hgk k v p1 p1 ht (hl _ _ a1) (hl _ _ a1) rfl
  refine ⟨⟨hh'.os.trans hh.os, hh'.tape.trans hh.tape, hh'.output.trans hh.output, Nat.le_trans hh.size hh'.size, fun b hb => (hh'.keep b (.inl hb)).trans (hh.keep b hb), hh.klt, hh.nle, fun k k' p p' h1 h2 h0 h3 h4 => ?_, hh'.lt, fun k hk => hh'.new k (hk.imp id (hR k)), fun k hk => hh'.res k (hR k hk), fun k u hu => ?_⟩, none_⟩
  · obtain ⟨u, hu⟩ := Option.isSome_iff_exists.1 h3
    obtain ⟨u', hu'⟩ := Option.isSome_iff_exists.1 h4
    rcases hg k u hu with ⟨c1, c2⟩ | c
    · rcases hg k' u' hu' with ⟨d1, d2⟩ | d
      · obtain ⟨p1, _, a1, _⟩ := hh.obj k u c2
        obtain ⟨p2, _, a2, _⟩ := hh.obj k' u' d2
        have e1 := hl _ _ a1
        have e2 := hl _ _ a2
        rw [h1] at e1; rw [h2] at e2
        cases e1; cases e2
        exact hh.inj k k' p p' a1 a2 h0 (by rw [c2]; rfl) (by rw [d2]; rfl)
      · exact absurd h0.symm (out k u c1 c2 k' u' p p' d h1 h2)
    · rcases hg k' u' hu' with ⟨d1, d2⟩ | d
      · exact absurd h0 (out k' u' d1 d2 k u p' p c h2 h1)
      · exact hh'.inj k k' p p' h1 h2 h0 (by rw [c]; rfl) (by rw [d]; rfl)
  · rcases hg k u hu with ⟨c1, c2⟩ | c
    · obtain ⟨p1, o1, a1, a2, a3, a4⟩ := hh.obj k u c2
      exact ⟨p1, o1, hl _ _ a1, (hh'.keep p1.b (.inr ⟨k, p1, u, c1, c2, a1, rfl⟩)).trans a2, a3.mono hl, a4⟩
    · obtain ⟨p1, o1, a1, a2, a3, a4, a5⟩ := hh'.obj k u c
      exact ⟨p1, o1, a1, a2, a3, fun hr => ⟨(a4 hr).1, fun hK => (a4 hr).2 (.inl hK)⟩, a5⟩
/-- Fewer numbers are kept free. -/
theorem HR.less (hh : HR θ F ρ g nx w) {R' : Nat → Prop} (hR : ∀ k, R' k → F.R k) (hg : ∀ k u, g' k = some u → g k = some u) : HR θ { F with R := R' } ρ g' nx w :=
  let h1 := hh.sub hg
  ⟨h1.os, h1.tape, h1.output, h1.size, h1.keep, h1.klt, h1.nle, h1.inj, h1.lt, fun k hk => h1.new k (hk.imp id (hR k)), fun k hk => h1.res k (hR k hk), h1.obj⟩
end
section
variable {P : Program} {X : FuncId → Option XK} {callF : FuncId → Array Value → Tr SO → Nat → Option (Value × Tr SO × Nat)} {n nx0 : Nat} {ops : Array Oper} {L : List Pn1} {S : Nat → DS} {e0 : Tr Value} {h0 : Tr SO} {θ : Nat → Value} {ρ ρ' : Ren} {F : Fm} {w : World}
def hdT (S : Nat → DS) (c : Nat) : Tr SO := (S c).hs.headD .leaf
open Classical in
/-- The blocks, where D is done, and of the effects those ahead of c. -/
noncomputable def gD (L : List Pn1) (S : Nat → DS) (N nx0 : Nat) (D : Nat → Prop) (c k : Nat) : Option SO := if ∃ j so, k = nx0 + j ∧ Fl L S N D c j so then alF S (k - nx0) else (hdT S c).get k
theorem gD_float {N : Nat} {D : Nat → Prop} {c j : Nat} {so : SO} (h : Fl L S N D c j so) : gD L S N nx0 D c (nx0 + j) = some so := by
  unfold gD
  rw [if_pos ⟨j, so, rfl, h⟩, Nat.add_sub_cancel_left]; exact h.2.2.1
theorem gD_cases {N : Nat} {D : Nat → Prop} {c k : Nat} {u : SO} (h : gD L S N nx0 D c k = some u) : (∃ j, k = nx0 + j ∧ Fl L S N D c j u) ∨ ((hdT S c).get k = some u ∧ ¬ ∃ j so, k = nx0 + j ∧ Fl L S N D c j so) := by
  unfold gD at h
  split at h
  · rename_i hf
    obtain ⟨j, so, rfl, hf⟩ := hf
    rw [Nat.add_sub_cancel_left, hf.2.2.1] at h
    cases h
    exact .inl ⟨j, rfl, hf⟩
  · rename_i hf; exact .inr ⟨h, hf⟩
theorem gD_table {N : Nat} {D : Nat → Prop} {c k : Nat} {u : SO} (h : (hdT S c).get k = some u) (hn : ¬ ∃ j so, k = nx0 + j ∧ Fl L S N D c j so) : gD L S N nx0 D c k = some u := by
  unfold gD
  rw [if_neg hn]; exact h
/-- The numbers of what is not done are kept free. -/
def FD (F : Fm) (nx0 N : Nat) (D : Nat → Prop) : Fm := { F with R := fun k => F.R k ∨ ∃ j, j < N ∧ k = nx0 + j ∧ ¬ D j }
theorem RG.quiet (R : RG P X callF n nx0 ops L S e0 h0) {c : Nat} : ∀ {c' : Nat}, c ≤ c' → c' ≤ ops.size → (∀ k, c ≤ k → k < c' → ¬ isE S k) → mE S c = mE S c'
  | 0, h, _, _ => by rw [Nat.le_zero.1 h]
  | c' + 1, h, hc, hk => by
    rcases Nat.lt_or_eq_of_le h with h | rfl
    · have ih := R.quiet (by omega : c ≤ c') (by omega) (fun k h1 h2 => hk k h1 (by omega))
      have h1 := R.mono1 (by omega : c' < ops.size)
      have h2 := hk c' (by omega) (by omega)
      unfold isE at h2
      omega
    · rfl
/-- Where the same effects stand ahead, all is the same. -/
theorem RG.shift (R : RG P X callF n nx0 ops L S e0 h0) {c c' : Nat} (hc : c ≤ ops.size) (hc' : c' ≤ ops.size) (hk : ∀ k, k < ops.size → isE S k → (k < c ↔ k < c')) : (S c).hs = (S c').hs ∧ (S c).nx = (S c').nx ∧ (S c).effs = (S c').effs ∧ ∀ j, Ab L S c j ↔ Ab L S c' j := by
  have hab : ∀ j, Ab L S c j ↔ Ab L S c' j := fun j => ⟨fun ⟨i, x, h1, h2, h3, h4⟩ => ⟨i, x, (hk i (R.lt h2) h3).1 h1, h2, h3, h4⟩, fun ⟨i, x, h1, h2, h3, h4⟩ => ⟨i, x, (hk i (R.lt h2) h3).2 h1, h2, h3, h4⟩⟩
  rcases Nat.le_total c c' with h | h
  · have := R.quiet h hc' (fun k h1 h2 h3 => by have := (hk k (by omega) h3).2 h2; omega)
    obtain ⟨a, b, d⟩ := R.stage h hc' this
    exact ⟨a, b, d, hab⟩
  · have := R.quiet h hc (fun k h1 h2 h3 => by have := (hk k (by omega) h3).1 h2; omega)
    obtain ⟨a, b, d⟩ := R.stage h hc this
    exact ⟨a.symm, b.symm, d.symm, hab⟩
/-- What is known where D is done. -/
structure Inv (θ : Nat → Value) (F : Fm) (L : List Pn1) (S : Nat → DS) (n nx0 N : Nat) (D : Nat → Prop) (c : Nat) (ρ : Ren) (tmps : Array Value) (w : World) : Prop where
  cle : c ≤ N
  eff : ∀ i, i < N → isE S i → (D i ↔ i < c)
  cl : Closed L D
  env : Env θ ρ L S N D tmps
  sz : tmps.size = n
  hr : HR θ (FD F nx0 N D) ρ (gD L S N nx0 D c) (S c).nx w
  dis : ∀ j so, Fl L S N D c j so → (hdT S c).get (nx0 + j) = none
  rw_ : ∀ j so, Fl L S N D c j so → so.rw = true
  low : ∀ k, F.R k → k < nx0
theorem Inv.shift (R : RG P X callF n nx0 ops L S e0 h0) {D : Nat → Prop} {c c' : Nat} {tmps : Array Value} (h : Inv θ F L S n nx0 ops.size D c ρ tmps w) (hc' : c' ≤ ops.size) (hk : ∀ k, k < ops.size → isE S k → (D k ↔ k < c')) : Inv θ F L S n nx0 ops.size D c' ρ tmps w := by
  obtain ⟨a1, a2, a3, a4⟩ := R.shift h.cle hc' (fun k h1 h2 => (h.eff k h1 h2).symm.trans (hk k h1 h2))
  have hfl : ∀ j so, Fl L S ops.size D c' j so ↔ Fl L S ops.size D c j so := fun j so => by unfold Fl; rw [a4]
  have ht : hdT S c' = hdT S c := by unfold hdT; rw [a1]
  have hg : gD L S ops.size nx0 D c' = gD L S ops.size nx0 D c := by
    have hfl2 : Fl L S ops.size D c' = Fl L S ops.size D c := funext fun j => funext fun so => propext (hfl j so)
    funext k
    unfold gD
    rw [hfl2, ht]
  exact ⟨hc', hk, h.cl, h.env, h.sz, by rw [hg, ← a2]; exact h.hr, fun j so hj => by rw [ht]; exact h.dis j so ((hfl j so).1 hj), fun j so hj => h.rw_ j so ((hfl j so).1 hj), h.low⟩
theorem RG.hs_len (R : RG P X callF n nx0 ops L S e0 h0) : ∀ {i : Nat}, i ≤ ops.size → (S i).hs.length = mE S i + 1
  | 0, _ => by unfold mE; rw [R.s0]; rfl
  | i + 1, hi => by
    obtain ⟨x, hx⟩ := R.at_ (by omega : i < ops.size)
    have ih := R.hs_len (by omega : i ≤ ops.size)
    unfold mE at ih ⊢
    rcases R.one hx with ⟨h1, h2, _⟩ | ⟨h1, ⟨h', h2⟩, _⟩
    · rw [h1, h2]; exact ih
    · rw [h1, h2]; simp [ih]
theorem RG.hs_pre (R : RG P X callF n nx0 ops L S e0 h0) {i : Nat} : ∀ {j : Nat}, i ≤ j → j ≤ ops.size → ∃ pre, (S j).hs = pre ++ (S i).hs
  | 0, h, _ => by rw [Nat.le_zero.1 h]; exact ⟨[], rfl⟩
  | j + 1, h, hj => by
    rcases Nat.lt_or_eq_of_le h with h | rfl
    · obtain ⟨pre, hp⟩ := R.hs_pre (by omega : i ≤ j) (by omega)
      obtain ⟨x, hx⟩ := R.at_ (by omega : j < ops.size)
      rcases R.one hx with ⟨_, h2, _⟩ | ⟨_, ⟨h', h2⟩, _⟩
      · exact ⟨pre, h2.trans hp⟩
      · exact ⟨h' :: pre, by rw [h2, hp]; rfl⟩
    · exact ⟨[], rfl⟩
theorem RG.recs (R : RG P X callF n nx0 ops L S e0 h0) {i : Nat} {r : Rec} : ∀ {j : Nat}, i ≤ j → j ≤ ops.size → r ∈ (S i).recs → r ∈ (S j).recs
  | 0, h, _, hr => by rw [Nat.le_zero.1 h] at hr; exact hr
  | j + 1, h, hj, hr => by
    rcases Nat.lt_or_eq_of_le h with h | rfl
    · obtain ⟨x, hx⟩ := R.at_ (by omega : j < ops.size)
      have ih := R.recs (by omega : i ≤ j) (by omega) hr
      obtain ⟨hd, tl, v, _, hdid⟩ := R.did hx
      cases hdid with
      | off hw he h1 h2 h3 h4 h5 => rw [h1]; exact ih
      | pure v hw hk hp he h1 h2 h3 h4 h5 => exact h1.2 _ ih
      | alloc so sh hw hk hp he h1 h2 h3 h4 h5 => rw [h1]; exact ih
      | eff v h' r hw hk hc hp hd he h1 h2 h4 h5 => rw [h1]; exact ih
    · exact hr
theorem RG.effs_at (R : RG P X callF n nx0 ops L S e0 h0) : ∀ {j : Nat}, j ≤ ops.size → ∀ q y, (S j).effs[q]? = some y → ∃ x, y.1 < j ∧ L[y.1]? = some x ∧ y.2 = x.b ∧ isE S y.1 ∧ mE S y.1 = mE S j - 1 - q
  | 0, _, q, y, hy => by rw [R.s0] at hy; simp at hy
  | j + 1, hj, q, y, hy => by
    obtain ⟨x, hx⟩ := R.at_ (by omega : j < ops.size)
    rcases R.one hx with ⟨h1, _⟩ | ⟨h1, _⟩
    · rw [h1] at hy
      obtain ⟨x', a1, a2, a3, a4, a5⟩ := R.effs_at (by omega : j ≤ ops.size) q y hy
      exact ⟨x', by omega, a2, a3, a4, by rw [a5]; unfold mE; rw [h1]⟩
    · rw [h1] at hy
      have hm : mE S (j + 1) = mE S j + 1 := by unfold mE; rw [h1]; simp
      cases q with
      | zero =>
        simp at hy; subst hy
        exact ⟨x, by simp, hx, rfl, hm, by simp [hm]⟩
      | succ q =>
        simp at hy
        obtain ⟨x', a1, a2, a3, a4, a5⟩ := R.effs_at (by omega : j ≤ ops.size) q y hy
        exact ⟨x', by omega, a2, a3, a4, by rw [a5, hm]; omega⟩
theorem RG.hs_cons (R : RG P X callF n nx0 ops L S e0 h0) {c : Nat} (hc : c ≤ ops.size) : ∃ tl, (S c).hs = hdT S c :: tl := by
  have := R.hs_len hc
  unfold hdT
  cases h : (S c).hs with
  | nil => rw [h] at this; simp at this
  | cons a l => exact ⟨l, rfl⟩
/-- What is read is the same in every order. -/
theorem RG.read (R : RG P X callF n nx0 ops L S e0 h0) (hok : okRecs P (S ops.size) = true) {D : Nat → Prop} {c : Nat} (hcle : c ≤ ops.size) (heff : ∀ i, i < ops.size → isE S i → (D i ↔ i < c)) (hcl : Closed L D) {i : Nat} {x : Pn1} (hx : L[i]? = some x) (hn : ¬ D i) (hb : ∀ j, bitB x.b j = true → D j)
    {v : Value} (hrds : rds x.o.op = true) (hrec : (⟨i, x.o, x.b, pickE (S i).env x.ns, v⟩ : Rec) ∈ (S (i + 1)).recs) {hd : Tr SO} {tl : List (Tr SO)} (hhs : (S i).hs = hd :: tl) (hp : pop P (pickE (S i).env x.ns) hd x.o = some v) : pop P (pickE (S i).env x.ns) (hdT S c) x.o = some v := by
  have hi := R.lt hx
  cases he : (S ops.size).effs with
  | nil =>
    have hm : mE S ops.size = 0 := by unfold mE; rw [he]; rfl
    have h1 := R.mono (i := i) (j := ops.size) (by omega) (Nat.le_refl _)
    have h2 := R.mono (i := c) (j := ops.size) hcle (Nat.le_refl _)
    obtain ⟨a1, _⟩ := R.stage (i := i) (j := ops.size) (by omega) (Nat.le_refl _) (by omega)
    obtain ⟨b1, _⟩ := R.stage (i := c) (j := ops.size) hcle (Nat.le_refl _) (by omega)
    have : hdT S c = hd := by unfold hdT; rw [b1, ← a1, hhs]; rfl
    rw [this]; exact hp
  | cons y l =>
    have hrec := R.recs (i := i + 1) (j := ops.size) (by omega) (Nat.le_refl _) hrec
    unfold okRecs at hok
    have hok : ((S ops.size).recs.all fun r => okRec P (S ops.size).effs r (S ops.size).hs (S ops.size).hs.length) = true := by
      rw [he] at hok ⊢
      exact hok
    have hok := List.all_eq_true.1 hok _ hrec
    obtain ⟨pre, hpre⟩ := R.hs_pre hcle (Nat.le_refl _)
    obtain ⟨tl', htl⟩ := R.hs_cons hcle
    rw [htl] at hpre
    have hlen := R.hs_len (Nat.le_refl ops.size)
    have hlenc := R.hs_len hcle
    have hK : (S ops.size).hs.length - 1 - pre.length = mE S c := by
      have : (S ops.size).hs.length = pre.length + (S c).hs.length := by rw [hpre, htl]; simp
      omega
    have := okRec_at hok pre tl' (hdT S c) hpre (by
      rw [hK]
      refine mayIn_all fun q z hz => ?_
      obtain ⟨x', b1, b2, b3, b4, b5⟩ := R.effs_at (Nat.le_refl _) q z hz
      have hb5 : (S ops.size).effs.length - 1 - q = mE S z.1 := b5.symm
      rw [hb5]
      unfold may1
      rw [Bool.and_eq_true]
      have hez := heff z.1 b1 b4
      constructor
      · cases hbz : bitB x.b z.1 with
        | false => rfl
        | true =>
          have h1 := hez.1 (hb _ hbz)
          have h2 := R.mono (i := z.1 + 1) (j := c) (by omega) hcle
          unfold isE at b4
          have : mE S z.1 < mE S c := by omega
          simp [Nat.blt_eq, this]
      · cases hbz : bitB z.2 i with
        | false => rfl
        | true =>
          have h1 : ¬ D z.1 := fun hD => hn (hcl z.1 x' b2 hD i (by rw [← b3]; exact hbz))
          have h2 : c ≤ z.1 := Nat.le_of_not_lt fun h => h1 (hez.2 h)
          have h3 := R.mono (i := c) (j := z.1) h2 (by omega)
          simp [Nat.ble_eq, h3])
    unfold popIs at this
    split at this
    · rename_i u hu
      rw [hu, veq_eq this]
    · cases this
end
end Ex
end Go.Proofs.YtpfmhnjogfjekaaGreat
