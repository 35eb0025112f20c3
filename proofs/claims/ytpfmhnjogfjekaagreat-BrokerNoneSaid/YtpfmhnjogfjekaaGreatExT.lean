/- Running code by calculation: a region's slots, blocks and reads, in any order. -/
import Derived.Test.YtpfmhnjogfjekaaGreatExS
namespace Go.Proofs.YtpfmhnjogfjekaaGreat
open Go Go.RowKit
set_option linter.unusedVariables false
set_option linter.unusedSectionVars false
set_option linter.unusedSimpArgs false
set_option maxRecDepth 100000
namespace Ex
theorem pickE_get {e : Tr Value} : ∀ {l : List Nat} {t : Nat} {v : Value}, (pickE e l).get t = some v → t ∈ l ∧ e.get t = some v
  | [], t, v, h => by cases h
  | a :: l, t, v, h => by
    have h : (pick1 a (pickE e l) (e.get a)).get t = some v := h
    cases ha : e.get a with
    | none =>
      rw [ha] at h
      obtain ⟨h1, h2⟩ := pickE_get (l := l) (show (pickE e l).get t = some v from h)
      exact ⟨.tail _ h1, h2⟩
    | some u =>
      rw [ha] at h
      rcases Tr.get_put (show ((pickE e l).put a u).get t = some v from h) with ⟨rfl, rfl⟩ | ⟨_, h1⟩
      · exact ⟨.head _, ha⟩
      · obtain ⟨h1, h2⟩ := pickE_get h1
        exact ⟨.tail _ h1, h2⟩
section
variable {P : Program} {X : FuncId → Option XK} {callF : FuncId → Array Value → Tr SO → Nat → Option (Value × Tr SO × Nat)} {n nx0 : Nat} {ops : Array Oper} {L : List Pn1} {S : Nat → DS} {e0 : Tr Value} {h0 : Tr SO} {θ : Nat → Value} {ρ ρ' : Ren} {F : Fm} {w : World}
theorem Did.env {i : Nat} {x : Pn1} {s s' : DS} {h : Tr SO} {v : Value} (hd : Did P X callF n nx0 ops i x s s' h v) : sput n s.env v x.o.dst = some s'.env := by
  cases hd <;> assumption
theorem sput_get {e e' : Tr Value} {v : Value} {d : Option Tmp} (h : sput n e v d = some e') {t : Nat} {u : Value} (hg : e'.get t = some u) : (d = some t ∧ u = v) ∨ (d ≠ some t ∧ e.get t = some u) := by
  unfold sput at h
  cases d with
  | none => cases h; exact .inr ⟨by simp, hg⟩
  | some d =>
    cases hb : Nat.blt d n with
    | false => simp only [hb] at h; cases h
    | true =>
      simp only [hb, cond_true] at h
      cases h
      rcases Tr.get_put hg with ⟨rfl, rfl⟩ | ⟨h1, h2⟩
      · exact .inl ⟨rfl, rfl⟩
      · exact .inr ⟨fun e => by cases e; exact h1 rfl, h2⟩
def dstAt (L : List Pn1) (j t : Nat) : Prop := ∃ x, L[j]? = some x ∧ x.o.dst = some t
/-- The slots, where D is done. -/
def Env (θ : Nat → Value) (ρ : Ren) (L : List Pn1) (S : Nat → DS) (N : Nat) (D : Nat → Prop) (tmps : Array Value) : Prop :=
  ∀ t i v, i ≤ N → (∀ j, j < i → dstAt L j t → D j) → (∀ j, i ≤ j → dstAt L j t → ¬ D j) → (S i).env.get t = some v → ∃ v', tmps[t]? = some v' ∧ Rv θ ρ v v'
theorem Env.mono (hl : ρ.le ρ') {N : Nat} {D : Nat → Prop} {tmps : Array Value} (h : Env θ ρ L S N D tmps) : Env θ ρ' L S N D tmps := fun t i v hi h1 h2 h3 => let ⟨v', a, b⟩ := h t i v hi h1 h2 h3; ⟨v', a, b.mono hl⟩
/-- No setting between: the slot is as it was. -/
theorem RG.same (R : RG P X callF n nx0 ops L S e0 h0) {i t : Nat} {v : Value} : ∀ {j : Nat}, i ≤ j → j ≤ ops.size → (∀ k, i ≤ k → k < j → ¬ dstAt L k t) → (S j).env.get t = some v → (S i).env.get t = some v
  | 0, h, _, _, hv => by rw [Nat.le_zero.1 h]; exact hv
  | j + 1, h, hj, hn, hv => by
    rcases Nat.lt_or_eq_of_le h with h | rfl
    · obtain ⟨x, hx⟩ := R.at_ (by omega : j < ops.size)
      obtain ⟨hd, tl, u, _, hdid⟩ := R.did hx
      rcases sput_get hdid.env hv with ⟨h1, _⟩ | ⟨_, h2⟩
      · exact absurd ⟨x, hx, h1⟩ (hn j (by omega) (by omega))
      · exact R.same (by omega) (by omega) (fun k h1 h2 => hn k h1 (by omega)) h2
    · exact hv
theorem clash_no {d d' : Option Tmp} {ns ns' : List Nat} (h : clash d ns d' ns' = false) : (∀ t, d = some t → t ∉ ns') ∧ (∀ t, d' = some t → t ∉ ns) ∧ (∀ t, d = some t → d' ≠ some t) := by
  unfold clash at h
  simp only [Bool.or_eq_false_iff] at h
  obtain ⟨⟨h1, h2⟩, h3⟩ := h
  have hit : ∀ {t : Nat} {l : List Nat}, hitD (some t) l = false → t ∉ l := fun {t l} h hm => by
    have : hitD (some t) l = true := by
      unfold hitD
      rw [List.any_eq_true]
      exact ⟨t, hm, Nat.beq_refl t⟩
    rw [h] at this; cases this
  refine ⟨fun t e => ?_, fun t e => ?_, fun t e e' => ?_⟩
  · subst e; exact hit h1
  · subst e; exact hit h2
  · subst e e'
    have : sameD (some t) (some t) = true := Nat.beq_refl t
    rw [h3] at this; cases this
/-- What an operation looks at is in the slots, whatever else was done. -/
theorem RG.look (R : RG P X callF n nx0 ops L S e0 h0) {D : Nat → Prop} (hD : Closed L D) {tmps : Array Value} (he : Env θ ρ L S ops.size D tmps) {i : Nat} {x : Pn1} (hx : L[i]? = some x) (hn : ¬ D i) (hb : ∀ j, bitB x.b j = true → D j) : REnv θ ρ (pickE (S i).env x.ns) tmps := fun t v hv => by
  obtain ⟨h1, h2⟩ := pickE_get hv
  refine he t i v (Nat.le_of_lt (R.lt hx)) (fun j hj hd => ?_) (fun j hj hd hDj => ?_) h2
  · obtain ⟨y, hy, hdy⟩ := hd
    rcases R.pl.up i x hx j y hj hy with h3 | h3
    · exact hb j h3
    · exact absurd h1 ((clash_no h3).2.1 t hdy)
  · obtain ⟨y, hy, hdy⟩ := hd
    rcases Nat.lt_or_eq_of_le hj with hj | rfl
    · rcases R.pl.up j y hy i x hj hx with h3 | h3
      · exact hn (hD j y hy hDj i h3)
      · exact absurd h1 ((clash_no h3).1 t hdy)
    · exact hn hDj
/-- An operation's value goes into its slot. -/
theorem RG.put (R : RG P X callF n nx0 ops L S e0 h0) {D : Nat → Prop} (hD : Closed L D) {tmps : Array Value} (hsz : tmps.size = n) (he : Env θ ρ L S ops.size D tmps) {i : Nat} {x : Pn1} (hx : L[i]? = some x) (hn : ¬ D i) {v v' : Value} (hv : Rv θ ρ v v') (hp : sput n (S i).env v x.o.dst = some (S (i + 1)).env) :
    Env θ ρ L S ops.size (fun j => D j ∨ j = i) (match x.o.dst with | some d => tmps.setIfInBounds d v' | none => tmps) := fun t k u hk h1 h2 hu => by
  by_cases ht : x.o.dst = some t
  · rw [ht]
    have hlt : t < n := by
      unfold sput at hp
      rw [ht] at hp
      cases hb : Nat.blt t n with
      | false => simp only [hb] at hp; cases hp
      | true => simpa [Nat.blt_eq] using hb
    have hki : i < k := by
      rcases Nat.lt_or_ge i k with h | h
      · exact h
      · exact absurd (.inr rfl) (h2 i h ⟨x, hx, ht⟩)
    have h3 : (S (i + 1)).env.get t = some u := R.same hki hk (fun j hj1 hj2 hd => by
      rcases h1 j hj2 hd with h4 | h4
      · obtain ⟨y, hy, hdy⟩ := hd
        rcases R.pl.up j y hy i x (by omega) hx with h5 | h5
        · exact hn (hD j y hy h4 i h5)
        · exact (clash_no h5).2.2 t hdy ht
      · omega) hu
    rcases sput_get hp h3 with ⟨_, rfl⟩ | ⟨h4, _⟩
    · exact ⟨v', by simp [hsz, hlt], hv⟩
    · exact absurd ht h4
  · obtain ⟨y, hy1, hy2⟩ := he t k u hk (fun j hj hd => by
      rcases h1 j hj hd with h3 | rfl
      · exact h3
      · obtain ⟨z, hz, hdz⟩ := hd
        rw [hx] at hz; cases hz; exact absurd hdz ht) (fun j hj hd hDj => h2 j hj hd (.inl hDj)) hu
    refine ⟨y, ?_, hy2⟩
    cases hd : x.o.dst with
    | none => exact hy1
    | some d =>
      dsimp only
      rw [Array.getElem?_setIfInBounds_ne (fun e => ht (by rw [hd, e]))]; exact hy1
/-- Which block an operation makes. -/
def alF (S : Nat → DS) (j : Nat) : Option SO := match (S (j + 1)).als with
  | (j', so) :: _ => if j' = j then some so else none
  | [] => none
/-- What an effect ahead of c has taken up. -/
def Ab (L : List Pn1) (S : Nat → DS) (c j : Nat) : Prop := ∃ i x, i < c ∧ L[i]? = some x ∧ isE S i ∧ bitB x.b j = true
theorem RG.als (R : RG P X callF n nx0 ops L S e0 h0) : ∀ {i : Nat}, i ≤ ops.size → ∀ j so, (j, so) ∈ (S i).als → j < i ∧ alF S j = some so ∧ ¬ Ab L S i j
  | 0, _, j, so, hm => by rw [R.s0] at hm; cases hm
  | i + 1, hi, j, so, hm => by
    obtain ⟨x, hx⟩ := R.at_ (by omega : i < ops.size)
    have ih := R.als (by omega : i ≤ ops.size)
    obtain ⟨hd, tl, v, _, hdid⟩ := R.did hx
    have grow : ¬ isE S i → ¬ Ab L S i j → ¬ Ab L S (i + 1) j := fun hn h ⟨k, y, h1, h2, h3, h4⟩ => by
      rcases Nat.lt_or_eq_of_le (Nat.le_of_lt_succ h1) with h5 | rfl
      · exact h ⟨k, y, h5, h2, h3, h4⟩
      · exact hn h3
    have keep : (S (i + 1)).als = (S i).als → (S (i + 1)).effs = (S i).effs → j < i + 1 ∧ alF S j = some so ∧ ¬ Ab L S (i + 1) j := fun h1 h2 => by
      rw [h1] at hm
      obtain ⟨g1, g2, g3⟩ := ih j so hm
      exact ⟨by omega, g2, grow (fun h => by unfold isE mE at h; rw [h2] at h; omega) g3⟩
    cases hdid with
    | off hw he h1 h2 h3 h4 h5 => exact keep h5 h4
    | pure v hw hk hp he h1 h2 h3 h4 h5 => exact keep h5 h4
    | alloc so' sh hw hk hp he h1 h2 h3 h4 h5 =>
      rw [h5] at hm
      have hne : ¬ isE S i := fun h => by unfold isE mE at h; rw [h4] at h; omega
      rcases List.mem_cons.1 hm with e | hm
      · cases e
        refine ⟨by omega, by unfold alF; rw [h5]; simp, grow hne fun ⟨k, y, g1, g2, g3, g4⟩ => ?_⟩
        obtain ⟨e, e1, e2, e3, e4⟩ := R.pl.bits k y g2 i g4
        have low : ∀ (m : Nat), m < k + 1 → ∀ z, L[m]? = some z → ∀ q, bitB z.b q = true → q < m := by
          intro m
          induction m using Nat.strongRecOn with
          | _ m ihm =>
            intro hm z hz q hq
            obtain ⟨e, e1, e2, e3, e4⟩ := R.pl.bits m z hz q hq
            rcases e4 with rfl | ⟨z', hz', hq'⟩
            · exact e3
            · exact Nat.lt_trans (ihm _ e3 (by omega) z' hz' q hq') e3
        have := low k (by omega) y g2 i g4
        omega
      · obtain ⟨g1, g2, g3⟩ := ih j so hm
        exact ⟨by omega, g2, grow hne g3⟩
    | eff v h' r hw hk hc hp hd he h1 h2 h4 h5 =>
      rw [h5, List.mem_filter] at hm
      obtain ⟨g1, g2, g3⟩ := ih j so hm.1
      refine ⟨by omega, g2, fun ⟨k, y, q1, q2, q3, q4⟩ => ?_⟩
      rcases Nat.lt_or_eq_of_le (Nat.le_of_lt_succ q1) with q5 | rfl
      · exact g3 ⟨k, y, q5, q2, q3, q4⟩
      · rw [hx] at q2; cases q2
        have := hm.2
        rw [q4] at this; cases this
/-- A block that is made and that no effect has taken up. -/
def Fl (L : List Pn1) (S : Nat → DS) (N : Nat) (D : Nat → Prop) (c j : Nat) (so : SO) : Prop := j < N ∧ D j ∧ alF S j = some so ∧ ¬ Ab L S c j
theorem putAls_get {nx0 b : Nat} {h : Tr SO} : ∀ {l : List (Nat × SO)} {k : Nat} {u : SO}, (putAls nx0 b h l).get k = some u → (∃ j, (j, u) ∈ l ∧ bitB b j = true ∧ k = nx0 + j) ∨ h.get k = some u
  | [], k, u, hk => .inr hk
  | (j, so) :: l, k, u, hk => by
    have hk : (bif bitB b j then (putAls nx0 b h l).put (Nat.add nx0 j) so else putAls nx0 b h l).get k = some u := hk
    cases hb : bitB b j with
    | true =>
      rw [hb] at hk
      rcases Tr.get_put hk with ⟨rfl, rfl⟩ | ⟨_, h1⟩
      · exact .inl ⟨j, .head _, hb, rfl⟩
      · rcases putAls_get h1 with ⟨j', g1, g2, g3⟩ | g
        · exact .inl ⟨j', .tail _ g1, g2, g3⟩
        · exact .inr g
    | false =>
      rw [hb] at hk
      rcases putAls_get hk with ⟨j', g1, g2, g3⟩ | g
      · exact .inl ⟨j', .tail _ g1, g2, g3⟩
      · exact .inr g
theorem allA_get {nx0 : Nat} {h : Tr SO} : ∀ {l : List (Nat × SO)} {k : Nat} {u : SO}, (allA nx0 h l).get k = some u → (∃ j, (j, u) ∈ l ∧ k = nx0 + j) ∨ h.get k = some u
  | [], k, u, hk => .inr hk
  | (j, so) :: l, k, u, hk => by
    rcases Tr.get_put (show ((allA nx0 h l).put (Nat.add nx0 j) so).get k = some u from hk) with ⟨rfl, rfl⟩ | ⟨_, h1⟩
    · exact .inl ⟨j, .head _, rfl⟩
    · rcases allA_get h1 with ⟨j', g1, g2⟩ | g
      · exact .inl ⟨j', .tail _ g1, g2⟩
      · exact .inr g
/-! ### Reads -/
theorem mayIn_all {i b k : Nat} : ∀ {l : List (Nat × Nat)} {m : Nat}, (∀ q x, l[q]? = some x → may1 i b k (m - 1 - q) x = true) → mayIn i b k l m = true
  | [], _, _ => rfl
  | x :: l, m, h => by
    show (may1 i b k (m - 1) x && mayIn i b k l (m - 1)) = true
    rw [Bool.and_eq_true]
    exact ⟨h 0 x rfl, mayIn_all fun q y hy => by
      have := h (q + 1) y (by simpa using hy)
      rwa [show m - 1 - 1 - q = m - 1 - (q + 1) by omega]⟩
theorem okRec_at {effs : List (Nat × Nat)} {r : Rec} : ∀ {l : List (Tr SO)} {K : Nat}, okRec P effs r l K = true → ∀ (pre post : List (Tr SO)) (h : Tr SO), l = pre ++ h :: post → mayIn r.i r.b (K - 1 - pre.length) effs effs.length = true → popIs P r.e r.o r.v h = true
  | [], K, _, pre, post, h, hl, _ => by simp at hl
  | a :: l, K, hr, pre, post, h, hl, hm => by
    have hr : ((bif mayIn r.i r.b (K - 1) effs effs.length then popIs P r.e r.o r.v a else true) && okRec P effs r l (K - 1)) = true := hr
    rw [Bool.and_eq_true] at hr
    cases pre with
    | nil =>
      simp at hl
      obtain ⟨rfl, rfl⟩ := hl
      have h1 := hr.1
      rw [show K - 1 - ([] : List (Tr SO)).length = K - 1 by simp] at hm
      rw [hm] at h1
      exact h1
    | cons c pre =>
      simp at hl
      obtain ⟨rfl, rfl⟩ := hl
      exact okRec_at hr.2 pre post h rfl (by rwa [show K - 1 - 1 - pre.length = K - 1 - (a :: pre).length by simp; omega])
end
end Ex
end Go.Proofs.YtpfmhnjogfjekaaGreat
