/- What a ledger is: the plain part. What calls of a ledger keep; clients that are no more: the plain part. -/
import Derived.Test.YtfiggkbclldccaaGreatAcOk
import Derived.Test.YtfiggkbclldccaaGreatMemb
import Derived.Test.YtfiggkbclldccaaGreatBk
import Derived.Test.YtfiggkbclldccaaGreatLvHdl
section
namespace Go.Proofs.YtfiggkbclldccaaGreat
open Go Go.RowKit Go.MapKept
set_option linter.unusedVariables false
set_option maxRecDepth 100000
/-- What is open is right, and not above so many. -/
def AccsM.Full (t : AccsM) (ch : Int) : Prop := ∀ (i : Nat) (hi : i < t.A.length), (i : Int) ∈ alKeys t.s.opn → Acct.right t.A[i] = true ∧ (t.A[i]).claim ≤ ch
theorem AccsM.Full.new (ch : Int) : (AccsM.mk (SlotsM.new 64) (List.replicate 64 ac0)).Full ch := fun i hi h => by simp [SlotsM.new, alKeys] at h
theorem Acct.new_claim {c : Int} (h : (Acct.new c).2 = 0) : (Acct.new c).1.claim = c := by
  unfold Acct.new at *
  split at h
  · rename_i h1; rw [if_pos h1]
  · cases h
theorem AccsM.Full.open {t : AccsM} {k : Nat} {ch : Int} (hk : t.Ok k) (h : t.Full ch) {c : Int} (hc : c ≤ ch) : (Accs.open t c).1.Full ch := by
  unfold Accs.open
  split
  · exact h
  · rename_i h1
    split
    · rename_i h2
      obtain ⟨p0, p1, _, _, ho⟩ := hk.good.opens.1.yes h2
      intro i hi hm
      simp only [List.length_set] at hi
      simp only [ho, mem_keys_set] at hm
      have h3 : (Acct.new c).2 = 0 := by simpa using h1
      by_cases hip : (t.s.told.1).toNat = i
      · subst hip
        simp only [List.getElem_set_self]
        exact ⟨Acct.new_right h3, by rw [Acct.new_claim h3]; exact hc⟩
      · simp only [List.getElem_set_ne hip]
        exact h i hi (hm.resolve_left (by omega))
    · exact h
theorem AccsM.Full.close {t : AccsM} {k : Nat} {ch : Int} (hk : t.Ok k) (h : t.Full ch) (p g : Int) : (Accs.close t p g).1.Full ch := by
  unfold Accs.close
  split
  · exact h
  · rename_i h1
    split
    · exact h
    · obtain ⟨hr, q, hq, rfl, _⟩ := Accs.get_ok (p := p) (g := g) hk.good.ok hk.len (by simpa using h1)
      intro i hi hm
      simp only [List.length_set, Int.toNat_natCast] at hi
      simp only [SlotsM.closeAt, alKeys_del] at hm
      have hm := (hk.good.ok.nodup.mem_erase_iff).1 hm
      simp only [Int.toNat_natCast, List.getElem_set_ne (show q ≠ i from fun e => hm.1 (by rw [e]))]
      exact h i hi hm.2
theorem Acct.act_claim {c : Int} {a : AcM} {n : Int} (h : (Acct.act c a n).2 = 0) : (Acct.act c a n).1.claim = a.claim := by
  unfold Acct.act at *
  split at h
  · cases h
  · rename_i h1
    rw [if_neg h1]
    split at h
    · unfold Acct.wrong at h; split at h <;> cases h
    · rename_i h2
      rw [if_neg h2]
      split at h
      · rename_i h3
        rw [if_pos h3]
        unfold Acct.step
        split
        · rfl
        · split
          · rfl
          · split <;> rfl
      · unfold Acct.wrong at h; split at h <;> cases h
theorem AccsM.Full.act {t : AccsM} {k : Nat} {ch : Int} (hk : t.Ok k) (h : t.Full ch) (c p g n : Int) : (Accs.act t c p g n).1.Full ch := by
  unfold Accs.act
  split
  · exact h
  · split
    · exact h
    · rename_i h1
      split
      · exact h
      · rename_i h2
        obtain ⟨hr, q, hq, rfl, he⟩ := Accs.get_ok (p := p) (g := g) hk.good.ok hk.len (by simpa using h1)
        have h3 : (Acct.act c (Accs.get t.s t.A q g).1 n).2 = 0 := by simpa using h2
        intro i hi hm
        simp only [List.length_set] at hi
        by_cases hiq : q = i
        · subst hiq
          simp only [Int.toNat_natCast, List.getElem_set_self]
          refine ⟨Acct.act_right (c := c) (a := (Accs.get t.s t.A q g).1) (n := n) (Prod.ext rfl h3), ?_⟩
          rw [Acct.act_claim h3, he]
          exact (h q hi hm).2
        · simp only [Int.toNat_natCast, List.getElem_set_ne hiq]
          exact h i hi hm
namespace Led
def toMb (x : Int × AcM) : MbM := ⟨x.1, ⟨x.2.claim, x.2.held, x.2.credits⟩⟩
def mbs (t : AccsM) : List MbM := t.members.map toMb
theorem mbs_ok {t : AccsM} {k : Nat} {ch : Int} (hk : t.Ok k) (h : t.Full ch) : ∀ m ∈ mbs t, Acc.Right m.acc ∧ m.acc.claim ≤ ch := by
  intro m hm
  obtain ⟨x, hx, rfl⟩ := List.mem_map.1 hm
  obtain ⟨p, hp, rfl⟩ := List.mem_map.1 hx
  have hp := AccsM.mem_ids.1 hp
  have h0 := keys_pos hk.good.ok p hp
  have h1 := keys_lt hk.good.ok p hp
  have hl : p.toNat < t.A.length := by rw [hk.len]; omega
  have h2 := h p.toNat hl (by rw [Int.toNat_of_nonneg h0]; exact hp)
  have e : t.A.getD p.toNat ac0 = t.A[p.toNat] := by rw [List.getD_eq_getElem?_getD, List.getElem?_eq_getElem hl]; rfl
  refine ⟨?_, ?_⟩
  · have h3 := (Acct.right_iff _).1 h2.1
    rw [← e] at h3
    exact h3
  · have h3 := h2.2
    rw [← e] at h3
    exact h3
theorem mbs_len {t : AccsM} {k : Nat} (hk : t.Ok k) : (mbs t).length ≤ t.s.gens.length := by
  have h1 := hk.opn_le
  have h2 := t.ids_len
  unfold mbs AccsM.members
  rw [List.length_map, List.length_map]; omega
def at_ (t : AccsM) (place : Int) : Int := idxOf (fun m => decide (m.id = place)) (mbs t)
def register (t : AccsM) (ch claim : Int) : AccsM × Int × Int :=
  if claim < 1 ∨ ch < claim then (t, 0, 2) else if (Accs.open t claim).2.2.2 ≠ 0 then ((Accs.open t claim).1, 0, (Accs.open t claim).2.2.2) else ((Accs.open t claim).1, Hdl.put 1 (Accs.open t claim).2.1 (Accs.open t claim).2.2.1 0)
/-- A client's place, generation, and what is wrong. -/
def find (t : AccsM) (c : Int) : Int × Int × Int :=
  if (Hdl.get c).ok = false ∨ (Hdl.get c).kind ≠ 1 ∨ (Hdl.get c).off ≠ 0 then (0, 0, 3) else if (Accs.get t.s t.A (Hdl.get c).place (Hdl.get c).gen).2 ≠ 0 then (0, 0, (Accs.get t.s t.A (Hdl.get c).place (Hdl.get c).gen).2) else ((Hdl.get c).place, (Hdl.get c).gen, 0)
def retire (t : AccsM) (c : Int) : AccsM × Int := if (find t c).2.2 ≠ 0 then (t, (find t c).2.2) else Accs.close t (find t c).1 (find t c).2.1
def act (t : AccsM) (call c n : Int) : AccsM × Int := if (find t c).2.2 ≠ 0 then (t, (find t c).2.2) else Accs.act t call (find t c).1 (find t c).2.1 n
def get (t : AccsM) (c : Int) : AcM × Int := if (find t c).2.2 ≠ 0 then (ac0, (find t c).2.2) else Accs.get t.s t.A (find t c).1 (find t c).2.1
def may (t : AccsM) (free waiting c n : Int) : Bool := decide ((find t c).2.2 = 0) && Bnk.may free waiting (mbs t) (at_ t (find t c).1) n
def handle (t : AccsM) (place : Int) : Int := if at_ t place < 0 then 0 else (Hdl.put 1 place (t.s.gens.getD place.toNat 0) 0).1
end Led
end Go.Proofs.YtfiggkbclldccaaGreat
end
section
namespace Go.Proofs.YtfiggkbclldccaaGreat
open Go Go.RowKit Go.MapKept
set_option linter.unusedVariables false
set_option maxRecDepth 100000
namespace Led
def Gone (t : AccsM) (c : Int) : Prop := (Hdl.get c).ok = true ∧ (Hdl.get c).kind = 1 ∧ (Hdl.get c).off = 0 ∧ (Hdl.get c).gen < t.s.gens.getD (Hdl.get c).place.toNat 0
theorem Gone.mono {t u : AccsM} {c : Int} (h : Gone t c) (hg : ∀ i, t.s.gens.getD i 0 ≤ u.s.gens.getD i 0) : Gone u c := ⟨h.1, h.2.1, h.2.2.1, Int.lt_of_lt_of_le h.2.2.2 (hg _)⟩
theorem open_gens {t : AccsM} {k : Nat} (h : t.Ok k) (c : Int) : (Accs.open t c).1.s.gens = t.s.gens := by
  unfold Accs.open
  split
  · rfl
  · split
    · exact h.good.opens.1.gens
    · rfl
theorem close_gens (t : AccsM) (p g : Int) (i : Nat) : t.s.gens.getD i 0 ≤ (Accs.close t p g).1.s.gens.getD i 0 := by
  unfold Accs.close
  split
  · exact Int.le_refl _
  · split
    · exact Int.le_refl _
    · simp only [SlotsM.closeAt, List.getD_eq_getElem?_getD, List.getElem?_set]
      split
      · rename_i h1
        subst h1
        split
        · simp; omega
        · rename_i h2; rw [List.getElem?_eq_none (by omega)]; exact Int.le_refl _
      · exact Int.le_refl _
/-- What is kept: how often it was closed at most, what clients there were, and which are no more. -/
structure Inv (t : AccsM) (i : Nat) (cap : Int) (cl gn : List Int) : Prop where
  ok : ∃ k, k ≤ i ∧ t.Ok k
  full : t.Full cap
  len : t.s.gens.length = 64
  clb : ∀ c ∈ cl, c < 9223372036854775808
  gnb : ∀ c ∈ gn, c < 9223372036854775808 ∧ Gone t c
  lc : cl.length ≤ i
  lg : gn.length ≤ i
theorem Inv.new (cap : Int) : Inv ⟨SlotsM.new 64, List.replicate 64 ac0⟩ 0 cap [] [] := ⟨⟨0, Nat.le_refl _, .new⟩, .new cap, by simp [SlotsM.new], by simp, by simp, Nat.le_refl _, Nat.le_refl _⟩
theorem Inv.up {t : AccsM} {i : Nat} {cap : Int} {cl gn : List Int} (h : Inv t i cap cl gn) : Inv t (i + 1) cap cl gn :=
  ⟨let ⟨k, h1, h2⟩ := h.ok; ⟨k, by omega, h2⟩, h.full, h.len, h.clb, h.gnb, Nat.le_succ_of_le h.lc, Nat.le_succ_of_le h.lg⟩
theorem Inv.okI {t : AccsM} {i : Nat} {cap : Int} {cl gn : List Int} (h : Inv t i cap cl gn) : t.Ok i := by
  obtain ⟨k, h1, h2⟩ := h.ok
  obtain ⟨d, rfl⟩ : ∃ d, i = k + d := ⟨i - k, by omega⟩
  clear h h1
  induction d with
  | zero => exact h2
  | succ d ih => exact ih.up
theorem put_lt {p g h : Int} (e : Hdl.put 1 p g 0 = (h, 0)) : h < 9223372036854775808 := by
  unfold Hdl.put at e
  rw [if_neg (by omega)] at e
  split at e
  · injection e with _ e; cases e
  · rename_i h2
    injection e with e _
    unfold Hdl.Beyond at h2
    omega
theorem Inv.register {t : AccsM} {i : Nat} {cap : Int} {cl gn : List Int} (h : Inv t i cap cl gn) (n : Int) : Inv (Led.register t cap n).1 (i + 1) cap cl gn ∧ ((Led.register t cap n).2.2 = 0 → Inv (Led.register t cap n).1 (i + 1) cap (cl ++ [(Led.register t cap n).2.1]) gn) := by
  have hk := h.okI
  have main : Inv (Led.register t cap n).1 (i + 1) cap cl gn := by
    unfold Led.register
    split
    · exact h.up
    · rename_i h1
      have e1 := open_gens hk n
      have key : Inv (Accs.open t n).1 (i + 1) cap cl gn := ⟨⟨i, by omega, (hk.open n).1⟩, h.full.open hk (by omega), by rw [e1]; exact h.len, h.clb, fun c hc => ⟨(h.gnb c hc).1, (h.gnb c hc).2.mono (fun j => by rw [e1]; exact Int.le_refl _)⟩, Nat.le_succ_of_le h.lc, Nat.le_succ_of_le h.lg⟩
      split <;> exact key
  refine ⟨main, fun he => ⟨main.ok, main.full, main.len, fun c hc => ?_, main.gnb, by rw [List.length_append]; simp; exact h.lc, main.lg⟩⟩
  rcases List.mem_append.1 hc with hc | hc
  · exact h.clb c hc
  · rw [List.mem_singleton] at hc
    subst hc
    unfold Led.register at he ⊢
    split at he
    · cases he
    · rename_i h1
      rw [if_neg h1]
      split at he
      · rename_i h2; exact absurd he h2
      · rename_i h2
        rw [if_neg h2]
        exact put_lt (Prod.ext rfl he)
theorem Inv.act {t : AccsM} {i : Nat} {cap : Int} {cl gn : List Int} (h : Inv t i cap cl gn) (call c n : Int) : Inv (Led.act t call c n).1 (i + 1) cap cl gn := by
  have hk := h.okI
  unfold Led.act
  split
  · exact h.up
  · have h1 := hk.act call (find t c).1 (find t c).2.1 n
    exact ⟨⟨i, by omega, h1.1⟩, h.full.act hk _ _ _ _, by rw [h1.2]; exact h.len, h.clb, fun c hc => ⟨(h.gnb c hc).1, (h.gnb c hc).2.mono (fun j => by rw [h1.2]; exact Int.le_refl _)⟩, Nat.le_succ_of_le h.lc, Nat.le_succ_of_le h.lg⟩
theorem Inv.retire {t : AccsM} {i : Nat} {cap : Int} {cl gn : List Int} (h : Inv t i cap cl gn) (c : Int) (hc : c < 9223372036854775808) : Inv (Led.retire t c).1 (i + 1) cap cl gn ∧ ((Led.retire t c).2 = 0 → Inv (Led.retire t c).1 (i + 1) cap cl (gn ++ [c])) := by
  have hk := h.okI
  have main : Inv (Led.retire t c).1 (i + 1) cap cl gn := by
    unfold Led.retire
    split
    · exact h.up
    · have h1 := hk.close (find t c).1 (find t c).2.1
      exact ⟨⟨i + 1, Nat.le_refl _, h1.1⟩, h.full.close hk _ _, by rw [h1.2]; exact h.len, h.clb, fun c hc => ⟨(h.gnb c hc).1, (h.gnb c hc).2.mono (close_gens t _ _)⟩, Nat.le_succ_of_le h.lc, Nat.le_succ_of_le h.lg⟩
  refine ⟨main, fun he => ⟨main.ok, main.full, main.len, main.clb, fun x hx => ?_, main.lc, by rw [List.length_append]; simp; exact h.lg⟩⟩
  rcases List.mem_append.1 hx with hx | hx
  · exact main.gnb x hx
  · rw [List.mem_singleton] at hx
    subst hx
    refine ⟨hc, ?_⟩
    unfold Led.retire at he ⊢
    split at he
    · rename_i h1; exact absurd he h1
    · rename_i h1
      rw [if_neg h1]
      unfold find at h1 he ⊢
      split at h1
      · exact absurd (by decide) h1
      · rename_i h2
        rw [if_neg h2] at he ⊢
        split at h1
        · rename_i h3; exact absurd h3 h1
        · rename_i h3
          rw [if_neg h3] at he ⊢
          dsimp only at he ⊢
          have hok : (Hdl.get x).ok = true ∧ (Hdl.get x).kind = 1 ∧ (Hdl.get x).off = 0 := by
            cases h4 : (Hdl.get x).ok <;> simp_all
          obtain ⟨hr, q, hq, hpq, _⟩ := Accs.get_ok (p := (Hdl.get x).place) (g := (Hdl.get x).gen) hk.good.ok hk.len (by simpa using h3)
          refine ⟨hok.1, hok.2.1, hok.2.2, ?_⟩
          have hg : t.s.gens.getD (Hdl.get x).place.toNat 0 = (Hdl.get x).gen := by
            unfold SlotsM.right at hr
            simp only [Bool.and_eq_true, beq_iff_eq] at hr
            exact hr.2
          unfold Accs.close at he ⊢
          split at he
          · rename_i h5; exact absurd he h5
          · rename_i h5
            rw [if_neg h5]
            split at he
            · cases he
            · rename_i h6
              rw [if_neg h6]
              have hql : q < t.s.gens.length := by rw [← hk.len]; exact hq
              simp only [SlotsM.closeAt, hpq, Int.toNat_natCast] at hg ⊢
              simp only [List.getD_eq_getElem?_getD, List.getElem?_set_self hql] at hg ⊢
              simp only [Option.getD_some]
              omega
def one (t : AccsM) (call c n : Int) : AccsM × Int := if 1 ≤ call ∧ call ≤ 4 then act t call c n else retire t c
theorem Inv.one {t : AccsM} {i : Nat} {cap : Int} {cl gn : List Int} (h : Inv t i cap cl gn) (call c n : Int) (hc : c < 9223372036854775808) : Inv (Led.one t call c n).1 (i + 1) cap cl gn ∧ ((Led.one t call c n).2 = 0 → (call < 1 ∨ 4 < call) → Inv (Led.one t call c n).1 (i + 1) cap cl (gn ++ [c])) := by
  unfold Led.one
  split
  · exact ⟨h.act call c n, fun _ h2 => by omega⟩
  · exact ⟨(h.retire c hc).1, fun he _ => (h.retire c hc).2 he⟩
end Led
end Go.Proofs.YtfiggkbclldccaaGreat
end
