/- Running code by calculation: in which orders a region may run. -/
import Derived.Test.YtpfmhnjogfjekaaGreatExQ
namespace Go.Proofs.YtpfmhnjogfjekaaGreat
open Go Go.RowKit
set_option linter.unusedVariables false
set_option linter.unusedSectionVars false
set_option linter.unusedSimpArgs false
set_option maxRecDepth 100000
namespace Ex
/-- An order of what is left to do, where D is done. -/
inductive Sch (ops : Array Oper) : (Nat → Prop) → List Nat → Prop where
  | nil {D : Nat → Prop} (h : ∀ i, i < ops.size → D i) : Sch ops D []
  | cons {D : Nat → Prop} {i : Nat} {l : List Nat} {o : Oper} (hi : ops[i]? = some o) (hn : ¬ D i) (he : ∀ e ∈ o.after, Region.binds .any e = true → D e.on) (hs : Sch ops (fun j => D j ∨ j = i) l) : Sch ops D (i :: l)
theorem countP_lt {p q : Nat → Bool} : ∀ {l : List Nat} {i : Nat}, i ∈ l → p i = true → q i = false → (∀ j, q j = true → p j = true) → l.countP q < l.countP p
  | a :: l, i, hi, hp, hq, hpq => by
    have hle : ∀ m : List Nat, m.countP q ≤ m.countP p := fun m => List.countP_mono_left fun x _ hx => hpq x hx
    cases hi with
    | head =>
      rw [List.countP_cons_of_pos hp, List.countP_cons_of_neg (by rw [hq]; simp)]
      exact Nat.lt_succ_of_le (hle l)
    | tail _ hi =>
      have ih := countP_lt hi hp hq hpq
      cases hqa : q a with
      | true => rw [List.countP_cons_of_pos hqa, List.countP_cons_of_pos (hpq _ hqa)]; omega
      | false =>
        rw [List.countP_cons_of_neg (by rw [hqa]; simp)]
        cases hpa : p a with
        | true => rw [List.countP_cons_of_pos hpa]; omega
        | false => rw [List.countP_cons_of_neg (by rw [hpa]; simp)]; exact ih
theorem sch_go {ops : Array Oper} (back : ∀ (i : Nat) (o : Oper), ops[i]? = some o → ∀ e ∈ o.after, Region.binds .any e = true → e.on < i) : ∀ (fuel t : Nat) (listed : Array Bool) (acc : List Nat), listed.size = ops.size → (List.range ops.size).countP (fun i => !listed.getD i true) ≤ fuel →
    ∃ l, Region.linearise.go .any ops fuel t listed acc = acc.reverse ++ l ∧ Sch ops (fun j => listed[j]? = some true) l
  | 0, t, listed, acc, hsz, hc => by
    refine ⟨[], by rw [Region.linearise.go, List.append_nil], .nil fun i hi => ?_⟩
    have h0 := List.countP_eq_zero.1 (Nat.le_zero.1 hc) i (List.mem_range.2 hi)
    have hi' : i < listed.size := by omega
    rw [Array.getElem?_eq_getElem hi']
    simp [Array.getD, hi'] at h0
    rw [h0]
  | fuel + 1, t, listed, acc, hsz, hc => by
    rw [Region.linearise.go]
    generalize hrs : (List.range ops.size).filter (fun i => !listed.getD i true && ((ops[i]?).map (·.after.all fun e => !Region.binds .any e || listed.getD e.on false)).getD false) = rs
    have hin : ∀ i, i ∈ rs → ∃ o, ops[i]? = some o ∧ listed[i]? = some false ∧ ∀ e ∈ o.after, Region.binds .any e = true → listed[e.on]? = some true := fun i hi => by
      rw [← hrs, List.mem_filter, List.mem_range, Bool.and_eq_true] at hi
      obtain ⟨h1, h2, h3⟩ := hi
      have hi' : i < listed.size := by omega
      rw [Array.getElem?_eq_getElem h1, Option.map_some, Option.getD_some, Array.all_eq_true'] at h3
      refine ⟨_, Array.getElem?_eq_getElem h1, ?_, fun e he hb => ?_⟩
      · rw [Array.getElem?_eq_getElem hi']
        simp [Array.getD, hi'] at h2
        rw [h2]
      · have := h3 e he
        rw [hb, Bool.not_true, Bool.false_or, Array.getD_eq_getD_getElem?] at this
        cases hq : listed[e.on]? with
        | none => rw [hq] at this; cases this
        | some b => rw [hq] at this; rw [Option.getD_some] at this; rw [this]
    cases hr : rs[t % rs.length]? with
    | some i =>
      have hmem := List.mem_of_getElem? hr
      obtain ⟨o, h1, h2, h3⟩ := hin i hmem
      have hlt := (Array.getElem?_eq_some_iff.1 h2).1
      have hlt2 := (Array.getElem?_eq_some_iff.1 h1).1
      obtain ⟨l, g1, g2⟩ := sch_go back fuel (t / rs.length) (listed.setIfInBounds i true) (i :: acc) (by simpa using hsz) (by
        refine Nat.le_of_lt_succ (Nat.lt_of_lt_of_le (countP_lt (i := i) (List.mem_range.2 hlt2) ?_ ?_ fun j hj => ?_) hc)
        · rw [Array.getD_eq_getD_getElem?, h2]; rfl
        · rw [Array.getD_eq_getD_getElem?, Array.getElem?_setIfInBounds_self_of_lt hlt]; rfl
        · by_cases hji : j = i
          · subst hji; rw [Array.getD_eq_getD_getElem?, h2]; rfl
          · rw [Array.getD_eq_getD_getElem?, Array.getElem?_setIfInBounds_ne (fun e => hji e.symm), ← Array.getD_eq_getD_getElem?] at hj
            exact hj)
      refine ⟨i :: l, by dsimp only; rw [g1]; simp, .cons h1 (by rw [h2]; simp) h3 ?_⟩
      have hD : (fun j => (listed.setIfInBounds i true)[j]? = some true) = (fun j => listed[j]? = some true ∨ j = i) := by
        funext j
        apply propext
        by_cases hji : j = i
        · subst hji; rw [Array.getElem?_setIfInBounds_self_of_lt hlt]; simp
        · rw [Array.getElem?_setIfInBounds_ne (fun e => hji e.symm)]; simp [hji]
      rw [← hD]; exact g2
    | none =>
      refine ⟨[], by dsimp only; rw [List.append_nil], .nil ?_⟩
      have hnil : rs = [] := by
        cases hq : rs with
        | nil => rfl
        | cons a m =>
          rw [List.getElem?_eq_none_iff] at hr
          have : t % rs.length < rs.length := Nat.mod_lt _ (by rw [hq]; simp)
          omega
      intro i
      induction i using Nat.strongRecOn with
      | _ i ih =>
        intro hi
        have hi' : i < listed.size := by omega
        cases hb : listed[i] with
        | true => rw [Array.getElem?_eq_getElem hi', hb]
        | false =>
          exfalso
          have : i ∈ rs := by
            rw [← hrs, List.mem_filter, List.mem_range, Bool.and_eq_true]
            refine ⟨hi, by simp [Array.getD, hi', hb], ?_⟩
            rw [Array.getElem?_eq_getElem hi, Option.map_some, Option.getD_some, Array.all_eq_true']
            intro e he
            cases hbe : Region.binds .any e with
            | false => rfl
            | true =>
              have hlt := back i _ (Array.getElem?_eq_getElem hi) e he hbe
              have := ih _ hlt (by omega)
              rw [Array.getD_eq_getD_getElem?, this]; rfl
          rw [hnil] at this
          cases this
theorem sch_schedule {ops : Array Oper} {L : List Pn1} (hL : PlanOK ops L) (hlen : L.length = ops.size) (t : Nat) : Sch ops (fun _ => False) (Region.schedule true ops t) := by
  have back : ∀ (i : Nat) (o : Oper), ops[i]? = some o → ∀ e ∈ o.after, Region.binds .any e = true → e.on < i := fun i o ho e he hb => by
    have hi := (Array.getElem?_eq_some_iff.1 ho).1
    have hx := List.getElem?_eq_getElem (l := L) (i := i) (by omega)
    have h1 := (hL.o i _ hx).1
    rw [ho] at h1
    cases h1
    exact (hL.edge i _ hx e he hb).1
  unfold Region.schedule Region.linearise
  simp only [Bool.true_or, if_true]
  obtain ⟨l, h1, h2⟩ := sch_go back ops.size t (Array.replicate ops.size false) [] (by simp) (by
    refine Nat.le_trans List.countP_le_length ?_; simp)
  rw [h1]
  have hD : (fun j : Nat => (Array.replicate ops.size false)[j]? = some true) = (fun _ => False) := by
    funext j
    apply propext
    rw [Array.getElem?_replicate]
    split <;> simp
  rw [hD] at h2
  exact h2
end Ex
end Go.Proofs.YtpfmhnjogfjekaaGreat
