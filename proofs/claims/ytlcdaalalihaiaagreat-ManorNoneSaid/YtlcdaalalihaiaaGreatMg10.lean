import Derived.Test.YtlcdaalalihaiaaGreatSepD
import Derived.IntWalk
/- Chained nodes: what is plain. -/
namespace Go.Proofs.YtlcdaalalihaiaaGreat
set_option linter.unusedVariables false
set_option linter.unusedSimpArgs false
namespace Chn
/-- A node's cells: back, next, list. An end's: last, first, long. -/
structure Nd where
  bk : Int
  nx : Int
  ls : Int
def nd0 : Nd := ⟨-1, -1, -1⟩
def pr (L : List Nat) (j : Nat) : Int := if h : 0 < j ∧ j - 1 < L.length then (L[j - 1]'h.2 : Nat) else -1
def nx (L : List Nat) (j : Nat) : Int := if h : j + 1 < L.length then (L[j + 1] : Nat) else -1
def fst (L : List Nat) : Int := if h : 0 < L.length then (L[0] : Nat) else -1
def lst (L : List Nat) : Int := if h : 0 < L.length then (L[L.length - 1] : Nat) else -1
def ed (L : List Nat) : Nd := ⟨lst L, fst L, L.length⟩
/-- The nodes' and the ends' cells tell these lists. -/
structure Ok (N E : List Nd) (LS : List (List Nat)) : Prop where
  le : E.length = LS.length
  ends : ∀ (i : Nat) (h : i < LS.length) (h2 : i < E.length), E[i] = ed LS[i]
  lt : ∀ (i : Nat) (h : i < LS.length), ∀ n ∈ LS[i], n < N.length
  nd : ∀ (i : Nat) (h : i < LS.length), (LS[i]).Nodup
  dj : ∀ (i j : Nat) (h : i < LS.length) (h2 : j < LS.length), i ≠ j → ∀ n ∈ LS[i], n ∉ LS[j]
  node : ∀ (i : Nat) (h : i < LS.length) (j : Nat) (h2 : j < (LS[i]).length) (h3 : (LS[i])[j] < N.length), N[(LS[i])[j]] = ⟨pr LS[i] j, nx LS[i] j, i⟩
  out : ∀ (n : Nat) (h : n < N.length), (∀ (i : Nat) (h : i < LS.length), n ∉ LS[i]) → N[n] = nd0
theorem Ok.new (a b : Nat) : Ok (List.replicate a nd0) (List.replicate b ⟨-1, -1, 0⟩) (List.replicate b []) :=
  ⟨by simp, fun i h h2 => by simp [ed, lst, fst], fun i h n hn => by simp at hn, fun i h => by simp, fun i j h h2 e n hn => by simp at hn, fun i h j h2 => by simp at h2, fun n h _ => by simp⟩
/-- A node that is in a list. -/
theorem Ok.free {N E : List Nd} {LS : List (List Nat)} (h : Ok N E LS) {n : Nat} (hn : n < N.length) : (N[n]).ls < 0 ↔ ∀ (i : Nat) (h : i < LS.length), n ∉ LS[i] := by
  constructor
  · intro hl i hi hm
    obtain ⟨j, hj, e⟩ := List.getElem_of_mem hm
    have := h.node i hi j hj (by rw [e]; exact hn)
    simp only [e] at this
    rw [this] at hl
    simp at hl
    omega
  · intro hx
    rw [h.out n hn hx]; simp [nd0]
theorem pr_lt {L : List Nat} {j : Nat} (h : j < L.length) : pr L j = if h0 : j = 0 then (-1 : Int) else ((L[j - 1]'(by omega) : Nat) : Int) := by
  unfold pr
  by_cases h0 : j = 0
  · rw [dif_neg (by omega), dif_pos h0]
  · rw [dif_pos ⟨by omega, by omega⟩, dif_neg h0]
theorem getset (LS : List (List Nat)) (i k : Nat) (L : List Nat) (h : k < (LS.set i L).length) : (LS.set i L)[k] = if k = i then L else LS[k]'(by simpa using h) := by
  rw [List.getElem_set]
  by_cases e : i = k
  · subst e; simp
  · rw [if_neg e, if_neg (fun q => e q.symm)]
theorem inj {L : List Nat} (h : L.Nodup) {a b : Nat} (ha : a < L.length) (hb : b < L.length) (e : L[a] = L[b]) : a = b := (List.getElem_inj (h₀ := ha) (h₁ := hb) h).1 e
/-- A node is put at a list's end. -/
theorem Ok.add {N E N2 : List Nd} {LS : List (List Nat)} (h : Ok N E LS) {i n : Nat} (hi : i < LS.length) (hn : n < N.length) (hx : ∀ (i : Nat) (h : i < LS.length), n ∉ LS[i]) (hl : N2.length = N.length)
    (h2 : ∀ (m : Nat) (hm : m < N.length), N2[m]'(by omega) = if m = n then ⟨lst LS[i], -1, i⟩ else if (m : Int) = lst LS[i] then ⟨(N[m]).bk, n, (N[m]).ls⟩ else N[m]) :
    Ok N2 (E.set i (ed (LS[i] ++ [n]))) (LS.set i (LS[i] ++ [n])) := by
  have hnd := h.nd i hi
  have key : ∀ (k : Nat) (hk : k < (LS.set i (LS[i] ++ [n])).length), (LS.set i (LS[i] ++ [n]))[k] = if k = i then LS[i] ++ [n] else LS[k]'(by simpa using hk) := fun k hk => getset LS i k _ hk
  have hlst : ∀ m : Nat, (m : Int) = lst LS[i] → m ∈ LS[i] := fun m hm => by
    unfold lst at hm
    split at hm
    · have : m = (LS[i])[(LS[i]).length - 1] := by omega
      rw [this]; exact List.getElem_mem _
    · omega
  refine ⟨by simp [h.le], fun k hk hk2 => ?_, fun k hk m hm => ?_, fun k hk => ?_, fun a b ha hb hab m hm => ?_, fun k hk j hj hj3 => ?_, fun m hm hm2 => ?_⟩
  · rw [key, List.getElem_set]
    by_cases e : i = k
    · subst e; simp
    · rw [if_neg e, if_neg (fun q => e q.symm)]; exact h.ends k _ _
  · rw [key] at hm
    split at hm
    · rcases List.mem_append.1 hm with hm | hm
      · rw [hl]; exact h.lt i hi m hm
      · simp at hm; omega
    · rw [hl]; exact h.lt k (by simpa using hk) m hm
  · rw [key]
    split
    · rw [List.nodup_append]
      exact ⟨hnd, by simp, fun a ha b hb => by simp at hb; subst hb; intro e; subst e; exact hx i hi ha⟩
    · exact h.nd k (by simpa using hk)
  · rw [key] at hm ⊢
    have ha' : a < LS.length := by simpa using ha
    have hb' : b < LS.length := by simpa using hb
    split at hm
    · rename_i ea; subst ea
      rw [if_neg (fun e => hab e.symm)]
      rcases List.mem_append.1 hm with hm | hm
      · exact h.dj a b ha' hb' hab m hm
      · simp at hm; subst hm; exact hx b hb'
    · rename_i ea
      split
      · rename_i eb; subst eb
        intro hc
        rcases List.mem_append.1 hc with hc | hc
        · exact h.dj a b ha' hb' hab m hm hc
        · simp at hc; subst hc; exact hx a ha' hm
      · exact h.dj a b ha' hb' hab m hm
  · have hk' : k < LS.length := by simpa using hk
    have kk := key k hk
    by_cases e : k = i
    · subst e
      rw [if_pos rfl] at kk
      simp only [kk] at hj hj3 ⊢
      rw [List.length_append, List.length_singleton] at hj
      by_cases hjl : j < (LS[k]).length
      · have e1 : (LS[k] ++ [n])[j]'(by simp; omega) = (LS[k])[j] := List.getElem_append_left hjl
        simp only [e1] at hj3 ⊢
        have hm : (LS[k])[j] < N.length := by omega
        have hne : (LS[k])[j] ≠ n := fun e => hx k hk' (by rw [← e]; exact List.getElem_mem _)
        have hnode := h.node k hk' j hjl hm
        have hp : pr (LS[k] ++ [n]) j = pr LS[k] j := by
          rw [pr_lt (by simp; omega), pr_lt hjl]
          split
          · rfl
          · rw [List.getElem_append_left (by omega)]
        rw [h2 _ hm, if_neg hne, hp]
        by_cases hlast : j + 1 < (LS[k]).length
        · have hnl : ¬ (((LS[k])[j] : Nat) : Int) = lst LS[k] := by
            unfold lst; rw [dif_pos (by omega)]
            intro e
            have := inj hnd hjl (by omega) (show (LS[k])[j] = (LS[k])[(LS[k]).length - 1] by omega)
            omega
          rw [if_neg hnl, hnode]
          congr 1
          unfold nx
          rw [dif_pos hlast, dif_pos (by simp; omega), List.getElem_append_left hlast]
        · have hjj : j = (LS[k]).length - 1 := by omega
          have hyl : (((LS[k])[j] : Nat) : Int) = lst LS[k] := by
            unfold lst; rw [dif_pos (by omega)]
            congr 2
          rw [if_pos hyl, hnode]
          congr 1
          unfold nx
          rw [dif_pos (by simp; omega), List.getElem_append_right (by omega)]
          simp
      · obtain rfl : j = (LS[k]).length := by omega
        have e1 : (LS[k] ++ [n])[(LS[k]).length]'(by simp) = n := by simp
        simp only [e1] at hj3 ⊢
        rw [h2 n hn, if_pos rfl]
        congr 1
        · rw [pr_lt (by simp)]
          unfold lst
          split
          · rename_i hp; rw [dif_neg (by omega), List.getElem_append_left (by omega)]
          · rename_i hp; rw [dif_pos (by omega)]
        · unfold nx; rw [dif_neg (by simp)]
    · rw [if_neg e] at kk
      simp only [kk] at hj hj3 ⊢
      have hm : (LS[k])[j] < N.length := by omega
      have hne : (LS[k])[j] ≠ n := fun q => hx k hk' (by rw [← q]; exact List.getElem_mem _)
      have hnl : ¬ (((LS[k])[j] : Nat) : Int) = lst LS[i] := fun q => h.dj k i hk' hi e _ (List.getElem_mem _) (hlst _ q)
      rw [h2 _ hm, if_neg hne, if_neg hnl]
      exact h.node k hk' j hj hm
  · have hm' : m < N.length := by omega
    have hmi := hm2 i (by simpa using hi)
    rw [key, if_pos rfl] at hmi
    have hmn : m ≠ n := fun e => hmi (by rw [e]; simp)
    have hml : ¬ (m : Int) = lst LS[i] := fun q => hmi (List.mem_append_left _ (hlst m q))
    rw [h2 m hm', if_neg hmn, if_neg hml]
    refine h.out m hm' fun k hk hc => ?_
    have := hm2 k (by simpa using hk)
    rw [key] at this
    split at this
    · rename_i e; subst e; exact this (List.mem_append_left _ hc)
    · exact this hc
theorem er_len (L : List Nat) {j : Nat} (h : j < L.length) : (L.eraseIdx j).length = L.length - 1 := List.length_eraseIdx_of_lt h
theorem er_lo (L : List Nat) {j k : Nat} (hj : j < L.length) (h : k < j) (hk : k < (L.eraseIdx j).length) : (L.eraseIdx j)[k] = L[k]'(by omega) := by rw [List.getElem_eraseIdx, dif_pos h]
theorem er_hi (L : List Nat) {j k : Nat} (hj : j < L.length) (h : j ≤ k) (hk : k < (L.eraseIdx j).length) : (L.eraseIdx j)[k] = L[k + 1]'(by rw [er_len L hj] at hk; omega) := by rw [List.getElem_eraseIdx, dif_neg (by omega)]
theorem er_mem {L : List Nat} (hn : L.Nodup) {j : Nat} (hj : j < L.length) (m : Nat) : m ∈ L.eraseIdx j ↔ m ∈ L ∧ m ≠ L[j] := by
  constructor
  · intro hm
    obtain ⟨k, hk, e⟩ := List.getElem_of_mem hm
    have hk2 := hk
    rw [er_len L hj] at hk2
    by_cases h : k < j
    · rw [er_lo L hj h hk] at e
      exact ⟨by rw [← e]; exact List.getElem_mem _, fun q => by have := inj hn (by omega) hj (show L[k]'(by omega) = L[j] by rw [e, q]); omega⟩
    · rw [er_hi L hj (by omega) hk] at e
      exact ⟨by rw [← e]; exact List.getElem_mem _, fun q => by have := inj hn (by omega) hj (show L[k + 1]'(by omega) = L[j] by rw [e, q]); omega⟩
  · rintro ⟨hm, hne⟩
    obtain ⟨k, hk, e⟩ := List.getElem_of_mem hm
    by_cases h : k < j
    · have hk2 : k < (L.eraseIdx j).length := by rw [er_len L hj]; omega
      rw [← e, ← er_lo L hj h hk2]; exact List.getElem_mem _
    · have hkj : k ≠ j := fun q => by subst q; exact hne e.symm
      have hk2 : k - 1 < (L.eraseIdx j).length := by rw [er_len L hj]; omega
      have e3 := er_hi L hj (by omega) hk2
      have e4 : L[k - 1 + 1]'(by omega) = L[k] := by congr 1; omega
      rw [← e, ← e4, ← e3]; exact List.getElem_mem _
theorem nx_lt {L : List Nat} {j : Nat} (h : j < L.length) : nx L j = if h0 : j + 1 < L.length then ((L[j + 1] : Nat) : Int) else -1 := rfl
/-- A node is taken out of its list. -/
theorem Ok.drop {N E N2 : List Nd} {LS : List (List Nat)} (h : Ok N E LS) {i j : Nat} (hi : i < LS.length) (hj : j < (LS[i]).length) (hl : N2.length = N.length)
    (h2 : ∀ (m : Nat) (hm : m < N.length), N2[m]'(by omega) = if m = (LS[i])[j] then nd0 else if (m : Int) = pr LS[i] j then ⟨(N[m]).bk, nx LS[i] j, (N[m]).ls⟩ else if (m : Int) = nx LS[i] j then ⟨pr LS[i] j, (N[m]).nx, (N[m]).ls⟩ else N[m]) :
    Ok N2 (E.set i (ed ((LS[i]).eraseIdx j))) (LS.set i ((LS[i]).eraseIdx j)) := by
  have hnd := h.nd i hi
  have hln := fun k (hk : k < (LS[i]).length) => h.lt i hi _ (List.getElem_mem hk)
  have key : ∀ (k : Nat) (hk : k < (LS.set i ((LS[i]).eraseIdx j)).length), (LS.set i ((LS[i]).eraseIdx j))[k] = if k = i then (LS[i]).eraseIdx j else LS[k]'(by simpa using hk) := fun k hk => getset LS i k _ hk
  have hpm : ∀ m : Nat, (m : Int) = pr LS[i] j → m ∈ LS[i] := fun m hm => by
    rw [pr_lt hj] at hm
    split at hm
    · omega
    · have : m = (LS[i])[j - 1] := by omega
      rw [this]; exact List.getElem_mem _
  have hnm : ∀ m : Nat, (m : Int) = nx LS[i] j → m ∈ LS[i] := fun m hm => by
    rw [nx_lt hj] at hm
    split at hm
    · have : m = (LS[i])[j + 1] := by omega
      rw [this]; exact List.getElem_mem _
    · omega
  have hp : ∀ k (hk : k < (LS[i]).length), (((LS[i])[k] : Nat) : Int) = pr LS[i] j ↔ k + 1 = j := fun k hk => by
    rw [pr_lt hj]
    constructor
    · intro e
      split at e
      · omega
      · have := inj hnd hk (by omega) (show (LS[i])[k] = (LS[i])[j - 1] by omega); omega
    · intro e
      rw [dif_neg (by omega)]
      congr 2; omega
  have hx : ∀ k (hk : k < (LS[i]).length), (((LS[i])[k] : Nat) : Int) = nx LS[i] j ↔ k = j + 1 := fun k hk => by
    rw [nx_lt hj]
    constructor
    · intro e
      split at e
      · exact inj hnd hk (by omega) (show (LS[i])[k] = (LS[i])[j + 1] by omega)
      · omega
    · intro e
      subst e
      rw [dif_pos hk]
  refine ⟨by simp [h.le], fun k hk hk2 => ?_, fun k hk m hm => ?_, fun k hk => ?_, fun a b ha hb hab m hm => ?_, fun k hk t ht ht3 => ?_, fun m hm hm2 => ?_⟩
  · rw [key, List.getElem_set]
    by_cases e : i = k
    · subst e; simp
    · rw [if_neg e, if_neg (fun q => e q.symm)]; exact h.ends k _ _
  · rw [key] at hm
    split at hm
    · rw [hl]; exact h.lt i hi m ((er_mem hnd hj m).1 hm).1
    · rw [hl]; exact h.lt k (by simpa using hk) m hm
  · rw [key]
    split
    · exact hnd.sublist (List.eraseIdx_sublist ..)
    · exact h.nd k (by simpa using hk)
  · rw [key] at hm ⊢
    have ha' : a < LS.length := by simpa using ha
    have hb' : b < LS.length := by simpa using hb
    split at hm
    · rename_i ea; subst ea
      rw [if_neg (fun e => hab e.symm)]
      exact h.dj a b ha' hb' hab m ((er_mem hnd hj m).1 hm).1
    · rename_i ea
      split
      · rename_i eb; subst eb
        intro hc
        exact h.dj a b ha' hb' hab m hm ((er_mem hnd hj m).1 hc).1
      · exact h.dj a b ha' hb' hab m hm
  · have hk' : k < LS.length := by simpa using hk
    have kk := key k hk
    by_cases e : k = i
    · subst e
      rw [if_pos rfl] at kk
      simp only [kk] at ht ht3 ⊢
      have ht2 := ht
      rw [er_len _ hj] at ht2
      have hel := er_len (LS[k]) hj
      by_cases htj : t < j
      · have e1 := er_lo (LS[k]) hj htj ht
        simp only [e1] at ht3 ⊢
        have hm := hln t (by omega)
        have hne : (LS[k])[t] ≠ (LS[k])[j] := fun q => by have := inj hnd (by omega) hj q; omega
        rw [h2 _ hm, if_neg hne]
        have hnode := h.node k hk' t (by omega) hm
        have hpp : pr ((LS[k]).eraseIdx j) t = pr LS[k] t := by
          rw [pr_lt ht, pr_lt (by omega)]
          split
          · rfl
          · rw [er_lo _ hj (by omega)]
        by_cases htp : t + 1 = j
        · rw [if_pos ((hp t (by omega)).2 htp), hnode, hpp]
          congr 1
          unfold nx
          by_cases hjl : j + 1 < (LS[k]).length
          · rw [dif_pos hjl, dif_pos (by omega), er_hi _ hj (by omega)]
            congr 2; omega
          · rw [dif_neg hjl, dif_neg (by omega)]
        · rw [if_neg (fun q => htp ((hp t (by omega)).1 q)), if_neg (fun q => by have := (hx t (by omega)).1 q; omega), hnode, hpp]
          congr 1
          unfold nx
          rw [dif_pos (by omega), dif_pos (by omega), er_lo _ hj (by omega)]
      · have e1 := er_hi (LS[k]) hj (by omega) ht
        simp only [e1] at ht3 ⊢
        have hm := hln (t + 1) (by omega)
        have hne : (LS[k])[t + 1] ≠ (LS[k])[j] := fun q => by have := inj hnd (by omega) hj q; omega
        have hnode := h.node k hk' (t + 1) (by omega) hm
        have hxx : nx ((LS[k]).eraseIdx j) t = nx LS[k] (t + 1) := by
          unfold nx
          by_cases hjl : t + 1 + 1 < (LS[k]).length
          · rw [dif_pos hjl, dif_pos (by omega), er_hi _ hj (by omega)]
          · rw [dif_neg hjl, dif_neg (by omega)]
        rw [h2 _ hm, if_neg hne, if_neg (fun q => by have := (hp (t + 1) (by omega)).1 q; omega)]
        by_cases htp : t = j
        · subst htp
          rw [if_pos ((hx (t + 1) (by omega)).2 rfl), hnode, hxx]
          congr 1
          rw [pr_lt hj, pr_lt ht]
          split
          · rfl
          · rw [er_lo _ hj (by omega)]
        · rw [if_neg (fun q => by have := (hx (t + 1) (by omega)).1 q; omega), hnode, hxx]
          congr 1
          rw [pr_lt ht, pr_lt (by omega), dif_neg (by omega), dif_neg (by omega), er_hi _ hj (by omega)]
          congr 2; omega
    · rw [if_neg e] at kk
      simp only [kk] at ht ht3 ⊢
      have hm : (LS[k])[t] < N.length := by omega
      have hni : (LS[k])[t] ∉ LS[i] := h.dj k i hk' hi e _ (List.getElem_mem _)
      rw [h2 _ hm, if_neg (fun q => hni (by rw [q]; exact List.getElem_mem _)), if_neg (fun q => hni (hpm _ q)), if_neg (fun q => hni (hnm _ q))]
      exact h.node k hk' t ht hm
  · have hm' : m < N.length := by omega
    have hmi := hm2 i (by simpa using hi)
    rw [key, if_pos rfl, er_mem hnd hj] at hmi
    rw [h2 m hm']
    by_cases e : m = (LS[i])[j]
    · rw [if_pos e]
    · have hni : m ∉ LS[i] := fun q => hmi ⟨q, e⟩
      rw [if_neg e, if_neg (fun q => hni (hpm _ q)), if_neg (fun q => hni (hnm _ q))]
      refine h.out m hm' fun k hk hc => ?_
      have := hm2 k (by simpa using hk)
      rw [key] at this
      split at this
      · rename_i e2; subst e2; exact hni hc
      · exact this hc
end Chn
end Go.Proofs.YtlcdaalalihaiaaGreat

/- Walking by laws alone: a state is a list of the slots that are known and a list of the pieces of memory; each operation and each form of code has one law over such states. -/
namespace Go.Proofs.YtlcdaalalihaiaaGreat
open Go Go.RowKit
set_option linter.unusedVariables false
set_option linter.unusedSectionVars false
set_option linter.unusedSimpArgs false

abbrev Env := List (Nat × Value)
def look : Env → Nat → Option Value
  | [], _ => none
  | (k, v) :: e, n => bif Nat.beq n k then some v else look e n
structure Fits (n : Nat) (a : Act) (env : Env) : Prop where
  size : a.tmps.size = n
  defs : a.defers = []
  at_ : ∀ k v, look env k = some v → a.tmps[k]? = some v
def opnd (env : Env) : Operand → Option Value
  | .tmp t => look env t
  | .const v => some v
  | .global g => some (.pointer (some ⟨g, 0, none⟩))
  | .func f => some (.func (.func f) #[] #[])
theorem Fits.eval {n : Nat} {a : Act} {env : Env} (h : Fits n a env) {x : Operand} {v : Value} (hx : opnd env x = some v) : a.eval x = v := by
  cases x with
  | tmp t => have := h.at_ t v hx; simp [Act.eval, this]
  | const c => simp only [opnd, Option.some.injEq] at hx; exact hx
  | global g => simp only [opnd, Option.some.injEq] at hx; exact hx
  | func f => simp only [opnd, Option.some.injEq] at hx; exact hx
theorem look_cons (k : Nat) (v : Value) (env : Env) (j : Nat) : look ((k, v) :: env) j = if j = k then some v else look env j := by
  show (bif Nat.beq j k then some v else look env j) = _
  by_cases h : j = k
  · subst h; simp
  · have : Nat.beq j k = false := Bool.eq_false_iff.2 fun e => h (Nat.eq_of_beq_eq_true e)
    rw [this, if_neg h]; rfl
theorem Fits.put {n : Nat} {a : Act} {env : Env} (h : Fits n a env) {d : Nat} (hd : Nat.blt d n = true) (v : Value) : Fits n (a.put (some d) v) ((d, v) :: env) := by
  have hd' : d < n := by simpa [Nat.blt_eq] using hd
  refine ⟨by simp [Act.put, h.size], by simp [Act.put, h.defs], fun k u hk => ?_⟩
  rw [look_cons] at hk
  simp only [Act.put, Array.getElem?_setIfInBounds]
  split at hk
  · rename_i e; subst e; cases hk; simp [h.size, hd']
  · rename_i e; rw [if_neg (fun e' => e e'.symm)]; exact h.at_ k u hk
theorem Fits.put0 {n : Nat} {a : Act} {env : Env} (h : Fits n a env) (v : Value) : Fits n (a.put none v) env := h
/-- One list of slots says no more than another one. -/
def Sub : Env → Env → Prop
  | [], _ => True
  | (k, v) :: e, env => look env k = some v ∧ Sub e env
theorem Sub.look {env : Env} : ∀ {e : Env}, Sub e env → ∀ {k v}, Go.Proofs.YtlcdaalalihaiaaGreat.look e k = some v → Go.Proofs.YtlcdaalalihaiaaGreat.look env k = some v
  | [], _, k, v, h => by cases h
  | (j, u) :: e, ⟨h1, h2⟩, k, v, h => by
    rw [look_cons] at h
    split at h
    · rename_i e'; subst e'; cases h; exact h1
    · exact h2.look h
theorem Fits.sub {n : Nat} {a : Act} {env e : Env} (h : Fits n a env) (hs : Sub e env) : Fits n a e := ⟨h.size, h.defs, fun k v hk => h.at_ k v (hs.look hk)⟩

/-- A call and what comes of it, behind a seal: contracts of two functions are told apart at once. -/
structure Ct (P : Program) (f : FuncId) (args : Array Value) (w : World) (R : Ending → World → Prop) : Prop where
  out : Calls P f args w R
theorem Ct.mono {P : Program} {f : FuncId} {args : Array Value} {w : World} {R R' : Ending → World → Prop} (h : Ct P f args w R) (hr : ∀ e w', R e w' → R' e w') : Ct P f args w R' := ⟨h.out.mono hr⟩

/-! ### Goals -/
section
variable (P : Program) (n : Nat)
structure G (c : Code) (Q : Exit → Act → World → Prop) (env : Env) (F : List HProp) : Prop where
  out : ∀ a w, Fits n a env → holds w F → c.wp P Q a w
structure GE (e : Exit) (Q : Exit → Act → World → Prop) (env : Env) (F : List HProp) : Prop where
  out : ∀ a w, Fits n a env → holds w F → Q e a w
structure GL (ops : Array Oper) (Q : Exit → Act → World → Prop) (rest : List Oper) (env : Env) (F : List HProp) : Prop where
  out : ∀ a w, Fits n a env → holds w F → wpList P ops Q rest a w
/-- An operation gives a value, and leaves the world as it is. -/
structure Runs (env : Env) (F : List HProp) (o : Op) (v : Value) : Prop where
  out : ∀ a w ty pos aft g d, Fits n a env → holds w F → (execOp a.eval ⟨d, o, ty, pos, aft, g⟩).run P w = .ok (.value v) w
end

section
variable {P : Program} {n : Nat} {Q : Exit → Act → World → Prop} {env : Env} {F : List HProp} {ops : Array Oper}
instance {c : Code} : CoeFun (G P n c Q env F) fun _ => ∀ a w, Fits n a env → holds w F → c.wp P Q a w := ⟨G.out⟩
instance {e : Exit} : CoeFun (GE n e Q env F) fun _ => ∀ a w, Fits n a env → holds w F → Q e a w := ⟨GE.out⟩
instance {rest : List Oper} : CoeFun (GL P n ops Q rest env F) fun _ => ∀ a w, Fits n a env → holds w F → wpList P ops Q rest a w := ⟨GL.out⟩
instance {o : Op} {v : Value} : CoeFun (Runs P n env F o v) fun _ => ∀ a w ty pos aft g d, Fits n a env → holds w F → (execOp a.eval ⟨d, o, ty, pos, aft, g⟩).run P w = .ok (.value v) w := ⟨Runs.out⟩

/-! ### Code -/
theorem G.skip (h : GE n .normal Q env F) : G P n .skip Q env F := .mk fun a w hf hw => wp_skip (h a w hf hw)
theorem G.ret (h : GE n .ret Q env F) : G P n .ret Q env F := .mk fun a w hf hw => wp_ret (h a w hf hw)
theorem G.exit {id : Nat} (h : GE n (.exit id) Q env F) : G P n (.exit id) Q env F := .mk fun a w hf hw => wp_exit (h a w hf hw)
theorem G.seq {x y : Code} (h : G P n x (Exit.then (fun a w => y.wp P Q a w) Q) env F) : G P n (.seq x y) Q env F := .mk fun a w hf hw => wp_seq (h a w hf hw)
theorem G.block {id : Nat} {c : Code} (h : G P n c (Exit.inBlock id Q) env F) : G P n (.block id c) Q env F := .mk fun a w hf hw => wp_block (h a w hf hw)
theorem G.cond {c : Operand} {x y : Code} {b : Bool} (hc : opnd env c = some (.bool b)) (ht : b = true → G P n x Q env F) (hf : b = false → G P n y Q env F) : G P n (.cond c x y) Q env F :=
  .mk fun a w h hw => wp_cond_split (h.eval hc) (fun e => ht e a w h hw) (fun e => hf e a w h hw)
theorem G.condT {c : Operand} {x y : Code} (hc : opnd env c = some (.bool true)) (ht : G P n x Q env F) : G P n (.cond c x y) Q env F :=
  G.cond hc (fun _ => ht) (fun e => by cases e)
theorem G.condF {c : Operand} {x y : Code} (hc : opnd env c = some (.bool false)) (hf : G P n y Q env F) : G P n (.cond c x y) Q env F :=
  G.cond hc (fun e => by cases e) (fun _ => hf)
theorem G.region {id : Nat} {l : List Oper} (h : GL P n l.toArray Q l env F) : G P n (.region id l.toArray false) Q env F := .mk fun a w hf hw => wp_region_lit (h a w hf hw)
theorem G.sub {c : Code} {e : Env} (h : G P n c Q e F) (hs : Sub e env) : G P n c Q env F := .mk fun a w hf hw => h a w (hf.sub hs) hw
theorem G.pure {c : Code} (h : ∀ (w : World), holds w F → G P n c Q env F) : G P n c Q env F := .mk fun a w hf hw => h w hw a w hf hw
theorem G.imp {c : Code} {F' : List HProp} (h : G P n c Q env F') (hi : ∀ w, holds w F → holds w F') : G P n c Q env F := .mk fun a w hf hw => h a w hf (hi w hw)
theorem G.case {c : Code} {α : Sort _} {F' : α → List HProp} (h : ∀ x, G P n c Q env (F' x)) (hi : ∀ w, holds w F → ∃ x, holds w (F' x)) : G P n c Q env F := .mk fun a w hf hw => let ⟨x, hx⟩ := hi w hw; h x a w hf hx

/-! ### Ends -/
theorem GE.thenG {y : Code} (h : G P n y Q env F) : GE n .normal (Exit.then (fun a w => y.wp P Q a w) Q) env F := .mk h.out
theorem GE.thenE {id : Nat} {x : Act → World → Prop} (h : GE n (.exit id) Q env F) : GE n (.exit id) (Exit.then x Q) env F := .mk h.out
theorem GE.thenR {x : Act → World → Prop} (h : GE n .ret Q env F) : GE n .ret (Exit.then x Q) env F := .mk h.out
theorem GE.blockN {id : Nat} (h : GE n .normal Q env F) : GE n .normal (Exit.inBlock id Q) env F := .mk h.out
theorem GE.blockR {id : Nat} (h : GE n .ret Q env F) : GE n .ret (Exit.inBlock id Q) env F := .mk h.out
theorem GE.blockE {id : Nat} (h : GE n .normal Q env F) : GE n (.exit id) (Exit.inBlock id Q) env F := .mk fun a w hf hw => by
  show (if id = id then Q .normal a w else _); rw [if_pos rfl]; exact h a w hf hw
theorem GE.blockO {id id' : Nat} (hne : Nat.beq id' id = false) (h : GE n (.exit id') Q env F) : GE n (.exit id') (Exit.inBlock id Q) env F := .mk fun a w hf hw => by
  have : id' ≠ id := fun e => by subst e; simp at hne
  show (if id' = id then Q .normal a w else Q (.exit id') a w); rw [if_neg this]; exact h a w hf hw
theorem GE.imp {e : Exit} {F' : List HProp} (h : GE n e Q env F') (hi : ∀ w, holds w F → holds w F') : GE n e Q env F := .mk fun a w hf hw => h a w hf (hi w hw)
/-! ### A call begins -/
def env0 : Nat → List Value → Env
  | _, [] => []
  | k, v :: l => (k, v) :: env0 (k + 1) l
theorem look_env0 : ∀ (l : List Value) (k j : Nat) (v : Value), look (env0 k l) j = some v → k ≤ j ∧ l[j - k]? = some v
  | [], _, _, _, h => by cases h
  | u :: l, k, j, v, h => by
    unfold env0 at h
    rw [look_cons] at h
    split at h
    · rename_i e; subst e; simpa using h
    · obtain ⟨h1, h2⟩ := look_env0 l (k + 1) j v h
      refine ⟨by omega, ?_⟩
      rw [show j - k = (j - (k + 1)) + 1 by omega, List.getElem?_cons_succ]; exact h2
theorem Calls.go {f : FuncId} {fn : Func} {c : Code} {args : List Value} {w : World} {R : Ending → World → Prop} (hf : P.funcs[f]? = some fn) (hb : fn.body = some c) (hn : fn.ntmps = n) (hargs : Nat.ble args.length n = true) (hw : holds w F)
    (h : G P n c (bodyPost P fn R) (env0 0 args) F) : Calls P f args.toArray w R := by
  have hle : args.length ≤ n := by simpa using hargs
  refine calls_of_wp hf hb (h _ w ⟨?_, rfl, fun k v hk => ?_⟩ hw)
  · simp [hn]; omega
  · obtain ⟨_, h2⟩ := look_env0 args 0 k v hk
    rw [Nat.sub_zero] at h2
    have hlt : k < args.length := (List.getElem?_eq_some_iff.1 h2).1
    have h3 : args[k] = v := by have := List.getElem?_eq_getElem hlt; rw [h2] at this; exact (Option.some.inj this).symm
    simp [Array.getElem?_append, hlt, h3]

theorem Ct.go {f : FuncId} {fn : Func} {c : Code} {args : List Value} {w : World} {R : Ending → World → Prop} (hf : P.funcs[f]? = some fn) (hb : fn.body = some c) (hn : fn.ntmps = n) (hargs : Nat.ble args.length n = true) (hw : holds w F)
    (h : G P n c (bodyPost P fn R) (env0 0 args) F) : Ct P f args.toArray w R := ⟨Calls.go hf hb hn hargs hw h⟩

/-! ### Loops -/
/-- A loop: 'I' is what holds of the state at a round's head. -/
theorem G.loop {c : Code} {α : Type} (E : α → Env) (K : α → List HProp) (I : α → Prop) (μ : α → Nat) (x0 : α) (hI : I x0) (hE : Sub (E x0) env) (hK : ∀ w, holds w F → holds w (K x0))
    (round : ∀ x, I x → G P n c (Exit.then (fun a w => ∃ y, I y ∧ Fits n a (E y) ∧ holds w (K y) ∧ μ y < μ x) Q) (E x) (K x)) : G P n (.loop c) Q env F := .mk fun a w hf hw => by
  let R : Act → World → α → Prop := fun a w x => I x ∧ Fits n a (E x) ∧ holds w (K x)
  have hmin : ∀ N a w, (∃ x, R a w x ∧ μ x ≤ N) → ∃ m, (∃ x, R a w x ∧ μ x = m) ∧ ∀ x, R a w x → m ≤ μ x := by
    intro N a w
    induction N with
    | zero => rintro ⟨x, hx, h0⟩; exact ⟨0, ⟨x, hx, by omega⟩, fun _ _ => Nat.zero_le _⟩
    | succ N ih =>
      rintro ⟨x, hx, h0⟩
      by_cases h : ∃ x, R a w x ∧ μ x ≤ N
      · exact ih h
      · have hall : ∀ y, R a w y → N + 1 ≤ μ y := fun y hy => Nat.lt_of_not_le fun hle => h ⟨y, hy, hle⟩
        exact ⟨N + 1, ⟨x, hx, Nat.le_antisymm h0 (hall x hx)⟩, hall⟩
  have hmu : ∃ mu : Act → World → Nat, ∀ a w x, R a w x → (∃ y, R a w y ∧ μ y = mu a w) ∧ mu a w ≤ μ x := by
    refine ⟨fun a w => @dite Nat (∃ x, R a w x) (Classical.propDecidable _) (fun h => Classical.choose (hmin _ a w ⟨_, Classical.choose_spec h, Nat.le_refl _⟩)) (fun _ => 0), fun a w x hx => ?_⟩
    have h : ∃ x, R a w x := ⟨x, hx⟩
    have hs := Classical.choose_spec (hmin _ a w ⟨_, Classical.choose_spec h, Nat.le_refl _⟩)
    simp only [dif_pos h]
    exact ⟨hs.1, hs.2 x hx⟩
  obtain ⟨mu, hmu⟩ := hmu
  refine wp_loop (fun a w => ∃ x, R a w x) mu ⟨x0, hI, hf.sub hE, hK w hw⟩ fun a w hx => ?_
  obtain ⟨x, hx⟩ := hx
  obtain ⟨⟨y, hy, hye⟩, _⟩ := hmu a w x hx
  refine Code.wp_mono (fun e a' w' q => ?_) (round y hy.1 a w hy.2.1 hy.2.2)
  cases e with
  | normal =>
    obtain ⟨z, h1, h2, h3, h4⟩ := q
    obtain ⟨_, hle⟩ := hmu a' w' z ⟨h1, h2, h3⟩
    exact ⟨⟨z, h1, h2, h3⟩, by rw [← hye]; omega⟩
  | _ => exact q
theorem GE.round {α : Type} {E : α → Env} {K : α → List HProp} {I : α → Prop} {μ : α → Nat} {m : Nat} (y : α) (hI : I y) (hE : Sub (E y) env) (hK : ∀ w, holds w F → holds w (K y)) (hm : μ y < m) :
    GE n .normal (Exit.then (fun a w => ∃ y, I y ∧ Fits n a (E y) ∧ holds w (K y) ∧ μ y < m) Q) env F := .mk fun a w hf hw => ⟨y, hI, hf.sub hE, hK w hw, hm⟩

/-! ### Operations -/
variable {rest : List Oper} {d : Tmp} {ty : TypeId} {pos : String} {aft : Array Edge}
theorem GL.nil (h : GE n .normal Q env F) : GL P n ops Q [] env F := .mk fun a w hf hw => wpList_nil (h a w hf hw)
theorem GL.imp {F' : List HProp} (h : GL P n ops Q rest env F') (hi : ∀ w, holds w F → holds w F') : GL P n ops Q rest env F := .mk fun a w hf hw => h a w hf (hi w hw)
theorem GL.case {α : Sort _} {F' : α → List HProp} (h : ∀ x, GL P n ops Q rest env (F' x)) (hi : ∀ w, holds w F → ∃ x, holds w (F' x)) : GL P n ops Q rest env F := .mk fun a w hf hw => let ⟨x, hx⟩ := hi w hw; h x a w hf hx
theorem GL.pure (h : ∀ (w : World), holds w F → GL P n ops Q rest env F) : GL P n ops Q rest env F := .mk fun a w hf hw => h w hw a w hf hw
theorem GL.run {op : Op} {v : Value} (hr : Runs P n env F op v) (hd : Nat.blt d n = true) (h : GL P n ops Q rest ((d, v) :: env) F) : GL P n ops Q (⟨some d, op, ty, pos, aft, none⟩ :: rest) env F := .mk fun a w hf hw => by
  refine wpList_plain rfl fun K hK => ?_
  unfold Oper.wp
  rw [hr a w _ _ _ _ _ hf hw]
  exact hK _ _ (h _ _ (hf.put hd v) hw)
/-- An operation under a guard: what the guard looks at is decided. -/
theorem GL.guard {op : Op} {dst : Option Tmp} {j : Nat} {want b : Bool} {dj : Tmp} (hj : (ops[j]?).bind (·.dst) = some dj) (hb : look env dj = some (.bool b))
    (hy : b = want → GL P n ops Q (⟨dst, op, ty, pos, aft, none⟩ :: rest) ((dj, .bool want) :: env) F) (hn : b = !want → GL P n ops Q (⟨dst, op, ty, pos, aft, some (j, want)⟩ :: rest) ((dj, .bool !want) :: env) F) :
    GL P n ops Q (⟨dst, op, ty, pos, aft, some (j, want)⟩ :: rest) env F := .mk fun a w hf hw => by
  have hs : ∀ c, b = c → Fits n a ((dj, .bool c) :: env) := fun c hc => ⟨hf.size, hf.defs, fun k v hk => by
    rw [look_cons] at hk
    split at hk
    · rename_i e; subst e; cases hk; subst hc; exact hf.at_ _ _ hb
    · exact hf.at_ _ _ hk⟩
  by_cases h : b = want
  · have h1 := hy h a w (hs _ h) hw
    have hyl : yielded ops a.tmps j = some b := by
      have := hf.at_ _ _ hb
      unfold yielded; rw [hj, Option.bind_some, this]
    unfold wpList at h1 ⊢
    simp only [Region.wanted, hyl, h, beq_self_eq_true, if_true] at h1 ⊢
    exact h1
  · have hb' : b = !want := by revert h; cases b <;> cases want <;> simp
    exact hn hb' a w (hs _ hb') hw
/-- .. that is decided: yes. -/
theorem GL.guardY {op : Op} {dst : Option Tmp} {j : Nat} {want : Bool} {dj : Tmp} (hj : (ops[j]?).bind (·.dst) = some dj) (hb : look env dj = some (.bool want)) (h : GL P n ops Q (⟨dst, op, ty, pos, aft, none⟩ :: rest) env F) :
    GL P n ops Q (⟨dst, op, ty, pos, aft, some (j, want)⟩ :: rest) env F := .mk fun a w hf hw => by
  have h1 := h a w hf hw
  have hyl : yielded ops a.tmps j = some want := by
    have := hf.at_ _ _ hb
    unfold yielded; rw [hj, Option.bind_some, this]
  unfold wpList at h1 ⊢
  simp only [Region.wanted, hyl, beq_self_eq_true, if_true] at h1 ⊢
  exact h1
/-- .. no. -/
theorem GL.guardN {op : Op} {d : Tmp} {j : Nat} {want : Bool} {dj : Tmp} (hj : (ops[j]?).bind (·.dst) = some dj) (hb : look env dj = some (.bool !want)) (hd : Nat.blt d n = true) (h : GL P n ops Q rest ((d, undef) :: env) F) :
    GL P n ops Q (⟨some d, op, ty, pos, aft, some (j, want)⟩ :: rest) env F := .mk fun a w hf hw => by
  have hyl : yielded ops a.tmps j = some !want := by
    have := hf.at_ _ _ hb
    unfold yielded; rw [hj, Option.bind_some, this]
  unfold wpList
  have hw' : Region.wanted (⟨some d, op, ty, pos, aft, some (j, want)⟩ : Oper) (yielded ops a.tmps) = false := by
    simp only [Region.wanted, hyl]; cases want <;> rfl
  rw [hw']
  exact h _ _ (hf.put hd _) hw
theorem GL.guardU {op : Op} {d : Tmp} {j : Nat} {want : Bool} {dj : Tmp} (hj : (ops[j]?).bind (·.dst) = some dj) (hb : look env dj = some undef) (hd : Nat.blt d n = true) (h : GL P n ops Q rest ((d, undef) :: env) F) :
    GL P n ops Q (⟨some d, op, ty, pos, aft, some (j, want)⟩ :: rest) env F := .mk fun a w hf hw => by
  have hyl : yielded ops a.tmps j = none := by
    have := hf.at_ _ _ hb
    unfold yielded; rw [hj, Option.bind_some, this]; rfl
  unfold wpList
  have hw' : Region.wanted (⟨some d, op, ty, pos, aft, some (j, want)⟩ : Oper) (yielded ops a.tmps) = false := by
    simp only [Region.wanted, hyl]; cases want <;> rfl
  rw [hw']
  exact h _ _ (hf.put hd _) hw
theorem Runs.move {x : Operand} {v : Value} (hx : opnd env x = some v) : Runs P n env F (.move x) v := .mk fun a w ty pos aft g d hf hw => by simp [execOp, hf.eval hx]
theorem Runs.assign {x : Operand} {v : Value} (hx : opnd env x = some v) : Runs P n env F (.assign x) v := .mk fun a w ty pos aft g d hf hw => by simp [execOp, hf.eval hx]
theorem Runs.pick {c x y : Operand} {b : Bool} {u v : Value} (hc : opnd env c = some (.bool b)) (hx : opnd env x = some u) (hy : opnd env y = some v) : Runs P n env F (.pick c x y) (if b then u else v) := .mk fun a w ty pos aft g d hf hw => by
  simp [execOp, hf.eval hc, hf.eval hx, hf.eval hy, asBool]
theorem Runs.pickT {c x y : Operand} {u : Value} (hc : opnd env c = some (.bool true)) (hx : opnd env x = some u) : Runs P n env F (.pick c x y) u := .mk fun a w ty pos aft g d hf hw => by
  simp [execOp, hf.eval hc, hf.eval hx, asBool]
theorem Runs.pickF {c x y : Operand} {u : Value} (hc : opnd env c = some (.bool false)) (hy : opnd env y = some u) : Runs P n env F (.pick c x y) u := .mk fun a w ty pos aft g d hf hw => by
  simp [execOp, hf.eval hc, hf.eval hy, asBool]
theorem Runs.nilCheck {x : Operand} {p : Addr} (hx : opnd env x = some (.pointer (some p))) : Runs P n env F (.nilCheck x) (.pointer (some p)) := .mk fun a w ty pos aft g d hf hw => by simp [execOp, hf.eval hx]
theorem Runs.not {t : TypeId} {x : Operand} {b : Bool} (hx : opnd env x = some (.bool b)) : Runs P n env F (.unOp .not t x) (.bool !b) := .mk fun a w ty pos aft g d hf hw => by simp [execOp, hf.eval hx, Op.unary, Result.andThen]
theorem Runs.neg {t : TypeId} {x : Operand} {i : Int} (hx : opnd env x = some (.int .i64 i)) (h : -9223372036854775807 ≤ i ∧ i ≤ 9223372036854775807) : Runs P n env F (.unOp .neg t x) (.int .i64 (-i)) := .mk fun a w ty pos aft g d hf hw => by
  have := IntWalk.i64_in (0 - i) (by omega)
  simp [execOp, hf.eval hx, Op.unary, Op.intArith, Result.andThen]; simpa using this
theorem Runs.extract {x : Operand} {i : Nat} {l : List Value} {v : Value} (hx : opnd env x = some (.tuple l.toArray)) (hv : l[i]? = some v) : Runs P n env F (.extract x i) v := .mk fun a w ty pos aft g d hf hw => by
  simp [execOp, hf.eval hx, Instr.extract, hv, Result.andThen]

section ints
variable {xT yT : TypeId} {x y : Operand} {i j : Int} {k : IntKind}
theorem Runs.add (hx : opnd env x = some (.int .i64 i)) (hy : opnd env y = some (.int .i64 j)) (h : -9223372036854775808 ≤ i + j ∧ i + j ≤ 9223372036854775807) : Runs P n env F (.binOp .add xT x y yT) (.int .i64 (i + j)) := .mk fun a w ty pos aft g d hf hw => by
  simp [execOp, hf.eval hx, hf.eval hy, eqGuard, binOp, Op.intArith, Result.andThen]; exact IntWalk.i64_in _ (by omega)
theorem Runs.sub (hx : opnd env x = some (.int .i64 i)) (hy : opnd env y = some (.int .i64 j)) (h : -9223372036854775808 ≤ i - j ∧ i - j ≤ 9223372036854775807) : Runs P n env F (.binOp .sub xT x y yT) (.int .i64 (i - j)) := .mk fun a w ty pos aft g d hf hw => by
  simp [execOp, hf.eval hx, hf.eval hy, eqGuard, binOp, Op.intArith, Result.andThen]; exact IntWalk.i64_in _ (by omega)
theorem Runs.mul (hx : opnd env x = some (.int .i64 i)) (hy : opnd env y = some (.int .i64 j)) (h : -9223372036854775808 ≤ i * j ∧ i * j ≤ 9223372036854775807) : Runs P n env F (.binOp .mul xT x y yT) (.int .i64 (i * j)) := .mk fun a w ty pos aft g d hf hw => by
  simp [execOp, hf.eval hx, hf.eval hy, eqGuard, binOp, Op.intArith, Result.andThen]; exact IntWalk.i64_in _ (by omega)
theorem Runs.eql (hx : opnd env x = some (.int k i)) (hy : opnd env y = some (.int k j)) : Runs P n env F (.binOp .eql xT x y yT) (.bool (decide (i = j))) := .mk fun a w ty pos aft g d hf hw => by
  simp [execOp, hf.eval hx, hf.eval hy, eqGuard, binOp, Op.intCmp, Result.andThen]; rfl
theorem Runs.neq (hx : opnd env x = some (.int k i)) (hy : opnd env y = some (.int k j)) : Runs P n env F (.binOp .neq xT x y yT) (.bool (decide (i ≠ j))) := .mk fun a w ty pos aft g d hf hw => by
  simp [execOp, hf.eval hx, hf.eval hy, eqGuard, binOp, Op.intCmp, Result.andThen]
  by_cases h : i = j <;> simp [h]
theorem Runs.lss (hx : opnd env x = some (.int k i)) (hy : opnd env y = some (.int k j)) : Runs P n env F (.binOp .lss xT x y yT) (.bool (decide (i < j))) := .mk fun a w ty pos aft g d hf hw => by
  simp [execOp, hf.eval hx, hf.eval hy, eqGuard, binOp, Op.intCmp, Result.andThen]
theorem Runs.leq (hx : opnd env x = some (.int k i)) (hy : opnd env y = some (.int k j)) : Runs P n env F (.binOp .leq xT x y yT) (.bool (decide (i ≤ j))) := .mk fun a w ty pos aft g d hf hw => by
  simp [execOp, hf.eval hx, hf.eval hy, eqGuard, binOp, Op.intCmp, Result.andThen]
theorem Runs.gtr (hx : opnd env x = some (.int k i)) (hy : opnd env y = some (.int k j)) : Runs P n env F (.binOp .gtr xT x y yT) (.bool (decide (j < i))) := .mk fun a w ty pos aft g d hf hw => by
  simp [execOp, hf.eval hx, hf.eval hy, eqGuard, binOp, Op.intCmp, Result.andThen]
theorem Runs.geq (hx : opnd env x = some (.int k i)) (hy : opnd env y = some (.int k j)) : Runs P n env F (.binOp .geq xT x y yT) (.bool (decide (j ≤ i))) := .mk fun a w ty pos aft g d hf hw => by
  simp [execOp, hf.eval hx, hf.eval hy, eqGuard, binOp, Op.intCmp, Result.andThen]
theorem Runs.quo (hx : opnd env x = some (.int .i64 i)) (hy : opnd env y = some (.int .i64 j)) (h : 0 ≤ i ∧ i ≤ 9223372036854775807 ∧ 1 ≤ j) : Runs P n env F (.binOp .quo xT x y yT) (.int .i64 (i / j)) := .mk fun a w ty pos aft g d hf hw => by
  have h0 : j ≠ 0 := by omega
  have h1 : i / j ≤ i := Int.ediv_le_self _ h.1
  have h2 : 0 ≤ i / j := Int.ediv_nonneg h.1 (by omega)
  simp [execOp, hf.eval hx, hf.eval hy, eqGuard, binOp, Op.intDiv, Result.andThen, h0]
  rw [Int.tdiv_eq_ediv_of_nonneg h.1]
  exact IntWalk.i64_in _ (by omega)
theorem Runs.rem (hx : opnd env x = some (.int .i64 i)) (hy : opnd env y = some (.int .i64 j)) (h : 0 ≤ i ∧ 1 ≤ j) : Runs P n env F (.binOp .rem xT x y yT) (.int .i64 (i % j)) := .mk fun a w ty pos aft g d hf hw => by
  have h0 : j ≠ 0 := by omega
  simp [execOp, hf.eval hx, hf.eval hy, eqGuard, binOp, Op.intDiv, Result.andThen, h0]
  exact Int.tmod_eq_emod_of_nonneg h.1
end ints

/-! ### Calls -/
def opnds (env : Env) : List Operand → Option (List Value)
  | [] => some []
  | x :: l => match opnd env x, opnds env l with
    | some v, some vs => some (v :: vs)
    | _, _ => none
theorem Fits.evals {a : Act} (h : Fits n a env) : ∀ {l : List Operand} {vs : List Value}, opnds env l = some vs → l.map a.eval = vs
  | [], vs, hv => by simp [opnds] at hv; simp [hv]
  | x :: l, vs, hv => by
    unfold opnds at hv
    split at hv
    · rename_i v us h1 h2; cases hv; simp [h.eval h1, h.evals h2]
    · cases hv
/-- The function is one of the program's own. -/
class Own (P : Program) (f : FuncId) : Prop where
  run : ∀ args w, (callFunc f args).run P w = .ok (.enter f args) w
theorem GL.call {f : FuncId} {xs : List Operand} {ts : Array TypeId} {vs : List Value} {α : Sort _} {v : α → Value} {F' : α → List HProp} [ho : Own P f] (hx : opnds env xs = some vs) (hd : Nat.blt d n = true)
    (hc : ∀ w, holds w F → Ct P f vs.toArray w fun e w' => ∃ x, e = .returned (v x) ∧ holds w' (F' x)) (h : ∀ x, GL P n ops Q rest ((d, v x) :: env) (F' x)) :
    GL P n ops Q (⟨some d, .call { callee := .value (.func f), args := xs.toArray, argTypes := ts }, ty, pos, aft, none⟩ :: rest) env F := .mk fun a w hf hw => by
  refine wpList_plain rfl fun K hK => ?_
  have hr : (execOp a.eval ⟨some d, .call { callee := .value (.func f), args := xs.toArray, argTypes := ts }, ty, pos, aft, none⟩).run P w = .ok (.enter f vs.toArray) w := by
    simp [execOp, resolve, Act.eval, Deferred.ofValue, invoke, hf.evals hx, Result.andThen]
    exact ho.run _ _
  unfold Oper.wp
  rw [hr]
  refine (hc w hw).out.mono fun e w' ⟨x, he, hh⟩ => ?_
  subst he
  exact hK _ _ (h x _ _ (hf.put hd _) hh)
end
end Go.Proofs.YtlcdaalalihaiaaGreat
