import Derived.Test.YtipkgamiejenaaaGreatMg18
import Derived.Test.YtipkgamiejenaaaGreatMg14
import Derived.Test.YtipkgamiejenaaaGreatMg7
import Derived.Test.YtipkgamiejenaaaGreatMg16
import Derived.Test.YtipkgamiejenaaaGreatMg15
import Derived.Test.YtipkgamiejenaaaGreatMg6

import Derived.Test.YtipkgamiejenaaaGreatMg10
import Derived.Test.YtipkgamiejenaaaGreatMg13
/- The law ReclaimWhen of chapter 25: what is plain. -/
namespace Go.Proofs.YtipkgamiejenaaaGreat
open Go Go.RowKit Go.MapKept
set_option linter.unusedVariables false
set_option linter.unusedSimpArgs false
namespace Rc
theorem c_set (t : St.S) (k j : Nat) (hk : k < t.ch.length) (v : ChunkM) (l : List ChunkM) (h : l = t.ch.set k v) : ({ t with ch := l } : St.S).c j = if j = k then v else t.c j := by
  unfold St.S.c
  dsimp only
  rw [h, Int.toNat_natCast, St.getD_set _ _ _ _ _ hk]
theorem wipe_c {t : St.S} {K : Nat} (hI : St.Inv t K) {k : Nat} (hk : k < t.ch.length) (hp : (t.c k).phase = 2) (j : Nat) : (wipe t k).c j = if j = k then ⟨0, 0, (t.c k).gen + 1⟩ else t.c j := by
  unfold St.S.c
  rw [wipe_ch hI hk hp, Int.toNat_natCast, St.getD_set _ _ _ _ _ hk, Int.toNat_natCast]
  rfl
theorem drain_c : ∀ (k : Nat) (t : St.S) (l : List Int) (K : Nat), St.Inv t K → Wt t l → ∀ x : Nat, (drain k t l).1.c x = if (x : Int) ∈ l.take k then ⟨0, 0, (t.c x).gen + 1⟩ else t.c x
  | 0, t, l, K, hI, h, x => by simp [drain]
  | k + 1, t, [], K, hI, h, x => by simp [drain]
  | k + 1, t, i :: l, K, hI, h, x => by
    have ih := drain_c k (wipe t i) l (K + 2) (wipe_inv hI i) (h.tail hI) x
    obtain ⟨j, rfl, hj, hp⟩ := h.ph i List.mem_cons_self
    have hn := List.nodup_cons.1 h.nd
    rw [wipe_c hI hj hp] at ih
    simp only [drain, List.take_succ_cons, List.mem_cons]
    rw [ih]
    by_cases hx : x = j
    · subst hx
      rw [if_pos rfl, if_neg (fun hm => hn.1 (List.mem_of_mem_take hm)), if_pos (.inl rfl)]
    · rw [if_neg hx]
      by_cases hm : (x : Int) ∈ l.take k
      · rw [if_pos hm, if_pos (.inr hm)]
      · rw [if_neg hm, if_neg (by rintro (e | e); exact hx (by omega); exact hm e)]
end Rc
namespace Rw
def dn (a k : Nat) : List Int := (List.range k).map fun j => ((a - j : Nat) : Int)
theorem dn_len (a k : Nat) : (dn a k).length = k := by simp [dn]
theorem dn_succ (a k : Nat) : dn a (k + 1) = dn a k ++ [((a - k : Nat) : Int)] := by simp [dn, List.range_succ]
theorem dn_at (a k i : Nat) (h : i < k) : (dn a k)[i]'(by rw [dn_len]; exact h) = ((a - i : Nat) : Int) := by simp [dn]
theorem dn_drop (a k q : Nat) : (dn a k).drop q = dn (a - q) (k - q) := by
  apply List.ext_getElem
  · simp [dn]
  · intro i h1 h2
    simp [dn]
    omega
structure Tk (t : St.S) (n i : Nat) : Prop where
  len : t.ch.length = n
  size : t.size = 64
  stk : t.stack = dn (n - 1) (n - i)
  own : ∀ j, j < i → t.c j = ⟨1, 1, 0⟩
  ge : ∀ j, j < n → (t.c j).gen = 0
theorem Tk.new (n : Nat) : Tk (St.new n 64) n 0 := by
  refine ⟨by simp [St.new], rfl, ?_, fun j h => absurd h (Nat.not_lt_zero j), fun j h => ?_⟩
  · apply List.ext_getElem
    · simp [St.new, dn]
    · intro i h1 h2
      simp [St.new, dn] at h1 ⊢
  · have : (St.new n 64).c j = St.ch0 := by
      unfold St.S.c St.new
      dsimp only
      rw [Int.toNat_natCast, List.getD_eq_getElem?_getD, List.getElem?_replicate, if_pos h]; rfl
    rw [this]; rfl
theorem Tk.take {t : St.S} {n i : Nat} (h : Tk t n i) (hi : i < n) : (St.take t 1).2 = ((i : Int), 0) ∧ Tk (St.take t 1).1 n (i + 1) := by
  obtain ⟨k, hk⟩ : ∃ k, n - i = k + 1 := ⟨n - i - 1, by omega⟩
  have hs := h.stk
  rw [hk, dn_succ] at hs
  have e1 : n - 1 - k = i := by omega
  rw [e1] at hs
  have hl : t.stack.getLast? = some (i : Int) := by rw [hs]; simp
  have hd : t.stack.dropLast = dn (n - 1) k := by rw [hs, List.dropLast_concat]
  have hlen := h.len
  unfold St.take
  rw [if_neg (by omega), hl]
  dsimp only
  refine ⟨rfl, by simpa using hlen, h.size, ?_, fun j hj => ?_, fun j hj => ?_⟩
  · dsimp only; rw [hd, show n - (i + 1) = k by omega]
  · have := Rc.c_set { t with stack := t.stack.dropLast, ev := St.up t.ev 0 } i j (by dsimp only; omega) ⟨1, 1, (t.c i).gen⟩ _ rfl
    rw [Int.toNat_natCast]
    rw [this]
    split
    · rw [h.ge i hi]
    · exact h.own j (by omega)
  · have := Rc.c_set { t with stack := t.stack.dropLast, ev := St.up t.ev 0 } i j (by dsimp only; omega) ⟨1, 1, (t.c i).gen⟩ _ rfl
    rw [Int.toNat_natCast]
    rw [this]
    split
    · exact h.ge i hi
    · exact h.ge j hj
theorem Tk.put {t : St.S} {n i K : Nat} (hI : St.Inv t K) (h : Tk t n (i + 1)) (hi : i < n) (s : List UInt8) (hs : s.length = 4) : (St.put t i 0 5 s).2 = 0 ∧ Tk (St.put t i 0 5 s).1 n (i + 1) := by
  have hlen := h.len
  have hc := h.own i (by omega)
  have hx : (t.x i).length = 64 := by rw [(hI.cell i (by omega)).len, h.size]
  unfold St.put
  rw [if_neg (by unfold St.S.out; omega), if_neg (by unfold St.stale; rw [hc]; simp), if_neg (by unfold St.off; rw [hs, hx]; omega)]
  exact ⟨rfl, h.len, h.size, h.stk, h.own, h.ge⟩
structure Pt (m : Rc.S) (n i : Nat) : Prop where
  line : m.line = dn (n - 1) i
  len : m.t.ch.length = n
  own : ∀ j, j < n - i → m.t.c j = ⟨1, 1, 0⟩
  ge : ∀ j, j < n → (m.t.c j).gen = 0
theorem give_yes {t : St.S} {k : Nat} (hk : k < t.ch.length) (h : t.c k = ⟨1, 1, 0⟩) : St.give t k 1 = ({ t with ch := t.ch.set k ⟨2, 0, 0⟩, ev := St.up t.ev 1 }, 0) := by
  unfold St.give
  rw [if_neg (by unfold St.S.out; omega), if_neg (by rw [h]; simp), h, Int.toNat_natCast]
theorem Pt.put {m : Rc.S} {n i : Nat} (h : Pt m n i) (hi : i < n) : (Rc.put m ((n - 1 - i : Nat) : Int) 1).2 = 0 ∧ Pt (Rc.put m ((n - 1 - i : Nat) : Int) 1).1 n (i + 1) := by
  have hlen := h.len
  have hg := give_yes (t := m.t) (k := n - 1 - i) (by omega) (h.own _ (by omega))
  have e2 : (St.give m.t ((n - 1 - i : Nat) : Int) 1).2 = 0 := by rw [hg]
  unfold Rc.put
  rw [if_pos e2, hg]
  refine ⟨rfl, ?_, by simpa using hlen, fun j hj => ?_, fun j hj => ?_⟩
  · dsimp only; rw [h.line, dn_succ]
  · have := Rc.c_set { m.t with ev := St.up m.t.ev 1 } (n - 1 - i) j (by dsimp only; omega) ⟨2, 0, 0⟩ _ rfl
    dsimp only at this ⊢
    rw [this, if_neg (by omega)]
    exact h.own j (by omega)
  · have := Rc.c_set { m.t with ev := St.up m.t.ev 1 } (n - 1 - i) j (by dsimp only; omega) ⟨2, 0, 0⟩ _ rfl
    dsimp only at this ⊢
    rw [this]
    split
    · rfl
    · exact h.ge j hj
structure Wn (m : Rc.S) (n d q s : Nat) : Prop where
  line : ∃ P : List Int, m.line = dn (n - 1 - q * s) (d + 1 - q * s) ++ P ∧ ∀ y ∈ P, 0 ≤ y ∧ y < ((n - 1 - d : Nat) : Int)
  len : m.t.ch.length = n
  gx : (m.t.c ((n - 1 - d : Nat) : Int)).gen = 0
  q : m.q = q
theorem Wn.start {m : Rc.S} {n d q : Nat} (h : Pt m n (d + 1)) (hd : d < n) (hq : m.q = q) : Wn m n d q 0 :=
  ⟨⟨[], by rw [h.line, Nat.mul_zero, List.append_nil]; rfl, by simp⟩, h.len, h.ge _ (by omega), hq⟩
theorem Wn.put {m : Rc.S} {n d q s : Nat} (h : Wn m n d q s) (i : Nat) (hi : i < n - 1 - d) : Wn (Rc.put m i 1).1 n d q s := by
  obtain ⟨P, hl, hP⟩ := h.line
  have hlen := h.len
  unfold Rc.put
  split
  · rename_i h0
    obtain ⟨k, hk0, hk, hp, e⟩ := Rc.give_ok h0
    obtain rfl : i = k := by omega
    refine ⟨⟨P ++ [(i : Int)], by dsimp only; rw [hl, List.append_assoc], fun y hy => ?_⟩, ?_, ?_, h.q⟩
    · rcases List.mem_append.1 hy with hy | hy
      · exact hP y hy
      · simp at hy; omega
    · dsimp only; rw [e]; simpa using hlen
    · dsimp only
      rw [e]
      have := Rc.c_set { m.t with ev := St.up m.t.ev 1 } i (n - 1 - d) (by dsimp only; omega) ⟨2, 0, (m.t.c i).gen⟩ _ rfl
      dsimp only at this ⊢
      rw [this, if_neg (by omega)]
      exact h.gx
  · exact h
theorem Wn.mem {m : Rc.S} {n d q s : Nat} (h : Wn m n d q s) (hd : d < n) (hs : q * s ≤ d) : ((n - 1 - d : Nat) : Int) ∈ m.line := by
  obtain ⟨P, hl, hP⟩ := h.line
  rw [hl]
  refine List.mem_append_left _ ?_
  rw [show d + 1 - q * s = (d - q * s) + 1 by omega, dn_succ]
  refine List.mem_append_right _ ?_
  simp
  omega
theorem Wn.idx {m : Rc.S} {n d q s : Nat} (h : Wn m n d q s) (hs : q * s ≤ d) (hd : d < n) : placeOf m.line ((n - 1 - d : Nat) : Int) = ((d - q * s : Nat) : Int) := by
  obtain ⟨P, hl, hP⟩ := h.line
  have hat : ∀ j (hj : j < d + 1 - q * s), m.line[j]'(by rw [hl, List.length_append, dn_len]; omega) = ((n - 1 - q * s - j : Nat) : Int) := fun j hj => by
    have e2 : m.line[j]'(by rw [hl, List.length_append, dn_len]; omega) = (dn (n - 1 - q * s) (d + 1 - q * s) ++ P)[j]'(by rw [List.length_append, dn_len]; omega) := by congr 1
    rw [e2, List.getElem_append_left (by rw [dn_len]; exact hj), dn_at _ _ _ hj]
  refine placeOf_some (k := d - q * s) (by rw [hl, List.length_append, dn_len]; omega) ?_ (fun j hj => ?_)
  · rw [hat _ (by omega)]; omega
  · rw [hat _ (by omega)]; omega
theorem Wn.out {m : Rc.S} {n d q s : Nat} (h : Wn m n d q s) (i : Nat) (hi : i < (m.line.take q).length) (hx : i < d + 1 - q * s) : (m.line.take q)[i] = ((n - 1 - q * s - i : Nat) : Int) := by
  obtain ⟨P, hl, hP⟩ := h.line
  have e1 : (m.line.take q)[i] = m.line[i]'(by rw [List.length_take] at hi; omega) := by rw [List.getElem_take]
  rw [e1]
  have e2 : m.line[i]'(by rw [List.length_take] at hi; omega) = (dn (n - 1 - q * s) (d + 1 - q * s) ++ P)[i]'(by rw [List.length_append, dn_len]; omega) := by congr 1
  rw [e2, List.getElem_append_left (by rw [dn_len]; exact hx), dn_at _ _ _ hx]
theorem Wn.tick {m : Rc.S} {n d q s K : Nat} (h : Wn m n d q s) (hO : Rc.Ok m K) (hd : d < n) (hs : q * s ≤ d) (hq : 1 ≤ q) :
    (q * (s + 1) ≤ d → (m.line.take q).length = q ∧ Wn (Rc.tick m []) n d q (s + 1)) ∧ (d < q * (s + 1) → (Rc.tick m []).t.c ((n - 1 - d : Nat) : Int) = ⟨0, 0, 1⟩ ∧ placeOf (Rc.tick m []).line ((n - 1 - d : Nat) : Int) = -1 ∧ (Rc.tick m []).t.ch.length = n) := by
  have hm := h.mem hd hs
  obtain ⟨P, hl, hP⟩ := h.line
  have hlen := h.len
  have hqq : m.q.toNat = q := by rw [h.q]; rfl
  have hdc := Rc.drain_c q m.t m.line K hO.inv hO.wt (n - 1 - d)
  have hchl := (Rc.drain_inv q m.t m.line K hO.inv hO.wt).2.2.2
  have ht : (Rc.tick m []).t = (Rc.drain q m.t m.line).1 := by unfold Rc.tick; rw [hqq]
  have hli : (Rc.tick m []).line = m.line.drop q := by unfold Rc.tick; rw [hqq]
  have e3 : q * (s + 1) = q * s + q := Nat.mul_succ q s
  refine ⟨fun h1 => ?_, fun h1 => ?_⟩
  · have htk : (m.line.take q).length = q := by rw [List.length_take, hl, List.length_append, dn_len]; omega
    have hnm : ((n - 1 - d : Nat) : Int) ∉ m.line.take q := by
      intro hc
      rw [hl, List.take_append_of_le_length (by rw [dn_len]; omega)] at hc
      obtain ⟨j, hj, e⟩ := List.getElem_of_mem hc
      rw [List.length_take, dn_len] at hj
      rw [List.getElem_take, dn_at _ _ _ (by omega)] at e
      omega
    refine ⟨htk, ⟨P, ?_, hP⟩, by rw [ht, hchl, hlen], ?_, h.q⟩
    · rw [hli, hl, List.drop_append_of_le_length (by rw [dn_len]; omega), dn_drop]
      congr 2 <;> omega
    · rw [ht, hdc, if_neg hnm]; exact h.gx
  · have hin : ((n - 1 - d : Nat) : Int) ∈ m.line.take q := by
      rw [hl, List.take_append, dn_len]
      refine List.mem_append_left _ ?_
      rw [List.take_of_length_le (by rw [dn_len]; omega), show d + 1 - q * s = (d - q * s) + 1 by omega, dn_succ]
      refine List.mem_append_right _ ?_
      simp
      omega
    refine ⟨?_, ?_, by rw [ht, hchl, hlen]⟩
    · rw [ht, hdc, if_pos hin, h.gx]; rfl
    · rw [hli]
      have hnd := hO.wt.nd
      rw [← List.take_append_drop q m.line, List.nodup_append] at hnd
      unfold placeOf
      rw [if_neg (fun hc => hnd.2.2 _ hin _ hc rfl)]
end Rw
end Go.Proofs.YtipkgamiejenaaaGreat

/- References 23, 24, 25: level, Lack, Spread, Paid, wiped. -/
namespace Go.Proofs.YtipkgamiejenaaaGreat
open Go Go.RowKit Go.MapKept
set_option linter.unusedVariables false
set_option linter.unusedSectionVars false
set_option linter.unusedSimpArgs false
set_option maxRecDepth 100000
set_option maxHeartbeats 2000000
end Go.Proofs.YtipkgamiejenaaaGreat

/- Reference 25: how its state lies; Lack, When, Plan. -/
namespace Go.Proofs.YtipkgamiejenaaaGreat
open Go Go.RowKit Go.MapKept
set_option linter.unusedVariables false
set_option linter.unusedSectionVars false
set_option linter.unusedSimpArgs false
set_option maxRecDepth 100000
set_option maxHeartbeats 2000000
structure RrM where
  q : RfM
  la : Option Addr
  lc : Nat
  wa : Option Addr
  wc : Nat
  va : Option Addr
  vc : Nat
/-- A reclaiming of the reference. -/
def refR (v : Value) (m : Rc.S) : HProp := fun f => ∃ x : RrM, v = .agg #[.int .i64 (m.t.size : Nat), .slice x.q.ca m.t.ch.length x.q.cc, .slice x.q.xa m.t.tx.length x.q.xc, .slice x.q.wa m.t.wi.length x.q.wc, .slice x.q.sa m.t.stack.length x.q.sc, .int .i64 x.q.e0, .int .i64 x.q.e1, .int .i64 x.q.e2, .int .i64 x.q.e3, .int .i64 m.q, .int .i64 m.low, .slice x.la m.line.length x.lc, .slice x.wa m.want.length x.wc, .slice x.va m.lv.length x.vc, .int .i64 m.fr] ∧ sep (refS (.agg #[.int .i64 (m.t.size : Nat), .slice x.q.ca m.t.ch.length x.q.cc, .slice x.q.xa m.t.tx.length x.q.xc, .slice x.q.wa m.t.wi.length x.q.wc, .slice x.q.sa m.t.stack.length x.q.sc, .int .i64 x.q.e0, .int .i64 x.q.e1, .int .i64 x.q.e2, .int .i64 x.q.e3]) m.t :: rows encI1 1 (.slice x.la m.line.length x.lc) m.line :: owns 3 encI1 1 (.slice x.wa m.want.length x.wc) m.want :: owns 3 encI1 1 (.slice x.va m.lv.length x.vc) m.lv :: []) f
theorem refR.open {w : World} {v : Value} {m : Rc.S} {F : List HProp} (h : holds w (refR v m :: F)) : ∃ x : RrM, v = .agg #[.int .i64 (m.t.size : Nat), .slice x.q.ca m.t.ch.length x.q.cc, .slice x.q.xa m.t.tx.length x.q.xc, .slice x.q.wa m.t.wi.length x.q.wc, .slice x.q.sa m.t.stack.length x.q.sc, .int .i64 x.q.e0, .int .i64 x.q.e1, .int .i64 x.q.e2, .int .i64 x.q.e3, .int .i64 m.q, .int .i64 m.low, .slice x.la m.line.length x.lc, .slice x.wa m.want.length x.wc, .slice x.va m.lv.length x.vc, .int .i64 m.fr] ∧ holds w (refS (.agg #[.int .i64 (m.t.size : Nat), .slice x.q.ca m.t.ch.length x.q.cc, .slice x.q.xa m.t.tx.length x.q.xc, .slice x.q.wa m.t.wi.length x.q.wc, .slice x.q.sa m.t.stack.length x.q.sc, .int .i64 x.q.e0, .int .i64 x.q.e1, .int .i64 x.q.e2, .int .i64 x.q.e3]) m.t :: rows encI1 1 (.slice x.la m.line.length x.lc) m.line :: owns 3 encI1 1 (.slice x.wa m.want.length x.wc) m.want :: owns 3 encI1 1 (.slice x.va m.lv.length x.vc) m.lv :: F) := by
  obtain ⟨x, h⟩ := holds.open_ex h
  obtain ⟨e, h⟩ := holds.open_pure h
  exact ⟨x, e, holds_sep.1 h⟩
theorem refR.shut {w : World} {m : Rc.S} (x : RrM) {F : List HProp} (h : holds w (refS (.agg #[.int .i64 (m.t.size : Nat), .slice x.q.ca m.t.ch.length x.q.cc, .slice x.q.xa m.t.tx.length x.q.xc, .slice x.q.wa m.t.wi.length x.q.wc, .slice x.q.sa m.t.stack.length x.q.sc, .int .i64 x.q.e0, .int .i64 x.q.e1, .int .i64 x.q.e2, .int .i64 x.q.e3]) m.t :: rows encI1 1 (.slice x.la m.line.length x.lc) m.line :: owns 3 encI1 1 (.slice x.wa m.want.length x.wc) m.want :: owns 3 encI1 1 (.slice x.va m.lv.length x.vc) m.lv :: F)) : holds w (refR (.agg #[.int .i64 (m.t.size : Nat), .slice x.q.ca m.t.ch.length x.q.cc, .slice x.q.xa m.t.tx.length x.q.xc, .slice x.q.wa m.t.wi.length x.q.wc, .slice x.q.sa m.t.stack.length x.q.sc, .int .i64 x.q.e0, .int .i64 x.q.e1, .int .i64 x.q.e2, .int .i64 x.q.e3, .int .i64 m.q, .int .i64 m.low, .slice x.la m.line.length x.lc, .slice x.wa m.want.length x.wc, .slice x.va m.lv.length x.vc, .int .i64 m.fr]) m :: F) :=
  (holds_sep (l := [_, _, _, _]).2 h).mono fun f hf => ⟨x, rfl, hf⟩
variable (m : Rc.S) (K : Nat) (hO : Rc.Ok m K) (hK : K ≤ 900000)
include hO hK
end Go.Proofs.YtipkgamiejenaaaGreat

/- Reference 25: Put. -/
namespace Go.Proofs.YtipkgamiejenaaaGreat
open Go Go.RowKit Go.MapKept
set_option linter.unusedVariables false
set_option linter.unusedSectionVars false
set_option linter.unusedSimpArgs false
set_option maxRecDepth 100000
set_option maxHeartbeats 2000000
variable (m : Rc.S) (K : Nat) (hO : Rc.Ok m K) (hK : K ≤ 900000)
include hO hK
end Go.Proofs.YtipkgamiejenaaaGreat

/- Reference 25: New. -/
namespace Go.Proofs.YtipkgamiejenaaaGreat
open Go Go.RowKit Go.MapKept
set_option linter.unusedVariables false
set_option linter.unusedSectionVars false
set_option linter.unusedSimpArgs false
set_option maxRecDepth 100000
set_option maxHeartbeats 2000000
end Go.Proofs.YtipkgamiejenaaaGreat

/- Reference 25: Paid. -/
namespace Go.Proofs.YtipkgamiejenaaaGreat
open Go Go.RowKit Go.MapKept
set_option linter.unusedVariables false
set_option linter.unusedSectionVars false
set_option linter.unusedSimpArgs false
set_option maxRecDepth 100000
set_option maxHeartbeats 2000000
variable (m : Rc.S) (K : Nat) (hO : Rc.Ok m K) (hK : K ≤ 900000)
include hO hK
end Go.Proofs.YtipkgamiejenaaaGreat

/- append(s, make([]T, k)...): zeros are appended to an owned row; append of a row that is there, in a drawn region. -/
namespace Go.Proofs.YtipkgamiejenaaaGreat
open Go Go.RowKit Go.MapKept
set_option linter.unusedVariables false
set_option linter.unusedSectionVars false
set_option linter.unusedSimpArgs false
section
variable {P : Program} {w : World} {l : List HProp}
end
section
variable {P : Program} {n : Nat} {env : Env} {F : List HProp} {ops : Array Oper} {Q : Exit → Act → World → Prop} {rest : List Oper} {d : Tmp} {ty : TypeId} {pos : String} {aft : Array Edge}
theorem DoesW.appendR {α : Type} {t e : TypeId} {size bytes m m' : Nat} {z v u : Value} {x y : Operand} {enc enc' : α → List Value} {l ys : List α} [ht : SliceT P t e size] [hz : ZeroT P e z size bytes] [he : Enc enc m] (hm : m = size) (hx : opnd env x = some v) (hy : opnd env y = some u) [hr : Reads F u enc' m' ys] (hee : enc' = enc) (hmm : m' = m)
    (hlen : (l.length + ys.length) * bytes ≤ 140737488355328) (hl63 : l.length + ys.length ≤ 140737488355328) :
    DoesW P n env F [owns e enc m v l] [] (.call { callee := .builtin .append, args := #[x, y], argTypes := #[t, t] }) IsSlc (fun r => owns e enc m r (l ++ ys)) :=
  .ofDoes (show Does P n env ([] ++ F) _ _ _ from Does.appendR hm hx hy hee hmm hlen hl63) fun u w G h => owns_isSlc h
end
end Go.Proofs.YtipkgamiejenaaaGreat

/- Reference 25: Tick. -/
namespace Go.Proofs.YtipkgamiejenaaaGreat
open Go Go.RowKit Go.MapKept
set_option linter.unusedVariables false
set_option linter.unusedSectionVars false
set_option linter.unusedSimpArgs false
set_option maxRecDepth 100000
set_option maxHeartbeats 4000000
structure RtS where
  k : Nat
  q : RfM
  la : Option Addr
  lc : Nat
  ov : Value
variable (m : Rc.S) (K : Nat) (hO : Rc.Ok m K) (hK : K + 2 * m.line.length ≤ 900000)
include hO hK
end Go.Proofs.YtipkgamiejenaaaGreat

/- The law StorePlays of chapter 19. -/
namespace Go.Proofs.YtipkgamiejenaaaGreat
open Go Go.RowKit Go.MapKept
set_option linter.unusedVariables false
set_option linter.unusedSectionVars false
set_option linter.unusedSimpArgs false
set_option maxRecDepth 100000
set_option maxHeartbeats 4000000
structure PlS where
  i : Nat
  t : St.S
  q : RfM
def tup0 : Value → Value
  | .tuple t => t.getD 0 undef
  | v => v
def ActR (t : St.S) (u : Value) : Prop := ∃ q : RfM, u = .tuple #[.agg #[.int .i64 ((t).size : Nat), .slice (q).ca (t).ch.length (q).cc, .slice (q).xa (t).tx.length (q).xc, .slice (q).wa (t).wi.length (q).wc, .slice (q).sa (t).stack.length (q).sc, .int .i64 (q).e0, .int .i64 (q).e1, .int .i64 (q).e2, .int .i64 (q).e3], .bool true]
theorem ActR.defd {t : St.S} {u : Value} (h : ActR t u) : isUndef u = false := by obtain ⟨q, rfl⟩ := h; rfl
def actP (sb : Nat) (t : St.S) (u : Value) : HProp := sep [storeP sb t, refS (tup0 u) t]
def actQ (sb : Nat) (t : St.S) (b : Nat) : HProp := fun f => ∃ q : RfM, sep [blk b (.cells #[.int .i64 ((t).size : Nat), .slice (q).ca (t).ch.length (q).cc, .slice (q).xa (t).tx.length (q).xc, .slice (q).wa (t).wi.length (q).wc, .slice (q).sa (t).stack.length (q).sc, .int .i64 (q).e0, .int .i64 (q).e1, .int .i64 (q).e2, .int .i64 (q).e3] 34 (0, 0)), storeP sb t, refS (.agg #[.int .i64 ((t).size : Nat), .slice (q).ca (t).ch.length (q).cc, .slice (q).xa (t).tx.length (q).xc, .slice (q).wa (t).wi.length (q).wc, .slice (q).sa (t).stack.length (q).sc, .int .i64 (q).e0, .int .i64 (q).e1, .int .i64 (q).e2, .int .i64 (q).e3]) t] f
theorem St.Inv.act {t : St.S} {K : Nat} (h : St.Inv t K) (a : ActM) : St.Inv (St.act t a) (K + 1) := by
  unfold St.act
  split; exact h.take _
  split; exact h.give _ _
  split; exact h.start _
  split; exact h.step _ _
  split; exact h.mono (by omega)
  exact h.put _ _ _ _
theorem actQ.shut {w : World} {sb b : Nat} {t : St.S} {q : RfM} {G : List HProp} (h : holds w (blk b (.cells #[.int .i64 ((t).size : Nat), .slice (q).ca (t).ch.length (q).cc, .slice (q).xa (t).tx.length (q).xc, .slice (q).wa (t).wi.length (q).wc, .slice (q).sa (t).stack.length (q).sc, .int .i64 (q).e0, .int .i64 (q).e1, .int .i64 (q).e2, .int .i64 (q).e3] 34 (0, 0)) :: ([actP sb t (.tuple #[.agg #[.int .i64 ((t).size : Nat), .slice (q).ca (t).ch.length (q).cc, .slice (q).xa (t).tx.length (q).xc, .slice (q).wa (t).wi.length (q).wc, .slice (q).sa (t).stack.length (q).sc, .int .i64 (q).e0, .int .i64 (q).e1, .int .i64 (q).e2, .int .i64 (q).e3], .bool true])] ++ G))) : holds w (actQ sb t b :: G) := by
  have h2 : holds w (storeP sb t :: refS (.agg #[.int .i64 ((t).size : Nat), .slice (q).ca (t).ch.length (q).cc, .slice (q).xa (t).tx.length (q).xc, .slice (q).wa (t).wi.length (q).wc, .slice (q).sa (t).stack.length (q).sc, .int .i64 (q).e0, .int .i64 (q).e1, .int .i64 (q).e2, .int .i64 (q).e3]) t :: blk b (.cells #[.int .i64 ((t).size : Nat), .slice (q).ca (t).ch.length (q).cc, .slice (q).xa (t).tx.length (q).xc, .slice (q).wa (t).wi.length (q).wc, .slice (q).sa (t).stack.length (q).sc, .int .i64 (q).e0, .int .i64 (q).e1, .int .i64 (q).e2, .int .i64 (q).e3] 34 (0, 0)) :: G) := holds_sep.1 (show holds w (sep [storeP sb t, refS (.agg #[.int .i64 ((t).size : Nat), .slice (q).ca (t).ch.length (q).cc, .slice (q).xa (t).tx.length (q).xc, .slice (q).wa (t).wi.length (q).wc, .slice (q).sa (t).stack.length (q).sc, .int .i64 (q).e0, .int .i64 (q).e1, .int .i64 (q).e2, .int .i64 (q).e3]) t] :: blk b (.cells #[.int .i64 ((t).size : Nat), .slice (q).ca (t).ch.length (q).cc, .slice (q).xa (t).tx.length (q).xc, .slice (q).wa (t).wi.length (q).wc, .slice (q).sa (t).stack.length (q).sc, .int .i64 (q).e0, .int .i64 (q).e1, .int .i64 (q).e2, .int .i64 (q).e3] 34 (0, 0)) :: G) from (show holds w (blk b (.cells #[.int .i64 ((t).size : Nat), .slice (q).ca (t).ch.length (q).cc, .slice (q).xa (t).tx.length (q).xc, .slice (q).wa (t).wi.length (q).wc, .slice (q).sa (t).stack.length (q).sc, .int .i64 (q).e0, .int .i64 (q).e1, .int .i64 (q).e2, .int .i64 (q).e3] 34 (0, 0)) :: sep [storeP sb t, refS (.agg #[.int .i64 ((t).size : Nat), .slice (q).ca (t).ch.length (q).cc, .slice (q).xa (t).tx.length (q).xc, .slice (q).wa (t).wi.length (q).wc, .slice (q).sa (t).stack.length (q).sc, .int .i64 (q).e0, .int .i64 (q).e1, .int .i64 (q).e2, .int .i64 (q).e3]) t] :: G) from h).order [1, 0])
  exact (holds_sep.2 (show holds w ([blk b (.cells #[.int .i64 ((t).size : Nat), .slice (q).ca (t).ch.length (q).cc, .slice (q).xa (t).tx.length (q).xc, .slice (q).wa (t).wi.length (q).wc, .slice (q).sa (t).stack.length (q).sc, .int .i64 (q).e0, .int .i64 (q).e1, .int .i64 (q).e2, .int .i64 (q).e3] 34 (0, 0)), storeP sb t, refS (.agg #[.int .i64 ((t).size : Nat), .slice (q).ca (t).ch.length (q).cc, .slice (q).xa (t).tx.length (q).xc, .slice (q).wa (t).wi.length (q).wc, .slice (q).sa (t).stack.length (q).sc, .int .i64 (q).e0, .int .i64 (q).e1, .int .i64 (q).e2, .int .i64 (q).e3]) t] ++ G) from h2.order [2, 0, 1])).mono fun f hf => ⟨q, hf⟩
theorem actQ.open {w : World} {sb b : Nat} {t : St.S} {G : List HProp} (h : holds w (actQ sb t b :: G)) : ∃ q : RfM, holds w (blk b (.cells #[.int .i64 ((t).size : Nat), .slice (q).ca (t).ch.length (q).cc, .slice (q).xa (t).tx.length (q).xc, .slice (q).wa (t).wi.length (q).wc, .slice (q).sa (t).stack.length (q).sc, .int .i64 (q).e0, .int .i64 (q).e1, .int .i64 (q).e2, .int .i64 (q).e3] 34 (0, 0)) :: storeP sb t :: refS (.agg #[.int .i64 ((t).size : Nat), .slice (q).ca (t).ch.length (q).cc, .slice (q).xa (t).tx.length (q).xc, .slice (q).wa (t).wi.length (q).wc, .slice (q).sa (t).stack.length (q).sc, .int .i64 (q).e0, .int .i64 (q).e1, .int .i64 (q).e2, .int .i64 (q).e3]) t :: G) := by
  obtain ⟨q, h⟩ := holds.open_ex h
  exact ⟨q, holds_sep.1 h⟩
end Go.Proofs.YtipkgamiejenaaaGreat

/- Law 25: told. -/
namespace Go.Proofs.YtipkgamiejenaaaGreat
open Go Go.RowKit Go.MapKept
set_option linter.unusedVariables false
set_option linter.unusedSectionVars false
set_option linter.unusedSimpArgs false
set_option maxRecDepth 100000
set_option maxHeartbeats 4000000
variable (rb sb : Nat) (m : Rc.S) (K : Nat) (hO : Rc.Ok m K) (hK : K ≤ 900000)
include hO hK
end Go.Proofs.YtipkgamiejenaaaGreat

/- Law 25: the chapter's example; ReclaimNone. -/
namespace Go.Proofs.YtipkgamiejenaaaGreat
open Go Go.RowKit Go.MapKept
set_option linter.unusedVariables false
set_option linter.unusedSectionVars false
set_option linter.unusedSimpArgs false
set_option maxRecDepth 100000
set_option maxHeartbeats 4000000
theorem wk_Take (sb : Nat) (t : St.S) (K : Nat) (hI : St.Inv t K) (hK : K ≤ 100) (r : Int × Int) (hr : (St.take t 1).2 = r) (w : World) (F : List HProp) (hw : holds w (storeP sb t :: F)) :
    Ct Tryz.prog 25 #[.pointer (some ⟨sb, 0, none⟩), .int .i64 1] w fun e w' => e = .returned (.tuple #[.int .i64 r.1, .int .i64 r.2]) ∧ holds w' (storeP sb (St.take t 1).1 :: F) := by
  have := store_Take sb t K hI (by omega) 1 w F hw
  rw [← hr]; exact this
theorem wk_Put (rb sb : Nat) (m m' : Rc.S) (K : Nat) (hO : Rc.Ok m K) (hK : K ≤ 100) (i e : Int) (hm : Rc.put m i 1 = (m', e)) (t t' : St.S) (ht : m.t = t) (ht' : m'.t = t') (w : World) (F : List HProp) (hw : holds w (recP rb sb m K :: storeP sb t :: F)) :
    Ct Tryz.prog 40 #[.pointer (some ⟨rb, 0, none⟩), .int .i64 i, .int .i64 1] w fun x w' => x = .returned (.int .i64 e) ∧ holds w' (recP rb sb m' (K + 1) :: storeP sb t' :: F) := by
  subst ht ht'
  have := rec_Put rb sb m K hO (by omega) i 1 w F hw
  rw [hm] at this; exact this
theorem wk_Ahead (rb sb : Nat) (w : World) (F : List HProp) (hw : holds w (recP rb sb Wk.m3 7 :: F)) :
    Ct Tryz.prog 42 #[.pointer (some ⟨rb, 0, none⟩), .int .i64 1] w fun e w' => e = .returned (.int .i64 2) ∧ holds w' (recP rb sb Wk.m3 7 :: F) := by
  have := rec_Ahead rb sb Wk.m3 7 (Wk.o3.more (by omega)) (by omega) 1 w F hw
  rw [Wk.e5] at this; exact this
theorem wk_Ints (v u : Value) (l : List Int) (hl : l.length ≤ 1048576) (w : World) (F : List HProp) [Reads F v encI1 1 l] [Reads F u encI1 1 l] (hw : holds w F) :
    Ct Tryz.prog 20 #[v, u] w fun e w' => e = .returned (.bool true) ∧ holds w' F := by
  have := st_Ints v u l l hl hl w F hw
  rw [decide_eq_true rfl] at this; exact this
theorem wk_Freed (rb sb : Nat) (w : World) (F : List HProp) (hw : holds w (recP rb sb Wk.m5 17 :: F)) :
    Ct Tryz.prog 55 #[.pointer (some ⟨rb, 0, none⟩)] w fun e w' => e = .returned (.int .i64 3) ∧ holds w' (recP rb sb Wk.m5 17 :: F) := by
  have := rec_Freed rb sb Wk.m5 17 (Wk.o5.more (by omega)) (by omega) w F hw
  rw [Wk.e7] at this; exact this
theorem wk_Ticks (rb sb : Nat) (w : World) (F : List HProp) (hw : holds w (recP rb sb Wk.m5 17 :: F)) :
    Ct Tryz.prog 54 #[.pointer (some ⟨rb, 0, none⟩)] w fun e w' => e = .returned (.int .i64 2) ∧ holds w' (recP rb sb Wk.m5 17 :: F) := by
  have := rec_Ticks rb sb Wk.m5 17 (Wk.o5.more (by omega)) (by omega) w F hw
  rw [Wk.e8] at this; exact this
theorem wk_Low (rb sb : Nat) (w : World) (F : List HProp) (hw : holds w (recP rb sb Wk.m5 17 :: F)) :
    Ct Tryz.prog 56 #[.pointer (some ⟨rb, 0, none⟩)] w fun e w' => e = .returned (.bool false) ∧ holds w' (recP rb sb Wk.m5 17 :: F) := by
  have := rec_Low rb sb Wk.m5 17 (Wk.o5.more (by omega)) (by omega) w F hw
  rw [Wk.e8, Wk.e9] at this; exact this
theorem wk_Tick (rb sb : Nat) (m : Rc.S) (K : Nat) (hO : Rc.Ok m K) (hK : K ≤ 100) (v : Value) (p : List Int) (hp : p.length ≤ 64) (l o : List Int) (hl : m.line = l) (ho : l.take m.q.toNat = o) (hll : l.length ≤ 10) (w : World) (F : List HProp) [Reads F v encI1 1 p] (hw : holds w (recP rb sb m K :: storeP sb m.t :: F)) :
    Ct Tryz.prog 44 #[.pointer (some ⟨rb, 0, none⟩), v] w fun e w' => ∃ u : Value, e = .returned (.tuple #[u, .int .i64 0]) ∧ holds w' (owns 3 encI1 1 u o :: recP rb sb (Rc.tick m p) (K + 1 + 2 * l.length) :: storeP sb (Rc.tick m p).t :: F) := by
  have := rec_Tick rb sb m K hO (by rw [hl]; omega) v p hp w F hw
  rw [hl, ho] at this; exact this
theorem wk_New (sb : Nat) (w : World) (F : List HProp) (hw : holds w (storeP sb Wk.t3 :: F)) :
    Ct Tryz.prog 38 #[.pointer (some ⟨sb, 0, none⟩), .int .i64 2, .int .i64 4] w fun e w' => ∃ rb : Nat, e = .returned (.tuple #[.pointer (some ⟨rb, 0, none⟩), .int .i64 0]) ∧ holds w' (recP rb sb Wk.m0 3 :: storeP sb Wk.t3 :: F) := rec_New sb Wk.t3 3 Wk.i3 (by omega) 2 4 (by omega) (by omega) w F hw
namespace Wk
theorem q1 : Rc.put m0 2 1 = (m1, 0) := Prod.ext rfl e1
theorem q2 : Rc.put m1 0 1 = (m2, 0) := Prod.ext rfl e2
theorem q3 : Rc.put m2 1 1 = (m3, 0) := Prod.ext rfl e3
end Wk
theorem law25_works (w : World) (F : List HProp) (hw : holds w F) :
    Ct Tryz.prog 46 #[] w fun e w' => e = .returned (.bool true) ∧ holds w' F := by
  refine Ct.go (args := []) Tryz.func46 rfl rfl rfl hw ?_
  repeat' (first | (first | (apply GL.isCall; refine GL.call rfl rfl (fun w h => store_Make 4 64 (by omega) (by omega) (by omega) (by omega) (by decide) w _ h) (fun sb => ?_)) | (apply GL.isCall; refine GL.callH1 (storeP sb (St.new 4 64)) (vs := [.pointer (some ⟨sb, 0, none⟩), .int .i64 1]) rfl rfl (fun w h => wk_Take sb (St.new 4 64) 0 Wk.i0 (by omega) (0, 0) (by decide +kernel) w _ h) ?_) | (apply GL.isCall; refine GL.callH1 (storeP sb (St.take (St.new 4 64) 1).1) (vs := [.pointer (some ⟨sb, 0, none⟩), .int .i64 1]) rfl rfl (fun w h => wk_Take sb Wk.t1 1 Wk.i1 (by omega) (1, 0) (by decide +kernel) w _ h) ?_) | (apply GL.isCall; refine GL.callH1 (storeP sb (St.take Wk.t1 1).1) (vs := [.pointer (some ⟨sb, 0, none⟩), .int .i64 1]) rfl rfl (fun w h => wk_Take sb Wk.t2 2 Wk.i2 (by omega) (2, 0) (by decide +kernel) w _ h) ?_) | (apply GL.isCall; refine GL.callH (storeP sb (St.take Wk.t2 1).1) (vs := [.pointer (some ⟨sb, 0, none⟩), .int .i64 2, .int .i64 4]) rfl rfl (fun w h => wk_New sb w _ h) (fun rb => ?_)) | (apply GL.isCall; refine GL.callHH1 (recP rb sb Wk.m0 3) (storeP sb Wk.t3) (vs := [.pointer (some ⟨rb, 0, none⟩), .int .i64 2, .int .i64 1]) rfl rfl (fun w h => wk_Put rb sb Wk.m0 Wk.m1 3 Wk.o0 (by omega) 2 0 Wk.q1 Wk.t3 Wk.m1.t rfl rfl w _ h) ?_) | (apply GL.isCall; refine GL.callHH1 (recP rb sb Wk.m1 (3 + 1)) (storeP sb Wk.m1.t) (vs := [.pointer (some ⟨rb, 0, none⟩), .int .i64 0, .int .i64 1]) rfl rfl (fun w h => wk_Put rb sb Wk.m1 Wk.m2 (3 + 1) Wk.o1 (by omega) 0 0 Wk.q2 Wk.m1.t Wk.m2.t rfl rfl w _ h) ?_) | (apply GL.isCall; refine GL.callHH1 (recP rb sb Wk.m2 (3 + 1 + 1)) (storeP sb Wk.m2.t) (vs := [.pointer (some ⟨rb, 0, none⟩), .int .i64 1, .int .i64 1]) rfl rfl (fun w h => wk_Put rb sb Wk.m2 Wk.m3 (3 + 1 + 1) Wk.o2 (by omega) 1 0 Wk.q3 Wk.m2.t Wk.m3.t rfl rfl w _ h) ?_) | (apply GL.isCall; refine GL.callHH1 (recP rb sb Wk.m3 (3 + 1 + 1 + 1)) (storeP sb Wk.m3.t) (vs := [.pointer (some ⟨rb, 0, none⟩), .int .i64 1, .int .i64 1]) rfl rfl (fun w h => wk_Put rb sb Wk.m3 Wk.m3 (3 + 1 + 1 + 1) Wk.o3 (by omega) 1 18 Wk.p4 Wk.m3.t Wk.m3.t rfl rfl w _ h) ?_) | (apply GL.isCall; refine GL.callH1 (recP rb sb Wk.m3 (3 + 1 + 1 + 1 + 1)) (vs := [.pointer (some ⟨rb, 0, none⟩), .int .i64 1]) rfl rfl (fun w h => wk_Ahead rb sb w _ h) ?_) | (apply GL.isAny; refine GL.buildR (enc := encI1) [(9 : Int)] (parts := [(0, .const (.int .i64 9))]) rfl rfl rfl rfl rfl (fun l hl => match l, hl with | [_], _ => rfl) rfl (fun g0 => ?_)) | (apply GL.isCall; refine GL.callHH (recP rb sb Wk.m3 (3 + 1 + 1 + 1 + 1)) (storeP sb Wk.m3.t) (vs := [.pointer (some ⟨rb, 0, none⟩), .slice (some ⟨g0, 0, none⟩) 1 1]) rfl rfl (fun w h => wk_Tick rb sb Wk.m3 (3 + 1 + 1 + 1 + 1) (Wk.o3.more (by omega)) (by omega) _ [9] (by simp) [2, 0, 1] [2, 0] Wk.e5 (by rw [Wk.e10.1]; rfl) (by simp) w _ h) (fun u1 => ?_)) | (refine G.isRegion 8 ?_; refine G.nilOwn 3 encI1 1 ?_; apply G.region) | (apply GL.isCall; refine GL.callHH (recP rb sb (Rc.tick Wk.m3 [9]) (3 + 1 + 1 + 1 + 1 + 1 + 2 * [(2 : Int), 0, 1].length)) (storeP sb (Rc.tick Wk.m3 [9]).t) (vs := [.pointer (some ⟨rb, 0, none⟩), .slice none 0 0]) rfl rfl (fun w h => wk_Tick rb sb Wk.m4 14 (Wk.o4.more (by omega)) (by omega) _ [] (by simp) [1] [1] Wk.e6 (by rw [Wk.e10.2]; rfl) (by simp) w _ h) (fun u2 => ?_)) | (apply GL.isAny; refine GL.buildR (enc := encI1) [(2 : Int), 0] (parts := [(0, .const (.int .i64 2)), (1, .const (.int .i64 0))]) rfl rfl rfl rfl rfl (fun l hl => match l, hl with | [_, _], _ => rfl) rfl (fun g1 => ?_)) | (apply GL.isAny; refine GL.buildR (enc := encI1) [(1 : Int)] (parts := [(0, .const (.int .i64 1))]) rfl rfl rfl rfl rfl (fun l hl => match l, hl with | [_], _ => rfl) rfl (fun g2 => ?_)) | (apply GL.isCall; refine GL.call1 (vs := [u1, .slice (some ⟨g1, 0, none⟩) 2 2]) rfl rfl (fun w h => wk_Ints u1 _ [2, 0] (by simp) w _ h) ?_) | (apply GL.isCall; refine GL.call1 (vs := [u2, .slice (some ⟨g2, 0, none⟩) 1 1]) rfl rfl (fun w h => wk_Ints u2 _ [1] (by simp) w _ h) ?_) | (apply GL.isCall; refine GL.callH1 (recP rb sb (Rc.tick Wk.m4 []) (14 + 1 + 2 * [(1 : Int)].length)) (vs := [.pointer (some ⟨rb, 0, none⟩)]) rfl rfl (fun w h => wk_Freed rb sb w _ h) ?_) | (apply GL.isCall; refine GL.callH1 (recP rb sb Wk.m5 17) (vs := [.pointer (some ⟨rb, 0, none⟩)]) rfl rfl (fun w h => wk_Ticks rb sb w _ h) ?_) | (apply GL.isCall; refine GL.callH1 (recP rb sb Wk.m5 17) (vs := [.pointer (some ⟨rb, 0, none⟩)]) rfl rfl (fun w h => wk_Low rb sb w _ h) ?_)) | first | refine stp ?_ | (refine stpB ?_; intro _) | (refine spl ?_ ?_ <;> intro hc <;> ((try simp only [decide_eq_true_eq, decide_eq_false_iff_not, Bool.not_true, Bool.not_false, ne_eq, Classical.not_not, Int.not_lt, Int.not_le] at hc); (try (exfalso; first | omega | exact hc trivial | exact hc rfl)))))
  refine GE.resOne rfl (by (repeat (first | apply Res.nil | (apply Res.tmp; rfl) | (refine Res.cellA rfl rfl rfl ?_) | (refine Res.cell1 rfl rfl ?_)))) (fun w h => ?_)
  exact ⟨rfl, h.sub⟩
end Go.Proofs.YtipkgamiejenaaaGreat

/- The law ReclaimPlays of chapter 25: what is plain, and contracts in its form. -/
namespace Go.Proofs.YtipkgamiejenaaaGreat
open Go Go.RowKit Go.MapKept
set_option linter.unusedVariables false
set_option linter.unusedSectionVars false
set_option linter.unusedSimpArgs false
set_option maxRecDepth 100000
set_option maxHeartbeats 4000000
structure AcV where
  kd : Int
  i : Int
  ow : Int
  n : Int
  p : SlV
@[reducible] def encAc (s : AcV) : List Value := [.int .i64 s.kd, .int .i64 s.i, .int .i64 s.ow, .int .i64 s.n, s.p.v]
instance : Enc encAc 5 := ⟨fun _ => rfl, fun _ => by simp [encAc, Value.oneCell'], by omega⟩
/-- What the acts' slices hold. -/
structure AcR (F : List HProp) (L : List AcV) (M : List (List Int)) : Prop where
  len : L.length = M.length
  at_ : ∀ (i : Nat) (h : i < L.length) (h2 : i < M.length), Reads F (L[i]).p.v encI1 1 M[i]
structure RpS where
  i : Nat
  m : Rc.S
  K : Nat
  x : RrM
theorem recP.same {rb sb : Nat} {m : Rc.S} {t : St.S} {K : Nat} (h : t.ch.length = m.t.ch.length) : recP rb sb { m with t := t } K = recP rb sb m K := by
  unfold recP
  dsimp only
  rw [h]
theorem recP.grow {w : World} {rb sb : Nat} {m : Rc.S} {K K' : Nat} {F : List HProp} (hk : K ≤ K') (h : holds w (recP rb sb m K :: F)) : holds w (recP rb sb m K' :: F) := recP.more hk h
namespace Rc
/-- One act. -/
def act (m : S) (a : AcV) (p : List Int) : S :=
  if a.kd = 0 then { m with t := (St.take m.t a.ow).1 } else if a.kd = 1 then (put m a.i a.ow).1 else if a.kd = 2 then (if 64 < p.length then m else tick m p) else if a.kd = 3 then (paid m a.i a.n).1 else m
theorem Ok.act {m : S} {K : Nat} (h : Ok m K) (a : AcV) (hn : a.n ≤ 9223372036854775807) (p : List Int) : Ok (act m a p) (K + 1 + 2 * m.line.length) := by
  unfold Rc.act
  split
  · exact (h.take a.ow).more (by omega)
  split
  · exact (h.put a.i a.ow).more (by omega)
  split
  · split
    · exact h.more (by omega)
    · exact h.tick p (by omega)
  split
  · exact (h.paid a.i a.n hn).more (by omega)
  · exact h.more (by omega)
end Rc
end Go.Proofs.YtipkgamiejenaaaGreat

/- The law ReclaimPlays of chapter 25: the walk. -/
namespace Go.Proofs.YtipkgamiejenaaaGreat
open Go Go.RowKit Go.MapKept
set_option linter.unusedVariables false
set_option linter.unusedSectionVars false
set_option linter.unusedSimpArgs false
set_option maxRecDepth 100000
set_option maxHeartbeats 4000000
end Go.Proofs.YtipkgamiejenaaaGreat
