/- The ring's iterator, and what is collected from it. -/
import Derived.Test.YtfkpcmlajdmnfaaRing
import Derived.RangeFuncBox
import Derived.RangeFuncLeaves
import Derived.RangeFuncCalls
import Derived.RangeFuncBound
import Derived.Shelf.Abstract
import Derived.WalkKit
import Derived.OwnWalkIn
import Derived.TacticsInMore
import Derived.LoopNIn
import Derived.LoopIn
import Derived.Maps.AppendAt
namespace Go.Proofs.Ytfkpcmlajdmnfaa
open Go Go.RowKit Go.MapKept Go.Shelf
set_option maxRecDepth 100000
set_option linter.unusedVariables false
attribute [local go_sem] Oper.semAt_some

/-- The ring's cells, below n₀; or there is no ring. -/
def RingIn (n₀ : Nat) (W : World) (v : Value) (l : List Int) : Prop :=
  (v = .pointer none ∧ l = []) ∨ ∃ b a c n cs hd, v = .pointer (some ⟨b, 0, none⟩) ∧ RingOk n cs hd l ∧ b < n₀ ∧ W.cell? ⟨b, 0, none⟩ = some (.slice a n c) ∧ W.cell? ⟨b, 1, none⟩ = some (.int .i64 (hd : Nat)) ∧ W.cell? ⟨b, 2, none⟩ = some (.int .i64 (l.length : Nat)) ∧
    (0 < n → ∃ g, a = some ⟨g, 0, none⟩ ∧ g < n₀ ∧ ∀ j (hj : j < cs.length), W.cell? ⟨g, j, none⟩ = some (.int .i64 cs[j]))
theorem RingIn.below {n₀ : Nat} {A B : World} (h : Below n₀ A B) {v : Value} {l : List Int} : RingIn n₀ A v l → RingIn n₀ B v l
  | .inl e => .inl e
  | .inr ⟨b, a, c, n, cs, hd, e, hm, hb, c0, c1, c2, hg⟩ => .inr ⟨b, a, c, n, cs, hd, e, hm, hb, (h.cell (p := ⟨b, 0, none⟩) hb).trans c0, (h.cell (p := ⟨b, 1, none⟩) hb).trans c1, (h.cell (p := ⟨b, 2, none⟩) hb).trans c2, fun hn => let ⟨g, ha, hgn, hc⟩ := hg hn; ⟨g, ha, hgn, fun j hj => (h.cell (p := ⟨g, j, none⟩) hgn).trans (hc j hj)⟩⟩
theorem RingIn.len {n₀ : Nat} {W : World} {v : Value} {l : List Int} : RingIn n₀ W v l → l.length ≤ 1048576
  | .inl e => by rw [e.2]; simp
  | .inr ⟨b, a, c, n, cs, hd, e, hm, hb, c0, c1, c2, hg⟩ => Nat.le_trans hm.long hm.big
theorem RingIn.of {w : World} {v : Value} {n : Nat} {l : List Int} {F : List HProp} (hw : holds w (ringAt v n l :: F)) : RingIn w.heap.size w v l := by
  obtain ⟨b, a, c, cs, hd, rfl, hm, h⟩ := open_ring hw
  refine .inr ⟨b, a, c, n, cs, hd, rfl, hm, h.lt, cellAt h.get_blk 0, cellAt h.get_blk 1, cellAt h.get_blk 2, fun hn => ?_⟩
  have hl := hm.len
  rcases (holds.open_own (h.pick 1)).2 with ⟨_, h0, _⟩ | ⟨g, cap, cur, hv, _, _, _, _, h8⟩
  · omega
  · cases hv
    refine ⟨g, rfl, h8.lt, fun j hj => ?_⟩
    obtain ⟨g', cap', hv, _, _, h3, _⟩ := (h.pick 1).intAt j hj
    cases hv
    exact h3

theorem ringQ_cell (w : World) (b n c h i : Nat) (a : Option Addr) (hn : 0 < n) (hbig : n ≤ 1048576) (hh : h < n) (hi : i ≤ 1048576)
    (c0 : w.cell? ⟨b, 0, none⟩ = some (.slice a n c)) (c1 : w.cell? ⟨b, 1, none⟩ = some (.int .i64 (h : Nat))) :
    Calls Try.prog 84 #[.pointer (some ⟨b, 0, none⟩), .int .i64 (i : Nat)] w fun e w' => e = .returned (.int .i64 ((h + i) % n : Nat)) ∧ ∃ m, w' = w.drewN m := by
  have e1 : IntKind.i64.wrap ((h : Int) + i) = (h : Int) + i := IntWalk.i64_in _ (by omega)
  have e2 : ((n : Int) == 0) = false := by simp; omega
  have e3 : Int.tmod ((h : Int) + i) n = (((h + i) % n : Nat) : Int) := by
    rw [Int.natCast_emod, Int.natCast_add]; exact Int.tmod_eq_emod_of_nonneg (by omega)
  have e4 : IntKind.i64.wrap (((h + i) % n : Nat) : Int) = (((h + i) % n : Nat) : Int) := IntWalk.i64_in _ (by have := Nat.mod_lt (h + i) hn; omega)
  generalize hr : (((h + i) % n : Nat) : Int) = r at e3 e4 ⊢
  clear hr
  go_enter Try.func84, Try.ntmps84
  go_wp2_with fail
  go_quiet (fail)
  go_wp2_with fail
  go_ret
  exact ⟨rfl, nq, rfl⟩

theorem ringQ_Len (n₀ : Nat) (w : World) (v : Value) (l : List Int) (h : RingIn n₀ w v l) :
    Calls Try.prog 28 #[v] w fun e w' => e = .returned (.int .i64 (l.length : Nat)) ∧ w' = w := by
  rcases h with ⟨rfl, rfl⟩ | ⟨b, a, c, n, cs, hd, rfl, hm, hb, c0, c1, c2, hg⟩
  · go_enter Try.func28, Try.ntmps28
    go_wp2
    go_ret
    exact ⟨rfl, rfl⟩
  · clear hm hg c0 c1
    go_enter Try.func28, Try.ntmps28
    go_wp2
    go_ret
    exact ⟨rfl, rfl⟩

theorem ringQ_At (n₀ : Nat) (w : World) (v : Value) (l : List Int) (k : Nat) (hk : k < l.length) (h : RingIn n₀ w v l) :
    Calls Try.prog 27 #[v, .int .i64 k] w fun e w' => e = .returned (.tuple #[.int .i64 l[k], .bool true]) ∧ ∃ m, w' = w.drewN m := by
  rcases h with ⟨rfl, rfl⟩ | ⟨b, a, c, n, cs, hd, rfl, hm, hb, c0, c1, c2, hg⟩
  · simp at hk
  · have hn : 0 < n := by have := hm.long; omega
    obtain ⟨g, rfl, _, hcs⟩ := hg hn
    have hgk := hm.get k hk
    have hj := Nat.mod_lt (hd + k) hn
    have hlen := hm.len
    have hx := hcs ((hd + k) % n) (by omega)
    have hxx : cs[(hd + k) % n]'(by omega) = l[k] := by
      have := List.getElem?_eq_getElem (l := cs) (i := (hd + k) % n) (by omega)
      rw [this] at hgk; injection hgk
    rw [hxx] at hx
    have hhd : hd < n := by have := hm.head; omega
    have hbig := hm.big
    have HC := Lib.hid (fun m => ringQ_cell (w.drewN m) b n c hd k _ hn hbig hhd (by have := hm.long; omega) c0 c1)
    clear hxx
    generalize (hd + k) % n = j at hx hj HC
    generalize l[k] = x at hx ⊢
    clear hm hgk hcs hg c1
    have h0 : (0 : Int) ≤ k := by omega
    have hkl : (k : Int) < l.length := by omega
    go_enter Try.func27, Try.ntmps27
    go_wp2_with fail
    go_quiet ((go_at_call 84; exact Calls.quiet_of (HC.out _)))
    go_wp2_with fail
    go_ret2
    exact ⟨rfl, nq, rfl⟩

/-- What has come when k rounds are over. -/
def upto {α : Type} (f : Nat → α) (k : Nat) : List α := (List.range k).map f
theorem upto_succ {α : Type} (f : Nat → α) (k : Nat) : upto f (k + 1) = upto f k ++ [f k] := by simp [upto, List.range_succ]
theorem upto_length {α : Type} (f : Nat → α) (k : Nat) : (upto f k).length = k := by simp [upto]
def pairAt (l : List Int) (j : Nat) : Nat × Int := (j, l[j]?.getD 0)

/-- What a round that goes on keeps: what lay below n₀, and the box. -/
def RingKp (Bs n₀ : Nat) (A B : World) : Prop := Below n₀ A B ∧ B.cell? ⟨Bs, 0, none⟩ = A.cell? ⟨Bs, 0, none⟩
theorem RingKp.refl (Bs n₀ : Nat) (A : World) : RingKp Bs n₀ A A := ⟨Below.refl _ _, rfl⟩
theorem RingKp.drewN (Bs n₀ : Nat) (A : World) (m : Nat) : RingKp Bs n₀ A (A.drewN m) := ⟨⟨(Below.refl n₀ A).os, (Below.refl n₀ A).tape, (Below.refl n₀ A).output, (Below.refl n₀ A).size, (Below.refl n₀ A).block⟩, rfl⟩
theorem RingKp.trans {Bs n₀ : Nat} {A B C : World} (h : RingKp Bs n₀ A B) (k : RingKp Bs n₀ B C) : RingKp Bs n₀ A C := ⟨h.1.trans k.1, k.2.trans h.2⟩

set_option maxHeartbeats 2000000 in
/-- The iterator's closure. -/
theorem ring_all1 (n : Nat) (hn : 1 ≤ n) (l Bs n₀ : Nat) (v : Value) (zs : List Int) (J Jx : List (Nat × Int) → World → Prop)
    (hJd : ∀ pre W m, J pre W → J pre (W.drewN m))
    (hY : ∀ pre x W, J pre W → pre.length < zs.length → YieldAt Fence.wide (n - 1) Try.prog l #[.int .i64 (x.1 : Int), .int .i64 x.2] W fun e W' =>
      (e = .returned (.bool true) ∧ J (pre ++ [x]) W' ∧ RingKp Bs n₀ W W') ∨ (e = .returned (.bool false) ∧ Jx (pre ++ [x]) W'))
    (W : World) (hBs : W.cell? ⟨Bs, 0, none⟩ = some v) (hR : RingIn n₀ W v zs) (h0 : J [] W) :
    CallsIn Fence.wide n Try.prog 102 #[.func (.yield l) #[] #[], .pointer (some ⟨Bs, 0, none⟩)] W fun e W' => (∃ v, e = .returned v) ∧
      ((∃ ys, ys = upto (pairAt zs) zs.length ∧ J ys W') ∨ (∃ pre, (∃ k, k ≤ zs.length ∧ pre = upto (pairAt zs) k) ∧ Jx pre W')) := by
  have hzl := hR.len
  have HL := Lib.hid (fun W (h : RingIn n₀ W v zs) => callsIn_wide (n := n - 1) |>.2 (ringQ_Len n₀ W v zs h))
  have HA := Lib.hid (fun W (k : Nat) (hk : k < zs.length) (h : RingIn n₀ W v zs) => callsIn_wide (n := n - 1) |>.2 (ringQ_At n₀ W v zs k hk h))
  refine callsIn_of_wp Try.func102 rfl trivial ?_ rfl
  simp only [Try.ntmps102, List.size_toArray, List.length_cons, List.length_nil, Nat.reduceAdd, Nat.reduceSub, Array.replicate_succ, Array.replicate_zero, List.push_toArray, List.append_toArray, List.nil_append, List.cons_append]
  gi_wp2_with (refine ⟨trivial, ?_⟩; gi_at_call 28; refine (HL.out _ hR).mono ?_; rintro e w' ⟨rfl, rfl⟩)
  gi_loopw [8] (fun i wr => ∃ k : Nat, k ≤ zs.length ∧ i = .int .i64 k ∧ J (upto (pairAt zs) k) wr ∧ RingKp Bs n₀ w' wr)
    (fun i _ => zs.length - (intOf i).toNat)
  case atStart => exact ⟨0, Nat.zero_le _, rfl, h0, RingKp.refl _ _ _⟩
  case round =>
    obtain ⟨k, hk, rfl, hJs, hnx⟩ := hrel
    have hcx := hnx.2.trans hBs
    have hRx := hR.below hnx.1
    by_cases hlt : k < zs.length
    · have HAk := Lib.hid (HA.out wr k hlt hRx)
      gi_wp2_with (refine ⟨trivial, ?_⟩; gi_at_call 27; refine HAk.out.mono ?_; rintro e w5 ⟨rfl, m, rfl⟩)
      have hJ2 := hJd _ _ m hJs
      have hY2 := hY _ (k, zs[k]) (wr.drewN m) hJ2 (by rw [upto_length]; exact hlt)
      skip
      obtain ⟨fn, tmps, assign, body, hy, hR3⟩ := hY2
      dsimp only at hy
      rw [hy]
      gi_wp2
      refine hR3.mono ?_
      rintro e W3 (⟨rfl, hJ3, hk3⟩ | ⟨rfl, hJx3⟩)
      · gi_wp2
        go_roundw
        case rel => exact ⟨k + 1, by omega, by go_num, by rw [upto_succ]; simpa [pairAt, hlt] using hJ3, (hnx.trans (RingKp.drewN _ _ _ m)).trans hk3⟩
        case measure => simp [intOf]; omega
      · gi_wp2
        refine bodyPost_ret (results_none rfl _ _ _) rfl ?_
        exact ⟨⟨_, rfl⟩, .inr ⟨_, ⟨k + 1, by omega, (upto_succ _ _).symm⟩, by simpa [pairAt, hlt] using hJx3⟩⟩
    · obtain rfl : k = zs.length := by omega
      gi_wp2
      go_end0
      exact ⟨⟨_, rfl⟩, .inl ⟨_, rfl, hJs⟩⟩

set_option maxHeartbeats 1000000 in
theorem ring_all (n : Nat) (w : World) (p : Option Addr) :
    CallsIn Fence.wide n Try.prog 85 #[.pointer p] w fun e w' => e = .returned (.func (.func 102) #[] #[.pointer (some ⟨w.heap.size, 0, none⟩)]) ∧ w' = w.alloc (.cells #[.pointer p] 28) := by
  refine callsIn_of_wp Try.func85 rfl trivial ?_ rfl
  simp only [Try.ntmps85, List.size_toArray, List.length_cons, List.length_nil, Nat.reduceAdd, Nat.reduceSub, Array.replicate_succ, Array.replicate_zero, List.push_toArray, List.append_toArray, List.nil_append, List.cons_append]
  gi_wp2
  go_ret
  exact ⟨rfl, rfl⟩

theorem ring_stops (n : Nat) (hn : 1 ≤ n) (Bs n₀ : Nat) (v : Value) (zs : List Int) (w : World) (hBs : Bs < w.heap.size) (hn₀ : n₀ ≤ w.heap.size)
    (hc : w.cell? ⟨Bs, 0, none⟩ = some v) (hI : RingIn n₀ w v zs) :
    SeqStopsK Fence.wide n Try.prog 102 #[.pointer (some ⟨Bs, 0, none⟩)] (fun x : Nat × Int => #[Value.int .i64 (x.1 : Int), Value.int .i64 x.2]) (RingKp Bs n₀) (fun ys => ys = upto (pairAt zs) zs.length)
      (fun pre => ∃ k, k ≤ zs.length ∧ pre = upto (pairAt zs) k) zs.length w := fun l J Jx W hW hJ _ hY h0 =>
  ring_all1 n hn l Bs n₀ v zs J Jx (fun pre W' m hj => hJ pre W' (W'.drewN m) none hj ⟨rfl, rfl, rfl, Nat.le_refl _, fun _ _ _ => rfl⟩ (fun r e => by cases e)) hY W ((hW.cell (p := ⟨Bs, 0, none⟩) hBs).trans hc) (hI.below (hW.mono hn₀)) h0
theorem ringKp_b {Bs n₀ : Nat} {w : World} (hn : n₀ ≤ w.heap.size) (hB : Bs < w.heap.size) (W : World) (l : Nat) (o o' : Obj) (hl : w.heap.size ≤ l) (h : W.heap[l]? = some o) (h1 : o.isCells = false) (h2 : o.isWalk = false) : RingKp Bs n₀ W (W.putObj l o') :=
  ⟨belowK_b hn W l o o' hl h h1 h2, (belowK_b (n₀ := w.heap.size) (w := w) (Nat.le_refl _) W l o o' hl h h1 h2).cell (p := ⟨Bs, 0, none⟩) hB⟩
end Go.Proofs.Ytfkpcmlajdmnfaa
