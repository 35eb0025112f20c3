import Derived.Test.YtipkgamiejenaaaGreatLooseT
import Derived.Test.YtipkgamiejenaaaGreatSepD
import Derived.WalkSpells
import Derived.IntWalk
import Derived.StillTailTactics
import Derived.RangeFuncBox
import Derived.RangeFuncLeaves
import Derived.RangeFuncCalls
import Derived.RangeFuncBound
import Derived.Shelf.Abstract
import Derived.WalkKit
import Derived.OwnWalkIn
import Derived.TacticsInMore
import Derived.LoopNIn
import Derived.LoopIn
import Derived.Maps.AppendAt

import Derived.RangeFuncNested
import Derived.Test.YtipkgamiejenaaaGreatMg8
import Derived.Test.YtipkgamiejenaaaGreatBase
import Derived.Test.YtipkgamiejenaaaGreatMg1
/- Contracts of package ring: what it tells of one place, and what it puts and takes. -/
namespace Go.Proofs.YtipkgamiejenaaaGreat
open Go Go.RowKit Go.MapKept
set_option maxRecDepth 100000
set_option linter.unusedVariables false
attribute [local go_sem] exactUpon looseUpon

/-- The cells, where the first one lies, and what the queue holds. -/
structure RingOk (n : Nat) (cs : List Int) (h : Nat) (l : List Int) : Prop where
  len : cs.length = n
  big : n ≤ 1048576
  head : h < n ∨ (n = 0 ∧ h = 0)
  long : l.length ≤ n
  get : ∀ i (hi : i < l.length), cs[(h + i) % n]? = some l[i]

def ringAt (v : Value) (n : Nat) (l : List Int) : HProp := fun f => ∃ b vs cs h, (v = .pointer (some ⟨b, 0, none⟩) ∧ RingOk n cs h l) ∧
  sep [blk b (.cells #[vs, .int .i64 (h : Nat), .int .i64 (l.length : Nat)] 283 (0, 0)), ownInts vs cs] f

theorem open_ring {w : World} {F : List HProp} {v : Value} {n : Nat} {l : List Int} (h : holds w (ringAt v n l :: F)) : ∃ b a c cs hd, v = .pointer (some ⟨b, 0, none⟩) ∧ RingOk n cs hd l ∧
    holds w (blk b (.cells #[.slice a n c, .int .i64 (hd : Nat), .int .i64 (l.length : Nat)] 283 (0, 0)) :: ownInts (.slice a n c) cs :: F) := by
  obtain ⟨b, h⟩ := h.open_ex
  obtain ⟨vs, h⟩ := h.open_ex
  obtain ⟨cs, h⟩ := h.open_ex
  obtain ⟨hd, h⟩ := h.open_ex
  obtain ⟨⟨h1, h2⟩, h⟩ := h.open_pure
  have h := holds_sep.1 h
  obtain ⟨a, c, rfl⟩ := ownInts_form (h.pick 1)
  rw [h2.len] at h
  exact ⟨b, a, c, cs, hd, h1, h2, h⟩
theorem shut_ring {w : World} {F : List HProp} {b n hd : Nat} {vs : Value} {cs l : List Int} (hm : RingOk n cs hd l)
    (h : holds w (blk b (.cells #[vs, .int .i64 (hd : Nat), .int .i64 (l.length : Nat)] 283 (0, 0)) :: ownInts vs cs :: F)) :
    holds w (ringAt (.pointer (some ⟨b, 0, none⟩)) n l :: F) :=
  (holds_sep (l := [_, _]).2 h).mono fun _ hf => ⟨b, vs, cs, hd, ⟨rfl, hm⟩, hf⟩

/-- Where a place lies. -/
theorem ring_cell (w : World) (b n c h i : Nat) (a : Option Addr) (m : Int) (F : List HProp) (hn : 0 < n) (hbig : n ≤ 1048576) (hh : h < n) (hi : i ≤ 1048576)
    (hw : holds w (blk b (.cells #[.slice a n c, .int .i64 (h : Nat), .int .i64 m] 283 (0, 0)) :: F)) :
    Calls Tryz.prog 213 #[.pointer (some ⟨b, 0, none⟩), .int .i64 (i : Nat)] w fun e w' => e = .returned (.int .i64 ((h + i) % n : Nat)) ∧
      holds w' (blk b (.cells #[.slice a n c, .int .i64 (h : Nat), .int .i64 m] 283 (0, 0)) :: F) := by
  have c0 := cellAt hw.get_blk 0
  have c1 := cellAt hw.get_blk 1
  simp at c0 c1
  have e1 : IntKind.i64.wrap ((h : Int) + i) = (h : Int) + i := IntWalk.i64_in _ (by omega)
  have e2 : ((n : Int) == 0) = false := by simp; omega
  have e3 : Int.tmod ((h : Int) + i) n = (((h + i) % n : Nat) : Int) := by
    rw [Int.natCast_emod, Int.natCast_add]; exact Int.tmod_eq_emod_of_nonneg (by omega)
  have e4 : IntKind.i64.wrap (((h + i) % n : Nat) : Int) = (((h + i) % n : Nat) : Int) := IntWalk.i64_in _ (by have := Nat.mod_lt (h + i) hn; omega)
  generalize hr : (((h + i) % n : Nat) : Int) = r at e3 e4 ⊢
  clear hr
  go_enter Tryz.func213, Tryz.ntmps213
  go_wp2_with fail
  go_quiet (fail)
  go_wp2_with fail
  go_ret
  exact ⟨rfl, hw.drewN _⟩

theorem RingOk.new (n : Nat) (h : n ≤ 1048576) : RingOk n (List.replicate n 0) 0 [] := ⟨by simp, h, by omega, by simp, fun i hi => by simp at hi⟩
theorem ring_New (w : World) (n : Int) (F : List HProp) (h0 : 0 ≤ n) (h1 : n ≤ 1048576) (hw : holds w F) :
    Calls Tryz.prog 167 #[.int .i64 n] w fun e w' => ∃ v, e = .returned v ∧ holds w' (ringAt v n.toNat [] :: F) := by
  obtain ⟨n, rfl⟩ := Int.eq_ofNat_of_zero_le h0
  have hn : n ≤ 1048576 := by omega
  have h2 : ¬ (n : Int) < 0 := by omega
  have h3 : decide ((1048576 : Int) < n) = false := by simp; omega
  rw [Int.toNat_natCast]
  obtain ⟨i0, hi, hz0, hz1, hz2⟩ := info_parts Tryz.infoInt
  have hm := fun w (hw : holds w F) => run_make_sl (P := Tryz.prog) (t := 31) Tryz.underlying31 hi hz0 hz1 hw .i64 .i64 (x := n) (c := n) (by omega) (by omega) (by rw [hz2]; omega) (by omega)
  have hm1 := (hm w hw).1
  simp only [Int.toNat_natCast, Nat.mul_one] at hm1
  clear hm hi hz0 hz1 hz2
  go_enter Tryz.func167, Tryz.ntmps167
  go_wp2
  go_ret
  have h4 := ((hw.madeInts n (by unfold maxLen; omega)).alloc (.cells #[.slice (some ⟨w.heap.size, 0, none⟩) n n, .int .i64 (0 : Nat), .int .i64 (([] : List Int).length : Nat)] 283 (0, 0)))
  simp only [World.size_alloc] at h4
  exact ⟨_, rfl, shut_ring (RingOk.new n hn) h4⟩

/-- What lies at a place. -/
def ringGet (l : List Int) (i : Int) : Int × Bool := if 0 ≤ i ∧ i < l.length then (l.getD i.toNat 0, true) else (0, false)
theorem ring_At (w : World) (v : Value) (n : Nat) (l : List Int) (i : Int) (F : List HProp) (hw : holds w (ringAt v n l :: F)) :
    Calls Tryz.prog 232 #[v, .int .i64 i] w fun e w' => e = .returned (.tuple #[.int .i64 (ringGet l i).1, .bool (ringGet l i).2]) ∧ holds w' (ringAt v n l :: F) := by
  obtain ⟨b, a, c, cs, hd, rfl, hm, h⟩ := open_ring hw
  have c2 := cellAt h.get_blk 2
  simp at c2
  by_cases h0 : 0 ≤ i
  · by_cases h1 : i < l.length
    · obtain ⟨k, rfl⟩ := Int.eq_ofNat_of_zero_le h0
      have hk : k < l.length := by omega
      have hn : 0 < n := by have := hm.long; omega
      have hg := hm.get k hk
      have hj := Nat.mod_lt (hd + k) hn
      have hk2 : k ≤ 1048576 := by have := hm.long; have := hm.big; omega
      have hbig := hm.big
      have hhd : hd < n := by have := hm.head; omega
      have hcs : cs.length = n := hm.len
      have e : ringGet l (k : Int) = (l[k], true) := by unfold ringGet; rw [if_pos ⟨h0, h1⟩]; simp [hk]
      rw [e]
      dsimp only
      obtain ⟨g, cap, hv⟩ : ∃ g cap, Value.slice a n c = .slice (some ⟨g, 0, none⟩) cs.length cap := let ⟨g, cap, hv, _⟩ := (h.pick 1).intAt ((hd + k) % n) (by omega); ⟨g, cap, hv⟩
      have ha : a = some ⟨g, 0, none⟩ := by injection hv
      subst ha
      clear hv
      have hx : cs[(hd + k) % n]'(by omega) = l[k] := by
        have := List.getElem?_eq_getElem (l := cs) (i := (hd + k) % n) (by omega)
        rw [this] at hg; injection hg
      have hshut : ∀ w, holds w (blk b (.cells #[.slice (some ⟨g, 0, none⟩) n c, .int .i64 (hd : Nat), .int .i64 (l.length : Nat)] 283 (0, 0)) :: ownInts (.slice (some ⟨g, 0, none⟩) n c) cs :: F) → holds w (ringAt (.pointer (some ⟨b, 0, none⟩)) n l :: F) := fun w h => shut_ring hm h
      have hse : ∀ w, holds w (blk b (.cells #[.slice (some ⟨g, 0, none⟩) n c, .int .i64 (hd : Nat), .int .i64 (l.length : Nat)] 283 (0, 0)) :: ownInts (.slice (some ⟨g, 0, none⟩) n c) cs :: F) → w.cell? ⟨b, 0, none⟩ = some (.slice (some ⟨g, 0, none⟩) n c) ∧ w.cell? ⟨g, (hd + k) % n, none⟩ = some (.int .i64 l[k]) := fun w h => ⟨cellAt h.get_blk 0, by
        obtain ⟨g', cap, hv, _, _, h3, _⟩ := (h.pick 1).intAt ((hd + k) % n) (by omega)
        cases hv
        rw [h3, hx]⟩
      have hcell : ∀ w F', holds w ((blk b (.cells #[.slice (some ⟨g, 0, none⟩) n c, .int .i64 (hd : Nat), .int .i64 (l.length : Nat)] 283 (0, 0)) :: ownInts (.slice (some ⟨g, 0, none⟩) n c) cs :: F) ++ F') → Calls Tryz.prog 213 #[.pointer (some ⟨b, 0, none⟩), .int .i64 (k : Nat)] w fun e w' => e = .returned (.int .i64 ((hd + k) % n : Nat)) ∧ holds w' ((blk b (.cells #[.slice (some ⟨g, 0, none⟩) n c, .int .i64 (hd : Nat), .int .i64 (l.length : Nat)] 283 (0, 0)) :: ownInts (.slice (some ⟨g, 0, none⟩) n c) cs :: F) ++ F') := fun w F' h => ring_cell w b n c hd k _ _ _ hn hbig hhd hk2 h
      clear hx hg hm e
      generalize (blk b _ :: _ : List HProp) = B at h hshut hse hcell
      generalize (hd + k) % n = j at hse hcell hj
      generalize l[k] = x at hse
      have HSE := Lib.hid hse
      have HC := Lib.hid hcell
      have HSH := Lib.hid hshut
      clear hse hcell hshut
      go_enter Tryz.func232, Tryz.ntmps232
      go_wp2_with fail
      refine wp_region_loose (fun k => match k with | 6 => some ⟨fun u => u = .int .i64 (j : Nat), fun _ => []⟩ | _ => none) B (by kernel_rfl) (by kernel_rfl) h ?_
      iterate 6
        refine loose_exact rfl (fun K hK => ?_)
        go_simp
        first
          | (intro w hw
             obtain ⟨c0, c1⟩ := HSE.out _ hw
             go_simp
             refine hK _ ?_
             clear hK K c0 c1 hw w)
          | (intro w hw
             refine hK _ ?_
             clear hK K hw w)
          | (refine hK _ ?_; clear hK K)
      refine loose_call (k := 6) rfl (by go_simp) (fun w F hw => ?_) (fun u hu => ?_)
      · go_simp
        go_at_call 213
        exact (HC.out _ _ hw).mono fun e w' ⟨he, hh⟩ => ⟨_, he, rfl, hh⟩
      obtain rfl := hu
      iterate 4
        refine loose_exact rfl (fun K hK => ?_)
        go_simp
        first
          | (intro w hw
             obtain ⟨c0, c1⟩ := HSE.out _ hw
             go_simp
             refine hK _ ?_
             clear hK K c0 c1 hw w)
          | (intro w hw
             refine hK _ ?_
             clear hK K hw w)
          | (refine hK _ ?_; clear hK K)
      refine loose_nil ?_
      clear h
      intro wq h
      go_wp2_with fail
      go_ret2
      exact ⟨rfl, HSH.out _ h⟩
    · have e : ringGet l i = (0, false) := by unfold ringGet; rw [if_neg (fun h => h1 h.2)]
      rw [e]
      clear e
      dsimp only
      go_enter Tryz.func232, Tryz.ntmps232
      go_wp2
      go_ret2
      exact ⟨rfl, hw⟩
  · have e : ringGet l i = (0, false) := by unfold ringGet; rw [if_neg (fun h => h0 h.1)]
    rw [e]
    clear e
    dsimp only
    have hneg : i < 0 := by omega
    go_enter Tryz.func232, Tryz.ntmps232
    go_wp2
    go_ret2
    exact ⟨rfl, hw⟩
theorem ring_First (w : World) (v : Value) (n : Nat) (l : List Int) (F : List HProp) (hw : holds w (ringAt v n l :: F)) :
    Calls Tryz.prog 230 #[v] w fun e w' => e = .returned (.tuple #[.int .i64 (ringGet l 0).1, .bool (ringGet l 0).2]) ∧ holds w' (ringAt v n l :: F) := by
  have H := Lib.hid (ring_At w v n l 0 F hw)
  go_enter Tryz.func230, Tryz.ntmps230
  go_wp2_with fail
  refine H.out.mono ?_
  rintro e w1 ⟨rfl, h1⟩
  go_wp2_with fail
  go_ret2
  exact ⟨rfl, h1⟩

theorem RingOk.tail {n hd : Nat} {cs : List Int} {x : Int} {l : List Int} (h : RingOk n cs hd (x :: l)) : RingOk n cs ((hd + 1) % n) l := by
  have hn : 0 < n := by have := h.long; simp at this; omega
  refine ⟨h.len, h.big, .inl (Nat.mod_lt _ hn), by have := h.long; simp at this; omega, fun i hi => ?_⟩
  have := h.get (i + 1) (by simp; omega)
  rw [Nat.mod_add_mod, Nat.add_assoc, Nat.add_comm 1 i, this]
  simp
theorem RingOk.put {n hd : Nat} {cs : List Int} {l : List Int} (h : RingOk n cs hd l) (hl : l.length < n) (x : Int) : RingOk n (cs.set ((hd + l.length) % n) x) hd (l ++ [x]) := by
  have hn : 0 < n := by omega
  have hhd : hd < n := by have := h.head; omega
  refine ⟨by rw [List.length_set]; exact h.len, h.big, h.head, by simp; omega, fun i hi => ?_⟩
  by_cases hil : i < l.length
  · have hne : (hd + l.length) % n ≠ (hd + i) % n := fun e => by
      have h1 := Nat.mod_add_div (hd + l.length) n
      have h2 := Nat.mod_add_div (hd + i) n
      have hk := Nat.sub_mod_eq_zero_of_mod_eq e
      have h3 : hd + l.length - (hd + i) = l.length - i := by omega
      rw [h3, Nat.mod_eq_of_lt (by omega)] at hk
      omega
    rw [List.getElem?_set_ne hne, h.get i hil, List.getElem_append_left hil]
  · have hi2 : i = l.length := by simp at hi; omega
    subst hi2
    have hj := Nat.mod_lt (hd + l.length) hn
    rw [List.getElem?_set_self (by rw [h.len]; exact hj)]
    simp

/-- What is taken, and what is left. -/
theorem ring_Take (w : World) (v : Value) (n : Nat) (l : List Int) (F : List HProp) (hw : holds w (ringAt v n l :: F)) :
    Calls Tryz.prog 214 #[v] w fun e w' => e = .returned (.tuple #[.int .i64 (ringGet l 0).1, .bool (ringGet l 0).2]) ∧ holds w' (ringAt v n (l.drop 1) :: F) := by
  have H := Lib.hid (ring_First w v n l F hw)
  cases l with
  | nil =>
    have e : ringGet [] 0 = (0, false) := by simp [ringGet]
    rw [e] at H ⊢
    dsimp only at H ⊢
    clear e
    go_enter Tryz.func214, Tryz.ntmps214
    go_wp2_with fail
    refine H.out.mono ?_
    rintro e w1 ⟨rfl, h1⟩
    go_wp2_with fail
    go_ret2
    exact ⟨rfl, h1⟩
  | cons x l =>
    have e : ringGet (x :: l) 0 = (x, true) := by simp [ringGet]
    rw [e] at H ⊢
    dsimp only at H ⊢
    clear e
    have HC := Lib.hid ring_cell
    go_enter Tryz.func214, Tryz.ntmps214
    go_wp2_with fail
    refine H.out.mono ?_
    rintro e w1 ⟨rfl, h1⟩
    obtain ⟨b, a, c, cs, hd, rfl, hm, h⟩ := open_ring h1
    have hn : 0 < n := by have := hm.long; simp at this; omega
    have hbig := hm.big
    have hhd : hd < n := by have := hm.head; omega
    go_wp2_with fail
    refine (HC.out w1 b n c hd 1 a _ _ hn hbig hhd (by omega) h).mono ?_
    rintro e w2 ⟨rfl, h2⟩
    have c0 := cellAt h2.get_blk 1
    have c1 := cellAt h2.get_blk 2
    have f0 := frozen_of_row w2 b 1 _ _ h2.get_blk
    have f1 := frozen_of_row w2 b 2 _ _ h2.get_blk
    simp only [List.getElem?_toArray, List.getElem?_cons_succ, List.getElem?_cons_zero] at c0 c1
    have e1 : IntKind.i64.wrap (((x :: l).length : Nat) - 1 : Int) = (l.length : Nat) := by rw [List.length_cons]; rw [show ((l.length + 1 : Nat) : Int) - 1 = (l.length : Nat) by omega]; exact IntWalk.i64_in _ (by have := hm.long; simp at this; omega)
    have hT := hm.tail
    generalize (hd + 1) % n = j at hT ⊢
    generalize hlen : ((x :: l).length : Nat) = len at c1 e1 h2
    clear hm hn hbig hhd HC H h h1 hw hlen
    go_wp2_with fail
    go_ret2
    exact ⟨rfl, shut_ring hT ((h2.setCell 1 (.int .i64 (j : Nat))).setCell 2 (.int .i64 (l.length : Nat)))⟩

theorem ring_Put (w : World) (v : Value) (n : Nat) (l : List Int) (x : Int) (F : List HProp) (hl : l.length < n) (hw : holds w (ringAt v n l :: F)) :
    Calls Tryz.prog 172 #[v, .int .i64 x] w fun e w' => e = .returned (.bool true) ∧ holds w' (ringAt v n (l ++ [x]) :: F) := by
  obtain ⟨b, a, c, cs, hd, rfl, hm, h⟩ := open_ring hw
  have hn : 0 < n := by omega
  have hbig := hm.big
  have hhd : hd < n := by have := hm.head; omega
  have hj := Nat.mod_lt (hd + l.length) hn
  have hcs := hm.len
  obtain ⟨g, cap, hv⟩ : ∃ g cap, Value.slice a n c = .slice (some ⟨g, 0, none⟩) cs.length cap := let ⟨g, cap, hv, _⟩ := (h.pick 1).intAt ((hd + l.length) % n) (by omega); ⟨g, cap, hv⟩
  have ha : a = some ⟨g, 0, none⟩ := by injection hv
  subst ha
  clear hv
  have hT := hm.put hl x
  have c0 := cellAt h.get_blk 0
  have c2 := cellAt h.get_blk 2
  simp at c0 c2
  have hb : ((l.length : Int) == (n : Int)) = false := by simp; omega
  have hse : ∀ w, holds w (blk b (.cells #[.slice (some ⟨g, 0, none⟩) n c, .int .i64 (hd : Nat), .int .i64 (l.length : Nat)] 283 (0, 0)) :: ownInts (.slice (some ⟨g, 0, none⟩) n c) cs :: F) → w.cell? ⟨b, 0, none⟩ = some (.slice (some ⟨g, 0, none⟩) n c) ∧ w.cell? ⟨b, 2, none⟩ = some (.int .i64 (l.length : Nat)) ∧ w.frozen? ⟨b, 2, none⟩ = false := fun w h => ⟨cellAt h.get_blk 0, cellAt h.get_blk 2, frozen_of_row w b 2 _ _ h.get_blk⟩
  have hcell : ∀ w F', holds w ((blk b (.cells #[.slice (some ⟨g, 0, none⟩) n c, .int .i64 (hd : Nat), .int .i64 (l.length : Nat)] 283 (0, 0)) :: ownInts (.slice (some ⟨g, 0, none⟩) n c) cs :: F) ++ F') → Calls Tryz.prog 213 #[.pointer (some ⟨b, 0, none⟩), .int .i64 (l.length : Nat)] w fun e w' => e = .returned (.int .i64 ((hd + l.length) % n : Nat)) ∧ holds w' ((blk b (.cells #[.slice (some ⟨g, 0, none⟩) n c, .int .i64 (hd : Nat), .int .i64 (l.length : Nat)] 283 (0, 0)) :: ownInts (.slice (some ⟨g, 0, none⟩) n c) cs :: F) ++ F') := fun w F' h => ring_cell w b n c hd l.length _ _ _ hn hbig hhd (by omega) h
  have hset : ∀ w', holds w' (ownInts (.slice (some ⟨g, 0, none⟩) n c) (cs.set ((hd + l.length) % n) x) :: blk b (.cells #[.slice (some ⟨g, 0, none⟩) n c, .int .i64 (hd : Nat), .int .i64 (l.length : Nat)] 283 (0, 0)) :: F) → w'.cell? ⟨b, 2, none⟩ = some (.int .i64 (l.length : Nat)) ∧ w'.frozen? ⟨b, 2, none⟩ = false ∧ holds (w'.setCell ⟨b, 2, none⟩ (.int .i64 ((l.length : Int) + 1))) (ringAt (.pointer (some ⟨b, 0, none⟩)) n (l ++ [x]) :: F) := fun w' h => ⟨cellAt (h.pick 1).get_blk 2, frozen_of_row w' b 2 _ _ (h.pick 1).get_blk, shut_ring hT (by
    have := ((h.pick 1).setCell 2 (.int .i64 ((l.length : Int) + 1)))
    rw [show ((l ++ [x]).length : Int) = (l.length : Int) + 1 from by simp]
    exact this)⟩
  have hpk : ∀ w, holds w (blk b (.cells #[.slice (some ⟨g, 0, none⟩) n c, .int .i64 (hd : Nat), .int .i64 (l.length : Nat)] 283 (0, 0)) :: ownInts (.slice (some ⟨g, 0, none⟩) n c) cs :: F) → holds w (ownInts (.slice (some ⟨g, 0, none⟩) n c) cs :: blk b (.cells #[.slice (some ⟨g, 0, none⟩) n c, .int .i64 (hd : Nat), .int .i64 (l.length : Nat)] 283 (0, 0)) :: F) := fun w h => h.pick 1
  have hjc : (hd + l.length) % n < cs.length := by omega
  have hl2 : l.length < 1048576 := by omega
  clear hT hm hw hcs
  generalize (blk b _ :: ownInts _ _ :: _ : List HProp) = B at h hse hcell hpk
  generalize (hd + l.length) % n = j at hcell hj hset hjc
  have HSE := Lib.hid hse
  have HC := Lib.hid hcell
  have HSET := Lib.hid hset
  have HP := Lib.hid hpk
  generalize l.length = m at c2 hb HSE HC HSET HP hl2
  have e1 : IntKind.i64.wrap ((m : Int) + 1) = (m : Int) + 1 := IntWalk.i64_in _ (by omega)
  clear hse hcell hset hpk
  go_enter Tryz.func172, Tryz.ntmps172
  go_wp2_with fail
  go_quiet (fail)
  go_wp2_with fail
  have h := h.drewN nq
  refine wp_region_loose_tail 12 (fun k => match k with | 9 => some ⟨fun u => u = .int .i64 (j : Nat), fun _ => []⟩ | _ => none) B (by kernel_rfl) (by kernel_rfl) h ?_
  simp only [List.take_succ_cons, List.take_zero, List.drop_succ_cons, List.drop_zero]
  iterate 9
    refine loose_exact rfl (fun K hK => ?_)
    go_simp
    first
      | (intro w hw
         obtain ⟨c0, c1, f1⟩ := HSE.out _ hw
         go_simp
         refine hK _ ?_
         clear hK K c0 c1 f1 hw w)
      | (intro w hw
         refine hK _ ?_
         clear hK K hw w)
      | (refine hK _ ?_; clear hK K)
  refine loose_call (k := 9) rfl (by go_simp) (fun w F hw => ?_) (fun u hu => ?_)
  · go_simp
    go_at_call 213
    exact (HC.out _ _ hw).mono fun e w' ⟨he, hh⟩ => ⟨_, he, rfl, hh⟩
  obtain rfl := hu
  iterate 2
    refine loose_exact rfl (fun K hK => ?_)
    go_simp
    first
      | (intro w hw
         obtain ⟨c0, c1, f1⟩ := HSE.out _ hw
         go_simp
         refine hK _ ?_
         clear hK K c0 c1 f1 hw w)
      | (intro w hw
         refine hK _ ?_
         clear hK K hw w)
      | (refine hK _ ?_; clear hK K)
  refine loose_nil ?_
  clear h
  intro wq h
  have h3 := HP.out _ h
  refine wpList_setInt rfl rfl _ _ rfl (i := j) rfl rfl h3 hjc fun w' hw' => ?_
  obtain ⟨d0, d1, d2⟩ := HSET.out _ hw'
  go_wp2_with fail
  go_ret
  exact ⟨rfl, d2⟩
end Go.Proofs.YtipkgamiejenaaaGreat

/- The ring's iterator, and what is collected from it. -/
namespace Go.Proofs.YtipkgamiejenaaaGreat
open Go Go.RowKit Go.MapKept Go.Shelf
set_option maxRecDepth 100000
set_option linter.unusedVariables false
attribute [local go_sem] Oper.semAt_some

/-- The ring's cells, below n₀; or there is no ring. -/
def RingIn (n₀ : Nat) (W : World) (v : Value) (l : List Int) : Prop :=
  (v = .pointer none ∧ l = []) ∨ ∃ b a c n cs hd, v = .pointer (some ⟨b, 0, none⟩) ∧ RingOk n cs hd l ∧ b < n₀ ∧ W.cell? ⟨b, 0, none⟩ = some (.slice a n c) ∧ W.cell? ⟨b, 1, none⟩ = some (.int .i64 (hd : Nat)) ∧ W.cell? ⟨b, 2, none⟩ = some (.int .i64 (l.length : Nat)) ∧
    (0 < n → ∃ g, a = some ⟨g, 0, none⟩ ∧ g < n₀ ∧ ∀ j (hj : j < cs.length), W.cell? ⟨g, j, none⟩ = some (.int .i64 cs[j]))
theorem RingIn.below {n₀ : Nat} {A B : World} (h : Below n₀ A B) {v : Value} {l : List Int} : RingIn n₀ A v l → RingIn n₀ B v l
  | .inl e => .inl e
  | .inr ⟨b, a, c, n, cs, hd, e, hm, hb, c0, c1, c2, hg⟩ => .inr ⟨b, a, c, n, cs, hd, e, hm, hb, (h.cell (p := ⟨b, 0, none⟩) hb).trans c0, (h.cell (p := ⟨b, 1, none⟩) hb).trans c1, (h.cell (p := ⟨b, 2, none⟩) hb).trans c2, fun hn => let ⟨g, ha, hgn, hc⟩ := hg hn; ⟨g, ha, hgn, fun j hj => (h.cell (p := ⟨g, j, none⟩) hgn).trans (hc j hj)⟩⟩
theorem RingIn.len {n₀ : Nat} {W : World} {v : Value} {l : List Int} : RingIn n₀ W v l → l.length ≤ 1048576
  | .inl e => by rw [e.2]; simp
  | .inr ⟨b, a, c, n, cs, hd, e, hm, hb, c0, c1, c2, hg⟩ => Nat.le_trans hm.long hm.big
theorem RingIn.of {w : World} {v : Value} {n : Nat} {l : List Int} {F : List HProp} (hw : holds w (ringAt v n l :: F)) : RingIn w.heap.size w v l := by
  obtain ⟨b, a, c, cs, hd, rfl, hm, h⟩ := open_ring hw
  refine .inr ⟨b, a, c, n, cs, hd, rfl, hm, h.lt, cellAt h.get_blk 0, cellAt h.get_blk 1, cellAt h.get_blk 2, fun hn => ?_⟩
  have hl := hm.len
  rcases (holds.open_own (h.pick 1)).2 with ⟨_, h0, _⟩ | ⟨g, cap, cur, hv, _, _, _, _, h8⟩
  · omega
  · cases hv
    refine ⟨g, rfl, h8.lt, fun j hj => ?_⟩
    obtain ⟨g', cap', hv, _, _, h3, _⟩ := (h.pick 1).intAt j hj
    cases hv
    exact h3

theorem ringQ_cell (w : World) (b n c h i : Nat) (a : Option Addr) (hn : 0 < n) (hbig : n ≤ 1048576) (hh : h < n) (hi : i ≤ 1048576)
    (c0 : w.cell? ⟨b, 0, none⟩ = some (.slice a n c)) (c1 : w.cell? ⟨b, 1, none⟩ = some (.int .i64 (h : Nat))) :
    Calls Tryz.prog 213 #[.pointer (some ⟨b, 0, none⟩), .int .i64 (i : Nat)] w fun e w' => e = .returned (.int .i64 ((h + i) % n : Nat)) ∧ ∃ m, w' = w.drewN m := by
  have e1 : IntKind.i64.wrap ((h : Int) + i) = (h : Int) + i := IntWalk.i64_in _ (by omega)
  have e2 : ((n : Int) == 0) = false := by simp; omega
  have e3 : Int.tmod ((h : Int) + i) n = (((h + i) % n : Nat) : Int) := by
    rw [Int.natCast_emod, Int.natCast_add]; exact Int.tmod_eq_emod_of_nonneg (by omega)
  have e4 : IntKind.i64.wrap (((h + i) % n : Nat) : Int) = (((h + i) % n : Nat) : Int) := IntWalk.i64_in _ (by have := Nat.mod_lt (h + i) hn; omega)
  generalize hr : (((h + i) % n : Nat) : Int) = r at e3 e4 ⊢
  clear hr
  go_enter Tryz.func213, Tryz.ntmps213
  go_wp2_with fail
  go_quiet (fail)
  go_wp2_with fail
  go_ret
  exact ⟨rfl, nq, rfl⟩

theorem ringQ_Len (n₀ : Nat) (w : World) (v : Value) (l : List Int) (h : RingIn n₀ w v l) :
    Calls Tryz.prog 220 #[v] w fun e w' => e = .returned (.int .i64 (l.length : Nat)) ∧ w' = w := by
  rcases h with ⟨rfl, rfl⟩ | ⟨b, a, c, n, cs, hd, rfl, hm, hb, c0, c1, c2, hg⟩
  · go_enter Tryz.func220, Tryz.ntmps220
    go_wp2
    go_ret
    exact ⟨rfl, rfl⟩
  · clear hm hg c0 c1
    go_enter Tryz.func220, Tryz.ntmps220
    go_wp2
    go_ret
    exact ⟨rfl, rfl⟩

theorem ringQ_At (n₀ : Nat) (w : World) (v : Value) (l : List Int) (k : Nat) (hk : k < l.length) (h : RingIn n₀ w v l) :
    Calls Tryz.prog 232 #[v, .int .i64 k] w fun e w' => e = .returned (.tuple #[.int .i64 l[k], .bool true]) ∧ ∃ m, w' = w.drewN m := by
  rcases h with ⟨rfl, rfl⟩ | ⟨b, a, c, n, cs, hd, rfl, hm, hb, c0, c1, c2, hg⟩
  · simp at hk
  · have hn : 0 < n := by have := hm.long; omega
    obtain ⟨g, rfl, _, hcs⟩ := hg hn
    have hgk := hm.get k hk
    have hj := Nat.mod_lt (hd + k) hn
    have hlen := hm.len
    have hx := hcs ((hd + k) % n) (by omega)
    have hxx : cs[(hd + k) % n]'(by omega) = l[k] := by
      have := List.getElem?_eq_getElem (l := cs) (i := (hd + k) % n) (by omega)
      rw [this] at hgk; injection hgk
    rw [hxx] at hx
    have hhd : hd < n := by have := hm.head; omega
    have hbig := hm.big
    have HC := Lib.hid (fun m => ringQ_cell (w.drewN m) b n c hd k _ hn hbig hhd (by have := hm.long; omega) c0 c1)
    clear hxx
    generalize (hd + k) % n = j at hx hj HC
    generalize l[k] = x at hx ⊢
    clear hm hgk hcs hg c1
    have h0 : (0 : Int) ≤ k := by omega
    have hkl : (k : Int) < l.length := by omega
    go_enter Tryz.func232, Tryz.ntmps232
    go_wp2_with fail
    go_quiet ((go_at_call 213; exact Calls.quiet_of (HC.out _)))
    go_wp2_with fail
    go_ret2
    exact ⟨rfl, nq, rfl⟩

/-- What has come when k rounds are over. -/
def upto {α : Type} (f : Nat → α) (k : Nat) : List α := (List.range k).map f
theorem upto_succ {α : Type} (f : Nat → α) (k : Nat) : upto f (k + 1) = upto f k ++ [f k] := by simp [upto, List.range_succ]
theorem upto_length {α : Type} (f : Nat → α) (k : Nat) : (upto f k).length = k := by simp [upto]
def pairAt (l : List Int) (j : Nat) : Nat × Int := (j, l[j]?.getD 0)

/-- What a round that goes on keeps: what lay below n₀, and the box. -/
def RingKp (Bs n₀ : Nat) (A B : World) : Prop := Below n₀ A B ∧ B.cell? ⟨Bs, 0, none⟩ = A.cell? ⟨Bs, 0, none⟩
theorem RingKp.refl (Bs n₀ : Nat) (A : World) : RingKp Bs n₀ A A := ⟨Below.refl _ _, rfl⟩
theorem RingKp.drewN (Bs n₀ : Nat) (A : World) (m : Nat) : RingKp Bs n₀ A (A.drewN m) := ⟨⟨(Below.refl n₀ A).os, (Below.refl n₀ A).tape, (Below.refl n₀ A).output, (Below.refl n₀ A).size, (Below.refl n₀ A).block⟩, rfl⟩
theorem RingKp.trans {Bs n₀ : Nat} {A B C : World} (h : RingKp Bs n₀ A B) (k : RingKp Bs n₀ B C) : RingKp Bs n₀ A C := ⟨h.1.trans k.1, k.2.trans h.2⟩

set_option maxHeartbeats 2000000 in
/-- The iterator's closure. -/
theorem ring_all1 (n : Nat) (hn : 1 ≤ n) (l Bs n₀ : Nat) (v : Value) (zs : List Int) (J Jx : List (Nat × Int) → World → Prop)
    (hJd : ∀ pre W m, J pre W → J pre (W.drewN m))
    (hY : ∀ pre x W, J pre W → pre.length < zs.length → YieldAt Fence.wide (n - 1) Tryz.prog l #[.int .i64 (x.1 : Int), .int .i64 x.2] W fun e W' =>
      (e = .returned (.bool true) ∧ J (pre ++ [x]) W' ∧ RingKp Bs n₀ W W') ∨ (e = .returned (.bool false) ∧ Jx (pre ++ [x]) W'))
    (W : World) (hBs : W.cell? ⟨Bs, 0, none⟩ = some v) (hR : RingIn n₀ W v zs) (h0 : J [] W) :
    CallsIn Fence.wide n Tryz.prog 231 #[.func (.yield l) #[] #[], .pointer (some ⟨Bs, 0, none⟩)] W fun e W' => (∃ v, e = .returned v) ∧
      ((∃ ys, ys = upto (pairAt zs) zs.length ∧ J ys W') ∨ (∃ pre, (∃ k, k ≤ zs.length ∧ pre = upto (pairAt zs) k) ∧ Jx pre W')) := by
  have hzl := hR.len
  have HL := Lib.hid (fun W (h : RingIn n₀ W v zs) => callsIn_wide (n := n - 1) |>.2 (ringQ_Len n₀ W v zs h))
  have HA := Lib.hid (fun W (k : Nat) (hk : k < zs.length) (h : RingIn n₀ W v zs) => callsIn_wide (n := n - 1) |>.2 (ringQ_At n₀ W v zs k hk h))
  refine callsIn_of_wp Tryz.func231 rfl trivial ?_ rfl
  simp only [Tryz.ntmps231, List.size_toArray, List.length_cons, List.length_nil, Nat.reduceAdd, Nat.reduceSub, Array.replicate_succ, Array.replicate_zero, List.push_toArray, List.append_toArray, List.nil_append, List.cons_append]
  gi_wp2_with (refine ⟨trivial, ?_⟩; gi_at_call 220; refine (HL.out _ hR).mono ?_; rintro e w' ⟨rfl, rfl⟩)
  gi_loopw [8] (fun i wr => ∃ k : Nat, k ≤ zs.length ∧ i = .int .i64 k ∧ J (upto (pairAt zs) k) wr ∧ RingKp Bs n₀ w' wr)
    (fun i _ => zs.length - (intOf i).toNat)
  case atStart => exact ⟨0, Nat.zero_le _, rfl, h0, RingKp.refl _ _ _⟩
  case round =>
    obtain ⟨k, hk, rfl, hJs, hnx⟩ := hrel
    have hcx := hnx.2.trans hBs
    have hRx := hR.below hnx.1
    by_cases hlt : k < zs.length
    · have HAk := Lib.hid (HA.out wr k hlt hRx)
      gi_wp2_with (refine ⟨trivial, ?_⟩; gi_at_call 232; refine HAk.out.mono ?_; rintro e w5 ⟨rfl, m, rfl⟩)
      have hJ2 := hJd _ _ m hJs
      have hY2 := hY _ (k, zs[k]) (wr.drewN m) hJ2 (by rw [upto_length]; exact hlt)
      skip
      obtain ⟨fn, tmps, assign, body, hy, hR3⟩ := hY2
      dsimp only at hy
      rw [hy]
      gi_wp2
      refine hR3.mono ?_
      rintro e W3 (⟨rfl, hJ3, hk3⟩ | ⟨rfl, hJx3⟩)
      · gi_wp2
        go_roundw
        case rel => exact ⟨k + 1, by omega, by go_num, by rw [upto_succ]; simpa [pairAt, hlt] using hJ3, (hnx.trans (RingKp.drewN _ _ _ m)).trans hk3⟩
        case measure => simp [intOf]; omega
      · gi_wp2
        refine bodyPost_ret (results_none rfl _ _ _) rfl ?_
        exact ⟨⟨_, rfl⟩, .inr ⟨_, ⟨k + 1, by omega, (upto_succ _ _).symm⟩, by simpa [pairAt, hlt] using hJx3⟩⟩
    · obtain rfl : k = zs.length := by omega
      gi_wp2
      go_end0
      exact ⟨⟨_, rfl⟩, .inl ⟨_, rfl, hJs⟩⟩

set_option maxHeartbeats 1000000 in
theorem ring_all (n : Nat) (w : World) (p : Option Addr) :
    CallsIn Fence.wide n Tryz.prog 221 #[.pointer p] w fun e w' => e = .returned (.func (.func 231) #[] #[.pointer (some ⟨w.heap.size, 0, none⟩)]) ∧ w' = w.alloc (.cells #[.pointer p] 240) := by
  refine callsIn_of_wp Tryz.func221 rfl trivial ?_ rfl
  simp only [Tryz.ntmps221, List.size_toArray, List.length_cons, List.length_nil, Nat.reduceAdd, Nat.reduceSub, Array.replicate_succ, Array.replicate_zero, List.push_toArray, List.append_toArray, List.nil_append, List.cons_append]
  gi_wp2
  go_ret
  exact ⟨rfl, rfl⟩

theorem ring_stops (n : Nat) (hn : 1 ≤ n) (Bs n₀ : Nat) (v : Value) (zs : List Int) (w : World) (hBs : Bs < w.heap.size) (hn₀ : n₀ ≤ w.heap.size)
    (hc : w.cell? ⟨Bs, 0, none⟩ = some v) (hI : RingIn n₀ w v zs) :
    SeqStopsK Fence.wide n Tryz.prog 231 #[.pointer (some ⟨Bs, 0, none⟩)] (fun x : Nat × Int => #[Value.int .i64 (x.1 : Int), Value.int .i64 x.2]) (RingKp Bs n₀) (fun ys => ys = upto (pairAt zs) zs.length)
      (fun pre => ∃ k, k ≤ zs.length ∧ pre = upto (pairAt zs) k) zs.length w := fun l J Jx W hW hJ _ hY h0 =>
  ring_all1 n hn l Bs n₀ v zs J Jx (fun pre W' m hj => hJ pre W' (W'.drewN m) none hj ⟨rfl, rfl, rfl, Nat.le_refl _, fun _ _ _ => rfl⟩ (fun r e => by cases e)) hY W ((hW.cell (p := ⟨Bs, 0, none⟩) hBs).trans hc) (hI.below (hW.mono hn₀)) h0
theorem ringKp_b {Bs n₀ : Nat} {w : World} (hn : n₀ ≤ w.heap.size) (hB : Bs < w.heap.size) (W : World) (l : Nat) (o o' : Obj) (hl : w.heap.size ≤ l) (h : W.heap[l]? = some o) (h1 : o.isCells = false) (h2 : o.isWalk = false) : RingKp Bs n₀ W (W.putObj l o') :=
  ⟨belowK_b hn W l o o' hl h h1 h2, (belowK_b (n₀ := w.heap.size) (w := w) (Nat.le_refl _) W l o o' hl h h1 h2).cell (p := ⟨Bs, 0, none⟩) hB⟩
end Go.Proofs.YtipkgamiejenaaaGreat

/- What is collected from the ring's iterator: the place of a number, and all numbers. -/
namespace Go.Proofs.YtipkgamiejenaaaGreat
open Go Go.RowKit Go.MapKept Go.Shelf
set_option maxRecDepth 100000
set_option linter.unusedVariables false
attribute [local go_sem] Oper.semAt_some

/-- The first place of a number; or -1. -/
def placeOf (l : List Int) (x : Int) : Int := if x ∈ l then (l.idxOf x : Nat) else -1
theorem placeOf_some {l : List Int} {x : Int} {k : Nat} (hk : k < l.length) (hx : l[k] = x) (hlt : ∀ j (h : j < k), l[j]'(by omega) ≠ x) : placeOf l x = k := by
  have hm : x ∈ l := hx ▸ List.getElem_mem hk
  have : l.idxOf x = k := by
    have h1 := List.idxOf_lt_length_of_mem hm
    have h2 : l[l.idxOf x] = x := List.getElem_idxOf h1
    rcases Nat.lt_trichotomy (l.idxOf x) k with h | h | h
    · exact absurd h2 (hlt _ h)
    · exact h
    · exact absurd hx (by
        have h3 : k < l.findIdx (· == x) := h
        have := List.not_of_lt_findIdx h3
        simpa using this)
  unfold placeOf
  rw [if_pos hm, this]

end Go.Proofs.YtipkgamiejenaaaGreat

/- All numbers of a ring, collected. -/
namespace Go.Proofs.YtipkgamiejenaaaGreat
open Go Go.RowKit Go.MapKept Go.Shelf
set_option maxRecDepth 100000
set_option linter.unusedVariables false
attribute [local go_sem] Oper.semAt_some

theorem slices_Clip (w : World) (a : Option Addr) (n c : Nat) (hn : n ≤ c) :
    Calls Tryz.prog 222 #[.slice a n c] w fun e w' => e = .returned (.slice a n n) ∧ w' = w := by
  go_enter Tryz.func222, Tryz.ntmps222
  go_wp2_with fail
  go_ret
  exact ⟨rfl, rfl⟩

theorem holds.ofRow {w w' : World} {F : List HProp} {v : Value} {n : Nat} {l : List Int} (hw : holds w F) (hb : Below w.heap.size w w') (h : w'.ownsRow w.heap.size 3 1 v n (l.map (Value.int .i64))) (hn : n = l.length) :
    holds w' (ownInts v l :: F) := by
  subst hn
  rcases h with ⟨h0, ⟨rfl, h1⟩ | ⟨g, cap, cur, rfl, hg, hgb, h2, h3, h4, h5⟩⟩
  · have hl : l = [] := List.eq_nil_of_length_eq_zero h1
    subst hl
    exact holds_ownRow_nil (hw.below hb) _ _
  · have := (hw.new hb hg hgb).mkRow (n := l.length) h2 h3 h4
    rw [h5] at this
    exact this

theorem holds.clipInts {w : World} {F : List HProp} {a : Option Addr} {n c : Nat} {l : List Int} (h : holds w (roInts (.slice a n c) l :: F)) : holds w (roInts (.slice a n n) l :: F) := by
  refine h.mono fun f ⟨hl, a', cap, e, hc, hx⟩ => ?_
  cases e
  exact ⟨hl, a, l.length, rfl, Nat.le_refl _, hx⟩

set_option maxHeartbeats 2000000 in
theorem ringQ_List (w : World) (p : Option Addr) (zs : List Int) (F : List HProp) (hI : RingIn w.heap.size w (.pointer p) zs) (hF : holds w F) :
    Calls Tryz.prog 182 #[.pointer p] w fun e W' => ∃ a, e = .returned (.slice a zs.length zs.length) ∧ holds W' (roInts (.slice a zs.length zs.length) zs :: F) := by
  have hzl := hI.len
  refine (callsIn_wide (n := 4)).1 ?_
  have HAll := Lib.hid (fun w => ring_all 3 w p)
  have HLen := Lib.hid (callsIn_wide (n := 3) |>.2 (ringQ_Len _ w _ zs hI))
  have HClip := Lib.hid (fun w a n c h => callsIn_wide (n := 3) |>.2 (slices_Clip w a n c h))
  obtain ⟨i0, hi, hz0, hz1, hz2⟩ := info_parts Tryz.infoInt
  have hm := fun w (hw : holds w F) => run_make_sl (P := Tryz.prog) (t := 31) Tryz.underlying31 hi hz0 hz1 hw .i64 .i64 (x := 0) (c := zs.length) (by omega) (by omega) (by rw [hz2]; omega) (by omega)
  have hm1 := (hm w hF).1
  simp only [Int.toNat_natCast, Nat.mul_one] at hm1
  clear hm
  refine callsIn_of_wp_marks Tryz.func182 rfl trivial ?_ rfl
  simp only [Tryz.ntmps182, List.size_toArray, List.length_cons, List.length_nil, Nat.reduceAdd, Nat.reduceSub, Array.replicate_succ, Array.replicate_zero, List.push_toArray, List.append_toArray, List.nil_append, List.cons_append]
  gi_wp2_with (refine ⟨trivial, ?_⟩; first
    | (gi_at_call 220; refine HLen.out.mono ?_; rintro e w' ⟨rfl, rfl⟩)
    | (gi_at_call 221; refine (HAll.out _).mono ?_; rintro e w' ⟨rfl, rfl⟩))
  have r0 : (w'.alloc (.cells (madeCells #[.int .i64 0] zs.length) 3)).ownsRow w'.heap.size 3 1 (.slice (some ⟨w'.heap.size, 0, none⟩) 0 zs.length) 0 [] :=
    ⟨by simp, .inr ⟨w'.heap.size, zs.length, madeCells #[.int .i64 0] zs.length, rfl, Nat.le_refl _, World.alloc_heap_new w' _, Nat.zero_le _, by unfold maxLen; omega, by simp [size_madeCells], by simp⟩⟩
  have bO := Boxed.new (w'.alloc (.cells (madeCells #[.int .i64 0] zs.length) 3)) 31 (.slice (some ⟨w'.heap.size, 0, none⟩) 0 zs.length)
  have bN := Boxed.new ((w'.alloc (.cells (madeCells #[.int .i64 0] zs.length) 3)).alloc (.cells #[.slice (some ⟨w'.heap.size, 0, none⟩) 0 zs.length] 31)) 240 (.pointer p)
  simp only [World.size_alloc] at bO bN
  have hB0 : Below w'.heap.size w' (((w'.alloc (.cells (madeCells #[.int .i64 0] zs.length) 3)).alloc (.cells #[.slice (some ⟨w'.heap.size, 0, none⟩) 0 zs.length] 31)).alloc (.cells #[.pointer p] 240)) := (((Below.refl _ w').alloc (Nat.le_refl _) _).alloc (by simp) _).alloc (by simp; omega) _
  refine wpIn_rangeFunc_ownG rfl (by omega) (gf := 231) (lb := #[.pointer (some ⟨w'.heap.size + 1 + 1, 0, none⟩)]) rfl trivial (enters_of Tryz.func231 (by kernel_rfl) rfl)
    (ring_stops 3 (by omega) (w'.heap.size + 1 + 1) w'.heap.size (.pointer p) zs _ (by simp) (by simp; omega) bN.cell (hI.below hB0)) RingKp.trans (ringKp_b (by simp; omega) (by simp)) (Below.refl _ _) (fun _ => rfl)
    (fun pre W => (∃ v, Boxed W (w'.heap.size + 1) 31 v ∧ W.ownsRow w'.heap.size 3 1 v pre.length (pre.map fun q => Value.int .i64 q.2) ∧ True) ∧ (Below w'.heap.size w' W ∧ Boxed W (w'.heap.size + 1 + 1) 240 (.pointer p)))
    (fun _ _ _ => False)
    (OwnFrom.and (Own.from (holdsRow_own w'.heap.size (w'.heap.size + 1) 31 3 1 (fun (pre : List (Nat × Int)) => pre.length) (fun pre => pre.map fun q => Value.int .i64 q.2) (fun pre v => True)) _) (OwnFrom.and (ownFrom_below (Nat.le_refl _) (by simp; omega)) (Own.from (boxed_own _ _ (fun _ => .pointer p)) _)))
    (fun _ _ _ _ _ hs _ _ => hs)
    ⟨⟨_, bO.alloc _, (r0.alloc _).alloc _, trivial⟩, hB0, bN⟩
    (fun q => { tmps := #[.pointer p, undef, .slice none 0 0, .pointer (some ⟨w'.heap.size + 1, 0, none⟩), undef, .int .i64 q.2, .pointer p, .int .i64 (zs.length : Nat), .slice (some ⟨w'.heap.size, 0, none⟩) 0 zs.length, .pointer p, .func (.func 231) #[] #[.pointer (some ⟨w'.heap.size + 1 + 1, 0, none⟩)], .int .i64 (q.1 : Int), .int .i64 q.2, undef, undef, undef, undef, undef, undef], defers := [] }) ?assign ?body ?done ?stop
  case assign =>
    intro l q W K hK
    gi_wp2
    exact hK
  case body =>
    rintro l pre q W ⟨⟨v, hv, hrow, _⟩, hB, hbx⟩ hlt
    have hc := hv.cell
    have hsz := hB.size
    gi_wp2_with (gi_at_builtin; refine wpListIn_append_own _ rfl _ _ 31 rfl w'.heap.size 3 i0 (.int .i64 0) 1 8 Tryz.underlying31 hi hz0 hz1 hz2 rfl (by decide) _ _ _ rfl (hrow.alloc _) ⟨W.heap.size, 0, none⟩ 1 1 [.int .i64 q.2] rfl rfl (cell_one_new _ _ _) (by simp [Value.oneCell']) (by unfold maxLen; omega) (by omega) (by simp; omega) ?_; intro v' w1 hown' hgrow _; obtain ⟨g', cap', rfl⟩ := ownsRow_succ hown'; obtain ⟨hv1, hv2, hr2, hk2, hb2⟩ := hv.appended (by decide) hrow hB.size (by omega) hown' hgrow; have hc1 := hv1.cell; have hf1 := hv1.frozen)
    have hbx1 : Boxed w1 (w'.heap.size + 1 + 1) 240 (.pointer p) := (hbx.alloc _).kept hgrow (hbx.not_row (by decide) hrow)
    have hbx2 := hbx1.other (B' := w'.heap.size + 1) (by omega) (.slice (some ⟨g', 0, none⟩) (pre.length + 1) cap')
    exact ⟨hk2.from _, ⟨hb2, hbx2.cell.trans hbx.cell.symm⟩, ⟨_, hv2, by simpa using hr2, trivial⟩, hB.trans hb2, hbx2⟩
  case done =>
    rintro D ys W hD rfl ⟨⟨v, hv, hrow, _⟩, hB, hbx⟩ hK
    have hc := hv.cell
    rw [upto_length] at hrow
    have hv' : ∃ a c, v = .slice a zs.length c ∧ zs.length ≤ c := by
      rcases hrow.2 with ⟨rfl, h0⟩ | ⟨g, cap, _, rfl, _, _, h3, _⟩
      · exact ⟨none, 0, by rw [h0], by omega⟩
      · exact ⟨_, cap, rfl, h3⟩
    obtain ⟨a, c, rfl, hac⟩ := hv'
    gi_wp2_with (refine ⟨trivial, ?_⟩; gi_at_call 222; refine (HClip.out _ _ _ _ hac).mono ?_; rintro e w5 ⟨rfl, rfl⟩)
    refine ⟨by simp, .inl ⟨_, _, rfl, run_takeDeferred hK, ?_⟩⟩
    have hrow2 := ownsRow_putObj hrow (.deferred none) hK rfl
    have hbel := hB.trans (belowK_b (w := w') (Nat.le_refl _) w5 D (.deferred (some [])) (.deferred none) (by simp at hD; omega) hK rfl rfl)
    refine ⟨_, results_tmp rfl _ _ _, a, rfl, ?_⟩
    have hrl : (upto (pairAt zs) zs.length).map (fun q => Value.int .i64 q.2) = zs.map (Value.int .i64) := by
      apply List.ext_getElem
      · simp [upto]
      · intro i h1 h2
        have : i < zs.length := by simpa using h2
        simp [upto, pairAt, this]
    rw [hrl] at hrow2
    have hh := (holds.ofRow hF hbel hrow2 rfl).shareInts
    exact hh.clipInts
  case stop =>
    rintro D c pre W _ _ h _
    exact h.elim
end Go.Proofs.YtipkgamiejenaaaGreat

/- Contracts of the reference of chapter 4. -/
namespace Go.Proofs.YtipkgamiejenaaaGreat
open Go Go.RowKit Go.MapKept
set_option maxRecDepth 100000
set_option linter.unusedVariables false



theorem ref04_Place (w : World) (v : Value) (l : List Int) (x : Int) (F : List HProp) (hl : l.length ≤ 1000000000) (hw : holds w (roInts v l :: F)) :
    Calls Tryz.prog 123 #[v, .int .i64 x] w fun e w' => e = .returned (.int .i64 (placeOf l x)) ∧ holds w' (roInts v l :: F) := by
  obtain ⟨r, hr⟩ : ∃ r, placeOf l x = r := ⟨_, rfl⟩
  rw [hr]
  have HR := Lib.hid hr
  clear hr
  obtain ⟨a, cap, rfl, hcap⟩ := roInts_form hw
  go_enter Tryz.func123, Tryz.ntmps123
  go_wp2_with fail
  go_loopw [5] (fun i wr => ∃ k : Nat, k ≤ l.length ∧ i = .int .i64 k ∧ (∀ j (h : j < k) (h1 : j < l.length), l[j] ≠ x) ∧ holds wr (roInts (.slice a l.length cap) l :: F)) (fun i _ => l.length - (intOf i).toNat)
  case atStart => exact ⟨0, Nat.zero_le _, rfl, fun j h => by omega, hw⟩
  case round =>
    obtain ⟨k, hk, rfl, hall, h2⟩ := hrel
    have HA := Lib.hid hall
    clear hall
    by_cases hlt : k < l.length
    · obtain ⟨g, off, c1, hv, _, hcs⟩ := h2.roIntAt (by omega)
      cases hv
      have x1 := hcs k hlt
      clear hcs
      by_cases hx : l[k] = x
      · have hr : r = (k : Int) := HR.out.symm.trans (placeOf_some hlt hx fun j h => HA.out j h (by omega))
        rw [hx] at x1
        clear hx HR
        subst hr
        go_wp2_with fail
        go_ret
        exact ⟨rfl, h2⟩
      · obtain ⟨y, hy⟩ : ∃ y, l[k] = y := ⟨_, rfl⟩
        have hyx : (y == x) = false := by rw [← hy]; simpa using hx
        have HX := Lib.hid hx
        rw [hy] at x1
        clear hx hy
        go_wp2_with fail
        go_roundw
        case rel =>
          refine ⟨k + 1, by omega, by go_num, fun j h h1 => ?_, h2⟩
          by_cases hjk : j = k
          · subst hjk; exact HX.out
          · exact HA.out j (by omega) h1
        case measure => simp [intOf]; omega
    · have hkl : k = l.length := by omega
      subst hkl
      have hr : r = -1 := HR.out.symm.trans (by
        unfold placeOf
        refine if_neg fun hm => ?_
        obtain ⟨j, hj, hjx⟩ := List.getElem_of_mem hm
        exact HA.out j hj hj hjx)
      clear HR
      subst hr
      go_wp2_with fail
      go_ret
      exact ⟨rfl, h2⟩
end Go.Proofs.YtipkgamiejenaaaGreat

/- Slices of structs of two ints, for reading. -/
namespace Go.Proofs.YtipkgamiejenaaaGreat
open Go Go.RowKit Go.MapKept
set_option maxRecDepth 100000

def pairCells (p : Int × Int) : List Value := [.int .i64 p.1, .int .i64 p.2]
def roPairs (v : Value) (l : List (Int × Int)) : HProp := roRow 2 v l.length (l.flatMap pairCells)
def pairWf (p : Int × Int) : Prop := (Lit.int .i64 p.1).wf = true ∧ (Lit.int .i64 p.2).wf = true
theorem flat2 : ∀ (l : List (Int × Int)) (i : Nat) (hi : i < l.length), (l.flatMap pairCells)[i * 2]? = some (.int .i64 l[i].1) ∧ (l.flatMap pairCells)[i * 2 + 1]? = some (.int .i64 l[i].2)
  | p :: l, 0, _ => by simp [pairCells]
  | p :: l, i + 1, hi => by
    have ih := flat2 l i (by simpa using hi)
    have e : ∀ j, (pairCells p ++ l.flatMap pairCells)[(i + 1) * 2 + j]? = (l.flatMap pairCells)[i * 2 + j]? := fun j => by
      rw [List.getElem?_append_right (by simp [pairCells]; omega)]
      congr 1
      simp [pairCells]; omega
    have e0 := e 0
    simp only [Nat.add_zero] at e0
    simp only [List.flatMap_cons, List.getElem_cons_succ, e0, e 1]
    exact ih
  | [], i, hi => by simp at hi
theorem holds.pairAt {w : World} {F : List HProp} {v : Value} {l : List (Int × Int)} (h : holds w (roPairs v l :: F)) (h0 : 0 < l.length) :
    ∃ g off cap, v = .slice (some ⟨g, off, none⟩) l.length cap ∧ l.length ≤ cap ∧ ∀ (i : Nat) (hi : i < l.length), w.cell? ⟨g, off + i * 2, none⟩ = some (.int .i64 l[i].1) ∧ w.cell? ⟨g, off + i * 2 + 1, none⟩ = some (.int .i64 l[i].2) := by
  obtain ⟨b, off, cap, h1, h2, h3⟩ := (holds.roReads h).cells (by omega)
  refine ⟨b, off, cap, h1, h2, fun i hi => ?_⟩
  obtain ⟨f0, f1⟩ := flat2 l i hi
  rw [h3 (i * 2) (by omega), Nat.add_assoc, h3 (i * 2 + 1) (by omega)]
  exact ⟨f0, f1⟩
end Go.Proofs.YtipkgamiejenaaaGreat

/- The example of chapter 4. -/
namespace Go.Proofs.YtipkgamiejenaaaGreat
open Go Go.RowKit Go.MapKept
set_option maxRecDepth 100000
set_option linter.unusedVariables false

theorem ring_List (w : World) (v : Value) (n : Nat) (l : List Int) (F : List HProp) (hw : holds w (ringAt v n l :: F)) :
    Calls Tryz.prog 182 #[v] w fun e W' => ∃ a, e = .returned (.slice a l.length l.length) ∧ holds W' (roInts (.slice a l.length l.length) l :: ringAt v n l :: F) := by
  obtain ⟨b, a, c, cs, hd, rfl, hm, h⟩ := open_ring hw
  exact ringQ_List w _ l _ (RingIn.of hw) hw

end Go.Proofs.YtipkgamiejenaaaGreat

/- Contracts of package waits. -/
namespace Go.Proofs.YtipkgamiejenaaaGreat
open Go Go.RowKit Go.MapKept
set_option maxRecDepth 100000
set_option linter.unusedVariables false
attribute [local go_sem] exactUpon looseUpon

theorem nodup_le : ∀ (n : Nat) (l : List Int), l.Nodup → (∀ x ∈ l, 0 ≤ x ∧ x < n) → l.length ≤ n
  | 0, l, _, h => by
    cases l with
    | nil => simp
    | cons x l => have := h x List.mem_cons_self; omega
  | n + 1, l, hn, h => by
    by_cases hm : (n : Int) ∈ l
    · have h1 := nodup_le n (l.erase n) (hn.erase _) fun x hx => by
        have hx' := (hn.mem_erase_iff).1 hx
        have := h x hx'.2
        have := hx'.1
        omega
      rw [List.length_erase_of_mem hm] at h1
      omega
    · have := nodup_le n l hn fun x hx => by
        have h2 := h x hx
        have : x ≠ n := fun e => hm (e ▸ hx)
        omega
      omega

/-- Who waits; each one's turn. -/
structure WaitsOk (n : Nat) (tn : List Int) (fs c : Int) (l : List Int) : Prop where
  len : tn.length = n
  big : n ≤ 1048576
  nodup : l.Nodup
  rng : ∀ x ∈ l, 0 ≤ x ∧ x < n
  fs0 : 0 ≤ fs
  cnt : c = fs + l.length
  at_ : ∀ j (hj : j < l.length), tn[(l[j]).toNat]? = some (fs + j)
  no : ∀ i : Nat, i < n → (i : Int) ∉ l → tn[i]? = some (-1)

def waitsAt (v : Value) (n : Nat) (l : List Int) (c : Int) : HProp := fun f => ∃ b rb vt tn fs, (v = .pointer (some ⟨b, 0, none⟩) ∧ WaitsOk n tn fs c l) ∧
  sep [blk b (.cells #[.pointer (some ⟨rb, 0, none⟩), vt, .int .i64 c, .int .i64 fs] 243 (0, 0)), ringAt (.pointer (some ⟨rb, 0, none⟩)) n l, ownInts vt tn] f

theorem open_waits {w : World} {F : List HProp} {v : Value} {n : Nat} {l : List Int} {c : Int} (h : holds w (waitsAt v n l c :: F)) : ∃ b rb a cp tn fs, v = .pointer (some ⟨b, 0, none⟩) ∧ WaitsOk n tn fs c l ∧
    holds w (blk b (.cells #[.pointer (some ⟨rb, 0, none⟩), .slice a n cp, .int .i64 c, .int .i64 fs] 243 (0, 0)) :: ringAt (.pointer (some ⟨rb, 0, none⟩)) n l :: ownInts (.slice a n cp) tn :: F) := by
  obtain ⟨b, h⟩ := h.open_ex
  obtain ⟨rb, h⟩ := h.open_ex
  obtain ⟨vt, h⟩ := h.open_ex
  obtain ⟨tn, h⟩ := h.open_ex
  obtain ⟨fs, h⟩ := h.open_ex
  obtain ⟨⟨h1, h2⟩, h⟩ := h.open_pure
  have h := holds_sep.1 h
  obtain ⟨a, cp, rfl⟩ := ownInts_form (h.pick 2)
  rw [h2.len] at h
  exact ⟨b, rb, a, cp, tn, fs, h1, h2, h⟩
theorem shut_waits {w : World} {F : List HProp} {b rb n : Nat} {vt : Value} {tn l : List Int} {fs c : Int} (hm : WaitsOk n tn fs c l)
    (h : holds w (blk b (.cells #[.pointer (some ⟨rb, 0, none⟩), vt, .int .i64 c, .int .i64 fs] 243 (0, 0)) :: ringAt (.pointer (some ⟨rb, 0, none⟩)) n l :: ownInts vt tn :: F)) :
    holds w (waitsAt (.pointer (some ⟨b, 0, none⟩)) n l c :: F) :=
  (holds_sep (l := [_, _, _]).2 h).mono fun _ hf => ⟨b, rb, vt, tn, fs, ⟨rfl, hm⟩, hf⟩

theorem waits_is (w : World) (b rb : Nat) (c0 : w.cell? ⟨b, 0, none⟩ = some (.pointer (some ⟨rb, 0, none⟩))) :
    Calls Tryz.prog 171 #[.pointer (some ⟨b, 0, none⟩)] w fun e w' => e = .returned (.bool true) ∧ w' = w := by
  go_enter Tryz.func171, Tryz.ntmps171
  go_wp2
  go_ret
  exact ⟨rfl, rfl⟩

theorem waits_List (w : World) (v : Value) (n : Nat) (l : List Int) (c : Int) (F : List HProp) (hw : holds w (waitsAt v n l c :: F)) :
    Calls Tryz.prog 127 #[v] w fun e w' => ∃ a, e = .returned (.slice a l.length l.length) ∧ holds w' (roInts (.slice a l.length l.length) l :: waitsAt v n l c :: F) := by
  obtain ⟨b, rb, a, cp, tn, fs, rfl, hm, h⟩ := open_waits hw
  have c0 := cellAt h.get_blk 0
  simp at c0
  have h1 : holds w (_ :: _ :: _ :: F) := h.sel 3 [1, 0, 2]
  go_enter Tryz.func127, Tryz.ntmps127
  go_wp2_with fail
  refine (waits_is _ _ _ c0).mono ?_
  rintro e w1 ⟨rfl, rfl⟩
  go_wp2_with fail
  refine (ring_List _ _ _ _ _ h1).mono ?_
  rintro e w2 ⟨a2, rfl, h2⟩
  go_wp2_with fail
  go_ret
  have h3 := shut_waits hm (F := roInts (.slice a2 l.length l.length) l :: F) (h2.sel 4 [2, 1, 3, 0])
  exact ⟨_, rfl, h3.sel 2 [1, 0]⟩

theorem WaitsOk.ahead_in {n : Nat} {tn l : List Int} {fs c : Int} (h : WaitsOk n tn fs c l) {i : Nat} (hi : (i : Int) ∈ l) : ∃ j : Nat, placeOf l i = j ∧ j < l.length ∧ tn[i]? = some (fs + j) := by
  obtain ⟨j, hj, hji⟩ := List.getElem_of_mem hi
  refine ⟨j, placeOf_some hj hji fun k hk e => List.pairwise_iff_getElem.1 h.nodup k j (by omega) hj hk (e.trans hji.symm), hj, ?_⟩
  · have := h.at_ j hj
    rw [hji] at this
    simpa using this
theorem waits_Ahead (w : World) (v : Value) (n : Nat) (l : List Int) (c : Int) (i : Int) (F : List HProp) (hcb : c ≤ 1000000000000) (hw : holds w (waitsAt v n l c :: F)) :
    Calls Tryz.prog 109 #[v, .int .i64 i] w fun e w' => e = .returned (.int .i64 (placeOf l i)) ∧ holds w' (waitsAt v n l c :: F) := by
  obtain ⟨b, rb, a, cp, tn, fs, rfl, hm, h⟩ := open_waits hw
  have c0 := cellAt h.get_blk 0
  have c1 := cellAt h.get_blk 1
  have c3 := cellAt h.get_blk 3
  simp at c0 c1 c3
  have hbig := hm.big
  by_cases h0 : 0 ≤ i ∧ i < n
  · obtain ⟨i, rfl⟩ := Int.eq_ofNat_of_zero_le h0.1
    have hi : i < n := by omega
    have h00 : (0 : Int) ≤ i := by omega
    have h01 : (i : Int) < n := h0.2
    have hlen := hm.len
    obtain ⟨g, cap, hv, _, _, ct, _⟩ := (h.pick 2).intAt i (by omega)
    cases hv
    by_cases hin : (i : Int) ∈ l
    · obtain ⟨j, hp, hjl, ht⟩ := hm.ahead_in hin
      rw [hp]
      have hti : tn[i]'(by omega) = fs + j := by
        have := List.getElem?_eq_getElem (l := tn) (i := i) (by omega)
        rw [this] at ht; injection ht
      rw [hti] at ct
      have hfs := hm.fs0
      have hc := hm.cnt
      have e1 : IntKind.i64.wrap (fs + (j : Int) - fs) = (j : Int) := by rw [show fs + (j : Int) - fs = j by omega]; exact IntWalk.i64_in _ (by omega)
      have hge : ¬ (fs + (j : Int)) < 0 := by omega
      generalize hT : fs + (j : Int) = T at ct e1 hge
      clear hti ht hp hT hc hin hm h
      go_enter Tryz.func109, Tryz.ntmps109
      go_wp2_with fail
      refine (waits_is _ _ _ c0).mono ?_
      rintro e w1 ⟨rfl, rfl⟩
      go_wp2_with fail
      go_quiet (fail)
      go_wp2_with fail
      go_ret
      exact ⟨rfl, hw.drewN _⟩
    · have ht := hm.no i hi hin
      have hp : placeOf l i = -1 := by unfold placeOf; exact if_neg hin
      rw [hp]
      have hti : tn[i]'(by omega) = -1 := by
        have := List.getElem?_eq_getElem (l := tn) (i := i) (by omega)
        rw [this] at ht; injection ht
      rw [hti] at ct
      clear hti ht hp hin hm h
      go_enter Tryz.func109, Tryz.ntmps109
      go_wp2_with fail
      refine (waits_is _ _ _ c0).mono ?_
      rintro e w1 ⟨rfl, rfl⟩
      go_wp2_with fail
      go_ret
      exact ⟨rfl, hw⟩
  · have hp : placeOf l i = -1 := by unfold placeOf; exact if_neg fun hm' => h0 (hm.rng i hm')
    rw [hp]
    clear hp hm h
    by_cases hneg : i < 0
    · go_enter Tryz.func109, Tryz.ntmps109
      go_wp2_with fail
      refine (waits_is _ _ _ c0).mono ?_
      rintro e w1 ⟨rfl, rfl⟩
      go_wp2_with fail
      go_ret
      exact ⟨rfl, hw⟩
    · have h00 : (n : Int) ≤ i := by omega
      go_enter Tryz.func109, Tryz.ntmps109
      go_wp2_with fail
      refine (waits_is _ _ _ c0).mono ?_
      rintro e w1 ⟨rfl, rfl⟩
      go_wp2_with fail
      go_ret
      exact ⟨rfl, hw⟩
end Go.Proofs.YtipkgamiejenaaaGreat
