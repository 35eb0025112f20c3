/- Contracts of package ring: what it tells of one place, and what it puts and takes. -/
import Derived.Test.YtfkpcmlajdmnfaaLoose
import Derived.Test.YtfkpcmlajdmnfaaInts
import Derived.WalkSpells
import Derived.IntWalk
import Derived.StillTailTactics
namespace Go.Proofs.Ytfkpcmlajdmnfaa
open Go Go.RowKit Go.MapKept
set_option maxRecDepth 100000
set_option linter.unusedVariables false
attribute [local go_sem] exactUpon looseUpon

/-- The cells, where the first one lies, and what the queue holds. -/
structure RingOk (n : Nat) (cs : List Int) (h : Nat) (l : List Int) : Prop where
  len : cs.length = n
  big : n ≤ 1048576
  head : h < n ∨ (n = 0 ∧ h = 0)
  long : l.length ≤ n
  get : ∀ i (hi : i < l.length), cs[(h + i) % n]? = some l[i]

def ringAt (v : Value) (n : Nat) (l : List Int) : HProp := fun f => ∃ b vs cs h, (v = .pointer (some ⟨b, 0, none⟩) ∧ RingOk n cs h l) ∧
  sep [blk b (.cells #[vs, .int .i64 (h : Nat), .int .i64 (l.length : Nat)] 49 (0, 0)), ownInts vs cs] f

theorem open_ring {w : World} {F : List HProp} {v : Value} {n : Nat} {l : List Int} (h : holds w (ringAt v n l :: F)) : ∃ b a c cs hd, v = .pointer (some ⟨b, 0, none⟩) ∧ RingOk n cs hd l ∧
    holds w (blk b (.cells #[.slice a n c, .int .i64 (hd : Nat), .int .i64 (l.length : Nat)] 49 (0, 0)) :: ownInts (.slice a n c) cs :: F) := by
  obtain ⟨b, h⟩ := h.open_ex
  obtain ⟨vs, h⟩ := h.open_ex
  obtain ⟨cs, h⟩ := h.open_ex
  obtain ⟨hd, h⟩ := h.open_ex
  obtain ⟨⟨h1, h2⟩, h⟩ := h.open_pure
  have h := holds_sep.1 h
  obtain ⟨a, c, rfl⟩ := ownInts_form (h.pick 1)
  rw [h2.len] at h
  exact ⟨b, a, c, cs, hd, h1, h2, h⟩
theorem shut_ring {w : World} {F : List HProp} {b n hd : Nat} {vs : Value} {cs l : List Int} (hm : RingOk n cs hd l)
    (h : holds w (blk b (.cells #[vs, .int .i64 (hd : Nat), .int .i64 (l.length : Nat)] 49 (0, 0)) :: ownInts vs cs :: F)) :
    holds w (ringAt (.pointer (some ⟨b, 0, none⟩)) n l :: F) :=
  (holds_sep (l := [_, _]).2 h).mono fun _ hf => ⟨b, vs, cs, hd, ⟨rfl, hm⟩, hf⟩

theorem ring_Len (w : World) (v : Value) (n : Nat) (l : List Int) (F : List HProp) (hw : holds w (ringAt v n l :: F)) :
    Calls Try.prog 28 #[v] w fun e w' => e = .returned (.int .i64 (l.length : Nat)) ∧ holds w' (ringAt v n l :: F) := by
  obtain ⟨b, a, c, cs, hd, rfl, hm, h⟩ := open_ring hw
  have c2 := cellAt h.get_blk 2
  simp at c2
  go_enter Try.func28, Try.ntmps28
  go_wp2
  go_ret
  exact ⟨rfl, hw⟩
theorem ring_Room (w : World) (v : Value) (n : Nat) (l : List Int) (F : List HProp) (hw : holds w (ringAt v n l :: F)) :
    Calls Try.prog 29 #[v] w fun e w' => e = .returned (.int .i64 (n : Nat)) ∧ holds w' (ringAt v n l :: F) := by
  obtain ⟨b, a, c, cs, hd, rfl, hm, h⟩ := open_ring hw
  have c0 := cellAt h.get_blk 0
  simp at c0
  go_enter Try.func29, Try.ntmps29
  go_wp2
  go_ret
  exact ⟨rfl, hw⟩

/-- Where a place lies. -/
theorem ring_cell (w : World) (b n c h i : Nat) (a : Option Addr) (m : Int) (F : List HProp) (hn : 0 < n) (hbig : n ≤ 1048576) (hh : h < n) (hi : i ≤ 1048576)
    (hw : holds w (blk b (.cells #[.slice a n c, .int .i64 (h : Nat), .int .i64 m] 49 (0, 0)) :: F)) :
    Calls Try.prog 84 #[.pointer (some ⟨b, 0, none⟩), .int .i64 (i : Nat)] w fun e w' => e = .returned (.int .i64 ((h + i) % n : Nat)) ∧
      holds w' (blk b (.cells #[.slice a n c, .int .i64 (h : Nat), .int .i64 m] 49 (0, 0)) :: F) := by
  have c0 := cellAt hw.get_blk 0
  have c1 := cellAt hw.get_blk 1
  simp at c0 c1
  have e1 : IntKind.i64.wrap ((h : Int) + i) = (h : Int) + i := IntWalk.i64_in _ (by omega)
  have e2 : ((n : Int) == 0) = false := by simp; omega
  have e3 : Int.tmod ((h : Int) + i) n = (((h + i) % n : Nat) : Int) := by
    rw [Int.natCast_emod, Int.natCast_add]; exact Int.tmod_eq_emod_of_nonneg (by omega)
  have e4 : IntKind.i64.wrap (((h + i) % n : Nat) : Int) = (((h + i) % n : Nat) : Int) := IntWalk.i64_in _ (by have := Nat.mod_lt (h + i) hn; omega)
  generalize hr : (((h + i) % n : Nat) : Int) = r at e3 e4 ⊢
  clear hr
  go_enter Try.func84, Try.ntmps84
  go_wp2_with fail
  go_quiet (fail)
  go_wp2_with fail
  go_ret
  exact ⟨rfl, hw.drewN _⟩

theorem ring_New_no (w : World) (n : Int) (F : List HProp) (hn : n < 0 ∨ 1048576 < n) (hw : holds w F) :
    Calls Try.prog 20 #[.int .i64 n] w fun e w' => e = .returned (.pointer none) ∧ holds w' F := by
  rcases hn with h | h
  · go_enter Try.func20, Try.ntmps20
    go_wp2
    go_ret
    exact ⟨rfl, hw⟩
  · have h0 : ¬ n < 0 := by omega
    go_enter Try.func20, Try.ntmps20
    go_wp2
    go_ret
    exact ⟨rfl, hw⟩
theorem RingOk.new (n : Nat) (h : n ≤ 1048576) : RingOk n (List.replicate n 0) 0 [] := ⟨by simp, h, by omega, by simp, fun i hi => by simp at hi⟩
theorem ring_New (w : World) (n : Int) (F : List HProp) (h0 : 0 ≤ n) (h1 : n ≤ 1048576) (hw : holds w F) :
    Calls Try.prog 20 #[.int .i64 n] w fun e w' => ∃ v, e = .returned v ∧ holds w' (ringAt v n.toNat [] :: F) := by
  obtain ⟨n, rfl⟩ := Int.eq_ofNat_of_zero_le h0
  have hn : n ≤ 1048576 := by omega
  have h2 : ¬ (n : Int) < 0 := by omega
  have h3 : decide ((1048576 : Int) < n) = false := by simp; omega
  rw [Int.toNat_natCast]
  obtain ⟨i0, hi, hz0, hz1, hz2⟩ := info_parts Try.infoInt
  have hm := fun w (hw : holds w F) => run_make_sl (P := Try.prog) (t := 30) Try.underlying30 hi hz0 hz1 hw .i64 .i64 (x := n) (c := n) (by omega) (by omega) (by rw [hz2]; omega) (by omega)
  have hm1 := (hm w hw).1
  simp only [Int.toNat_natCast, Nat.mul_one] at hm1
  clear hm hi hz0 hz1 hz2
  go_enter Try.func20, Try.ntmps20
  go_wp2
  go_ret
  have h4 := ((hw.madeInts n (by unfold maxLen; omega)).alloc (.cells #[.slice (some ⟨w.heap.size, 0, none⟩) n n, .int .i64 (0 : Nat), .int .i64 (([] : List Int).length : Nat)] 49 (0, 0)))
  simp only [World.size_alloc] at h4
  exact ⟨_, rfl, shut_ring (RingOk.new n hn) h4⟩

/-- What lies at a place. -/
def ringGet (l : List Int) (i : Int) : Int × Bool := if 0 ≤ i ∧ i < l.length then (l.getD i.toNat 0, true) else (0, false)
theorem ring_At (w : World) (v : Value) (n : Nat) (l : List Int) (i : Int) (F : List HProp) (hw : holds w (ringAt v n l :: F)) :
    Calls Try.prog 27 #[v, .int .i64 i] w fun e w' => e = .returned (.tuple #[.int .i64 (ringGet l i).1, .bool (ringGet l i).2]) ∧ holds w' (ringAt v n l :: F) := by
  obtain ⟨b, a, c, cs, hd, rfl, hm, h⟩ := open_ring hw
  have c2 := cellAt h.get_blk 2
  simp at c2
  by_cases h0 : 0 ≤ i
  · by_cases h1 : i < l.length
    · obtain ⟨k, rfl⟩ := Int.eq_ofNat_of_zero_le h0
      have hk : k < l.length := by omega
      have hn : 0 < n := by have := hm.long; omega
      have hg := hm.get k hk
      have hj := Nat.mod_lt (hd + k) hn
      have hk2 : k ≤ 1048576 := by have := hm.long; have := hm.big; omega
      have hbig := hm.big
      have hhd : hd < n := by have := hm.head; omega
      have hcs : cs.length = n := hm.len
      have e : ringGet l (k : Int) = (l[k], true) := by unfold ringGet; rw [if_pos ⟨h0, h1⟩]; simp [hk]
      rw [e]
      dsimp only
      obtain ⟨g, cap, hv⟩ : ∃ g cap, Value.slice a n c = .slice (some ⟨g, 0, none⟩) cs.length cap := let ⟨g, cap, hv, _⟩ := (h.pick 1).intAt ((hd + k) % n) (by omega); ⟨g, cap, hv⟩
      have ha : a = some ⟨g, 0, none⟩ := by injection hv
      subst ha
      clear hv
      have hx : cs[(hd + k) % n]'(by omega) = l[k] := by
        have := List.getElem?_eq_getElem (l := cs) (i := (hd + k) % n) (by omega)
        rw [this] at hg; injection hg
      have hshut : ∀ w, holds w (blk b (.cells #[.slice (some ⟨g, 0, none⟩) n c, .int .i64 (hd : Nat), .int .i64 (l.length : Nat)] 49 (0, 0)) :: ownInts (.slice (some ⟨g, 0, none⟩) n c) cs :: F) → holds w (ringAt (.pointer (some ⟨b, 0, none⟩)) n l :: F) := fun w h => shut_ring hm h
      have hse : ∀ w, holds w (blk b (.cells #[.slice (some ⟨g, 0, none⟩) n c, .int .i64 (hd : Nat), .int .i64 (l.length : Nat)] 49 (0, 0)) :: ownInts (.slice (some ⟨g, 0, none⟩) n c) cs :: F) → w.cell? ⟨b, 0, none⟩ = some (.slice (some ⟨g, 0, none⟩) n c) ∧ w.cell? ⟨g, (hd + k) % n, none⟩ = some (.int .i64 l[k]) := fun w h => ⟨cellAt h.get_blk 0, by
        obtain ⟨g', cap, hv, _, _, h3, _⟩ := (h.pick 1).intAt ((hd + k) % n) (by omega)
        cases hv
        rw [h3, hx]⟩
      have hcell : ∀ w F', holds w ((blk b (.cells #[.slice (some ⟨g, 0, none⟩) n c, .int .i64 (hd : Nat), .int .i64 (l.length : Nat)] 49 (0, 0)) :: ownInts (.slice (some ⟨g, 0, none⟩) n c) cs :: F) ++ F') → Calls Try.prog 84 #[.pointer (some ⟨b, 0, none⟩), .int .i64 (k : Nat)] w fun e w' => e = .returned (.int .i64 ((hd + k) % n : Nat)) ∧ holds w' ((blk b (.cells #[.slice (some ⟨g, 0, none⟩) n c, .int .i64 (hd : Nat), .int .i64 (l.length : Nat)] 49 (0, 0)) :: ownInts (.slice (some ⟨g, 0, none⟩) n c) cs :: F) ++ F') := fun w F' h => ring_cell w b n c hd k _ _ _ hn hbig hhd hk2 h
      clear hx hg hm e
      generalize (blk b _ :: _ : List HProp) = B at h hshut hse hcell
      generalize (hd + k) % n = j at hse hcell hj
      generalize l[k] = x at hse
      have HSE := Lib.hid hse
      have HC := Lib.hid hcell
      have HSH := Lib.hid hshut
      clear hse hcell hshut
      go_enter Try.func27, Try.ntmps27
      go_wp2_with fail
      refine wp_region_loose (fun k => match k with | 6 => some ⟨fun u => u = .int .i64 (j : Nat), fun _ => []⟩ | _ => none) B (by kernel_rfl) (by kernel_rfl) h ?_
      iterate 6
        refine loose_exact rfl (fun K hK => ?_)
        go_simp
        first
          | (refine hK _ ?_; clear hK K)
          | (intro w hw
             obtain ⟨c0, c1⟩ := HSE.out _ hw
             go_simp
             refine hK _ ?_
             clear hK K c0 c1 hw w)
      refine loose_call (k := 6) rfl (by go_simp) (fun w F hw => ?_) (fun u hu => ?_)
      · go_simp
        go_at_call 84
        exact (HC.out _ _ hw).mono fun e w' ⟨he, hh⟩ => ⟨_, he, rfl, hh⟩
      obtain rfl := hu
      iterate 4
        refine loose_exact rfl (fun K hK => ?_)
        go_simp
        first
          | (refine hK _ ?_; clear hK K)
          | (intro w hw
             obtain ⟨c0, c1⟩ := HSE.out _ hw
             go_simp
             refine hK _ ?_
             clear hK K c0 c1 hw w)
      refine loose_nil ?_
      clear h
      intro wq h
      go_wp2_with fail
      go_ret2
      exact ⟨rfl, HSH.out _ h⟩
    · have e : ringGet l i = (0, false) := by unfold ringGet; rw [if_neg (fun h => h1 h.2)]
      rw [e]
      clear e
      dsimp only
      go_enter Try.func27, Try.ntmps27
      go_wp2
      go_ret2
      exact ⟨rfl, hw⟩
  · have e : ringGet l i = (0, false) := by unfold ringGet; rw [if_neg (fun h => h0 h.1)]
    rw [e]
    clear e
    dsimp only
    have hneg : i < 0 := by omega
    go_enter Try.func27, Try.ntmps27
    go_wp2
    go_ret2
    exact ⟨rfl, hw⟩
theorem ring_First (w : World) (v : Value) (n : Nat) (l : List Int) (F : List HProp) (hw : holds w (ringAt v n l :: F)) :
    Calls Try.prog 26 #[v] w fun e w' => e = .returned (.tuple #[.int .i64 (ringGet l 0).1, .bool (ringGet l 0).2]) ∧ holds w' (ringAt v n l :: F) := by
  have H := Lib.hid (ring_At w v n l 0 F hw)
  go_enter Try.func26, Try.ntmps26
  go_wp2_with fail
  refine H.out.mono ?_
  rintro e w1 ⟨rfl, h1⟩
  go_wp2_with fail
  go_ret2
  exact ⟨rfl, h1⟩

theorem RingOk.tail {n hd : Nat} {cs : List Int} {x : Int} {l : List Int} (h : RingOk n cs hd (x :: l)) : RingOk n cs ((hd + 1) % n) l := by
  have hn : 0 < n := by have := h.long; simp at this; omega
  refine ⟨h.len, h.big, .inl (Nat.mod_lt _ hn), by have := h.long; simp at this; omega, fun i hi => ?_⟩
  have := h.get (i + 1) (by simp; omega)
  rw [Nat.mod_add_mod, Nat.add_assoc, Nat.add_comm 1 i, this]
  simp
theorem RingOk.put {n hd : Nat} {cs : List Int} {l : List Int} (h : RingOk n cs hd l) (hl : l.length < n) (x : Int) : RingOk n (cs.set ((hd + l.length) % n) x) hd (l ++ [x]) := by
  have hn : 0 < n := by omega
  have hhd : hd < n := by have := h.head; omega
  refine ⟨by rw [List.length_set]; exact h.len, h.big, h.head, by simp; omega, fun i hi => ?_⟩
  by_cases hil : i < l.length
  · have hne : (hd + l.length) % n ≠ (hd + i) % n := fun e => by
      have h1 := Nat.mod_add_div (hd + l.length) n
      have h2 := Nat.mod_add_div (hd + i) n
      have hk := Nat.sub_mod_eq_zero_of_mod_eq e
      have h3 : hd + l.length - (hd + i) = l.length - i := by omega
      rw [h3, Nat.mod_eq_of_lt (by omega)] at hk
      omega
    rw [List.getElem?_set_ne hne, h.get i hil, List.getElem_append_left hil]
  · have hi2 : i = l.length := by simp at hi; omega
    subst hi2
    have hj := Nat.mod_lt (hd + l.length) hn
    rw [List.getElem?_set_self (by rw [h.len]; exact hj)]
    simp

/-- What is taken, and what is left. -/
theorem ring_Take (w : World) (v : Value) (n : Nat) (l : List Int) (F : List HProp) (hw : holds w (ringAt v n l :: F)) :
    Calls Try.prog 24 #[v] w fun e w' => e = .returned (.tuple #[.int .i64 (ringGet l 0).1, .bool (ringGet l 0).2]) ∧ holds w' (ringAt v n (l.drop 1) :: F) := by
  have H := Lib.hid (ring_First w v n l F hw)
  cases l with
  | nil =>
    have e : ringGet [] 0 = (0, false) := by simp [ringGet]
    rw [e] at H ⊢
    dsimp only at H ⊢
    clear e
    go_enter Try.func24, Try.ntmps24
    go_wp2_with fail
    refine H.out.mono ?_
    rintro e w1 ⟨rfl, h1⟩
    go_wp2_with fail
    go_ret2
    exact ⟨rfl, h1⟩
  | cons x l =>
    have e : ringGet (x :: l) 0 = (x, true) := by simp [ringGet]
    rw [e] at H ⊢
    dsimp only at H ⊢
    clear e
    have HC := Lib.hid ring_cell
    go_enter Try.func24, Try.ntmps24
    go_wp2_with fail
    refine H.out.mono ?_
    rintro e w1 ⟨rfl, h1⟩
    obtain ⟨b, a, c, cs, hd, rfl, hm, h⟩ := open_ring h1
    have hn : 0 < n := by have := hm.long; simp at this; omega
    have hbig := hm.big
    have hhd : hd < n := by have := hm.head; omega
    go_wp2_with fail
    refine (HC.out w1 b n c hd 1 a _ _ hn hbig hhd (by omega) h).mono ?_
    rintro e w2 ⟨rfl, h2⟩
    have c0 := cellAt h2.get_blk 1
    have c1 := cellAt h2.get_blk 2
    have f0 := frozen_of_row w2 b 1 _ _ h2.get_blk
    have f1 := frozen_of_row w2 b 2 _ _ h2.get_blk
    simp only [List.getElem?_toArray, List.getElem?_cons_succ, List.getElem?_cons_zero] at c0 c1
    have e1 : IntKind.i64.wrap (((x :: l).length : Nat) - 1 : Int) = (l.length : Nat) := by rw [List.length_cons]; rw [show ((l.length + 1 : Nat) : Int) - 1 = (l.length : Nat) by omega]; exact IntWalk.i64_in _ (by have := hm.long; simp at this; omega)
    have hT := hm.tail
    generalize (hd + 1) % n = j at hT ⊢
    generalize hlen : ((x :: l).length : Nat) = len at c1 e1 h2
    clear hm hn hbig hhd HC H h h1 hw hlen
    go_wp2_with fail
    go_ret2
    exact ⟨rfl, shut_ring hT ((h2.setCell 1 (.int .i64 (j : Nat))).setCell 2 (.int .i64 (l.length : Nat)))⟩

theorem ring_Put_full (w : World) (v : Value) (n : Nat) (l : List Int) (x : Int) (F : List HProp) (hl : l.length = n) (hw : holds w (ringAt v n l :: F)) :
    Calls Try.prog 22 #[v, .int .i64 x] w fun e w' => e = .returned (.bool false) ∧ holds w' (ringAt v n l :: F) := by
  obtain ⟨b, a, c, cs, hd, rfl, hm, h⟩ := open_ring hw
  have c0 := cellAt h.get_blk 0
  have c2 := cellAt h.get_blk 2
  simp at c0 c2
  rw [hl] at c2
  clear hl
  go_enter Try.func22, Try.ntmps22
  go_wp2_with fail
  go_quiet (fail)
  go_wp2_with fail
  go_ret
  exact ⟨rfl, hw.drewN _⟩
theorem ring_Put (w : World) (v : Value) (n : Nat) (l : List Int) (x : Int) (F : List HProp) (hl : l.length < n) (hw : holds w (ringAt v n l :: F)) :
    Calls Try.prog 22 #[v, .int .i64 x] w fun e w' => e = .returned (.bool true) ∧ holds w' (ringAt v n (l ++ [x]) :: F) := by
  obtain ⟨b, a, c, cs, hd, rfl, hm, h⟩ := open_ring hw
  have hn : 0 < n := by omega
  have hbig := hm.big
  have hhd : hd < n := by have := hm.head; omega
  have hj := Nat.mod_lt (hd + l.length) hn
  have hcs := hm.len
  obtain ⟨g, cap, hv⟩ : ∃ g cap, Value.slice a n c = .slice (some ⟨g, 0, none⟩) cs.length cap := let ⟨g, cap, hv, _⟩ := (h.pick 1).intAt ((hd + l.length) % n) (by omega); ⟨g, cap, hv⟩
  have ha : a = some ⟨g, 0, none⟩ := by injection hv
  subst ha
  clear hv
  have hT := hm.put hl x
  have c0 := cellAt h.get_blk 0
  have c2 := cellAt h.get_blk 2
  simp at c0 c2
  have hb : ((l.length : Int) == (n : Int)) = false := by simp; omega
  have hse : ∀ w, holds w (blk b (.cells #[.slice (some ⟨g, 0, none⟩) n c, .int .i64 (hd : Nat), .int .i64 (l.length : Nat)] 49 (0, 0)) :: ownInts (.slice (some ⟨g, 0, none⟩) n c) cs :: F) → w.cell? ⟨b, 0, none⟩ = some (.slice (some ⟨g, 0, none⟩) n c) ∧ w.cell? ⟨b, 2, none⟩ = some (.int .i64 (l.length : Nat)) ∧ w.frozen? ⟨b, 2, none⟩ = false := fun w h => ⟨cellAt h.get_blk 0, cellAt h.get_blk 2, frozen_of_row w b 2 _ _ h.get_blk⟩
  have hcell : ∀ w F', holds w ((blk b (.cells #[.slice (some ⟨g, 0, none⟩) n c, .int .i64 (hd : Nat), .int .i64 (l.length : Nat)] 49 (0, 0)) :: ownInts (.slice (some ⟨g, 0, none⟩) n c) cs :: F) ++ F') → Calls Try.prog 84 #[.pointer (some ⟨b, 0, none⟩), .int .i64 (l.length : Nat)] w fun e w' => e = .returned (.int .i64 ((hd + l.length) % n : Nat)) ∧ holds w' ((blk b (.cells #[.slice (some ⟨g, 0, none⟩) n c, .int .i64 (hd : Nat), .int .i64 (l.length : Nat)] 49 (0, 0)) :: ownInts (.slice (some ⟨g, 0, none⟩) n c) cs :: F) ++ F') := fun w F' h => ring_cell w b n c hd l.length _ _ _ hn hbig hhd (by omega) h
  have hset : ∀ w', holds w' (ownInts (.slice (some ⟨g, 0, none⟩) n c) (cs.set ((hd + l.length) % n) x) :: blk b (.cells #[.slice (some ⟨g, 0, none⟩) n c, .int .i64 (hd : Nat), .int .i64 (l.length : Nat)] 49 (0, 0)) :: F) → w'.cell? ⟨b, 2, none⟩ = some (.int .i64 (l.length : Nat)) ∧ w'.frozen? ⟨b, 2, none⟩ = false ∧ holds (w'.setCell ⟨b, 2, none⟩ (.int .i64 ((l.length : Int) + 1))) (ringAt (.pointer (some ⟨b, 0, none⟩)) n (l ++ [x]) :: F) := fun w' h => ⟨cellAt (h.pick 1).get_blk 2, frozen_of_row w' b 2 _ _ (h.pick 1).get_blk, shut_ring hT (by
    have := ((h.pick 1).setCell 2 (.int .i64 ((l.length : Int) + 1)))
    rw [show ((l ++ [x]).length : Int) = (l.length : Int) + 1 from by simp]
    exact this)⟩
  have hpk : ∀ w, holds w (blk b (.cells #[.slice (some ⟨g, 0, none⟩) n c, .int .i64 (hd : Nat), .int .i64 (l.length : Nat)] 49 (0, 0)) :: ownInts (.slice (some ⟨g, 0, none⟩) n c) cs :: F) → holds w (ownInts (.slice (some ⟨g, 0, none⟩) n c) cs :: blk b (.cells #[.slice (some ⟨g, 0, none⟩) n c, .int .i64 (hd : Nat), .int .i64 (l.length : Nat)] 49 (0, 0)) :: F) := fun w h => h.pick 1
  have hjc : (hd + l.length) % n < cs.length := by omega
  have hl2 : l.length < 1048576 := by omega
  clear hT hm hw hcs
  generalize (blk b _ :: ownInts _ _ :: _ : List HProp) = B at h hse hcell hpk
  generalize (hd + l.length) % n = j at hcell hj hset hjc
  have HSE := Lib.hid hse
  have HC := Lib.hid hcell
  have HSET := Lib.hid hset
  have HP := Lib.hid hpk
  generalize l.length = m at c2 hb HSE HC HSET HP hl2
  have e1 : IntKind.i64.wrap ((m : Int) + 1) = (m : Int) + 1 := IntWalk.i64_in _ (by omega)
  clear hse hcell hset hpk
  go_enter Try.func22, Try.ntmps22
  go_wp2_with fail
  go_quiet (fail)
  go_wp2_with fail
  have h := h.drewN nq
  refine wp_region_loose_tail 12 (fun k => match k with | 9 => some ⟨fun u => u = .int .i64 (j : Nat), fun _ => []⟩ | _ => none) B (by kernel_rfl) (by kernel_rfl) h ?_
  simp only [List.take_succ_cons, List.take_zero, List.drop_succ_cons, List.drop_zero]
  iterate 9
    refine loose_exact rfl (fun K hK => ?_)
    go_simp
    first
      | (refine hK _ ?_; clear hK K)
      | (intro w hw
         obtain ⟨c0, c1, f1⟩ := HSE.out _ hw
         go_simp
         refine hK _ ?_
         clear hK K c0 c1 f1 hw w)
  refine loose_call (k := 9) rfl (by go_simp) (fun w F hw => ?_) (fun u hu => ?_)
  · go_simp
    go_at_call 84
    exact (HC.out _ _ hw).mono fun e w' ⟨he, hh⟩ => ⟨_, he, rfl, hh⟩
  obtain rfl := hu
  iterate 2
    refine loose_exact rfl (fun K hK => ?_)
    go_simp
    first
      | (refine hK _ ?_; clear hK K)
      | (intro w hw
         obtain ⟨c0, c1, f1⟩ := HSE.out _ hw
         go_simp
         refine hK _ ?_
         clear hK K c0 c1 f1 hw w)
  refine loose_nil ?_
  clear h
  intro wq h
  have h3 := HP.out _ h
  refine wpList_setInt rfl rfl _ _ rfl (i := j) rfl rfl h3 hjc fun w' hw' => ?_
  obtain ⟨d0, d1, d2⟩ := HSET.out _ hw'
  go_wp2_with fail
  go_ret
  exact ⟨rfl, d2⟩
end Go.Proofs.Ytfkpcmlajdmnfaa
