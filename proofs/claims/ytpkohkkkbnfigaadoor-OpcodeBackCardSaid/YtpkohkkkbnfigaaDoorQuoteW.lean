/- Contracts of package quote: the reader. -/
import Derived.Test.YtpkohkkkbnfigaaDoorQuoteP
import Derived.Test.YtpkohkkkbnfigaaDoorBase
import Derived.Test.YtpkohkkkbnfigaaDoorLayS
import Derived.Shelf.Small.Strs
namespace Go.Proofs.YtpkohkkkbnfigaaDoor
open Go Go.RowKit Go.MapKept
set_option maxRecDepth 100000
set_option linter.unusedVariables false
attribute [local go_sem] exactUpon looseUpon

theorem str_idx (w : World) (x : UInt8) (F : List HProp) (hw : holds w F) :
    Calls Tryd.prog 89 #[.string ⟨#[48, 49, 50, 51, 52, 53, 54, 55, 56, 57, 97, 98, 99, 100, 101, 102]⟩, .int .u8 (x.toNat : Int)] w fun e w' => e = .returned (.int .i64 (idx x)) ∧ holds w' F := by
  refine (Any.strings_IndexByte Tryd.lays137 ⟨#[48, 49, 50, 51, 52, 53, 54, 55, 56, 57, 97, 98, 99, 100, 101, 102]⟩ (x.toNat : Int) w).mono ?_
  rintro e w' ⟨rfl, rfl⟩
  refine ⟨?_, hw⟩
  have : ((x.toNat : Int)).toNat.toUInt8 = x := by simp
  rw [this]
  rfl
theorem idx_range (a : UInt8) : -1 ≤ idx a ∧ idx a < 16 := by
  refine u8_all (p := fun a => -1 ≤ idx a ∧ idx a < 16) ?_ a
  decide +kernel

def rdr (b : Nat) (l : List UInt8) (at_ : Int) (v : Value) (done : Bool) : HProp := blk b (.cells #[.string (bs l), .int .i64 at_, v, .bool done] 146 (0, 0))
theorem rdr_cells {w : World} {F : List HProp} {b : Nat} {l : List UInt8} {at_ : Int} {v : Value} {done : Bool} (h : holds w (rdr b l at_ v done :: F)) :
    w.cell? ⟨b, 0, none⟩ = some (.string (bs l)) ∧ w.cell? ⟨b, 1, none⟩ = some (.int .i64 at_) ∧ w.cell? ⟨b, 2, none⟩ = some v ∧ w.cell? ⟨b, 3, none⟩ = some (.bool done) := by
  have h : holds w (blk b _ :: F) := h
  exact ⟨cellAt h.get_blk 0, cellAt h.get_blk 1, cellAt h.get_blk 2, cellAt h.get_blk 3⟩

theorem drop2 {l : List UInt8} {k : Nat} (h : k + 4 ≤ l.length) : l.drop (k + 2) = l[k + 2] :: l[k + 3] :: l.drop (k + 4) := by
  rw [List.drop_eq_getElem_cons (by omega : k + 2 < l.length), List.drop_eq_getElem_cons (by omega : k + 2 + 1 < l.length)]

set_option maxHeartbeats 1000000 in
theorem hex_no (w : World) (b : Nat) (l : List UInt8) (k : Nat) (v : Value) (out : List UInt8) (F : List HProp) (hl : l.length ≤ 1000000) (ho : out.length ≤ 1000000) (hk : k + 1 < l.length) (hn : hexp (l.drop (k + 2)) = none) (hw : holds w (rdr b l k v false :: ownB v out :: F)) :
    Calls Tryd.prog 143 #[.pointer (some ⟨b, 0, none⟩)] w fun e w' => e = .returned (.bool false) ∧ holds w' F := by
  obtain ⟨c0, c1, c2, c3⟩ := rdr_cells hw
  have q3 := bs_size l
  have k4 : IntKind.i64.wrap ((k : Int) + 4) = (k : Int) + 4 := IntWalk.i64_in _ (by omega)
  by_cases h4 : k + 4 ≤ l.length
  · have d4 : decide ((l.length : Int) < (k : Int) + 4) = false := by simp; omega
    rw [drop2 h4, hexp2] at hn
    have k2 : IntKind.i64.wrap ((k : Int) + 2) = ((k + 2 : Nat) : Int) := IntWalk.i64_in _ (by omega)
    have k3 : IntKind.i64.wrap ((k : Int) + 3) = ((k + 3 : Nat) : Int) := IntWalk.i64_in _ (by omega)
    obtain ⟨a, ha⟩ : ∃ a, l[k + 2] = a := ⟨_, rfl⟩
    obtain ⟨c, hc⟩ : ∃ c, l[k + 3] = c := ⟨_, rfl⟩
    rw [ha, hc] at hn
    have x1 : ∀ h, (bs l)[k + 2]'h = a := fun h => by rw [bs_at]; exact ha
    have x2 : ∀ h, (bs l)[k + 3]'h = c := fun h => by rw [bs_at]; exact hc
    clear ha hc
    have H1 := Lib.hid (fun w F hw => str_idx w a F hw)
    have H2 := Lib.hid (fun w F hw => str_idx w c F hw)
    obtain ⟨r1, r2⟩ := idx_range a
    obtain ⟨r3, r4⟩ := idx_range c
    generalize idx a = X at hn H1 r1 r2
    generalize idx c = Y at hn H2 r3 r4
    have hn2 : X < 0 ∨ Y < 0 ∨ (32 ≤ 16 * X + Y ∧ 16 * X + Y ≤ 126) := by
      by_cases h : X < 0 ∨ Y < 0 ∨ (32 ≤ 16 * X + Y ∧ 16 * X + Y ≤ 126)
      · exact h
      · rw [if_neg h] at hn; cases hn
    have i2 : k + 2 < l.length := by omega
    have i3 : k + 3 < l.length := by omega
    generalize k + 2 = m2 at k2 x1 i2
    generalize k + 3 = m3 at k3 x2 i3
    have HN := Lib.hid hn2
    clear hn hn2
    have w1 : IntKind.i64.wrap (16 * X) = 16 * X := IntWalk.i64_in _ (by omega)
    have w2 : IntKind.i64.wrap (16 * X + Y) = 16 * X + Y := IntWalk.i64_in _ (by omega)
    go_enter Tryd.func143, Tryd.ntmps143
    go_wp2_with fail
    go_quiet (fail)
    go_wp2_with fail
    clear c0 c1 c2 c3
    have hw := hw.drewN nq
    have HSE := Lib.hid (fun w (h : holds w (rdr b l k v false :: ownB v out :: F)) => rdr_cells h)
    generalize hBB : (rdr b l k v false :: ownB v out :: F : List HProp) = BB at hw HSE
    have HBB := Lib.hid hBB
    clear hBB
    refine wp_region_loose (fun k => match k with | 10 => some ⟨fun u => u = .int .i64 X, fun _ => []⟩ | 21 => some ⟨fun u => u = .int .i64 Y, fun _ => []⟩ | _ => none) BB (by kernel_rfl) (by kernel_rfl) hw ?_
    iterate 10
      refine loose_exact rfl (fun K hK => ?_)
      go_simp
      first
        | (intro w hw
           obtain ⟨c0, c1, c2, c3⟩ := HSE.out _ hw
           go_simp
           refine hK _ ?_
           clear hK K c0 c1 c2 c3 hw w)
        | (intro w hw
           refine hK _ ?_
           clear hK K hw w)
        | (refine hK _ ?_; clear hK K)
    refine loose_call (k := 10) rfl (by go_simp) (fun w F hw => ?_) (fun u hu => ?_)
    · go_simp
      go_at_call 89
      exact (H1.out _ _ hw).mono fun e w' ⟨he, hh⟩ => ⟨_, he, rfl, hh⟩
    obtain rfl := hu
    iterate 10
      refine loose_exact rfl (fun K hK => ?_)
      go_simp
      first
        | (intro w hw
           obtain ⟨c0, c1, c2, c3⟩ := HSE.out _ hw
           go_simp
           refine hK _ ?_
           clear hK K c0 c1 c2 c3 hw w)
        | (intro w hw
           refine hK _ ?_
           clear hK K hw w)
        | (refine hK _ ?_; clear hK K)
    refine loose_call (k := 21) rfl (by go_simp) (fun w F hw => ?_) (fun u hu => ?_)
    · go_simp
      go_at_call 89
      exact (H2.out _ _ hw).mono fun e w' ⟨he, hh⟩ => ⟨_, he, rfl, hh⟩
    obtain rfl := hu
    iterate 2
      refine loose_exact rfl (fun K hK => ?_)
      go_simp
      first
        | (intro w hw
           obtain ⟨c0, c1, c2, c3⟩ := HSE.out _ hw
           go_simp
           refine hK _ ?_
           clear hK K c0 c1 c2 c3 hw w)
        | (intro w hw
           refine hK _ ?_
           clear hK K hw w)
        | (refine hK _ ?_; clear hK K)
    refine loose_nil ?_
    clear hw
    intro wq hw
    rw [← HBB.out] at hw
    rcases HN.out with hx | hx | hx
    · go_wp2
      go_ret
      exact ⟨rfl, hw.sel 2 []⟩
    · by_cases hx0 : X < 0
      · go_wp2
        go_ret
        exact ⟨rfl, hw.sel 2 []⟩
      · go_wp2
        go_ret
        exact ⟨rfl, hw.sel 2 []⟩
    · obtain ⟨hx1, hx2⟩ := hx
      by_cases hx0 : X < 0
      · go_wp2
        go_ret
        exact ⟨rfl, hw.sel 2 []⟩
      · by_cases hy0 : Y < 0
        · go_wp2
          go_ret
          exact ⟨rfl, hw.sel 2 []⟩
        · go_wp2
          go_ret
          exact ⟨rfl, hw.sel 2 []⟩
  · have d4 : decide ((l.length : Int) < (k : Int) + 4) = true := by simp; omega
    go_enter Tryd.func143, Tryd.ntmps143
    go_wp2_with fail
    go_quiet (fail)
    go_wp2_with fail
    go_ret
    exact ⟨rfl, (hw.drewN _).sel 2 []⟩
set_option maxHeartbeats 2000000 in
theorem hex_yes (w : World) (b : Nat) (l : List UInt8) (k : Nat) (v : Value) (out : List UInt8) (F : List HProp) (hl : l.length ≤ 1000000) (ho : out.length ≤ 1000000) (hk : k + 1 < l.length) (x : UInt8) (hn : hexp (l.drop (k + 2)) = some x) (hw : holds w (rdr b l k v false :: ownB v out :: F)) :
    Calls Tryd.prog 143 #[.pointer (some ⟨b, 0, none⟩)] w fun e w' => e = .returned (.bool true) ∧ ∃ v', holds w' (rdr b l (k + 4 : Nat) v' false :: ownB v' (out ++ [x]) :: F) := by
  obtain ⟨c0, c1, c2, c3⟩ := rdr_cells hw
  have q3 := bs_size l
  have h4 : k + 4 ≤ l.length := by
    cases hd : l.drop (k + 2) with
    | nil => rw [hd] at hn; cases hn
    | cons a t =>
      cases t with
      | nil => rw [hd] at hn; cases hn
      | cons a2 t =>
        have := congrArg List.length hd
        simp at this
        omega
  have k4 : IntKind.i64.wrap ((k : Int) + 4) = (k : Int) + 4 := IntWalk.i64_in _ (by omega)
  have d4 : decide ((l.length : Int) < (k : Int) + 4) = false := by simp; omega
  rw [drop2 h4, hexp2] at hn
  have k2 : IntKind.i64.wrap ((k : Int) + 2) = ((k + 2 : Nat) : Int) := IntWalk.i64_in _ (by omega)
  have k3 : IntKind.i64.wrap ((k : Int) + 3) = ((k + 3 : Nat) : Int) := IntWalk.i64_in _ (by omega)
  obtain ⟨a, ha⟩ : ∃ a, l[k + 2] = a := ⟨_, rfl⟩
  obtain ⟨c, hc⟩ : ∃ c, l[k + 3] = c := ⟨_, rfl⟩
  rw [ha, hc] at hn
  have x1 : ∀ h, (bs l)[k + 2]'h = a := fun h => by rw [bs_at]; exact ha
  have x2 : ∀ h, (bs l)[k + 3]'h = c := fun h => by rw [bs_at]; exact hc
  clear ha hc
  have H1 := Lib.hid (fun w F hw => str_idx w a F hw)
  have H2 := Lib.hid (fun w F hw => str_idx w c F hw)
  obtain ⟨r1, r2⟩ := idx_range a
  obtain ⟨r3, r4⟩ := idx_range c
  generalize idx a = X at hn H1 r1 r2
  generalize idx c = Y at hn H2 r3 r4
  have hn2 : ¬ (X < 0 ∨ Y < 0 ∨ (32 ≤ 16 * X + Y ∧ 16 * X + Y ≤ 126)) := fun h => by rw [if_pos h] at hn; cases hn
  rw [if_neg hn2] at hn
  cases hn
  have i2 : k + 2 < l.length := by omega
  have i3 : k + 3 < l.length := by omega
  generalize k + 2 = m2 at k2 x1 i2
  generalize k + 3 = m3 at k3 x2 i3
  have w1 : IntKind.i64.wrap (16 * X) = 16 * X := IntWalk.i64_in _ (by omega)
  have w2 : IntKind.i64.wrap (16 * X + Y) = 16 * X + Y := IntWalk.i64_in _ (by omega)
  have w3 : IntKind.u8.wrap (16 * X + Y) = ((UInt8.ofNat (16 * X + Y).toNat).toNat : Int) := by
    rw [UInt8.toNat_ofNat', Nat.mod_eq_of_lt (by omega), Int.toNat_of_nonneg (by omega)]
    exact IntWalk.u8_in _ (by omega)
  have b1 : ¬ X < 0 := fun h => hn2 (.inl h)
  have b2 : ¬ Y < 0 := fun h => hn2 (.inr (.inl h))
  have b3 : ¬ (32 ≤ 16 * X + Y ∧ 16 * X + Y ≤ 126) := fun h => hn2 (.inr (.inr h))
  generalize UInt8.ofNat (16 * X + Y).toNat = c' at w3 ⊢
  have HN := Lib.hid b3
  clear hn2 b3
  go_enter Tryd.func143, Tryd.ntmps143
  go_wp2_with fail
  go_quiet (fail)
  go_wp2_with fail
  clear c0 c1 c2 c3
  have hw := hw.drewN nq
  have HSE := Lib.hid (fun w (h : holds w (rdr b l k v false :: ownB v out :: F)) => rdr_cells h)
  generalize hBB : (rdr b l k v false :: ownB v out :: F : List HProp) = BB at hw HSE
  have HBB := Lib.hid hBB
  clear hBB
  refine wp_region_loose (fun k => match k with | 10 => some ⟨fun u => u = .int .i64 X, fun _ => []⟩ | 21 => some ⟨fun u => u = .int .i64 Y, fun _ => []⟩ | _ => none) BB (by kernel_rfl) (by kernel_rfl) hw ?_
  iterate 10
    refine loose_exact rfl (fun K hK => ?_)
    go_simp
    first
      | (intro w hw
         obtain ⟨c0, c1, c2, c3⟩ := HSE.out _ hw
         go_simp
         refine hK _ ?_
         clear hK K c0 c1 c2 c3 hw w)
      | (intro w hw
         refine hK _ ?_
         clear hK K hw w)
      | (refine hK _ ?_; clear hK K)
  refine loose_call (k := 10) rfl (by go_simp) (fun w F hw => ?_) (fun u hu => ?_)
  · go_simp
    go_at_call 89
    exact (H1.out _ _ hw).mono fun e w' ⟨he, hh⟩ => ⟨_, he, rfl, hh⟩
  obtain rfl := hu
  iterate 10
    refine loose_exact rfl (fun K hK => ?_)
    go_simp
    first
      | (intro w hw
         obtain ⟨c0, c1, c2, c3⟩ := HSE.out _ hw
         go_simp
         refine hK _ ?_
         clear hK K c0 c1 c2 c3 hw w)
      | (intro w hw
         refine hK _ ?_
         clear hK K hw w)
      | (refine hK _ ?_; clear hK K)
  refine loose_call (k := 21) rfl (by go_simp) (fun w F hw => ?_) (fun u hu => ?_)
  · go_simp
    go_at_call 89
    exact (H2.out _ _ hw).mono fun e w' ⟨he, hh⟩ => ⟨_, he, rfl, hh⟩
  obtain rfl := hu
  iterate 2
    refine loose_exact rfl (fun K hK => ?_)
    go_simp
    first
      | (intro w hw
         obtain ⟨c0, c1, c2, c3⟩ := HSE.out _ hw
         go_simp
         refine hK _ ?_
         clear hK K c0 c1 c2 c3 hw w)
      | (intro w hw
         refine hK _ ?_
         clear hK K hw w)
      | (refine hK _ ?_; clear hK K)
  refine loose_nil ?_
  clear hw
  intro wq hw
  rw [← HBB.out] at hw
  by_cases hx1 : 32 ≤ 16 * X + Y
  · have hx2 : decide (16 * X + Y ≤ 126) = false := decide_eq_false fun h => HN.out ⟨hx1, h⟩
    go_wp2_with fail
    have hw := hw.order [1, 0]
    refine wp_region_tok [⟨none, some 9, [], fun _ => ownB v out⟩, ⟨some 9, none, [66], fun vs => ownB (vs.getD 0 undef) (out ++ [c'])⟩, ⟨none, some 17, [], fun _ => rdr b l k v false⟩, ⟨some 17, some 20, [66], fun vs => rdr b l k (vs.getD 0 undef) false⟩, ⟨some 20, none, [66], fun vs => rdr b l (k + 4 : Nat) (vs.getD 0 undef) false⟩, ⟨some 8, none, [65], fun vs => blk (sliceBlk (vs.getD 0 undef)) (.cells #[u8v c'] 5 (0, 0))⟩] (fun k => match k with | 5 => ⟨none, [], [2], []⟩ | 8 => ⟨some (fun u => ∃ n : Nat, u = .slice (some ⟨n, 0, none⟩) 1 1), [], [], [5]⟩ | 9 => ⟨some (fun u => ∃ (a : Option Addr) (cap : Nat), u = .slice a (out.length + 1) cap), [0], [5], [1]⟩ | 13 => ⟨none, [], [2], []⟩ | 17 => ⟨some (fun u => u = undef), [2], [], [3]⟩ | 20 => ⟨some (fun u => u = undef), [3], [], [4]⟩ | _ => ⟨none, [], [], []⟩) F [0, 2] [1, 4, 5] (by kernel_rfl) (by kernel_rfl) hw ?_
    iterate 5
      refine tok_exact rfl (fun K hK => ?_)
      go_simp
      first
        | (intro w hw
           refine hK _ ?_
           clear hK K hw w)
        | (refine hK _ ?_; clear hK K)
    refine tok_sees (k := 5) ([rdr b l k v false]) (by rfl) rfl rfl (by go_simp) (fun K hK => ?_)
    intro w hw
    obtain ⟨c0, c1, c2, c3⟩ := rdr_cells hw
    go_simp
    refine hK _ ?_
    clear hK K
    iterate 2
      refine tok_exact rfl (fun K hK => ?_)
      go_simp
      first
        | (intro w hw
           refine hK _ ?_
           clear hK K hw w)
        | (refine hK _ ?_; clear hK K)
    refine tok_op (k := 8) ([]) ([]) (fun u => [blk (sliceBlk u) (.cells #[u8v c'] 5 (0, 0))]) (by rfl) (by rfl) rfl (by go_simp) (fun u hu => ?_) (fun w F hw => ?_) (fun u hu => ?_)
    · obtain ⟨nb, rfl⟩ := hu
      rfl
    · go_simp
      exact (show holds w (_) from hw).alloc _
    obtain ⟨nb, rfl⟩ := hu
    refine tok_op (k := 9) ([ownB v out]) ([blk nb (.cells #[u8v c'] 5 (0, 0))]) (fun u => [ownB u (out ++ [c'])]) (by rfl) (by rfl) rfl (by go_simp) (fun u hu => ?_) (fun w F hw => ?_) (fun u hu => ?_)
    · obtain ⟨av, cv, rfl⟩ := hu
      rfl
    · exact tok_appB (m := [c']) (.tmp 62) (.tmp 65) rfl rfl rfl (by simp) hw (by simp; omega)
    obtain ⟨av, cv, rfl⟩ := hu
    iterate 3
      refine tok_exact rfl (fun K hK => ?_)
      go_simp
      first
        | (intro w hw
           refine hK _ ?_
           clear hK K hw w)
        | (refine hK _ ?_; clear hK K)
    refine tok_sees (k := 13) ([rdr b l k v false]) (by rfl) rfl rfl (by go_simp) (fun K hK => ?_)
    intro w hw
    obtain ⟨c0, c1, c2, c3⟩ := rdr_cells hw
    go_simp
    refine hK _ ?_
    clear hK K
    iterate 3
      refine tok_exact rfl (fun K hK => ?_)
      go_simp
      first
        | (intro w hw
           refine hK _ ?_
           clear hK K hw w)
        | (refine hK _ ?_; clear hK K)
    refine tok_op (k := 17) ([rdr b l k v false]) ([]) (fun u => [rdr b l k (.slice av (out.length + 1) cv) false]) (by rfl) (by rfl) rfl (by go_simp) (fun u hu => ?_) (fun w F hw => ?_) (fun u hu => ?_)
    · obtain rfl := hu
      rfl
    · obtain ⟨c0, c1, c2, c3⟩ := rdr_cells hw
      have hw : holds w (blk b _ :: _) := hw
      have f := frozen_of_row _ b 2 _ _ hw.get_blk
      go_simp
      exact hw.setCell 2 _
    obtain rfl := hu
    iterate 2
      refine tok_exact rfl (fun K hK => ?_)
      go_simp
      first
        | (intro w hw
           refine hK _ ?_
           clear hK K hw w)
        | (refine hK _ ?_; clear hK K)
    refine tok_op (k := 20) ([rdr b l k (.slice av (out.length + 1) cv) false]) ([]) (fun u => [rdr b l (k + 4 : Nat) (.slice av (out.length + 1) cv) false]) (by rfl) (by rfl) rfl (by go_simp) (fun u hu => ?_) (fun w F hw => ?_) (fun u hu => ?_)
    · obtain rfl := hu
      rfl
    · obtain ⟨c0, c1, c2, c3⟩ := rdr_cells hw
      have hw : holds w (blk b _ :: _) := hw
      have f := frozen_of_row _ b 1 _ _ hw.get_blk
      go_simp
      exact hw.setCell 1 _
    obtain rfl := hu
    refine tok_nil ?_
    clear hw
    intro wq hw
    have hw : holds wq (ownB (.slice av (out.length + 1) cv) (out ++ [c']) :: rdr b l (k + 4 : Nat) (.slice av (out.length + 1) cv) false :: blk nb (.cells #[u8v c'] 5 (0, 0)) :: F) := hw
    have hw := hw.sel 3 [1, 0]
    go_wp2
    go_ret
    exact ⟨rfl, _, hw⟩
  · go_wp2_with fail
    have hw := hw.order [1, 0]
    refine wp_region_tok [⟨none, some 9, [], fun _ => ownB v out⟩, ⟨some 9, none, [66], fun vs => ownB (vs.getD 0 undef) (out ++ [c'])⟩, ⟨none, some 17, [], fun _ => rdr b l k v false⟩, ⟨some 17, some 20, [66], fun vs => rdr b l k (vs.getD 0 undef) false⟩, ⟨some 20, none, [66], fun vs => rdr b l (k + 4 : Nat) (vs.getD 0 undef) false⟩, ⟨some 8, none, [65], fun vs => blk (sliceBlk (vs.getD 0 undef)) (.cells #[u8v c'] 5 (0, 0))⟩] (fun k => match k with | 5 => ⟨none, [], [2], []⟩ | 8 => ⟨some (fun u => ∃ n : Nat, u = .slice (some ⟨n, 0, none⟩) 1 1), [], [], [5]⟩ | 9 => ⟨some (fun u => ∃ (a : Option Addr) (cap : Nat), u = .slice a (out.length + 1) cap), [0], [5], [1]⟩ | 13 => ⟨none, [], [2], []⟩ | 17 => ⟨some (fun u => u = undef), [2], [], [3]⟩ | 20 => ⟨some (fun u => u = undef), [3], [], [4]⟩ | _ => ⟨none, [], [], []⟩) F [0, 2] [1, 4, 5] (by kernel_rfl) (by kernel_rfl) hw ?_
    iterate 5
      refine tok_exact rfl (fun K hK => ?_)
      go_simp
      first
        | (intro w hw
           refine hK _ ?_
           clear hK K hw w)
        | (refine hK _ ?_; clear hK K)
    refine tok_sees (k := 5) ([rdr b l k v false]) (by rfl) rfl rfl (by go_simp) (fun K hK => ?_)
    intro w hw
    obtain ⟨c0, c1, c2, c3⟩ := rdr_cells hw
    go_simp
    refine hK _ ?_
    clear hK K
    iterate 2
      refine tok_exact rfl (fun K hK => ?_)
      go_simp
      first
        | (intro w hw
           refine hK _ ?_
           clear hK K hw w)
        | (refine hK _ ?_; clear hK K)
    refine tok_op (k := 8) ([]) ([]) (fun u => [blk (sliceBlk u) (.cells #[u8v c'] 5 (0, 0))]) (by rfl) (by rfl) rfl (by go_simp) (fun u hu => ?_) (fun w F hw => ?_) (fun u hu => ?_)
    · obtain ⟨nb, rfl⟩ := hu
      rfl
    · go_simp
      exact (show holds w (_) from hw).alloc _
    obtain ⟨nb, rfl⟩ := hu
    refine tok_op (k := 9) ([ownB v out]) ([blk nb (.cells #[u8v c'] 5 (0, 0))]) (fun u => [ownB u (out ++ [c'])]) (by rfl) (by rfl) rfl (by go_simp) (fun u hu => ?_) (fun w F hw => ?_) (fun u hu => ?_)
    · obtain ⟨av, cv, rfl⟩ := hu
      rfl
    · exact tok_appB (m := [c']) (.tmp 62) (.tmp 65) rfl rfl rfl (by simp) hw (by simp; omega)
    obtain ⟨av, cv, rfl⟩ := hu
    iterate 3
      refine tok_exact rfl (fun K hK => ?_)
      go_simp
      first
        | (intro w hw
           refine hK _ ?_
           clear hK K hw w)
        | (refine hK _ ?_; clear hK K)
    refine tok_sees (k := 13) ([rdr b l k v false]) (by rfl) rfl rfl (by go_simp) (fun K hK => ?_)
    intro w hw
    obtain ⟨c0, c1, c2, c3⟩ := rdr_cells hw
    go_simp
    refine hK _ ?_
    clear hK K
    iterate 3
      refine tok_exact rfl (fun K hK => ?_)
      go_simp
      first
        | (intro w hw
           refine hK _ ?_
           clear hK K hw w)
        | (refine hK _ ?_; clear hK K)
    refine tok_op (k := 17) ([rdr b l k v false]) ([]) (fun u => [rdr b l k (.slice av (out.length + 1) cv) false]) (by rfl) (by rfl) rfl (by go_simp) (fun u hu => ?_) (fun w F hw => ?_) (fun u hu => ?_)
    · obtain rfl := hu
      rfl
    · obtain ⟨c0, c1, c2, c3⟩ := rdr_cells hw
      have hw : holds w (blk b _ :: _) := hw
      have f := frozen_of_row _ b 2 _ _ hw.get_blk
      go_simp
      exact hw.setCell 2 _
    obtain rfl := hu
    iterate 2
      refine tok_exact rfl (fun K hK => ?_)
      go_simp
      first
        | (intro w hw
           refine hK _ ?_
           clear hK K hw w)
        | (refine hK _ ?_; clear hK K)
    refine tok_op (k := 20) ([rdr b l k (.slice av (out.length + 1) cv) false]) ([]) (fun u => [rdr b l (k + 4 : Nat) (.slice av (out.length + 1) cv) false]) (by rfl) (by rfl) rfl (by go_simp) (fun u hu => ?_) (fun w F hw => ?_) (fun u hu => ?_)
    · obtain rfl := hu
      rfl
    · obtain ⟨c0, c1, c2, c3⟩ := rdr_cells hw
      have hw : holds w (blk b _ :: _) := hw
      have f := frozen_of_row _ b 1 _ _ hw.get_blk
      go_simp
      exact hw.setCell 1 _
    obtain rfl := hu
    refine tok_nil ?_
    clear hw
    intro wq hw
    have hw : holds wq (ownB (.slice av (out.length + 1) cv) (out ++ [c']) :: rdr b l (k + 4 : Nat) (.slice av (out.length + 1) cv) false :: blk nb (.cells #[u8v c'] 5 (0, 0)) :: F) := hw
    have hw := hw.sel 3 [1, 0]
    go_wp2
    go_ret
    exact ⟨rfl, _, hw⟩
end Go.Proofs.YtpkohkkkbnfigaaDoor
