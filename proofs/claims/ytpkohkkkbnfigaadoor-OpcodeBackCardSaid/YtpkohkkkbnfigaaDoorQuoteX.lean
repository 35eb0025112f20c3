/- Contracts of package quote: the reader's steps. -/
import Derived.Test.YtpkohkkkbnfigaaDoorQuoteW
namespace Go.Proofs.YtpkohkkkbnfigaaDoor
open Go Go.RowKit Go.MapKept
set_option maxRecDepth 100000
set_option linter.unusedVariables false
attribute [local go_sem] exactUpon looseUpon

theorem dec92 {l : List UInt8} {k : Nat} (hk : k < l.length) (hq : l[k] = 92) : dec (l.drop k) = if h : k + 1 < l.length then (if l[k + 1] = 34 ∨ l[k + 1] = 92 then some (l[k + 1], 2) else if l[k + 1] = 120 then (hexp (l.drop (k + 2))).map (·, 4) else none) else none := by
  rw [List.drop_eq_getElem_cons hk, hq]
  split
  · rename_i h
    rw [List.drop_eq_getElem_cons h]
    rfl
  · rename_i h
    rw [List.drop_eq_nil_of_le (by omega)]
    rfl
theorem neq_u8 {c : UInt8} {n : Nat} (hn : n < 256) (h : c ≠ UInt8.ofNat n) : ((c.toNat : Int) == (n : Int)) = false := by
  have : c.toNat ≠ n := fun e => h (UInt8.toNat.inj (by rw [UInt8.toNat_ofNat', Nat.mod_eq_of_lt hn]; exact e))
  simp
  omega

theorem back_no (w : World) (b : Nat) (l : List UInt8) (k : Nat) (v : Value) (out : List UInt8) (F : List HProp) (hl : l.length ≤ 1000000) (ho : out.length ≤ 1000000) (hk : k < l.length) (hq : l[k] = 92) (hn : dec (l.drop k) = none) (hw : holds w (rdr b l k v false :: ownB v out :: F)) :
    Calls Tryd.prog 136 #[.pointer (some ⟨b, 0, none⟩)] w fun e w' => e = .returned (.bool false) ∧ holds w' F := by
  obtain ⟨c0, c1, c2, c3⟩ := rdr_cells hw
  have q3 := bs_size l
  rw [dec92 hk hq] at hn
  clear hq
  have k1 : IntKind.i64.wrap ((k : Int) + 1) = ((k + 1 : Nat) : Int) := IntWalk.i64_in _ (by omega)
  by_cases h1 : k + 1 < l.length
  · rw [dif_pos h1] at hn
    have H1 := Lib.hid (fun w hw hh => hex_no w b l k v out F hl ho h1 hh hw)
    obtain ⟨d, hd⟩ : ∃ d, l[k + 1] = d := ⟨_, rfl⟩
    have x1 : ∀ h, (bs l)[k + 1]'h = d := fun h => by rw [bs_at]; exact hd
    rw [hd] at hn
    clear hd
    have n1 : ¬ (d = 34 ∨ d = 92) := fun h => by rw [if_pos h] at hn; cases hn
    rw [if_neg n1] at hn
    have m1 : ((d.toNat : Int) == 34) = false := neq_u8 (n := 34) (by omega) fun e => n1 (.inl e)
    have m2 : ((d.toNat : Int) == 92) = false := neq_u8 (n := 92) (by omega) fun e => n1 (.inr e)
    have d1 : decide ((l.length : Int) ≤ ((k + 1 : Nat) : Int)) = false := by simp; omega
    generalize k + 1 = m at h1 x1 k1 d1
    clear n1
    by_cases h3 : d = 120
    · subst h3
      rw [if_pos rfl] at hn
      have hh : hexp (l.drop (k + 2)) = none := by cases hx : hexp (l.drop (k + 2)) with | none => rfl | some x => rw [hx] at hn; cases hn
      have HH := Lib.hid hh
      clear hn hh
      go_enter Tryd.func136, Tryd.ntmps136
      go_wp2_with fail
      go_quiet (fail)
      go_wp2_with fail
      go_quiet (fail)
      go_wp2_with fail
      refine (H1.out _ (hw.drewN _) HH.out).mono ?_
      rintro e w1 ⟨rfl, h1⟩
      go_wp2_with fail
      go_ret
      exact ⟨rfl, h1⟩
    · have m3 : ((d.toNat : Int) == 120) = false := neq_u8 (n := 120) (by omega) h3
      clear hn h3
      go_enter Tryd.func136, Tryd.ntmps136
      go_wp2_with fail
      go_quiet (fail)
      go_wp2_with fail
      go_quiet (fail)
      go_wp2_with fail
      go_ret
      exact ⟨rfl, hw.sel 2 []⟩
  · have d1 : decide ((l.length : Int) ≤ ((k + 1 : Nat) : Int)) = true := by simp; omega
    clear hn
    generalize k + 1 = m at h1 k1 d1
    go_enter Tryd.func136, Tryd.ntmps136
    go_wp2_with fail
    go_quiet (fail)
    go_wp2_with fail
    go_ret
    exact ⟨rfl, (hw.drewN _).sel 2 []⟩

set_option maxHeartbeats 1000000 in
theorem back_yes (w : World) (b : Nat) (l : List UInt8) (k : Nat) (v : Value) (out : List UInt8) (F : List HProp) (hl : l.length ≤ 1000000) (ho : out.length ≤ 1000000) (hk : k < l.length) (hq : l[k] = 92) (x : UInt8) (n : Nat) (hn : dec (l.drop k) = some (x, n)) (hw : holds w (rdr b l k v false :: ownB v out :: F)) :
    Calls Tryd.prog 136 #[.pointer (some ⟨b, 0, none⟩)] w fun e w' => e = .returned (.bool true) ∧ ∃ v', holds w' (rdr b l (k + n : Nat) v' false :: ownB v' (out ++ [x]) :: F) := by
  obtain ⟨c0, c1, c2, c3⟩ := rdr_cells hw
  have q3 := bs_size l
  rw [dec92 hk hq] at hn
  clear hq
  have k1 : IntKind.i64.wrap ((k : Int) + 1) = ((k + 1 : Nat) : Int) := IntWalk.i64_in _ (by omega)
  have k2 : IntKind.i64.wrap ((k : Int) + 2) = (k : Int) + 2 := IntWalk.i64_in _ (by omega)
  by_cases h1 : k + 1 < l.length
  · rw [dif_pos h1] at hn
    have H1 := Lib.hid (fun w hw hh => hex_yes w b l k v out F hl ho h1 x hh hw)
    obtain ⟨d, hd⟩ : ∃ d, l[k + 1] = d := ⟨_, rfl⟩
    have x1 : ∀ h, (bs l)[k + 1]'h = d := fun h => by rw [bs_at]; exact hd
    rw [hd] at hn
    clear hd
    have d1 : decide ((l.length : Int) ≤ ((k + 1 : Nat) : Int)) = false := by simp; omega
    generalize k + 1 = m at h1 x1 k1 d1
    by_cases n1 : d = 34 ∨ d = 92
    · rw [if_pos n1] at hn
      obtain ⟨rfl, rfl⟩ : d = x ∧ 2 = n := by simpa using hn
      clear hn
      have N1 := Lib.hid n1
      clear n1
      by_cases h34 : d = 34
      · have m1 : ((d.toNat : Int) == 34) = true := by rw [h34]; rfl
        clear h34 N1
        go_enter Tryd.func136, Tryd.ntmps136
        go_wp2_with fail
        go_quiet (fail)
        go_wp2_with fail
        go_quiet (fail)
        have hw := hw.order [1, 0]
        go_wp2_with fail
        refine wp_region_tok [⟨none, some 8, [], fun _ => ownB v out⟩, ⟨some 8, none, [38], fun vs => ownB (vs.getD 0 undef) (out ++ [d])⟩, ⟨none, some 16, [], fun _ => rdr b l k v false⟩, ⟨some 16, some 19, [38], fun vs => rdr b l k (vs.getD 0 undef) false⟩, ⟨some 19, none, [38], fun vs => rdr b l (k + 2 : Nat) (vs.getD 0 undef) false⟩, ⟨some 7, none, [37], fun vs => blk (sliceBlk (vs.getD 0 undef)) (.cells #[u8v d] 5 (0, 0))⟩] (fun k => match k with | 5 => ⟨none, [], [2], []⟩ | 7 => ⟨some (fun u => ∃ n : Nat, u = .slice (some ⟨n, 0, none⟩) 1 1), [], [], [5]⟩ | 8 => ⟨some (fun u => ∃ (a : Option Addr) (cap : Nat), u = .slice a (out.length + 1) cap), [0], [5], [1]⟩ | 12 => ⟨none, [], [2], []⟩ | 16 => ⟨some (fun u => u = undef), [2], [], [3]⟩ | 19 => ⟨some (fun u => u = undef), [3], [], [4]⟩ | _ => ⟨none, [], [], []⟩) F [0, 2] [1, 4, 5] (by kernel_rfl) (by kernel_rfl) hw ?_
        iterate 5
          refine tok_exact rfl (fun K hK => ?_)
          go_simp
          first
            | (intro w hw
               refine hK _ ?_
               clear hK K hw w)
            | (refine hK _ ?_; clear hK K)
        refine tok_sees (k := 5) ([rdr b l k v false]) (by rfl) rfl rfl (by go_simp) (fun K hK => ?_)
        intro w hw
        obtain ⟨c0, c1, c2, c3⟩ := rdr_cells hw
        go_simp
        refine hK _ ?_
        clear hK K
        iterate 1
          refine tok_exact rfl (fun K hK => ?_)
          go_simp
          first
            | (intro w hw
               refine hK _ ?_
               clear hK K hw w)
            | (refine hK _ ?_; clear hK K)
        refine tok_op (k := 7) ([]) ([]) (fun u => [blk (sliceBlk u) (.cells #[u8v d] 5 (0, 0))]) (by rfl) (by rfl) rfl (by go_simp) (fun u hu => ?_) (fun w F hw => ?_) (fun u hu => ?_)
        · obtain ⟨nb, rfl⟩ := hu
          rfl
        · go_simp
          exact (show holds w (_) from hw).alloc _
        obtain ⟨nb, rfl⟩ := hu
        refine tok_op (k := 8) ([ownB v out]) ([blk nb (.cells #[u8v d] 5 (0, 0))]) (fun u => [ownB u (out ++ [d])]) (by rfl) (by rfl) rfl (by go_simp) (fun u hu => ?_) (fun w F hw => ?_) (fun u hu => ?_)
        · obtain ⟨av, cv, rfl⟩ := hu
          rfl
        · exact tok_appB (m := [d]) (.tmp 35) (.tmp 37) rfl rfl rfl (by simp) hw (by simp; omega)
        obtain ⟨av, cv, rfl⟩ := hu
        iterate 3
          refine tok_exact rfl (fun K hK => ?_)
          go_simp
          first
            | (intro w hw
               refine hK _ ?_
               clear hK K hw w)
            | (refine hK _ ?_; clear hK K)
        refine tok_sees (k := 12) ([rdr b l k v false]) (by rfl) rfl rfl (by go_simp) (fun K hK => ?_)
        intro w hw
        obtain ⟨c0, c1, c2, c3⟩ := rdr_cells hw
        go_simp
        refine hK _ ?_
        clear hK K
        iterate 3
          refine tok_exact rfl (fun K hK => ?_)
          go_simp
          first
            | (intro w hw
               refine hK _ ?_
               clear hK K hw w)
            | (refine hK _ ?_; clear hK K)
        refine tok_op (k := 16) ([rdr b l k v false]) ([]) (fun u => [rdr b l k (.slice av (out.length + 1) cv) false]) (by rfl) (by rfl) rfl (by go_simp) (fun u hu => ?_) (fun w F hw => ?_) (fun u hu => ?_)
        · obtain rfl := hu
          rfl
        · obtain ⟨c0, c1, c2, c3⟩ := rdr_cells hw
          have hw : holds w (blk b _ :: _) := hw
          have f := frozen_of_row _ b 2 _ _ hw.get_blk
          go_simp
          exact hw.setCell 2 _
        obtain rfl := hu
        iterate 2
          refine tok_exact rfl (fun K hK => ?_)
          go_simp
          first
            | (intro w hw
               refine hK _ ?_
               clear hK K hw w)
            | (refine hK _ ?_; clear hK K)
        refine tok_op (k := 19) ([rdr b l k (.slice av (out.length + 1) cv) false]) ([]) (fun u => [rdr b l (k + 2 : Nat) (.slice av (out.length + 1) cv) false]) (by rfl) (by rfl) rfl (by go_simp) (fun u hu => ?_) (fun w F hw => ?_) (fun u hu => ?_)
        · obtain rfl := hu
          rfl
        · obtain ⟨c0, c1, c2, c3⟩ := rdr_cells hw
          have hw : holds w (blk b _ :: _) := hw
          have f := frozen_of_row _ b 1 _ _ hw.get_blk
          go_simp
          exact hw.setCell 1 _
        obtain rfl := hu
        refine tok_nil ?_
        clear hw
        intro wq hw
        have hw : holds wq (ownB (.slice av (out.length + 1) cv) (out ++ [d]) :: rdr b l (k + 2 : Nat) (.slice av (out.length + 1) cv) false :: blk nb (.cells #[u8v d] 5 (0, 0)) :: F) := hw
        have hw := hw.sel 3 [1, 0]
        go_wp2
        go_ret
        exact ⟨rfl, _, hw⟩
      · have m1 : ((d.toNat : Int) == 34) = false := neq_u8 (n := 34) (by omega) h34
        have m2 : ((d.toNat : Int) == 92) = true := by rw [N1.out.resolve_left h34]; rfl
        clear h34 N1
        go_enter Tryd.func136, Tryd.ntmps136
        go_wp2_with fail
        go_quiet (fail)
        go_wp2_with fail
        go_quiet (fail)
        have hw := hw.order [1, 0]
        go_wp2_with fail
        refine wp_region_tok [⟨none, some 8, [], fun _ => ownB v out⟩, ⟨some 8, none, [38], fun vs => ownB (vs.getD 0 undef) (out ++ [d])⟩, ⟨none, some 16, [], fun _ => rdr b l k v false⟩, ⟨some 16, some 19, [38], fun vs => rdr b l k (vs.getD 0 undef) false⟩, ⟨some 19, none, [38], fun vs => rdr b l (k + 2 : Nat) (vs.getD 0 undef) false⟩, ⟨some 7, none, [37], fun vs => blk (sliceBlk (vs.getD 0 undef)) (.cells #[u8v d] 5 (0, 0))⟩] (fun k => match k with | 5 => ⟨none, [], [2], []⟩ | 7 => ⟨some (fun u => ∃ n : Nat, u = .slice (some ⟨n, 0, none⟩) 1 1), [], [], [5]⟩ | 8 => ⟨some (fun u => ∃ (a : Option Addr) (cap : Nat), u = .slice a (out.length + 1) cap), [0], [5], [1]⟩ | 12 => ⟨none, [], [2], []⟩ | 16 => ⟨some (fun u => u = undef), [2], [], [3]⟩ | 19 => ⟨some (fun u => u = undef), [3], [], [4]⟩ | _ => ⟨none, [], [], []⟩) F [0, 2] [1, 4, 5] (by kernel_rfl) (by kernel_rfl) hw ?_
        iterate 5
          refine tok_exact rfl (fun K hK => ?_)
          go_simp
          first
            | (intro w hw
               refine hK _ ?_
               clear hK K hw w)
            | (refine hK _ ?_; clear hK K)
        refine tok_sees (k := 5) ([rdr b l k v false]) (by rfl) rfl rfl (by go_simp) (fun K hK => ?_)
        intro w hw
        obtain ⟨c0, c1, c2, c3⟩ := rdr_cells hw
        go_simp
        refine hK _ ?_
        clear hK K
        iterate 1
          refine tok_exact rfl (fun K hK => ?_)
          go_simp
          first
            | (intro w hw
               refine hK _ ?_
               clear hK K hw w)
            | (refine hK _ ?_; clear hK K)
        refine tok_op (k := 7) ([]) ([]) (fun u => [blk (sliceBlk u) (.cells #[u8v d] 5 (0, 0))]) (by rfl) (by rfl) rfl (by go_simp) (fun u hu => ?_) (fun w F hw => ?_) (fun u hu => ?_)
        · obtain ⟨nb, rfl⟩ := hu
          rfl
        · go_simp
          exact (show holds w (_) from hw).alloc _
        obtain ⟨nb, rfl⟩ := hu
        refine tok_op (k := 8) ([ownB v out]) ([blk nb (.cells #[u8v d] 5 (0, 0))]) (fun u => [ownB u (out ++ [d])]) (by rfl) (by rfl) rfl (by go_simp) (fun u hu => ?_) (fun w F hw => ?_) (fun u hu => ?_)
        · obtain ⟨av, cv, rfl⟩ := hu
          rfl
        · exact tok_appB (m := [d]) (.tmp 35) (.tmp 37) rfl rfl rfl (by simp) hw (by simp; omega)
        obtain ⟨av, cv, rfl⟩ := hu
        iterate 3
          refine tok_exact rfl (fun K hK => ?_)
          go_simp
          first
            | (intro w hw
               refine hK _ ?_
               clear hK K hw w)
            | (refine hK _ ?_; clear hK K)
        refine tok_sees (k := 12) ([rdr b l k v false]) (by rfl) rfl rfl (by go_simp) (fun K hK => ?_)
        intro w hw
        obtain ⟨c0, c1, c2, c3⟩ := rdr_cells hw
        go_simp
        refine hK _ ?_
        clear hK K
        iterate 3
          refine tok_exact rfl (fun K hK => ?_)
          go_simp
          first
            | (intro w hw
               refine hK _ ?_
               clear hK K hw w)
            | (refine hK _ ?_; clear hK K)
        refine tok_op (k := 16) ([rdr b l k v false]) ([]) (fun u => [rdr b l k (.slice av (out.length + 1) cv) false]) (by rfl) (by rfl) rfl (by go_simp) (fun u hu => ?_) (fun w F hw => ?_) (fun u hu => ?_)
        · obtain rfl := hu
          rfl
        · obtain ⟨c0, c1, c2, c3⟩ := rdr_cells hw
          have hw : holds w (blk b _ :: _) := hw
          have f := frozen_of_row _ b 2 _ _ hw.get_blk
          go_simp
          exact hw.setCell 2 _
        obtain rfl := hu
        iterate 2
          refine tok_exact rfl (fun K hK => ?_)
          go_simp
          first
            | (intro w hw
               refine hK _ ?_
               clear hK K hw w)
            | (refine hK _ ?_; clear hK K)
        refine tok_op (k := 19) ([rdr b l k (.slice av (out.length + 1) cv) false]) ([]) (fun u => [rdr b l (k + 2 : Nat) (.slice av (out.length + 1) cv) false]) (by rfl) (by rfl) rfl (by go_simp) (fun u hu => ?_) (fun w F hw => ?_) (fun u hu => ?_)
        · obtain rfl := hu
          rfl
        · obtain ⟨c0, c1, c2, c3⟩ := rdr_cells hw
          have hw : holds w (blk b _ :: _) := hw
          have f := frozen_of_row _ b 1 _ _ hw.get_blk
          go_simp
          exact hw.setCell 1 _
        obtain rfl := hu
        refine tok_nil ?_
        clear hw
        intro wq hw
        have hw : holds wq (ownB (.slice av (out.length + 1) cv) (out ++ [d]) :: rdr b l (k + 2 : Nat) (.slice av (out.length + 1) cv) false :: blk nb (.cells #[u8v d] 5 (0, 0)) :: F) := hw
        have hw := hw.sel 3 [1, 0]
        go_wp2
        go_ret
        exact ⟨rfl, _, hw⟩
    · rw [if_neg n1] at hn
      have m1 : ((d.toNat : Int) == 34) = false := neq_u8 (n := 34) (by omega) fun e => n1 (.inl e)
      have m2 : ((d.toNat : Int) == 92) = false := neq_u8 (n := 92) (by omega) fun e => n1 (.inr e)
      clear n1
      by_cases h3 : d = 120
      · subst h3
        rw [if_pos rfl] at hn
        cases hx : hexp (l.drop (k + 2)) with
        | none => rw [hx] at hn; cases hn
        | some y =>
          rw [hx] at hn
          cases hn
          have HH := Lib.hid hx
          clear hx
          go_enter Tryd.func136, Tryd.ntmps136
          go_wp2_with fail
          go_quiet (fail)
          go_wp2_with fail
          go_quiet (fail)
          go_wp2_with fail
          refine (H1.out _ (hw.drewN _) HH.out).mono ?_
          rintro e w1 ⟨rfl, v1, h1⟩
          go_wp2_with fail
          go_ret
          exact ⟨rfl, v1, h1⟩
      · rw [if_neg h3] at hn; cases hn
  · rw [dif_neg h1] at hn; cases hn

theorem dec_plain {l : List UInt8} {k : Nat} (hk : k < l.length) (h1 : l[k] ≠ 34) (h2 : l[k] ≠ 92) : dec (l.drop k) = if 32 ≤ l[k] ∧ l[k] ≤ 126 then some (l[k], 1) else none := by
  rw [List.drop_eq_getElem_cons hk]
  simp [dec, h1, h2]

theorem step_no (w : World) (b : Nat) (l : List UInt8) (k : Nat) (v : Value) (out : List UInt8) (F : List HProp) (hl : l.length ≤ 1000000) (ho : out.length ≤ 1000000) (hn : ∀ hk : k < l.length, l[k] ≠ 34 ∧ dec (l.drop k) = none) (hw : holds w (rdr b l k v false :: ownB v out :: F)) :
    Calls Tryd.prog 120 #[.pointer (some ⟨b, 0, none⟩)] w fun e w' => e = .returned (.bool false) ∧ holds w' F := by
  obtain ⟨c0, c1, c2, c3⟩ := rdr_cells hw
  have q3 := bs_size l
  by_cases h1 : k < l.length
  · obtain ⟨hq, hd⟩ := hn h1
    have d1 : decide ((l.length : Int) ≤ (k : Int)) = false := by simp; omega
    have H1 := Lib.hid (fun w hw h92 => back_no w b l k v out F hl ho h1 h92 hd hw)
    obtain ⟨c, hc⟩ : ∃ c, l[k] = c := ⟨_, rfl⟩
    have x1 : ∀ h, (bs l)[k]'h = c := fun h => by rw [bs_at]; exact hc
    have m1 : ((c.toNat : Int) == 34) = false := neq_u8 (n := 34) (by omega) fun e => hq (by rw [hc]; exact e)
    by_cases h92 : c = 92
    · have m2 : ((c.toNat : Int) == 92) = true := by rw [h92]; rfl
      have HC := Lib.hid (hc.trans h92)
      clear hc h92 hq hn hd
      go_enter Tryd.func120, Tryd.ntmps120
      go_wp2_with fail
      go_quiet (fail)
      go_wp2_with fail
      go_quiet (fail)
      go_wp2_with fail
      refine (H1.out _ (hw.drewN _) HC.out).mono ?_
      rintro e w1 ⟨rfl, h1⟩
      go_wp2_with fail
      go_ret
      exact ⟨rfl, h1⟩
    · have m2 : ((c.toNat : Int) == 92) = false := neq_u8 (n := 92) (by omega) h92
      rw [dec_plain h1 hq (by rw [hc]; exact h92), hc] at hd
      have hno : ¬ (32 ≤ c ∧ c ≤ 126) := fun h => by rw [if_pos h] at hd; cases hd
      clear hc h92 hq hn hd
      by_cases hh : (32 : Int) ≤ c.toNat
      · have hh2 : decide ((c.toNat : Int) ≤ 126) = false := decide_eq_false fun h => hno ⟨le_nat.2 (by simp; omega), le_nat.2 (by simp; omega)⟩
        clear hno
        go_enter Tryd.func120, Tryd.ntmps120
        go_wp2_with fail
        go_quiet (fail)
        go_wp2_with fail
        go_quiet (fail)
        go_wp2_with fail
        go_ret
        exact ⟨rfl, hw.sel 2 []⟩
      · have hh2 : decide ((32 : Int) ≤ c.toNat) = false := decide_eq_false hh
        clear hno hh
        go_enter Tryd.func120, Tryd.ntmps120
        go_wp2_with fail
        go_quiet (fail)
        go_wp2_with fail
        go_quiet (fail)
        go_wp2_with fail
        go_ret
        exact ⟨rfl, hw.sel 2 []⟩
  · have d1 : decide ((l.length : Int) ≤ (k : Int)) = true := by simp; omega
    clear hn
    go_enter Tryd.func120, Tryd.ntmps120
    go_wp2_with fail
    go_quiet (fail)
    go_wp2_with fail
    go_ret
    exact ⟨rfl, (hw.drewN _).sel 2 []⟩

theorem step_end (w : World) (b : Nat) (l : List UInt8) (k : Nat) (v : Value) (out : List UInt8) (F : List HProp) (hl : l.length ≤ 1000000) (ho : out.length ≤ 1000000) (hk : k < l.length) (hq : l[k] = 34) (hw : holds w (rdr b l k v false :: ownB v out :: F)) :
    Calls Tryd.prog 120 #[.pointer (some ⟨b, 0, none⟩)] w fun e w' => e = .returned (.bool true) ∧ holds w' (rdr b l (k + 1 : Nat) v true :: ownB v out :: F) := by
  obtain ⟨c0, c1, c2, c3⟩ := rdr_cells hw
  have q3 := bs_size l
  have d1 : decide ((l.length : Int) ≤ (k : Int)) = false := by simp; omega
  have k1 : IntKind.i64.wrap ((k : Int) + 1) = (k : Int) + 1 := IntWalk.i64_in _ (by omega)
  obtain ⟨c, hc⟩ : ∃ c, l[k] = c := ⟨_, rfl⟩
  have x1 : ∀ h, (bs l)[k]'h = c := fun h => by rw [bs_at]; exact hc
  have m1 : ((c.toNat : Int) == 34) = true := by rw [← hc, hq]; rfl
  clear hc hq
  have hb : holds w (blk b _ :: _) := hw
  have f1 := fun w (h : holds w (rdr b l k v false :: ownB v out :: F)) => frozen_of_row w b 1 _ _ (show holds w (blk b _ :: _) from h).get_blk
  have f3 := fun w (h : holds w (rdr b l k v false :: ownB v out :: F)) => frozen_of_row w b 3 _ _ (show holds w (blk b _ :: _) from h).get_blk
  have F1 := Lib.hid f1
  have F3 := Lib.hid f3
  clear f1 f3
  go_enter Tryd.func120, Tryd.ntmps120
  go_wp2_with fail
  go_quiet (fail)
  go_wp2_with fail
  go_quiet (fail)
  have f1 := F1.out _ hw
  have f3 := F3.out _ hw
  go_wp2_with fail
  go_ret
  have hb2 : holds _ (blk b _ :: _) := hw
  exact ⟨rfl, (hb2.setCell 1 (.int .i64 ((k : Int) + 1))).setCell 3 (.bool true)⟩

set_option maxHeartbeats 1000000 in
theorem step_yes (w : World) (b : Nat) (l : List UInt8) (k : Nat) (v : Value) (out : List UInt8) (F : List HProp) (hl : l.length ≤ 1000000) (ho : out.length ≤ 1000000) (hk : k < l.length) (x : UInt8) (n : Nat) (hn : dec (l.drop k) = some (x, n)) (hw : holds w (rdr b l k v false :: ownB v out :: F)) :
    Calls Tryd.prog 120 #[.pointer (some ⟨b, 0, none⟩)] w fun e w' => e = .returned (.bool true) ∧ ∃ v', holds w' (rdr b l (k + n : Nat) v' false :: ownB v' (out ++ [x]) :: F) := by
  obtain ⟨c0, c1, c2, c3⟩ := rdr_cells hw
  have q3 := bs_size l
  have d1 : decide ((l.length : Int) ≤ (k : Int)) = false := by simp; omega
  have k1 : IntKind.i64.wrap ((k : Int) + 1) = (k : Int) + 1 := IntWalk.i64_in _ (by omega)
  have hq : l[k] ≠ 34 := fun e => (dec_some hn).2.2 (by rw [List.head?_drop, List.getElem?_eq_getElem hk, e])
  have H1 := Lib.hid (fun w hw h92 => back_yes w b l k v out F hl ho hk h92 x n hn hw)
  obtain ⟨c, hc⟩ : ∃ c, l[k] = c := ⟨_, rfl⟩
  have x1 : ∀ h, (bs l)[k]'h = c := fun h => by rw [bs_at]; exact hc
  have m1 : ((c.toNat : Int) == 34) = false := neq_u8 (n := 34) (by omega) fun e => hq (by rw [hc]; exact e)
  by_cases h92 : c = 92
  · have m2 : ((c.toNat : Int) == 92) = true := by rw [h92]; rfl
    have HC := Lib.hid (hc.trans h92)
    clear hc h92 hq hn
    go_enter Tryd.func120, Tryd.ntmps120
    go_wp2_with fail
    go_quiet (fail)
    go_wp2_with fail
    go_quiet (fail)
    go_wp2_with fail
    refine (H1.out _ (hw.drewN _) HC.out).mono ?_
    rintro e w1 ⟨rfl, v1, h1⟩
    go_wp2_with fail
    go_ret
    exact ⟨rfl, v1, h1⟩
  · have m2 : ((c.toNat : Int) == 92) = false := neq_u8 (n := 92) (by omega) h92
    rw [dec_plain hk hq (by rw [hc]; exact h92), hc] at hn
    by_cases hno : 32 ≤ c ∧ c ≤ 126
    · rw [if_pos hno] at hn
      obtain ⟨rfl, rfl⟩ : c = x ∧ 1 = n := by simpa using hn
      clear hn
      have g1 : (32 : Int) ≤ c.toNat := by have := le_nat.1 hno.1; simp at this; omega
      have g2 : (c.toNat : Int) ≤ 126 := by have := le_nat.1 hno.2; simp at this; omega
      clear hc h92 hq hno
      go_enter Tryd.func120, Tryd.ntmps120
      go_wp2_with fail
      go_quiet (fail)
      go_wp2_with fail
      go_quiet (fail)
      have hw := hw.order [1, 0]
      go_wp2_with fail
      refine wp_region_tok [⟨none, some 8, [], fun _ => ownB v out⟩, ⟨some 8, none, [56], fun vs => ownB (vs.getD 0 undef) (out ++ [c])⟩, ⟨none, some 16, [], fun _ => rdr b l k v false⟩, ⟨some 16, some 19, [56], fun vs => rdr b l k (vs.getD 0 undef) false⟩, ⟨some 19, none, [56], fun vs => rdr b l (k + 1 : Nat) (vs.getD 0 undef) false⟩, ⟨some 7, none, [55], fun vs => blk (sliceBlk (vs.getD 0 undef)) (.cells #[u8v c] 5 (0, 0))⟩] (fun k => match k with | 5 => ⟨none, [], [2], []⟩ | 7 => ⟨some (fun u => ∃ n : Nat, u = .slice (some ⟨n, 0, none⟩) 1 1), [], [], [5]⟩ | 8 => ⟨some (fun u => ∃ (a : Option Addr) (cap : Nat), u = .slice a (out.length + 1) cap), [0], [5], [1]⟩ | 12 => ⟨none, [], [2], []⟩ | 16 => ⟨some (fun u => u = undef), [2], [], [3]⟩ | 19 => ⟨some (fun u => u = undef), [3], [], [4]⟩ | _ => ⟨none, [], [], []⟩) F [0, 2] [1, 4, 5] (by kernel_rfl) (by kernel_rfl) hw ?_
      iterate 5
        refine tok_exact rfl (fun K hK => ?_)
        go_simp
        first
          | (intro w hw
             refine hK _ ?_
             clear hK K hw w)
          | (refine hK _ ?_; clear hK K)
      refine tok_sees (k := 5) ([rdr b l k v false]) (by rfl) rfl rfl (by go_simp) (fun K hK => ?_)
      intro w hw
      obtain ⟨c0, c1, c2, c3⟩ := rdr_cells hw
      go_simp
      refine hK _ ?_
      clear hK K
      iterate 1
        refine tok_exact rfl (fun K hK => ?_)
        go_simp
        first
          | (intro w hw
             refine hK _ ?_
             clear hK K hw w)
          | (refine hK _ ?_; clear hK K)
      refine tok_op (k := 7) ([]) ([]) (fun u => [blk (sliceBlk u) (.cells #[u8v c] 5 (0, 0))]) (by rfl) (by rfl) rfl (by go_simp) (fun u hu => ?_) (fun w F hw => ?_) (fun u hu => ?_)
      · obtain ⟨nb, rfl⟩ := hu
        rfl
      · go_simp
        exact (show holds w (_) from hw).alloc _
      obtain ⟨nb, rfl⟩ := hu
      refine tok_op (k := 8) ([ownB v out]) ([blk nb (.cells #[u8v c] 5 (0, 0))]) (fun u => [ownB u (out ++ [c])]) (by rfl) (by rfl) rfl (by go_simp) (fun u hu => ?_) (fun w F hw => ?_) (fun u hu => ?_)
      · obtain ⟨av, cv, rfl⟩ := hu
        rfl
      · exact tok_appB (m := [c]) (.tmp 53) (.tmp 55) rfl rfl rfl (by simp) hw (by simp; omega)
      obtain ⟨av, cv, rfl⟩ := hu
      iterate 3
        refine tok_exact rfl (fun K hK => ?_)
        go_simp
        first
          | (intro w hw
             refine hK _ ?_
             clear hK K hw w)
          | (refine hK _ ?_; clear hK K)
      refine tok_sees (k := 12) ([rdr b l k v false]) (by rfl) rfl rfl (by go_simp) (fun K hK => ?_)
      intro w hw
      obtain ⟨c0, c1, c2, c3⟩ := rdr_cells hw
      go_simp
      refine hK _ ?_
      clear hK K
      iterate 3
        refine tok_exact rfl (fun K hK => ?_)
        go_simp
        first
          | (intro w hw
             refine hK _ ?_
             clear hK K hw w)
          | (refine hK _ ?_; clear hK K)
      refine tok_op (k := 16) ([rdr b l k v false]) ([]) (fun u => [rdr b l k (.slice av (out.length + 1) cv) false]) (by rfl) (by rfl) rfl (by go_simp) (fun u hu => ?_) (fun w F hw => ?_) (fun u hu => ?_)
      · obtain rfl := hu
        rfl
      · obtain ⟨c0, c1, c2, c3⟩ := rdr_cells hw
        have hw : holds w (blk b _ :: _) := hw
        have f := frozen_of_row _ b 2 _ _ hw.get_blk
        go_simp
        exact hw.setCell 2 _
      obtain rfl := hu
      iterate 2
        refine tok_exact rfl (fun K hK => ?_)
        go_simp
        first
          | (intro w hw
             refine hK _ ?_
             clear hK K hw w)
          | (refine hK _ ?_; clear hK K)
      refine tok_op (k := 19) ([rdr b l k (.slice av (out.length + 1) cv) false]) ([]) (fun u => [rdr b l (k + 1 : Nat) (.slice av (out.length + 1) cv) false]) (by rfl) (by rfl) rfl (by go_simp) (fun u hu => ?_) (fun w F hw => ?_) (fun u hu => ?_)
      · obtain rfl := hu
        rfl
      · obtain ⟨c0, c1, c2, c3⟩ := rdr_cells hw
        have hw : holds w (blk b _ :: _) := hw
        have f := frozen_of_row _ b 1 _ _ hw.get_blk
        go_simp
        exact hw.setCell 1 _
      obtain rfl := hu
      refine tok_nil ?_
      clear hw
      intro wq hw
      have hw : holds wq (ownB (.slice av (out.length + 1) cv) (out ++ [c]) :: rdr b l (k + 1 : Nat) (.slice av (out.length + 1) cv) false :: blk nb (.cells #[u8v c] 5 (0, 0)) :: F) := hw
      have hw := hw.sel 3 [1, 0]
      go_wp2
      go_ret
      exact ⟨rfl, _, hw⟩
    · rw [if_neg hno] at hn; cases hn
end Go.Proofs.YtpkohkkkbnfigaaDoor
