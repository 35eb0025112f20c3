/- The laws QuoteTells, QuoteBack. -/
import Derived.Test.YtdcekeclemgkcaaLaw12
namespace Go.Proofs.Ytdcekeclemgkcaa
open Go Go.RowKit Go.MapKept
set_option maxRecDepth 100000
set_option linter.unusedVariables false
attribute [local go_sem] exactUpon looseUpon

theorem readAt_quoted (l b r : List UInt8) : readAt (b ++ (quoted l ++ r)) b.length = some (l, b.length + (quoted l).length) := by
  unfold readAt quoted
  have h1 : (b ++ (34 :: (l.flatMap one ++ [34]) ++ r))[b.length]? = some 34 := by simp
  have h2 : (b ++ (34 :: (l.flatMap one ++ [34]) ++ r)).drop (b.length + 1) = l.flatMap one ++ 34 :: r := by
    rw [List.drop_append]
    simp
  rw [Int.toNat_natCast, if_pos ⟨by omega, by simp; omega, h1⟩, h2, rd_told]
  simp
  omega
theorem wholeOf_quoted (l : List UInt8) : wholeOf (quoted l) = some l := by
  unfold wholeOf
  have := readAt_quoted l [] []
  simp only [List.nil_append, List.append_nil, List.length_nil, Nat.zero_add] at this
  rw [show ((0 : Int)) = ((([] : List UInt8).length : Nat) : Int) from rfl]
  simp only [List.length_nil]
  rw [this]
  simp
theorem readAt_back {l : List UInt8} {o : List UInt8} {m : Nat} (h : readAt l 0 = some (o, m)) : 2 ≤ m ∧ m ≤ l.length ∧ quoted o = l.take m ∧ o.length ≤ l.length := by
  unfold readAt at h
  split at h
  · rename_i hc
    obtain ⟨_, h1, h2⟩ := hc
    cases l with
    | nil => simp at h1
    | cons a t =>
      simp at h2
      subst h2
      cases hr : rd t with
      | none => simp [hr] at h
      | some p =>
        obtain ⟨o', e⟩ := p
        simp [hr] at h
        obtain ⟨rfl, rfl⟩ := h
        obtain ⟨g1, g2, g3, g4⟩ := rd_back t.length t o' e (Nat.le_refl _) hr
        refine ⟨by omega, by simp; omega, ?_, by simp; omega⟩
        unfold quoted
        rw [g1, Nat.add_comm, List.take_succ_cons]
  · cases h
theorem quoted_len (l : List UInt8) : (quoted l).length ≤ 4 * l.length + 2 := by
  have := ones_le l
  unfold quoted
  simp only [List.length_cons, List.length_append, List.length_nil]
  omega

set_option maxHeartbeats 4000000 in
theorem law_QuoteBack_none (l b : List UInt8) (h200 : l.length ≤ 200) (h100 : b.length ≤ 100) (hr : readAt l 0 = none) (w : World) (F : List HProp) (hw : holds w F) :
    Calls Try.prog 4 #[.string (bs l), .string (bs b)] w fun e w' => e = .returned (.bool true) ∧ holds w' F := by
  have HR := Lib.hid hr
  clear hr
  have q3 := bs_size l
  have q4 := bs_size b
  have hq := quoted_len l
  have o1 := fun w hw => quote_Text w l (by omega) F hw
  have o2 := fun w hw => quote_Read w (b ++ (quoted l ++ b)) b.length F (by simp; omega) hw
  have o3 := fun w hw => quote_Whole w (quoted l) F (by omega) hw
  have o4 := fun w hw => quote_Read w l 0 F (by omega) hw
  simp only [readAt_quoted, wholeOf_quoted, readV, wholeV] at o2 o3
  have HB := Lib.hid (fun o m h => readAt_back (l := l) (o := o) (m := m) h)
  generalize quoted l = q at hq o1 o2 o3
  have q5 := bs_size q
  have sz1 : ¬ 9223372036854775807 < (bs b).size + (bs q).size := fitS (by omega)
  have sz2 : ¬ 9223372036854775807 < (bs (b ++ q)).size + (bs b).size := fitS (by simp; omega)
  have wr : IntKind.i64.wrap ((b.length : Int) + (q.length : Int)) = ((b.length + q.length : Nat) : Int) := IntWalk.i64_in _ (by omega)
  have ap := bs_append
  have aa : b ++ q ++ b = b ++ (q ++ b) := List.append_assoc _ _ _
  have O1 := Lib.hid o1
  have O2 := Lib.hid o2
  have O3 := Lib.hid o3
  have O4 := Lib.hid o4
  clear o1 o2 o3 o4
  generalize hn : b.length + q.length = n at O2 wr
  have HN := Lib.hid hn
  clear hn
  go_enter Try.func4, Try.ntmps4
  go_wp2_with fail
  refine (O1.out _ hw).mono ?_
  rintro e w1 ⟨rfl, h1⟩
  go_wp2_with fail
  refine (O2.out _ h1).mono ?_
  rintro e w2 ⟨rfl, h2⟩
  go_wp2_with fail
  refine (O3.out _ h2).mono ?_
  rintro e w3 ⟨rfl, h3⟩
  go_wp2_with fail
  refine (O4.out _ h3).mono ?_
  rintro e w4 ⟨rfl, h4⟩
  clear O1 O2 O3 O4 sz1 sz2 aa
  have tl := bs_toList
  rw [HR.out]
  unfold readV
  clear HR HB
  go_wp2_with fail
  refine wp_region_loose (fun k => match k with | 46 => some ⟨fun u => u = .bool true, fun _ => []⟩ | _ => none) F (by kernel_rfl) (by kernel_rfl) h4 ?_
  refine loose_seal ?_
  iterate 37
    refine sealed_exact rfl (fun K hK => ?_)
    go_simp
    first
      | (intro w hw
         refine hK _ ?_
         clear hK K hw w)
      | (refine hK _ ?_; clear hK K)
  refine sealed_skip (by first | (go_simp; done) | (go_simp; simp [undef])) ?_
  iterate 8
    refine sealed_exact rfl (fun K hK => ?_)
    go_simp
    first
      | (intro w hw
         refine hK _ ?_
         clear hK K hw w)
      | (refine hK _ ?_; clear hK K)
  refine sealed_call (k := 46) rfl (by go_simp) (fun w F hw => ?_) (fun u hu => ?_)
  · go_simp
    go_at_call 15
    exact (law12_works _ _ hw).mono fun e w' ⟨he, hh⟩ => ⟨_, he, rfl, hh⟩
  obtain rfl := hu
  iterate 2
    refine sealed_exact rfl (fun K hK => ?_)
    go_simp
    first
      | (intro w hw
         refine hK _ ?_
         clear hK K hw w)
      | (refine hK _ ?_; clear hK K)
  refine sealed_nil ?_
  clear h4
  intro wq h4
  go_wp2_with fail
  go_ret
  exact ⟨rfl, h4⟩
end Go.Proofs.Ytdcekeclemgkcaa
