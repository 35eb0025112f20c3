/- The law QuoteBack, where a text stands. -/
import Derived.Test.YtdcekeclemgkcaaLaw12B
namespace Go.Proofs.Ytdcekeclemgkcaa
open Go Go.RowKit Go.MapKept
set_option maxRecDepth 100000
set_option linter.unusedVariables false
attribute [local go_sem] exactUpon looseUpon

set_option maxHeartbeats 4000000 in
theorem law_QuoteBack_some (l b : List UInt8) (h200 : l.length ≤ 200) (h100 : b.length ≤ 100) (o : List UInt8) (m : Nat) (hr : readAt l 0 = some (o, m)) (w : World) (F : List HProp) (hw : holds w F) :
    Calls Try.prog 4 #[.string (bs l), .string (bs b)] w fun e w' => e = .returned (.bool true) ∧ holds w' F := by
  have HR := Lib.hid hr
  clear hr
  have q3 := bs_size l
  have q4 := bs_size b
  have hq := quoted_len l
  have o1 := fun w hw => quote_Text w l (by omega) F hw
  have o2 := fun w hw => quote_Read w (b ++ (quoted l ++ b)) b.length F (by simp; omega) hw
  have o3 := fun w hw => quote_Whole w (quoted l) F (by omega) hw
  have o4 := fun w hw => quote_Read w l 0 F (by omega) hw
  simp only [readAt_quoted, wholeOf_quoted, readV, wholeV] at o2 o3
  have HB := Lib.hid (fun o m h => readAt_back (l := l) (o := o) (m := m) h)
  generalize quoted l = q at hq o1 o2 o3
  have q5 := bs_size q
  have sz1 : ¬ 9223372036854775807 < (bs b).size + (bs q).size := fitS (by omega)
  have sz2 : ¬ 9223372036854775807 < (bs (b ++ q)).size + (bs b).size := fitS (by simp; omega)
  have wr : IntKind.i64.wrap ((b.length : Int) + (q.length : Int)) = ((b.length + q.length : Nat) : Int) := IntWalk.i64_in _ (by omega)
  have ap := bs_append
  have aa : b ++ q ++ b = b ++ (q ++ b) := List.append_assoc _ _ _
  have O1 := Lib.hid o1
  have O2 := Lib.hid o2
  have O3 := Lib.hid o3
  have O4 := Lib.hid o4
  clear o1 o2 o3 o4
  generalize hn : b.length + q.length = n at O2 wr
  have HN := Lib.hid hn
  clear hn
  go_enter Try.func4, Try.ntmps4
  go_wp2_with fail
  refine (O1.out _ hw).mono ?_
  rintro e w1 ⟨rfl, h1⟩
  go_wp2_with fail
  refine (O2.out _ h1).mono ?_
  rintro e w2 ⟨rfl, h2⟩
  go_wp2_with fail
  refine (O3.out _ h2).mono ?_
  rintro e w3 ⟨rfl, h3⟩
  go_wp2_with fail
  refine (O4.out _ h3).mono ?_
  rintro e w4 ⟨rfl, h4⟩
  clear O1 O2 O3 O4 sz1 sz2 aa
  have tl := bs_toList
  obtain ⟨hm2, hml, hqo, hol⟩ := HB.out o m HR.out
  have o5 := fun w F hw => quote_Text w o (by omega) F hw
  rw [hqo] at o5
  have ex := extract_bs l 0 m
  simp only [List.drop_zero, Nat.sub_zero] at ex
  generalize l.take m = y at ex o5
  have O5 := Lib.hid o5
  have hm2i : (2 : Int) ≤ m := by omega
  rw [HR.out]
  unfold readV
  clear HR HB hqo o5 hm2
  go_wp2_with fail
  refine wp_region_loose (fun k => match k with | 37 => some ⟨fun u => u = .string (bs y), fun _ => []⟩ | 46 => some ⟨fun u => u = .bool true, fun _ => []⟩ | _ => none) F (by kernel_rfl) (by kernel_rfl) h4 ?_
  refine loose_seal ?_
  iterate 37
    refine sealed_exact rfl (fun K hK => ?_)
    go_simp
    first
      | (intro w hw
         refine hK _ ?_
         clear hK K hw w)
      | (refine hK _ ?_; clear hK K)
  refine sealed_call (k := 37) rfl (by go_simp) (fun w F hw => ?_) (fun u hu => ?_)
  · go_simp
    go_at_call 20
    exact (O5.out _ _ hw).mono fun e w' ⟨he, hh⟩ => ⟨_, he, rfl, hh⟩
  obtain rfl := hu
  iterate 8
    refine sealed_exact rfl (fun K hK => ?_)
    go_simp
    first
      | (intro w hw
         refine hK _ ?_
         clear hK K hw w)
      | (refine hK _ ?_; clear hK K)
  refine sealed_call (k := 46) rfl (by go_simp) (fun w F hw => ?_) (fun u hu => ?_)
  · go_simp
    go_at_call 15
    exact (law12_works _ _ hw).mono fun e w' ⟨he, hh⟩ => ⟨_, he, rfl, hh⟩
  obtain rfl := hu
  iterate 2
    refine sealed_exact rfl (fun K hK => ?_)
    go_simp
    first
      | (intro w hw
         refine hK _ ?_
         clear hK K hw w)
      | (refine hK _ ?_; clear hK K)
  refine sealed_nil ?_
  clear h4
  intro wq h4
  go_wp2_with fail
  go_ret
  exact ⟨rfl, h4⟩
end Go.Proofs.Ytdcekeclemgkcaa
