import Derived.Test.YtipkgamiejenaaaGreatMg19

import Derived.Test.YtipkgamiejenaaaGreatMg15
import Derived.Test.YtipkgamiejenaaaGreatMg7
import Derived.Test.YtipkgamiejenaaaGreatMg17
import Derived.Test.YtipkgamiejenaaaGreatMg8
import Derived.Test.YtipkgamiejenaaaGreatMg16
/- Reference 19: Many. -/
namespace Go.Proofs.YtipkgamiejenaaaGreat
open Go Go.RowKit Go.MapKept
set_option linter.unusedVariables false
set_option linter.unusedSectionVars false
set_option linter.unusedSimpArgs false
set_option maxRecDepth 100000
set_option maxHeartbeats 4000000
section
variable (v : Value) (t : St.S) (K : Nat) (hI : St.Inv t K) (hK : K ≤ 1000000)
include hI hK
end
end Go.Proofs.YtipkgamiejenaaaGreat

/- Reference 17: New. -/
namespace Go.Proofs.YtipkgamiejenaaaGreat
open Go Go.RowKit Go.MapKept
set_option linter.unusedVariables false
set_option linter.unusedSectionVars false
set_option linter.unusedSimpArgs false
set_option maxRecDepth 100000
set_option maxHeartbeats 4000000
def dn (n : Nat) : List Int := ((List.range n).reverse).map (Nat.cast : Nat → Int)
theorem dn_len (n : Nat) : (dn n).length = n := by simp [dn]
theorem dn_at (n k : Nat) (h : k < (dn n).length) : (dn n)[k] = ((n - 1 - k : Nat) : Int) := by
  have := dn_len n
  simp [dn, List.getElem_reverse]
theorem rf17_New (n : Nat) (hn : n ≤ 1048576) (w : World) (F : List HProp) (hw : holds w F) :
    Ct Tryz.prog 69 #[.int .i64 (n : Nat)] w fun e w' => ∃ v, e = .returned v ∧ holds w' (owns 3 encI1 1 v (dn n) :: F) := by
  refine Ct.go (args := [.int .i64 (n : Nat)]) Tryz.func69 rfl rfl rfl hw ?_
  repeat' (first | refine stp ?_ | (refine stpB ?_; intro _) | (refine spl ?_ ?_ <;> intro hc <;> ((try simp only [decide_eq_true_eq, decide_eq_false_iff_not, Bool.not_true, Bool.not_false, ne_eq, Classical.not_not, Int.not_lt, Int.not_le] at hc); (try (exfalso; first | omega | exact hc trivial | exact hc rfl)))))
  refine G.nilOwn 3 encI1 1 ?_
  refine G.loopK [0] (Int × Value × List Int) (fun y => [(4, .int .i64 y.1), (3, y.2.1)]) (fun y => owns 3 encI1 1 y.2.1 y.2.2 :: F) (fun y => -1 ≤ y.1 ∧ y.1 < n ∧ y.2.2 = (dn n).take (n - 1 - y.1 : Int).toNat) (fun y => (y.1 + 1).toNat) (((n : Int) - 1, .slice none 0 0, [])) (⟨by omega, by omega, by rw [show ((n : Int) - 1 - (n - 1)).toNat = 0 by omega]; rfl⟩) (by repeat (first | exact trivial | refine And.intro rfl ?_)) (fun w h => by (try dsimp only); first | exact h | exact h.sub | ((try simp only [List.take_zero, List.drop_zero, List.map_nil, List.nil_append, List.zipIdx_nil, List.filter_nil]); exact h.sub)) ?_
  rintro ⟨j, cv, cl⟩ ⟨h1, h2, h3⟩
  dsimp only at h1 h2 h3 ⊢
  have hln := dn_len n
  have hcl : cl.length ≤ 1048576 := by rw [h3, List.length_take]; omega
  by_cases hj : 0 ≤ j
  · repeat' (first | ((apply GL.isCall; refine GL.append1 (j) rfl rfl rfl rfl (by rfl) (by omega) (by omega) rfl (fun _ => ?_))) | first | refine stp ?_ | (refine stpB ?_; intro _) | (refine spl ?_ ?_ <;> intro hc <;> ((try simp only [decide_eq_true_eq, decide_eq_false_iff_not, Bool.not_true, Bool.not_false, ne_eq, Classical.not_not, Int.not_lt, Int.not_le] at hc); (try (exfalso; first | omega | exact hc trivial | exact hc rfl)))))
    all_goals (first | (exfalso; omega) | skip)
    rename_i cv2
    have hs : cl ++ [j] = (dn n).take (n - 1 - (j - 1) : Int).toNat := by
      rw [show ((n : Int) - 1 - (j - 1)).toNat = (n - 1 - j : Int).toNat + 1 by omega, List.take_succ_eq_append_getElem (by omega), ← h3, dn_at]
      congr 2; omega
    refine GE.round ((j - 1, cv2, cl ++ [j])) (⟨by dsimp only; omega, by dsimp only; omega, hs⟩) (by repeat (first | exact trivial | refine And.intro rfl ?_)) (fun w h => by (try dsimp only); exact h.sub) (by (try dsimp only); omega)
  · have hs : cl = dn n := by rw [h3, List.take_of_length_le (by omega)]
    repeat' (first | refine stp ?_ | (refine stpB ?_; intro _) | (refine spl ?_ ?_ <;> intro hc <;> ((try simp only [decide_eq_true_eq, decide_eq_false_iff_not, Bool.not_true, Bool.not_false, ne_eq, Classical.not_not, Int.not_lt, Int.not_le] at hc); (try (exfalso; first | omega | exact hc trivial | exact hc rfl)))))
    all_goals (first | (exfalso; omega) | skip)
    refine GE.resOne rfl (by (repeat (first | apply Res.nil | (apply Res.tmp; rfl) | (refine Res.cellA rfl rfl rfl ?_) | (refine Res.cell1 rfl rfl ?_)))) (fun w h => ?_)
    exact ⟨_, rfl, by rw [← hs]; exact h.sub⟩
end Go.Proofs.YtipkgamiejenaaaGreat

/- Reference 19: Owned. -/
namespace Go.Proofs.YtipkgamiejenaaaGreat
open Go Go.RowKit Go.MapKept
set_option linter.unusedVariables false
set_option linter.unusedSectionVars false
set_option linter.unusedSimpArgs false
set_option maxRecDepth 100000
set_option maxHeartbeats 4000000
section
variable (v : Value) (t : St.S) (K : Nat) (hI : St.Inv t K) (hK : K ≤ 1000000)
include hI hK
end
end Go.Proofs.YtipkgamiejenaaaGreat

/- Reference 19: Make. -/
namespace Go.Proofs.YtipkgamiejenaaaGreat
open Go Go.RowKit Go.MapKept
set_option linter.unusedVariables false
set_option linter.unusedSectionVars false
set_option linter.unusedSimpArgs false
set_option maxRecDepth 100000
set_option maxHeartbeats 4000000
theorem holds.cast1 {w : World} {A B : HProp} {F : List HProp} (e : A = B) (h : holds w (A :: F)) : holds w (B :: F) := e ▸ h
structure RfK where
  k : Nat
  ca : Option Addr
  cc : Nat
  xa : Option Addr
  xc : Nat
  wa : Option Addr
  wc : Nat
theorem rf19_Make (n sz : Nat) (h0 : 0 < n) (hn : n ≤ 1048576) (hs0 : 64 ≤ sz) (hs1 : sz ≤ 256) (hp : Pw.pow sz = true) (w : World) (F : List HProp) (hw : holds w F) :
    Ct Tryz.prog 12 #[.int .i64 (n : Nat), .int .i64 (sz : Nat)] w fun e w' => ∃ v : Value, e = .returned (.tuple #[v, .int .i64 0]) ∧ holds w' (refS v (St.new n sz) :: F) := by
  refine Ct.go (args := [.int .i64 (n : Nat), .int .i64 (sz : Nat)]) Tryz.func12 rfl rfl rfl hw ?_
  have hP := fun w (F : List HProp) h => ref01_Power sz (by omega) (by omega) w F h
  rw [hp] at hP
  have hdl := dn_len n
  repeat' (first | (first | first | (apply GL.isCall; refine GL.call1 rfl rfl (fun w h => hP w _ h) ?_) | (apply GD.isAny; refine GD.call rfl rfl (fun w F' h => hP w _ h) ?_) | (refine G.isRegion 0 ?_; apply G.region; apply GL.isAlloc; refine GL.alloc (e := 34) rfl (fun br => ?_)) | (apply GL.isAlloc; first | (refine GL.alloc (e := 34) rfl (fun bz => ?_))) | (apply GL.isCall; refine GL.call rfl rfl (fun w h => rf17_New n hn w _ h) (fun sv => ?_); refine GL.pure (fun wx hx => ?_); obtain ⟨sa, sc, rfl, _⟩ := (Reads.at_ (v := sv) (enc := encI1) (n := 1) (l := dn n) wx hx).form; clear hx)) | first | refine stp ?_ | (refine stpB ?_; intro _) | (refine spl ?_ ?_ <;> intro hc <;> ((try simp only [decide_eq_true_eq, decide_eq_false_iff_not, Bool.not_true, Bool.not_false, ne_eq, Classical.not_not, Int.not_lt, Int.not_le] at hc); (try (exfalso; first | omega | exact hc trivial | exact hc rfl)))))
  all_goals (first | (exfalso; omega) | (exfalso; simp at hc; done) | skip)
  refine G.nilOwn 84 encCk 3 ?_
  refine G.nilOwn 9 encTx 1 ?_
  refine G.nilOwn 3 encI1 1 ?_
  refine G.loopK [0, 1, 4, 6] (RfK) (fun y => [(7, .int .i64 (y.k : Nat))]) (fun y => owns 3 encI1 1 (.slice y.wa (List.replicate (y.k) (0 : Int)).length y.wc) (List.replicate (y.k) (0 : Int)) :: owns 9 encTx 1 (.slice y.xa (List.replicate (y.k) (St.zeros sz)).length y.xc) (List.replicate (y.k) (St.zeros sz)) :: owns 84 encCk 3 (.slice y.ca (List.replicate (y.k) St.ch0).length y.cc) (List.replicate (y.k) St.ch0) :: blk bz (.cells #[.int .i64 (sz : Nat), .slice y.ca (List.replicate (y.k) St.ch0).length y.cc, .slice y.xa (List.replicate (y.k) (St.zeros sz)).length y.xc, .slice y.wa (List.replicate (y.k) (0 : Int)).length y.wc, .slice sa (dn n).length sc, .int .i64 0, .int .i64 0, .int .i64 0, .int .i64 0] 34 (0, 0)) :: owns 3 encI1 1 (.slice sa (dn n).length sc) (dn n) :: blk br (.cells #[.int .i64 0, .slice none 0 0, .slice none 0 0, .slice none 0 0, .slice none 0 0, .int .i64 0, .int .i64 0, .int .i64 0, .int .i64 0] 34 (0, 0)) :: F) (fun y => y.k ≤ n) (fun y => n - y.k) (⟨0, none, 0, none, 0, none, 0⟩) (Nat.zero_le _) (by repeat (first | exact trivial | refine And.intro rfl ?_)) (fun w h => by (try dsimp only); first | exact h | exact h.sub | ((try simp only [List.take_zero, List.drop_zero, List.map_nil, List.nil_append, List.zipIdx_nil, List.filter_nil]); exact h.sub)) ?_
  rintro ⟨k, ca, cc, xa, xc, wa, wc⟩ hk
  dsimp only at hk ⊢
  have l1 : (List.replicate (k) St.ch0).length = k := List.length_replicate ..
  have l2 : (List.replicate (k) (St.zeros sz)).length = k := List.length_replicate ..
  have l3 : (List.replicate (k) (0 : Int)).length = k := List.length_replicate ..
  by_cases hlt : k < n
  · repeat' (first | (first | (apply GL.isCall; refine GL.append1 (St.ch0) rfl rfl rfl rfl (by rfl) (by omega) (by omega) rfl (fun r => ?_); refine GL.pure (fun wx hx => ?_); obtain ⟨ya, yc, rfl, _⟩ := (Reads.at_ (v := r) (enc := encCk) (n := 3) (l := List.replicate (k) St.ch0 ++ [St.ch0]) wx hx).form; clear hx) | (apply GL.isCall; refine GL.append1 ((0 : Int)) rfl rfl rfl rfl (by rfl) (by omega) (by omega) rfl (fun r => ?_); refine GL.pure (fun wx hx => ?_); obtain ⟨ua, uc, rfl, _⟩ := (Reads.at_ (v := r) (enc := encI1) (n := 1) (l := List.replicate (k) (0 : Int) ++ [(0 : Int)]) wx hx).form; clear hx) | (refine G.isRegion 8 ?_; refine G.drawW [⟨none, [], some 5, none, fun _ => True, fun _ => owns 9 encTx 1 (.slice xa (List.replicate (k) (St.zeros sz)).length xc) (List.replicate (k) (St.zeros sz))⟩, ⟨some 3, [], none, some 46, fun u => u = .string (bs (St.zeros sz)), fun _ _ => True⟩, ⟨some 4, [], some 5, some 47, IsSlc, fun u => owns 9 encTx 1 u [St.zeros sz]⟩, ⟨some 5, [0, 2], none, some 48, IsSlc, fun u => owns 9 encTx 1 u (List.replicate (k) (St.zeros sz) ++ [St.zeros sz])⟩, ⟨none, [], some 7, none, fun _ => True, fun _ => blk bz (.cells (#[.int .i64 (sz : Nat), .slice ca (List.replicate (k) St.ch0).length cc, .slice xa (List.replicate (k) (St.zeros sz)).length xc, .slice wa (List.replicate (k) (0 : Int)).length wc, .slice sa (dn n).length sc, .int .i64 0, .int .i64 0, .int .i64 0, .int .i64 0].toList.set (0 + 1) (.slice ya (List.replicate (k) St.ch0 ++ [St.ch0]).length yc)).toArray 34 (0, 0))⟩, ⟨some 7, [4], none, some 48, fun _ => True, fun u => blk bz (.cells #[.int .i64 (sz : Nat), .slice ya (List.replicate (k) St.ch0 ++ [St.ch0]).length yc, u, .slice wa (List.replicate (k) (0 : Int)).length wc, .slice sa (dn n).length sc, .int .i64 0, .int .i64 0, .int .i64 0, .int .i64 0] 34 (0, 0))⟩] [(1, [4])] [0, 4] [1, 3, 5] (by kernel_rfl) (by kernel_rfl) rfl ⟨⟨_, rfl, .inl rfl⟩, ⟨_, rfl, .inl rfl⟩, trivial⟩ ?_) | (apply GW.isAny; first | refine GW.runA rfl rfl ?_ | refine GW.seeA rfl rfl ⟨⟨_, rfl, .inl rfl⟩, trivial⟩ rfl ?_) | (apply GW.isAny; refine GW.see (L := [blk bz (.cells (#[.int .i64 (sz : Nat), .slice ca (List.replicate (k) St.ch0).length cc, .slice xa (List.replicate (k) (St.zeros sz)).length xc, .slice wa (List.replicate (k) (0 : Int)).length wc, .slice sa (dn n).length sc, .int .i64 0, .int .i64 0, .int .i64 0, .int .i64 0].toList.set (0 + 1) (.slice ya (List.replicate (k) St.ch0 ++ [St.ch0]).length yc)).toArray 34 (0, 0))]) rfl rfl ⟨⟨_, rfl, .inl rfl⟩, trivial⟩ (by show Runs _ _ _ (_ :: _) _ _; first | (apply Runs.isMove; exact Runs.move rfl) | (apply Runs.isLoad; first | exact Runs.loadBlk rfl rfl | exact Runs.loadRow rfl (by first | omega | decide) rfl | exact Runs.loadRow0 rfl (by first | omega | decide) rfl | exact Runs.loadElem rfl (by first | omega | decide) | exact Runs.loadWhole rfl rfl | exact Runs.loadBlkA rfl rfl rfl) | (apply Runs.isFieldA; exact Runs.fieldAddr rfl) | (apply Runs.isBin; first | (apply Runs.eql <;> rfl) | (apply Runs.lss <;> rfl) | (apply Runs.neq <;> rfl) | (apply Runs.leq <;> rfl) | (apply Runs.gtr <;> rfl) | (apply Runs.geq <;> rfl) | exact Runs.add rfl rfl (by omega) | exact Runs.sub rfl rfl (by omega) | exact Runs.mul rfl rfl (by omega) | exact Runs.quo rfl rfl (by omega) | exact Runs.rem rfl rfl (by omega) | exact Runs.shr rfl rfl | exact Runs.shl rfl rfl (by omega) | exact Runs.and20 rfl rfl | exact Runs.shrU rfl rfl | exact Runs.eqlPtrNil rfl | exact Runs.neqPtrNil rfl | exact Runs.eqlMapNil rfl | exact Runs.neqMapNil rfl | exact Runs.eqlSlNil rfl | exact Runs.eqlInts rfl rfl rfl rfl | exact Runs.neqInts rfl rfl rfl rfl) | (apply Runs.isAssign; exact Runs.assign rfl) | (apply Runs.isIndexA; first | exact Runs.indexAddr rfl rfl rfl rfl (by first | omega | decide) | exact Runs.indexAddrI rfl rfl rfl (by first | omega | decide) (by first | omega | decide) | exact Runs.indexArr rfl rfl rfl (by first | omega | decide)) | (apply Runs.isPick; first | exact Runs.pickT rfl rfl | exact Runs.pickF rfl rfl) | (apply Runs.isExtract; exact Runs.extract rfl rfl) | (apply Runs.isBuiltin; first | exact Runs.lenRow rfl | exact Runs.min2 rfl rfl | exact Runs.max2 rfl rfl | exact Runs.lenMap rfl | exact Runs.lenArr rfl) | (apply Runs.isLookup; first | exact Runs.lookupI rfl rfl | exact Runs.lookupS rfl rfl (by assumption) | exact Runs.lookupN rfl rfl (by assumption) | exact Runs.lookup rfl rfl | exact Runs.lookupOk rfl rfl) | (apply Runs.isSlice; first | exact Runs.slice _ _ rfl rfl rfl rfl rfl rfl ⟨⟨(by first | omega | decide), (by first | omega | decide)⟩, .inl rfl⟩ | exact Runs.slice3 _ _ rfl rfl rfl rfl rfl rfl rfl ⟨⟨(by first | omega | decide), (by first | omega | decide)⟩, .inr rfl⟩) | (apply Runs.isConvert; exact Runs.convII rfl (by omega)) | (apply Runs.isField; first | exact Runs.fieldVal rfl rfl | exact Runs.fieldAgg rfl) | (apply Runs.isBuild; exact Runs.build rfl rfl) | (apply Runs.isIndex; first | exact Runs.indexVal rfl rfl rfl (by first | omega | decide) rfl | exact Runs.indexAgg rfl rfl rfl rfl rfl) | (apply Runs.isUn; first | exact Runs.not rfl | exact Runs.neg rfl (by omega)) | (apply Runs.isMakeFunc; exact Runs.makeFunc rfl rfl) | (apply Runs.isNilCheck; exact Runs.nilCheck rfl)) rfl ?_) | (apply GW.isAny; refine GW.eff rfl rfl rfl rfl rfl trivial rfl trivial (fun u hu => by subst hu; rfl) (DoesW.callK (vs := [.int .i64 (sz : Nat)]) rfl (fun w F' h => rf10_New sz (by omega) w _ h)) rfl (fun u hu => ?_); subst hu) | (apply GW.isAny; refine GW.eff rfl rfl rfl rfl rfl trivial rfl trivial (fun u hu => hu.defd) (DoesW.buildOne (St.zeros sz) rfl (by omega) rfl rfl) rfl (fun u hu => ?_); obtain ⟨a6, k6, c6, rfl⟩ := hu) | (apply GW.isAny; refine GW.eff rfl rfl rfl rfl rfl ⟨⟨_, rfl, .inl rfl⟩, ⟨_, rfl, .inr (.inr ⟨_, _, rfl, rfl, rfl⟩)⟩, trivial⟩ rfl trivial (fun u hu => hu.defd) (DoesW.append rfl rfl rfl (by simp; omega) (by simp; omega)) rfl (fun u hu => ?_); obtain ⟨a7, k7, c7, rfl⟩ := hu) | (apply GW.isAny; refine GW.storeOn (v7 := .slice a7 k7 c7) rfl rfl rfl rfl rfl rfl rfl ⟨⟨_, rfl, .inl rfl⟩, trivial⟩ rfl trivial rfl (DoesW.storeBlk (R := fun _ => True) rfl rfl rfl rfl rfl rfl) ?_) | (refine GW.nilE rfl ⟨⟨_, rfl, .inr (.inr ⟨_, _, rfl, rfl, rfl⟩)⟩, ⟨_, rfl, .inr (.inr ⟨_, _, rfl, rfl, rfl⟩)⟩, ⟨_, rfl, .inr (.inr ⟨_, _, rfl, rfl, rfl⟩)⟩, trivial⟩ ?_; dsimp only [List.cons_append, List.nil_append]) | (refine G.isRegion 9 ?_; refine G.pure (fun wx hx => ?_); obtain ⟨_, _, e9, _⟩ := (Reads.at_ (v := .slice a7 k7 c7) (enc := encTx) (n := 1) (l := (List.replicate (k) (St.zeros sz) ++ [St.zeros sz])) wx hx).form; cases e9; clear hx; apply G.region)) | first | refine stp ?_ | (refine stpB ?_; intro _) | (refine spl ?_ ?_ <;> intro hc <;> ((try simp only [decide_eq_true_eq, decide_eq_false_iff_not, Bool.not_true, Bool.not_false, ne_eq, Classical.not_not, Int.not_lt, Int.not_le] at hc); (try (exfalso; first | omega | exact hc trivial | exact hc rfl)))))
    all_goals (first | (exfalso; omega) | skip)
    refine GE.round ⟨k + 1, ya, yc, a7, c7, ua, uc⟩ hlt (by repeat (first | exact trivial | refine And.intro rfl ?_)) (fun w h => by (try dsimp only); rw [List.replicate_succ', List.replicate_succ', List.replicate_succ']; exact (holds.cast1 (B := blk bz (.cells #[.int .i64 (sz : Nat), .slice ya (List.replicate (k) St.ch0 ++ [St.ch0]).length yc, .slice a7 (List.replicate (k) (St.zeros sz) ++ [St.zeros sz]).length c7, .slice ua (List.replicate (k) (0 : Int) ++ [(0 : Int)]).length uc, .slice sa (dn n).length sc, .int .i64 0, .int .i64 0, .int .i64 0, .int .i64 0] 34 (0, 0))) rfl h).sub) (by (try dsimp only); omega)
  · obtain rfl : k = n := by omega
    repeat' (first | refine stp ?_ | (refine stpB ?_; intro _) | (refine spl ?_ ?_ <;> intro hc <;> ((try simp only [decide_eq_true_eq, decide_eq_false_iff_not, Bool.not_true, Bool.not_false, ne_eq, Classical.not_not, Int.not_lt, Int.not_le] at hc); (try (exfalso; first | omega | exact hc trivial | exact hc rfl)))))
    all_goals (first | (exfalso; omega) | skip)
    refine GE.resMany rfl (by (repeat (first | apply Res.nil | (apply Res.tmp; rfl) | (refine Res.cellA rfl rfl rfl ?_) | (refine Res.cell1 rfl rfl ?_)))) (fun w h => ?_)
    exact ⟨_, rfl, refS.shut (t := St.new k sz) rfl (holds.sub (H := owns 84 encCk 3 (.slice ca (List.replicate (k) St.ch0).length cc) (List.replicate (k) St.ch0) :: owns 9 encTx 1 (.slice xa (List.replicate (k) (St.zeros sz)).length xc) (List.replicate (k) (St.zeros sz)) :: owns 3 encI1 1 (.slice wa (List.replicate (k) (0 : Int)).length wc) (List.replicate (k) (0 : Int)) :: owns 3 encI1 1 (.slice sa (dn k).length sc) (dn k) :: F) h)⟩
end Go.Proofs.YtipkgamiejenaaaGreat

/- Reference 19: Take. -/
namespace Go.Proofs.YtipkgamiejenaaaGreat
open Go Go.RowKit Go.MapKept
set_option linter.unusedVariables false
set_option linter.unusedSimpArgs false
set_option maxRecDepth 100000
set_option maxHeartbeats 4000000
section
variable (v : Value) (t : St.S) (K : Nat) (hI : St.Inv t K) (hK : K ≤ 1000000)
include hI hK
theorem rf19_Take (ow : Int) (w : World) (F : List HProp) (hw : holds w (refS v t :: F)) :
    Ct Tryz.prog 31 #[v, .int .i64 ow] w fun e w' => ∃ v', e = .returned (.tuple #[v', .int .i64 (St.take t ow).2.1, .int .i64 (St.take t ow).2.2]) ∧ holds w' (refS v' (St.take t ow).1 :: F) := by
  obtain ⟨q, ⟨rfl, hev⟩, h1⟩ := refS.open hw
  have hnc := hI.ncap
  have hsl := hI.stk
  unfold St.take
  refine Ct.go (args := [.agg #[.int .i64 (t.size : Nat), .slice q.ca t.ch.length q.cc, .slice q.xa t.tx.length q.xc, .slice q.wa t.wi.length q.wc, .slice q.sa t.stack.length q.sc, .int .i64 q.e0, .int .i64 q.e1, .int .i64 q.e2, .int .i64 q.e3], .int .i64 ow]) Tryz.func31 rfl rfl rfl h1 ?_
  by_cases h0 : ow < 1
  · rw [if_pos h0]
    repeat' (first | refine stp ?_ | (refine stpB ?_; intro _) | (refine spl ?_ ?_ <;> intro hc <;> ((try simp only [decide_eq_true_eq, decide_eq_false_iff_not, Bool.not_true, Bool.not_false, ne_eq, Classical.not_not, Int.not_lt, Int.not_le] at hc); (try (exfalso; first | omega | exact hc trivial | exact hc rfl)))))
    all_goals (refine GE.resMany rfl (by (repeat (first | apply Res.nil | (apply Res.tmp; rfl) | (refine Res.cellA rfl rfl rfl ?_) | (refine Res.cell1 rfl rfl ?_)))) (fun w h => ?_); exact ⟨_, rfl, refS.shut hev h.sub⟩)
  rw [if_neg h0]
  cases hg : t.stack.getLast? with
  | none =>
    have hs : t.stack = [] := List.getLast?_eq_none_iff.1 hg
    dsimp only
    repeat' (first | ((apply GL.isCall; refine GL.callH1 (owns 3 encI1 1 (.slice q.sa t.stack.length q.sc) t.stack) (vs := [.slice q.sa t.stack.length q.sc]) rfl rfl (fun w h => rf17_TakeN' (.slice q.sa t.stack.length q.sc) t.stack hs w _ h) ?_)) | first | refine stp ?_ | (refine stpB ?_; intro _) | (refine spl ?_ ?_ <;> intro hc <;> ((try simp only [decide_eq_true_eq, decide_eq_false_iff_not, Bool.not_true, Bool.not_false, ne_eq, Classical.not_not, Int.not_lt, Int.not_le] at hc); (try (exfalso; first | omega | exact hc trivial | exact hc rfl)))))
    all_goals (first | (exfalso; simp at hc; done) | skip)
    all_goals (refine GE.resMany rfl (by (repeat (first | apply Res.nil | (apply Res.tmp; rfl) | (refine Res.cellA rfl rfl rfl ?_) | (refine Res.cell1 rfl rfl ?_)))) (fun w h => ?_); exact ⟨_, rfl, refS.shut hev h.sub⟩)
  | some i =>
    have hs := St.snoc_last hg
    obtain ⟨k, hk, rfl, hp⟩ := (hI.free i).1 (by rw [← hs]; simp)
    dsimp only
    rw [t.c_eq k hk]
    obtain ⟨b0, b1, b2, b3⟩ := hI.ev4 hK hev
    repeat' (first | (first | (apply GL.isCall; refine GL.callH (owns 3 encI1 1 (.slice q.sa t.stack.length q.sc) t.stack) (vs := [.slice q.sa t.stack.length q.sc]) rfl rfl (fun w h => rf17_TakeY' (.slice q.sa t.stack.length q.sc) t.stack t.stack.dropLast k hs (by omega) w _ h) (fun r => ?_)) | (refine G.isRegion 7 ?_; refine G.drawAhead 10 11 [10, 12, 13, 14] (by kernel_rfl) rfl (by simp only [List.take_succ_cons, List.take_zero]; rfl) (by repeat (first | exact PickIs.nil | apply PickIs.cons rfl)) (by kernel_rfl) (Runs.move rfl) rfl ?_) | (apply GL.isCall; refine GL.callH (owns 84 encCk 3 (.slice q.ca t.ch.length q.cc) t.ch) (vs := [.agg #[.int .i64 (t.size : Nat), .slice q.ca t.ch.length q.cc, .slice q.xa t.tx.length q.xc, .slice q.wa t.wi.length q.wc, .slice r.1 t.stack.dropLast.length r.2, .int .i64 q.e0, .int .i64 q.e1, .int .i64 q.e2, .int .i64 q.e3], .int .i64 k, .agg (encCk ⟨1, ow, (t.ch[k]).gen⟩).toArray, .int .i64 0]) rfl rfl (fun w h => rf19_with0 (t.size : Nat) q.ca q.xa q.wa r.1 q.cc t.tx.length q.xc t.wi.length q.wc t.stack.dropLast.length r.2 q.e0 q.e1 q.e2 q.e3 b0 t.ch hnc k hk ⟨1, ow, (t.ch[k]).gen⟩ w _ h) (fun r2 => ?_))) | first | refine stp ?_ | (refine stpB ?_; intro _) | (refine spl ?_ ?_ <;> intro hc <;> ((try simp only [decide_eq_true_eq, decide_eq_false_iff_not, Bool.not_true, Bool.not_false, ne_eq, Classical.not_not, Int.not_lt, Int.not_le] at hc); (try (exfalso; first | omega | exact hc trivial | exact hc rfl)))))
    all_goals (refine GE.resMany rfl (by (repeat (first | apply Res.nil | (apply Res.tmp; rfl) | (refine Res.cellA rfl rfl rfl ?_) | (refine Res.cell1 rfl rfl ?_)))) (fun w h => ?_); exact ⟨_, rfl, refS.shut (t := { t with stack := t.stack.dropLast, ch := t.ch.set k ⟨1, ow, (t.ch[k]).gen⟩, ev := St.up t.ev 0 }) (by rw [hev]; rfl) h.sub⟩)
end
end Go.Proofs.YtipkgamiejenaaaGreat

/- Reference 19: Step. -/
namespace Go.Proofs.YtipkgamiejenaaaGreat
open Go Go.RowKit Go.MapKept
set_option linter.unusedVariables false
set_option linter.unusedSectionVars false
set_option linter.unusedSimpArgs false
set_option maxRecDepth 100000
set_option maxHeartbeats 4000000
section
variable (v : Value) (t : St.S) (K : Nat) (hI : St.Inv t K) (hK : K ≤ 1000000)
include hI hK
end
end Go.Proofs.YtipkgamiejenaaaGreat

/- The laws of chapter 19: the example, and StoreNone. -/
namespace Go.Proofs.YtipkgamiejenaaaGreat
open Go Go.RowKit Go.MapKept
set_option linter.unusedVariables false
set_option linter.unusedSectionVars false
set_option linter.unusedSimpArgs false
set_option maxRecDepth 100000
set_option maxHeartbeats 4000000
namespace St
def w1 : S := (take (new 2 64) 7).1
def w2 : S := (put w1 0 0 3 [97, 98, 99]).1
def w3 : S := (give w2 0 7).1
def w4 : S := (start w3 0).1
def w5 : S := (step w4 0 64).1
end St
end Go.Proofs.YtipkgamiejenaaaGreat

/- The law StoreRound of chapter 19. -/
namespace Go.Proofs.YtipkgamiejenaaaGreat
open Go Go.RowKit Go.MapKept
set_option linter.unusedVariables false
set_option linter.unusedSectionVars false
set_option linter.unusedSimpArgs false
set_option maxRecDepth 100000
set_option maxHeartbeats 4000000
section
variable {P : Program} {n k d : Nat} {env : Env} {F F0 : List HProp} {ops : Array Oper} {rest : List Oper} {ty : TypeId} {pos : String} {aft : Array Edge} {Z : Act → Prop}
theorem GD.callP {f : FuncId} {xs : List Operand} {ts : Array TypeId} {vs : List Value} {v : Value} (X : HProp) [hX : Has F X F0] [ho : Own P f] (hx : opnds env xs = some vs) (hd : Nat.blt d n = true)
    (hc : ∀ w G, holds w (X :: (F0 ++ G)) → Ct P f vs.toArray w fun e w' => e = .returned v ∧ holds w' (X :: (F0 ++ G))) (h : GD P n ops F Z (k + 1) rest ((d, v) :: env)) :
    GD P n ops F Z k (⟨some d, .call { callee := .value (.func f), args := xs.toArray, argTypes := ts }, ty, pos, aft, none⟩ :: rest) env :=
  GD.call hx hd (fun w F' hw => by
    have hp : (F ++ F').Perm (X :: (F0 ++ F')) := hX.perm.append_right F'
    exact (hc w F' (hw.perm hp)).mono fun e w' ⟨he, hh⟩ => ⟨he, hh.perm hp.symm⟩) h
end
structure ActM where
  kd : Int
  i : Int
  ow : Int
  ge : Int
  at_ : Int
  n : Int
  tx : List UInt8
def encAct (a : ActM) : List Value := [.int .i64 a.kd, .int .i64 a.i, .int .i64 a.ow, .int .i64 a.ge, .int .i64 a.at_, .int .i64 a.n, .string (bs a.tx)]
instance : Enc encAct 7 := ⟨fun _ => rfl, fun _ => by simp [encAct, Value.oneCell'], by omega⟩
namespace St
theorem take_len (t : S) (ow : Int) : (take t ow).1.ch.length = t.ch.length := by
  unfold take
  split
  · rfl
  · cases t.stack.getLast? with
    | none => rfl
    | some i => simp
theorem give_len (t : S) (i ow : Int) : (give t i ow).1.ch.length = t.ch.length := by unfold give; split; rfl; split; rfl; simp
end St
end Go.Proofs.YtipkgamiejenaaaGreat

/- The law StorePlays of chapter 19: a call on both. -/
namespace Go.Proofs.YtipkgamiejenaaaGreat
open Go Go.RowKit Go.MapKept
set_option linter.unusedVariables false
set_option linter.unusedSectionVars false
set_option linter.unusedSimpArgs false
set_option maxRecDepth 100000
set_option maxHeartbeats 4000000
section
variable {P : Program} {n : Nat} {env : Env} {F : List HProp} {xT yT : TypeId} {x y : Operand}
end
def St.act (t : St.S) (a : ActM) : St.S :=
  if a.kd = 0 then (St.take t a.ow).1 else if a.kd = 1 then (St.give t a.i a.ow).1 else if a.kd = 2 then (St.start t a.i).1 else if a.kd = 3 then (St.step t a.i a.n).1 else if a.kd = 4 then t else (St.put t a.i a.ge a.at_ a.tx).1
section
variable (sb : Nat) (v : Value) (t : St.S) (K : Nat) (hI : St.Inv t K) (hK : K ≤ 1000000)
include hI hK
end
end Go.Proofs.YtipkgamiejenaaaGreat

/- The law StorePlays of chapter 19: reference 10's Dirty; what both tell of a chunk; rows that are alike. -/
namespace Go.Proofs.YtipkgamiejenaaaGreat
open Go Go.RowKit Go.MapKept
set_option linter.unusedVariables false
set_option linter.unusedSectionVars false
set_option linter.unusedSimpArgs false
set_option maxRecDepth 100000
set_option maxHeartbeats 4000000
def dirt (b : List UInt8) : Nat := (b.filter fun y => decide (y ≠ 0)).length
theorem st_Ints (v u : Value) (l m : List Int) (hn : l.length ≤ 1048576) (hm : m.length ≤ 1048576) (w : World) (F : List HProp) [Reads F v encI1 1 l] [Reads F u encI1 1 m] (hw : holds w F) :
    Ct Tryz.prog 20 #[v, u] w fun e w' => e = .returned (.bool (decide (l = m))) ∧ holds w' F := by
  refine Ct.go (args := [v, u]) Tryz.func20 rfl rfl rfl hw ?_
  repeat' (first | refine stp ?_ | (refine stpB ?_; intro _) | (refine spl ?_ ?_ <;> intro hc <;> ((try simp only [decide_eq_true_eq, decide_eq_false_iff_not, Bool.not_true, Bool.not_false, ne_eq, Classical.not_not, Int.not_lt, Int.not_le] at hc); (try (exfalso; first | omega | exact hc trivial | exact hc rfl)))))
  · refine GE.resOne rfl (by (repeat (first | apply Res.nil | (apply Res.tmp; rfl) | (refine Res.cellA rfl rfl rfl ?_) | (refine Res.cell1 rfl rfl ?_)))) (fun w h => ?_)
    rw [decide_eq_false (fun e => by subst e; omega)]
    exact ⟨rfl, h.sub⟩
  refine G.loop (α := Nat) (fun i => [(0, v), (1, u), (5, .int .i64 i)]) (fun i => F) (fun i => i ≤ l.length ∧ l.take i = m.take i) (fun i => l.length - i) 0 ⟨by omega, by simp⟩ ⟨rfl, rfl, rfl, trivial⟩ (fun w h => h) ?_
  rintro i ⟨hi, hlo⟩
  repeat' (first | refine stp ?_ | (refine stpB ?_; intro _) | (refine spl ?_ ?_ <;> intro hc <;> ((try simp only [decide_eq_true_eq, decide_eq_false_iff_not, Bool.not_true, Bool.not_false, ne_eq, Classical.not_not, Int.not_lt, Int.not_le] at hc); (try (exfalso; first | omega | exact hc trivial | exact hc rfl)))))
  · refine GE.resOne rfl (by (repeat (first | apply Res.nil | (apply Res.tmp; rfl) | (refine Res.cellA rfl rfl rfl ?_) | (refine Res.cell1 rfl rfl ?_)))) (fun w h => ?_)
    rename_i hc1 _ _ _ _
    rw [decide_eq_false (fun e => by subst e; exact hc rfl)]
    exact ⟨rfl, h.sub⟩
  · refine GE.round (i + 1) ⟨by omega, ?_⟩ ⟨rfl, rfl, rfl, trivial⟩ (fun w h => h.sub) (by omega)
    rw [List.take_succ_eq_append_getElem (by omega), List.take_succ_eq_append_getElem (by omega), hlo, hc]
  · refine GE.resOne rfl (by (repeat (first | apply Res.nil | (apply Res.tmp; rfl) | (refine Res.cellA rfl rfl rfl ?_) | (refine Res.cell1 rfl rfl ?_)))) (fun w h => ?_)
    rw [List.take_of_length_le (by omega), List.take_of_length_le (by omega)] at hlo
    rw [decide_eq_true hlo]
    exact ⟨rfl, h.sub⟩
instance {c : ChunkM} : IntsL (encCk c) [c.phase, c.owner, c.gen] := ⟨rfl⟩
theorem ChunkM.ext3 {a b : ChunkM} : a = b ↔ a.phase = b.phase ∧ a.owner = b.owner ∧ a.gen = b.gen := by
  cases a; cases b; simp
instance : DecidableEq ChunkM := fun a b => decidable_of_iff _ ChunkM.ext3.symm
section
variable (sb : Nat) (v : Value) (t : St.S) (K : Nat) (hI : St.Inv t K) (hK : K ≤ 1000000)
include hI hK
end
end Go.Proofs.YtipkgamiejenaaaGreat

/- A reclaiming stays right behind a tick; the chapter's example. -/
namespace Go.Proofs.YtipkgamiejenaaaGreat
open Go Go.RowKit Go.MapKept
set_option linter.unusedVariables false
set_option linter.unusedSectionVars false
set_option linter.unusedSimpArgs false
set_option maxRecDepth 100000
set_option maxHeartbeats 4000000
namespace Rc
theorem Ok.tick {m : S} {K : Nat} (h : Ok m K) (p : List Int) (hp : p.length ≤ 64) : Ok (tick m p) (K + 1 + 2 * m.line.length) := by
  obtain ⟨a, b, c, d⟩ := drain_inv m.q.toNat m.t m.line K h.inv h.wt
  have ht : (m.line.take m.q.toNat).length ≤ m.line.length := by rw [List.length_take]; omega
  have hl := lev_in h
  refine ⟨a.mono (by omega), b, h.q, h.low, ?_, fun x hx => ?_, fun x hx => ?_, ?_, ?_⟩
  · show (Tr.ask _ p).length = 64
    unfold Tr.ask
    rw [List.length_append, Tr.spread_len, List.length_replicate]; omega
  · change x ∈ Tr.spread _ p ++ List.replicate _ 0 at hx
    rcases List.mem_append.1 hx with hx | hx
    · refine Tr.spread_b p _ ?_ x hx
      have := h.low
      unfold Tr.I64 Wm.lack; dsimp only; split <;> omega
    · have := (List.mem_replicate.1 hx).2; omega
  · change x ∈ m.lv ++ [lev m] at hx
    rcases List.mem_append.1 hx with hx | hx
    · exact h.lv x hx
    · simp at hx; subst hx; exact hl
  · show (m.lv ++ [lev m]).length ≤ _
    have := h.ll
    simp; omega
  · have := h.fr
    show 0 ≤ m.fr + ((m.line.take m.q.toNat).length : Nat) ∧ m.fr + ((m.line.take m.q.toNat).length : Nat) ≤ ((K + 1 + 2 * m.line.length : Nat) : Int)
    omega
theorem Ok.new {t : St.S} {K : Nat} (hI : St.Inv t K) {q low : Int} (hq : 1 ≤ q ∧ q ≤ 1048576) (hl : 0 ≤ low ∧ low ≤ 1048576) : Ok ⟨t, q, low, [], List.replicate 64 0, [], 0⟩ K :=
  ⟨hI, ⟨by simp, by simp⟩, hq, hl, by simp, fun x hx => by have := (List.mem_replicate.1 hx).2; omega, by simp, by simp, by simp⟩
theorem Ok.take {m : S} {K : Nat} (h : Ok m K) (ow : Int) : Ok { m with t := (St.take m.t ow).1 } (K + 1) := by
  refine ⟨h.inv.take ow, ⟨h.wt.nd, fun x hx => ?_⟩, h.q, h.low, h.wl, h.wb, h.lv, by have := h.ll; dsimp only; omega, by have := h.fr; dsimp only; omega⟩
  obtain ⟨k, rfl, hk, hp⟩ := h.wt.ph x hx
  dsimp only
  unfold St.take
  split
  · exact ⟨k, rfl, hk, hp⟩
  · split
    · exact ⟨k, rfl, hk, hp⟩
    · rename_i i hi
      have him : i ∈ m.t.stack := List.mem_of_getLast? hi
      obtain ⟨j, hj, rfl, hp0⟩ := (h.inv.free i).1 him
      have hjk : k ≠ j := fun e => by subst e; rw [m.t.c_eq k hk] at hp; omega
      refine ⟨k, rfl, by simpa using hk, ?_⟩
      unfold St.S.c at hp ⊢
      dsimp only
      rw [Int.toNat_natCast] at hp
      rw [Int.toNat_natCast, St.getD_set _ _ _ _ _ hj, Int.toNat_natCast, if_neg hjk]
      exact hp
end Rc
namespace Wk
def t1 : St.S := (St.take (St.new 4 64) 1).1
def t2 : St.S := (St.take t1 1).1
def t3 : St.S := (St.take t2 1).1
def m0 : Rc.S := ⟨t3, 2, 4, [], List.replicate 64 0, [], 0⟩
def m1 : Rc.S := (Rc.put m0 2 1).1
def m2 : Rc.S := (Rc.put m1 0 1).1
def m3 : Rc.S := (Rc.put m2 1 1).1
def m4 : Rc.S := Rc.tick m3 [9]
def m5 : Rc.S := Rc.tick m4 []
theorem e1 : (Rc.put m0 2 1).2 = 0 := by decide +kernel
theorem e2 : (Rc.put m1 0 1).2 = 0 := by decide +kernel
theorem e3 : (Rc.put m2 1 1).2 = 0 := by decide +kernel
theorem e4 : (St.give m3.t 1 1).2 = 18 := by decide +kernel
theorem e5 : m3.line = [2, 0, 1] := by decide +kernel
theorem e6 : m4.line = [1] := by decide +kernel
theorem e7 : m5.fr = 3 := by decide +kernel
theorem e8 : m5.lv = [3, 4] := by decide +kernel
theorem e9 : m5.low = 4 := by decide +kernel
theorem e10 : m3.q = 2 ∧ m4.q = 2 := by decide +kernel
theorem i0 : St.Inv (St.new 4 64) 0 := St.Inv.new 4 64 (by omega) (by omega)
theorem i1 : St.Inv t1 1 := i0.take 1
theorem i2 : St.Inv t2 2 := i1.take 1
theorem i3 : St.Inv t3 3 := i2.take 1
theorem o0 : Rc.Ok m0 3 := Rc.Ok.new i3 (by omega) (by omega)
theorem o1 : Rc.Ok m1 4 := o0.put 2 1
theorem o2 : Rc.Ok m2 5 := o1.put 0 1
theorem o3 : Rc.Ok m3 6 := o2.put 1 1
theorem p4 : Rc.put m3 1 1 = (m3, 18) := by unfold Rc.put; rw [if_neg (by rw [e4]; decide), e4]
theorem o4 : Rc.Ok m4 13 := by have := o3.tick [9] (by simp); rw [e5] at this; exact this
theorem o5 : Rc.Ok m5 16 := by have := o4.tick [] (by simp); rw [e6] at this; exact this
end Wk
end Go.Proofs.YtipkgamiejenaaaGreat

/- The law ReclaimWhen of chapter 25: what is plain. -/
namespace Go.Proofs.YtipkgamiejenaaaGreat
open Go Go.RowKit Go.MapKept
set_option linter.unusedVariables false
set_option linter.unusedSimpArgs false
namespace Rc
theorem c_set (t : St.S) (k j : Nat) (hk : k < t.ch.length) (v : ChunkM) (l : List ChunkM) (h : l = t.ch.set k v) : ({ t with ch := l } : St.S).c j = if j = k then v else t.c j := by
  unfold St.S.c
  dsimp only
  rw [h, Int.toNat_natCast, St.getD_set _ _ _ _ _ hk]
theorem wipe_c {t : St.S} {K : Nat} (hI : St.Inv t K) {k : Nat} (hk : k < t.ch.length) (hp : (t.c k).phase = 2) (j : Nat) : (wipe t k).c j = if j = k then ⟨0, 0, (t.c k).gen + 1⟩ else t.c j := by
  unfold St.S.c
  rw [wipe_ch hI hk hp, Int.toNat_natCast, St.getD_set _ _ _ _ _ hk, Int.toNat_natCast]
  rfl
theorem drain_c : ∀ (k : Nat) (t : St.S) (l : List Int) (K : Nat), St.Inv t K → Wt t l → ∀ x : Nat, (drain k t l).1.c x = if (x : Int) ∈ l.take k then ⟨0, 0, (t.c x).gen + 1⟩ else t.c x
  | 0, t, l, K, hI, h, x => by simp [drain]
  | k + 1, t, [], K, hI, h, x => by simp [drain]
  | k + 1, t, i :: l, K, hI, h, x => by
    have ih := drain_c k (wipe t i) l (K + 2) (wipe_inv hI i) (h.tail hI) x
    obtain ⟨j, rfl, hj, hp⟩ := h.ph i List.mem_cons_self
    have hn := List.nodup_cons.1 h.nd
    rw [wipe_c hI hj hp] at ih
    simp only [drain, List.take_succ_cons, List.mem_cons]
    rw [ih]
    by_cases hx : x = j
    · subst hx
      rw [if_pos rfl, if_neg (fun hm => hn.1 (List.mem_of_mem_take hm)), if_pos (.inl rfl)]
    · rw [if_neg hx]
      by_cases hm : (x : Int) ∈ l.take k
      · rw [if_pos hm, if_pos (.inr hm)]
      · rw [if_neg hm, if_neg (by rintro (e | e); exact hx (by omega); exact hm e)]
end Rc
namespace Rw
def dn (a k : Nat) : List Int := (List.range k).map fun j => ((a - j : Nat) : Int)
theorem dn_len (a k : Nat) : (dn a k).length = k := by simp [dn]
theorem dn_succ (a k : Nat) : dn a (k + 1) = dn a k ++ [((a - k : Nat) : Int)] := by simp [dn, List.range_succ]
theorem dn_at (a k i : Nat) (h : i < k) : (dn a k)[i]'(by rw [dn_len]; exact h) = ((a - i : Nat) : Int) := by simp [dn]
theorem dn_drop (a k q : Nat) : (dn a k).drop q = dn (a - q) (k - q) := by
  apply List.ext_getElem
  · simp [dn]
  · intro i h1 h2
    simp [dn]
    omega
structure Tk (t : St.S) (n i : Nat) : Prop where
  len : t.ch.length = n
  size : t.size = 64
  stk : t.stack = dn (n - 1) (n - i)
  own : ∀ j, j < i → t.c j = ⟨1, 1, 0⟩
  ge : ∀ j, j < n → (t.c j).gen = 0
theorem Tk.new (n : Nat) : Tk (St.new n 64) n 0 := by
  refine ⟨by simp [St.new], rfl, ?_, fun j h => absurd h (Nat.not_lt_zero j), fun j h => ?_⟩
  · apply List.ext_getElem
    · simp [St.new, dn]
    · intro i h1 h2
      simp [St.new, dn] at h1 ⊢
  · have : (St.new n 64).c j = St.ch0 := by
      unfold St.S.c St.new
      dsimp only
      rw [Int.toNat_natCast, List.getD_eq_getElem?_getD, List.getElem?_replicate, if_pos h]; rfl
    rw [this]; rfl
theorem Tk.take {t : St.S} {n i : Nat} (h : Tk t n i) (hi : i < n) : (St.take t 1).2 = ((i : Int), 0) ∧ Tk (St.take t 1).1 n (i + 1) := by
  obtain ⟨k, hk⟩ : ∃ k, n - i = k + 1 := ⟨n - i - 1, by omega⟩
  have hs := h.stk
  rw [hk, dn_succ] at hs
  have e1 : n - 1 - k = i := by omega
  rw [e1] at hs
  have hl : t.stack.getLast? = some (i : Int) := by rw [hs]; simp
  have hd : t.stack.dropLast = dn (n - 1) k := by rw [hs, List.dropLast_concat]
  have hlen := h.len
  unfold St.take
  rw [if_neg (by omega), hl]
  dsimp only
  refine ⟨rfl, by simpa using hlen, h.size, ?_, fun j hj => ?_, fun j hj => ?_⟩
  · dsimp only; rw [hd, show n - (i + 1) = k by omega]
  · have := Rc.c_set { t with stack := t.stack.dropLast, ev := St.up t.ev 0 } i j (by dsimp only; omega) ⟨1, 1, (t.c i).gen⟩ _ rfl
    rw [Int.toNat_natCast]
    rw [this]
    split
    · rw [h.ge i hi]
    · exact h.own j (by omega)
  · have := Rc.c_set { t with stack := t.stack.dropLast, ev := St.up t.ev 0 } i j (by dsimp only; omega) ⟨1, 1, (t.c i).gen⟩ _ rfl
    rw [Int.toNat_natCast]
    rw [this]
    split
    · exact h.ge i hi
    · exact h.ge j hj
theorem Tk.put {t : St.S} {n i K : Nat} (hI : St.Inv t K) (h : Tk t n (i + 1)) (hi : i < n) (s : List UInt8) (hs : s.length = 4) : (St.put t i 0 5 s).2 = 0 ∧ Tk (St.put t i 0 5 s).1 n (i + 1) := by
  have hlen := h.len
  have hc := h.own i (by omega)
  have hx : (t.x i).length = 64 := by rw [(hI.cell i (by omega)).len, h.size]
  unfold St.put
  rw [if_neg (by unfold St.S.out; omega), if_neg (by unfold St.stale; rw [hc]; simp), if_neg (by unfold St.off; rw [hs, hx]; omega)]
  exact ⟨rfl, h.len, h.size, h.stk, h.own, h.ge⟩
structure Pt (m : Rc.S) (n i : Nat) : Prop where
  line : m.line = dn (n - 1) i
  len : m.t.ch.length = n
  own : ∀ j, j < n - i → m.t.c j = ⟨1, 1, 0⟩
  ge : ∀ j, j < n → (m.t.c j).gen = 0
theorem give_yes {t : St.S} {k : Nat} (hk : k < t.ch.length) (h : t.c k = ⟨1, 1, 0⟩) : St.give t k 1 = ({ t with ch := t.ch.set k ⟨2, 0, 0⟩, ev := St.up t.ev 1 }, 0) := by
  unfold St.give
  rw [if_neg (by unfold St.S.out; omega), if_neg (by rw [h]; simp), h, Int.toNat_natCast]
theorem Pt.put {m : Rc.S} {n i : Nat} (h : Pt m n i) (hi : i < n) : (Rc.put m ((n - 1 - i : Nat) : Int) 1).2 = 0 ∧ Pt (Rc.put m ((n - 1 - i : Nat) : Int) 1).1 n (i + 1) := by
  have hlen := h.len
  have hg := give_yes (t := m.t) (k := n - 1 - i) (by omega) (h.own _ (by omega))
  have e2 : (St.give m.t ((n - 1 - i : Nat) : Int) 1).2 = 0 := by rw [hg]
  unfold Rc.put
  rw [if_pos e2, hg]
  refine ⟨rfl, ?_, by simpa using hlen, fun j hj => ?_, fun j hj => ?_⟩
  · dsimp only; rw [h.line, dn_succ]
  · have := Rc.c_set { m.t with ev := St.up m.t.ev 1 } (n - 1 - i) j (by dsimp only; omega) ⟨2, 0, 0⟩ _ rfl
    dsimp only at this ⊢
    rw [this, if_neg (by omega)]
    exact h.own j (by omega)
  · have := Rc.c_set { m.t with ev := St.up m.t.ev 1 } (n - 1 - i) j (by dsimp only; omega) ⟨2, 0, 0⟩ _ rfl
    dsimp only at this ⊢
    rw [this]
    split
    · rfl
    · exact h.ge j hj
structure Wn (m : Rc.S) (n d q s : Nat) : Prop where
  line : ∃ P : List Int, m.line = dn (n - 1 - q * s) (d + 1 - q * s) ++ P ∧ ∀ y ∈ P, 0 ≤ y ∧ y < ((n - 1 - d : Nat) : Int)
  len : m.t.ch.length = n
  gx : (m.t.c ((n - 1 - d : Nat) : Int)).gen = 0
  q : m.q = q
theorem Wn.start {m : Rc.S} {n d q : Nat} (h : Pt m n (d + 1)) (hd : d < n) (hq : m.q = q) : Wn m n d q 0 :=
  ⟨⟨[], by rw [h.line, Nat.mul_zero, List.append_nil]; rfl, by simp⟩, h.len, h.ge _ (by omega), hq⟩
theorem Wn.put {m : Rc.S} {n d q s : Nat} (h : Wn m n d q s) (i : Nat) (hi : i < n - 1 - d) : Wn (Rc.put m i 1).1 n d q s := by
  obtain ⟨P, hl, hP⟩ := h.line
  have hlen := h.len
  unfold Rc.put
  split
  · rename_i h0
    obtain ⟨k, hk0, hk, hp, e⟩ := Rc.give_ok h0
    obtain rfl : i = k := by omega
    refine ⟨⟨P ++ [(i : Int)], by dsimp only; rw [hl, List.append_assoc], fun y hy => ?_⟩, ?_, ?_, h.q⟩
    · rcases List.mem_append.1 hy with hy | hy
      · exact hP y hy
      · simp at hy; omega
    · dsimp only; rw [e]; simpa using hlen
    · dsimp only
      rw [e]
      have := Rc.c_set { m.t with ev := St.up m.t.ev 1 } i (n - 1 - d) (by dsimp only; omega) ⟨2, 0, (m.t.c i).gen⟩ _ rfl
      dsimp only at this ⊢
      rw [this, if_neg (by omega)]
      exact h.gx
  · exact h
theorem Wn.mem {m : Rc.S} {n d q s : Nat} (h : Wn m n d q s) (hd : d < n) (hs : q * s ≤ d) : ((n - 1 - d : Nat) : Int) ∈ m.line := by
  obtain ⟨P, hl, hP⟩ := h.line
  rw [hl]
  refine List.mem_append_left _ ?_
  rw [show d + 1 - q * s = (d - q * s) + 1 by omega, dn_succ]
  refine List.mem_append_right _ ?_
  simp
  omega
theorem Wn.out {m : Rc.S} {n d q s : Nat} (h : Wn m n d q s) (i : Nat) (hi : i < (m.line.take q).length) (hx : i < d + 1 - q * s) : (m.line.take q)[i] = ((n - 1 - q * s - i : Nat) : Int) := by
  obtain ⟨P, hl, hP⟩ := h.line
  have e1 : (m.line.take q)[i] = m.line[i]'(by rw [List.length_take] at hi; omega) := by rw [List.getElem_take]
  rw [e1]
  have e2 : m.line[i]'(by rw [List.length_take] at hi; omega) = (dn (n - 1 - q * s) (d + 1 - q * s) ++ P)[i]'(by rw [List.length_append, dn_len]; omega) := by congr 1
  rw [e2, List.getElem_append_left (by rw [dn_len]; exact hx), dn_at _ _ _ hx]
theorem Wn.tick {m : Rc.S} {n d q s K : Nat} (h : Wn m n d q s) (hO : Rc.Ok m K) (hd : d < n) (hs : q * s ≤ d) (hq : 1 ≤ q) :
    (q * (s + 1) ≤ d → (m.line.take q).length = q ∧ Wn (Rc.tick m []) n d q (s + 1)) ∧ (d < q * (s + 1) → (Rc.tick m []).t.c ((n - 1 - d : Nat) : Int) = ⟨0, 0, 1⟩ ∧ placeOf (Rc.tick m []).line ((n - 1 - d : Nat) : Int) = -1 ∧ (Rc.tick m []).t.ch.length = n) := by
  have hm := h.mem hd hs
  obtain ⟨P, hl, hP⟩ := h.line
  have hlen := h.len
  have hqq : m.q.toNat = q := by rw [h.q]; rfl
  have hdc := Rc.drain_c q m.t m.line K hO.inv hO.wt (n - 1 - d)
  have hchl := (Rc.drain_inv q m.t m.line K hO.inv hO.wt).2.2.2
  have ht : (Rc.tick m []).t = (Rc.drain q m.t m.line).1 := by unfold Rc.tick; rw [hqq]
  have hli : (Rc.tick m []).line = m.line.drop q := by unfold Rc.tick; rw [hqq]
  have e3 : q * (s + 1) = q * s + q := Nat.mul_succ q s
  refine ⟨fun h1 => ?_, fun h1 => ?_⟩
  · have htk : (m.line.take q).length = q := by rw [List.length_take, hl, List.length_append, dn_len]; omega
    have hnm : ((n - 1 - d : Nat) : Int) ∉ m.line.take q := by
      intro hc
      rw [hl, List.take_append_of_le_length (by rw [dn_len]; omega)] at hc
      obtain ⟨j, hj, e⟩ := List.getElem_of_mem hc
      rw [List.length_take, dn_len] at hj
      rw [List.getElem_take, dn_at _ _ _ (by omega)] at e
      omega
    refine ⟨htk, ⟨P, ?_, hP⟩, by rw [ht, hchl, hlen], ?_, h.q⟩
    · rw [hli, hl, List.drop_append_of_le_length (by rw [dn_len]; omega), dn_drop]
      congr 2 <;> omega
    · rw [ht, hdc, if_neg hnm]; exact h.gx
  · have hin : ((n - 1 - d : Nat) : Int) ∈ m.line.take q := by
      rw [hl, List.take_append, dn_len]
      refine List.mem_append_left _ ?_
      rw [List.take_of_length_le (by rw [dn_len]; omega), show d + 1 - q * s = (d - q * s) + 1 by omega, dn_succ]
      refine List.mem_append_right _ ?_
      simp
      omega
    refine ⟨?_, ?_, by rw [ht, hchl, hlen]⟩
    · rw [ht, hdc, if_pos hin, h.gx]; rfl
    · rw [hli]
      have hnd := hO.wt.nd
      rw [← List.take_append_drop q m.line, List.nodup_append] at hnd
      unfold placeOf
      rw [if_neg (fun hc => hnd.2.2 _ hin _ hc rfl)]
end Rw
end Go.Proofs.YtipkgamiejenaaaGreat

/- References 23, 24, 25: level, Lack, Spread, Paid, wiped. -/
namespace Go.Proofs.YtipkgamiejenaaaGreat
open Go Go.RowKit Go.MapKept
set_option linter.unusedVariables false
set_option linter.unusedSectionVars false
set_option linter.unusedSimpArgs false
set_option maxRecDepth 100000
set_option maxHeartbeats 2000000
end Go.Proofs.YtipkgamiejenaaaGreat

/- Reference 25: how its state lies; Lack, When, Plan. -/
namespace Go.Proofs.YtipkgamiejenaaaGreat
open Go Go.RowKit Go.MapKept
set_option linter.unusedVariables false
set_option linter.unusedSectionVars false
set_option linter.unusedSimpArgs false
set_option maxRecDepth 100000
set_option maxHeartbeats 2000000
structure RrM where
  q : RfM
  la : Option Addr
  lc : Nat
  wa : Option Addr
  wc : Nat
  va : Option Addr
  vc : Nat
/-- A reclaiming of the reference. -/
def refR (v : Value) (m : Rc.S) : HProp := fun f => ∃ x : RrM, v = .agg #[.int .i64 (m.t.size : Nat), .slice x.q.ca m.t.ch.length x.q.cc, .slice x.q.xa m.t.tx.length x.q.xc, .slice x.q.wa m.t.wi.length x.q.wc, .slice x.q.sa m.t.stack.length x.q.sc, .int .i64 x.q.e0, .int .i64 x.q.e1, .int .i64 x.q.e2, .int .i64 x.q.e3, .int .i64 m.q, .int .i64 m.low, .slice x.la m.line.length x.lc, .slice x.wa m.want.length x.wc, .slice x.va m.lv.length x.vc, .int .i64 m.fr] ∧ sep (refS (.agg #[.int .i64 (m.t.size : Nat), .slice x.q.ca m.t.ch.length x.q.cc, .slice x.q.xa m.t.tx.length x.q.xc, .slice x.q.wa m.t.wi.length x.q.wc, .slice x.q.sa m.t.stack.length x.q.sc, .int .i64 x.q.e0, .int .i64 x.q.e1, .int .i64 x.q.e2, .int .i64 x.q.e3]) m.t :: rows encI1 1 (.slice x.la m.line.length x.lc) m.line :: owns 3 encI1 1 (.slice x.wa m.want.length x.wc) m.want :: owns 3 encI1 1 (.slice x.va m.lv.length x.vc) m.lv :: []) f
theorem refR.open {w : World} {v : Value} {m : Rc.S} {F : List HProp} (h : holds w (refR v m :: F)) : ∃ x : RrM, v = .agg #[.int .i64 (m.t.size : Nat), .slice x.q.ca m.t.ch.length x.q.cc, .slice x.q.xa m.t.tx.length x.q.xc, .slice x.q.wa m.t.wi.length x.q.wc, .slice x.q.sa m.t.stack.length x.q.sc, .int .i64 x.q.e0, .int .i64 x.q.e1, .int .i64 x.q.e2, .int .i64 x.q.e3, .int .i64 m.q, .int .i64 m.low, .slice x.la m.line.length x.lc, .slice x.wa m.want.length x.wc, .slice x.va m.lv.length x.vc, .int .i64 m.fr] ∧ holds w (refS (.agg #[.int .i64 (m.t.size : Nat), .slice x.q.ca m.t.ch.length x.q.cc, .slice x.q.xa m.t.tx.length x.q.xc, .slice x.q.wa m.t.wi.length x.q.wc, .slice x.q.sa m.t.stack.length x.q.sc, .int .i64 x.q.e0, .int .i64 x.q.e1, .int .i64 x.q.e2, .int .i64 x.q.e3]) m.t :: rows encI1 1 (.slice x.la m.line.length x.lc) m.line :: owns 3 encI1 1 (.slice x.wa m.want.length x.wc) m.want :: owns 3 encI1 1 (.slice x.va m.lv.length x.vc) m.lv :: F) := by
  obtain ⟨x, h⟩ := holds.open_ex h
  obtain ⟨e, h⟩ := holds.open_pure h
  exact ⟨x, e, holds_sep.1 h⟩
theorem refR.shut {w : World} {m : Rc.S} (x : RrM) {F : List HProp} (h : holds w (refS (.agg #[.int .i64 (m.t.size : Nat), .slice x.q.ca m.t.ch.length x.q.cc, .slice x.q.xa m.t.tx.length x.q.xc, .slice x.q.wa m.t.wi.length x.q.wc, .slice x.q.sa m.t.stack.length x.q.sc, .int .i64 x.q.e0, .int .i64 x.q.e1, .int .i64 x.q.e2, .int .i64 x.q.e3]) m.t :: rows encI1 1 (.slice x.la m.line.length x.lc) m.line :: owns 3 encI1 1 (.slice x.wa m.want.length x.wc) m.want :: owns 3 encI1 1 (.slice x.va m.lv.length x.vc) m.lv :: F)) : holds w (refR (.agg #[.int .i64 (m.t.size : Nat), .slice x.q.ca m.t.ch.length x.q.cc, .slice x.q.xa m.t.tx.length x.q.xc, .slice x.q.wa m.t.wi.length x.q.wc, .slice x.q.sa m.t.stack.length x.q.sc, .int .i64 x.q.e0, .int .i64 x.q.e1, .int .i64 x.q.e2, .int .i64 x.q.e3, .int .i64 m.q, .int .i64 m.low, .slice x.la m.line.length x.lc, .slice x.wa m.want.length x.wc, .slice x.va m.lv.length x.vc, .int .i64 m.fr]) m :: F) :=
  (holds_sep (l := [_, _, _, _]).2 h).mono fun f hf => ⟨x, rfl, hf⟩
theorem ref04_PlaceR (v : Value) (l : List Int) (i : Int) (hl : l.length ≤ 1000000) (w : World) (F : List HProp) (hw : holds w (rows encI1 1 v l :: F)) :
    Ct Tryz.prog 123 #[v, .int .i64 i] w fun e w' => e = .returned (.int .i64 (placeOf l i)) ∧ holds w' (rows encI1 1 v l :: F) := by
  rw [rows_intsW] at hw ⊢
  exact ⟨ref04_Place w v l i F (by omega) hw⟩
variable (m : Rc.S) (K : Nat) (hO : Rc.Ok m K) (hK : K ≤ 900000)
include hO hK
theorem ref25_When (v : Value) (i : Int) (hn : m.line.length ≤ 1000000) (w : World) (F : List HProp) (hw : holds w (refR v m :: F)) :
    Ct Tryz.prog 59 #[v, .int .i64 i] w fun e w' => e = .returned (.tuple #[.int .i64 (if placeOf m.line i < 0 then 0 else placeOf m.line i / m.q + 1), .bool (decide (0 ≤ placeOf m.line i))]) ∧ holds w' (refR v m :: F) := by
  obtain ⟨x, rfl, h1⟩ := refR.open hw
  have hq := hO.q
  have hA := fun w (F : List HProp) h' => ref04_PlaceR (.slice x.la m.line.length x.lc) m.line i hn w F h'
  have hpl : placeOf m.line i ≤ 1048576 := by
    unfold placeOf
    split
    · rename_i hi; have := List.idxOf_lt_length_iff.2 hi; omega
    · omega
  obtain ⟨r, hr⟩ : ∃ r, r = placeOf m.line i := ⟨_, rfl⟩
  rw [← hr] at hA hpl ⊢
  refine Ct.go (args := [.agg #[.int .i64 (m.t.size : Nat), .slice x.q.ca m.t.ch.length x.q.cc, .slice x.q.xa m.t.tx.length x.q.xc, .slice x.q.wa m.t.wi.length x.q.wc, .slice x.q.sa m.t.stack.length x.q.sc, .int .i64 x.q.e0, .int .i64 x.q.e1, .int .i64 x.q.e2, .int .i64 x.q.e3, .int .i64 m.q, .int .i64 m.low, .slice x.la m.line.length x.lc, .slice x.wa m.want.length x.wc, .slice x.va m.lv.length x.vc, .int .i64 m.fr], .int .i64 i]) Tryz.func59 rfl rfl rfl h1 ?_
  by_cases h0 : r < 0
  · rw [if_pos h0, decide_eq_false (by omega)]
    repeat' (first | (first | (apply GL.isCall; refine GL.callH1 (rows encI1 1 (.slice x.la m.line.length x.lc) m.line) rfl rfl (fun w h => hA w _ h) ?_)) | first | refine stp ?_ | (refine stpB ?_; intro _) | (refine spl ?_ ?_ <;> intro hc <;> ((try simp only [decide_eq_true_eq, decide_eq_false_iff_not, Bool.not_true, Bool.not_false, ne_eq, Classical.not_not, Int.not_lt, Int.not_le] at hc); (try (exfalso; first | omega | exact hc trivial | exact hc rfl)))))
    all_goals (first | (exfalso; omega) | skip)
    refine GE.resMany rfl (by (repeat (first | apply Res.nil | (apply Res.tmp; rfl) | (refine Res.cellA rfl rfl rfl ?_) | (refine Res.cell1 rfl rfl ?_)))) (fun w h => ?_)
    exact ⟨rfl, refR.shut x h.sub⟩
  · rw [if_neg h0, decide_eq_true (by omega)]
    repeat' (first | (first | (apply GL.isCall; refine GL.callH1 (rows encI1 1 (.slice x.la m.line.length x.lc) m.line) rfl rfl (fun w h => hA w _ h) ?_) | (apply GL.isCall; refine GL.call1 rfl rfl (fun w h => ref22_Ticks r m.q (by omega) w _ h) ?_)) | first | refine stp ?_ | (refine stpB ?_; intro _) | (refine spl ?_ ?_ <;> intro hc <;> ((try simp only [decide_eq_true_eq, decide_eq_false_iff_not, Bool.not_true, Bool.not_false, ne_eq, Classical.not_not, Int.not_lt, Int.not_le] at hc); (try (exfalso; first | omega | exact hc trivial | exact hc rfl)))))
    all_goals (first | (exfalso; omega) | skip)
    refine GE.resMany rfl (by (repeat (first | apply Res.nil | (apply Res.tmp; rfl) | (refine Res.cellA rfl rfl rfl ?_) | (refine Res.cell1 rfl rfl ?_)))) (fun w h => ?_)
    exact ⟨rfl, refR.shut x h.sub⟩
theorem ref25_Plan (v : Value) (hn : m.line.length ≤ 1000) (w : World) (F : List HProp) (hw : holds w (refR v m :: F)) :
    Ct Tryz.prog 61 #[v] w fun e w' => ∃ u, e = .returned u ∧ holds w' (owns 3 encI1 1 u (Dr.plan (Dr.st (m.line.length : Nat) m.q).toNat (m.line.length : Nat) m.q) :: refR v m :: F) := by
  obtain ⟨x, rfl, h1⟩ := refR.open hw
  have hq := hO.q
  have hP := fun w (F : List HProp) h' => ref22_Plan (m.line.length : Nat) m.q (by omega) w F h'
  refine Ct.go (args := [.agg #[.int .i64 (m.t.size : Nat), .slice x.q.ca m.t.ch.length x.q.cc, .slice x.q.xa m.t.tx.length x.q.xc, .slice x.q.wa m.t.wi.length x.q.wc, .slice x.q.sa m.t.stack.length x.q.sc, .int .i64 x.q.e0, .int .i64 x.q.e1, .int .i64 x.q.e2, .int .i64 x.q.e3, .int .i64 m.q, .int .i64 m.low, .slice x.la m.line.length x.lc, .slice x.wa m.want.length x.wc, .slice x.va m.lv.length x.vc, .int .i64 m.fr]]) Tryz.func61 rfl rfl rfl h1 ?_
  repeat' (first | (first | (apply GL.isAny; refine GL.run (Runs.lenLit rfl) rfl ?_) | (apply GL.isCall; refine GL.call rfl rfl (fun w h => hP w _ h) (fun u => ?_))) | first | refine stp ?_ | (refine stpB ?_; intro _) | (refine spl ?_ ?_ <;> intro hc <;> ((try simp only [decide_eq_true_eq, decide_eq_false_iff_not, Bool.not_true, Bool.not_false, ne_eq, Classical.not_not, Int.not_lt, Int.not_le] at hc); (try (exfalso; first | omega | exact hc trivial | exact hc rfl)))))
  refine GE.resOne rfl (by (repeat (first | apply Res.nil | (apply Res.tmp; rfl) | (refine Res.cellA rfl rfl rfl ?_) | (refine Res.cell1 rfl rfl ?_)))) (fun w h => ?_)
  have h2 : holds w (refS (.agg #[.int .i64 (m.t.size : Nat), .slice x.q.ca m.t.ch.length x.q.cc, .slice x.q.xa m.t.tx.length x.q.xc, .slice x.q.wa m.t.wi.length x.q.wc, .slice x.q.sa m.t.stack.length x.q.sc, .int .i64 x.q.e0, .int .i64 x.q.e1, .int .i64 x.q.e2, .int .i64 x.q.e3]) m.t :: rows encI1 1 (.slice x.la m.line.length x.lc) m.line :: owns 3 encI1 1 (.slice x.wa m.want.length x.wc) m.want :: owns 3 encI1 1 (.slice x.va m.lv.length x.vc) m.lv :: owns 3 encI1 1 u (Dr.plan (Dr.st (m.line.length : Nat) m.q).toNat (m.line.length : Nat) m.q) :: F) := h.sub
  exact ⟨u, rfl, (refR.shut x h2).sub⟩
end Go.Proofs.YtipkgamiejenaaaGreat
