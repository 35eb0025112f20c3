import Derived.Test.YtipkgamiejenaaaGreatMg10
import Derived.Test.YtipkgamiejenaaaGreatMg5
import Derived.Test.YtipkgamiejenaaaGreatMg4
import Derived.Test.YtipkgamiejenaaaGreatTypes
import Derived.Test.YtipkgamiejenaaaGreatMg6
import Derived.Test.YtipkgamiejenaaaGreatMg7
/- Package scrub: the walks. -/
namespace Go.Proofs.YtipkgamiejenaaaGreat
open Go Go.RowKit Go.MapKept
set_option linter.unusedVariables false
set_option linter.unusedSimpArgs false
set_option maxRecDepth 100000
set_option maxHeartbeats 2000000
instance (priority := 400) SeesBlk.appendS {F F2 : List HProp} {b : Nat} {c : Array Value} [h : SeesBlk F b c] : SeesBlk (F ++ F2) b c := ⟨fun w hw => h.at_ w (by obtain ⟨f, hf, hs⟩ := hw; obtain ⟨f1, f2, h1, h2, j⟩ := (sep_append F F2 f).1 hs; exact ⟨f, hf, sep_sub F f1 f j h1⟩)⟩
theorem i64_LoadS (b o : Nat) (c : Array Value) (x : Int) (hu : nthL c.toList o = some (.int .i64 x)) (w : World) (F : List HProp) [SeesBlk F b c] (hw : holds w F) :
    Ct Tryz.prog 177 #[.pointer (some ⟨b, o, none⟩)] w fun e w' => e = .returned (.int .i64 x) ∧ holds w' F := by
  refine Ct.go (args := [.pointer (some ⟨b, o, none⟩)]) Tryz.func177 rfl rfl rfl hw ?_
  repeat' (first | ((apply GL.isAny; refine GL.run (Runs.extLoad rfl hu) rfl ?_)) | first | refine stp ?_ | (refine stpB ?_; intro _) | (refine spl ?_ ?_ <;> intro hc <;> ((try simp only [decide_eq_true_eq, decide_eq_false_iff_not, Bool.not_true, Bool.not_false, ne_eq, Classical.not_not, Int.not_lt, Int.not_le] at hc); (try (exfalso; first | omega | exact hc trivial | exact hc rfl)))))
  refine GE.resOne rfl (by (repeat (first | apply Res.nil | (apply Res.tmp; rfl) | (refine Res.cellA rfl rfl rfl ?_) | (refine Res.cell1 rfl rfl ?_)))) (fun w h => ?_); exact ⟨rfl, h.sub⟩
theorem bytes_SizeP (b sz : Nat) (tx : List UInt8) (w : World) (F : List HProp) (hw : holds w (bytesP b sz tx :: F)) :
    Ct Tryz.prog 188 #[.pointer (some ⟨b, 0, none⟩)] w fun e w' => e = .returned (.int .i64 (sz : Nat)) ∧ holds w' (bytesP b sz tx :: F) := by
  obtain ⟨m, am, e, h1⟩ := bytesP.open hw
  exact (bytes_Size b sz m w _ h1).mono fun e' w' ⟨h2, h3⟩ => ⟨h2, bytesP.shut (m := m) e h3⟩
section
variable (wb b sz : Nat) (x : Int)
theorem scrub_Begin (tx : List UInt8) (h0 : 0 < sz) (w : World) (F : List HProp) (hw : holds w (bytesP b sz tx :: F)) :
    Ct Tryz.prog 131 #[.pointer (some ⟨b, 0, none⟩)] w fun e w' => ∃ wb : Nat, e = .returned (.pointer (some ⟨wb, 0, none⟩)) ∧ holds w' (blk wb (.cells #[.pointer (some ⟨b, 0, none⟩), .int .i64 0] 262 (0, 0)) :: bytesP b sz tx :: F) := by
  refine Ct.go (args := [.pointer (some ⟨b, 0, none⟩)]) Tryz.func131 rfl rfl rfl hw ?_
  repeat' (first | (first | first | (apply GL.isCall; refine GL.call1 rfl rfl (fun w h => bytes_SizeP b sz tx w _ h) ?_) | (apply GD.isAny; refine GD.call rfl rfl (fun w F' h => bytes_SizeP b sz tx w _ h) ?_) | (apply GL.isBox; refine GL.boxA (cs := #[.pointer (some ⟨b, 0, none⟩), .int .i64 0]) rfl rfl (fun wb => ?_))) | first | refine stp ?_ | (refine stpB ?_; intro _) | (refine spl ?_ ?_ <;> intro hc <;> ((try simp only [decide_eq_true_eq, decide_eq_false_iff_not, Bool.not_true, Bool.not_false, ne_eq, Classical.not_not, Int.not_lt, Int.not_le] at hc); (try (exfalso; first | omega | exact hc trivial | exact hc rfl)))))
  all_goals (first | (exfalso; omega) | (refine GE.resOne rfl (by (repeat (first | apply Res.nil | (apply Res.tmp; rfl) | (refine Res.cellA rfl rfl rfl ?_) | (refine Res.cell1 rfl rfl ?_)))) (fun w h => ?_); exact ⟨wb, rfl, h.sub⟩))
theorem scrub_is (w : World) (F : List HProp) [SeesBlk F wb #[.pointer (some ⟨b, 0, none⟩), .int .i64 x]] (hw : holds w F) :
    Ct Tryz.prog 189 #[.pointer (some ⟨wb, 0, none⟩)] w fun e w' => e = .returned (.bool true) ∧ holds w' F := by
  refine Ct.go (args := [.pointer (some ⟨wb, 0, none⟩)]) Tryz.func189 rfl rfl rfl hw ?_
  repeat' (first | refine stp ?_ | (refine stpB ?_; intro _) | (refine spl ?_ ?_ <;> intro hc <;> ((try simp only [decide_eq_true_eq, decide_eq_false_iff_not, Bool.not_true, Bool.not_false, ne_eq, Classical.not_not, Int.not_lt, Int.not_le] at hc); (try (exfalso; first | omega | exact hc trivial | exact hc rfl)))))
  refine GE.resOne rfl (by (repeat (first | apply Res.nil | (apply Res.tmp; rfl) | (refine Res.cellA rfl rfl rfl ?_) | (refine Res.cell1 rfl rfl ?_)))) (fun w h => ?_); exact ⟨rfl, h.sub⟩
theorem scrub_Place (w : World) (F : List HProp) [SeesBlk F wb #[.pointer (some ⟨b, 0, none⟩), .int .i64 x]] (hw : holds w F) :
    Ct Tryz.prog 192 #[.pointer (some ⟨wb, 0, none⟩)] w fun e w' => e = .returned (.int .i64 x) ∧ holds w' F := by
  refine Ct.go (args := [.pointer (some ⟨wb, 0, none⟩)]) Tryz.func192 rfl rfl rfl hw ?_
  repeat' (first | (first | first | (apply GL.isCall; refine GL.call1 rfl rfl (fun w h => scrub_is wb b x w _ h) ?_) | (apply GD.isAny; refine GD.call rfl rfl (fun w F' h => scrub_is wb b x w _ h) ?_) | (apply GL.isCall; refine GL.call1 (vs := [.pointer (some ⟨wb, 1, none⟩)]) rfl rfl (fun w h => i64_LoadS wb 1 #[.pointer (some ⟨b, 0, none⟩), .int .i64 x] x rfl w _ h) ?_)) | first | refine stp ?_ | (refine stpB ?_; intro _) | (refine spl ?_ ?_ <;> intro hc <;> ((try simp only [decide_eq_true_eq, decide_eq_false_iff_not, Bool.not_true, Bool.not_false, ne_eq, Classical.not_not, Int.not_lt, Int.not_le] at hc); (try (exfalso; first | omega | exact hc trivial | exact hc rfl)))))
  all_goals (first | (exfalso; simp at hc; done) | (refine GE.resOne rfl (by (repeat (first | apply Res.nil | (apply Res.tmp; rfl) | (refine Res.cellA rfl rfl rfl ?_) | (refine Res.cell1 rfl rfl ?_)))) (fun w h => ?_); exact ⟨rfl, h.sub⟩))
theorem scrub_Left (hs : sz ≤ 1048576) (hx : 0 ≤ x ∧ x ≤ sz) (m : Nat) (w : World) (F : List HProp) [SeesBlk F wb #[.pointer (some ⟨b, 0, none⟩), .int .i64 x]] [SeesBlk F b #[.map (some m), .int .i64 (sz : Nat)]] (hw : holds w F) :
    Ct Tryz.prog 190 #[.pointer (some ⟨wb, 0, none⟩)] w fun e w' => e = .returned (.int .i64 ((sz : Int) - x)) ∧ holds w' F := by
  refine Ct.go (args := [.pointer (some ⟨wb, 0, none⟩)]) Tryz.func190 rfl rfl rfl hw ?_
  repeat' (first | (first | first | (apply GL.isCall; refine GL.call1 rfl rfl (fun w h => scrub_is wb b x w _ h) ?_) | (apply GD.isAny; refine GD.call rfl rfl (fun w F' h => scrub_is wb b x w _ h) ?_) | first | (apply GL.isCall; refine GL.call1 rfl rfl (fun w h => bytes_Size b sz m w _ h) ?_) | (apply GD.isAny; refine GD.call rfl rfl (fun w F' h => bytes_Size b sz m w _ h) ?_) | first | (apply GL.isCall; refine GL.call1 rfl rfl (fun w h => scrub_Place wb b x w _ h) ?_) | (apply GD.isAny; refine GD.call rfl rfl (fun w F' h => scrub_Place wb b x w _ h) ?_)) | first | refine stp ?_ | (refine stpB ?_; intro _) | (refine spl ?_ ?_ <;> intro hc <;> ((try simp only [decide_eq_true_eq, decide_eq_false_iff_not, Bool.not_true, Bool.not_false, ne_eq, Classical.not_not, Int.not_lt, Int.not_le] at hc); (try (exfalso; first | omega | exact hc trivial | exact hc rfl)))))
  all_goals (first | (exfalso; simp at hc; done) | (refine GE.resOne rfl (by (repeat (first | apply Res.nil | (apply Res.tmp; rfl) | (refine Res.cellA rfl rfl rfl ?_) | (refine Res.cell1 rfl rfl ?_)))) (fun w h => ?_); exact ⟨rfl, h.sub⟩))
theorem scrub_Done (tx : List UInt8) (hx : 0 ≤ x ∧ x ≤ sz) (w : World) (F : List HProp) (hw : holds w (bytesP b sz tx :: blk wb (.cells #[.pointer (some ⟨b, 0, none⟩), .int .i64 x] 262 (0, 0)) :: F)) :
    Ct Tryz.prog 133 #[.pointer (some ⟨wb, 0, none⟩)] w fun e w' => e = .returned (.bool (decide ((sz : Int) - x = 0))) ∧ holds w' (bytesP b sz tx :: blk wb (.cells #[.pointer (some ⟨b, 0, none⟩), .int .i64 x] 262 (0, 0)) :: F) := by
  obtain ⟨m, am, e0, h1⟩ := bytesP.open hw
  refine Ct.go (args := [.pointer (some ⟨wb, 0, none⟩)]) Tryz.func133 rfl rfl rfl h1 ?_
  repeat' (first | (first | first | (apply GL.isCall; refine GL.call1 rfl rfl (fun w h => scrub_is wb b x w _ h) ?_) | (apply GD.isAny; refine GD.call rfl rfl (fun w F' h => scrub_is wb b x w _ h) ?_) | first | (apply GL.isCall; refine GL.call1 rfl rfl (fun w h => scrub_Left wb b sz x e0.2.2.1.2 hx m w _ h) ?_) | (apply GD.isAny; refine GD.call rfl rfl (fun w F' h => scrub_Left wb b sz x e0.2.2.1.2 hx m w _ h) ?_)) | first | refine stp ?_ | (refine stpB ?_; intro _) | (refine spl ?_ ?_ <;> intro hc <;> ((try simp only [decide_eq_true_eq, decide_eq_false_iff_not, Bool.not_true, Bool.not_false, ne_eq, Classical.not_not, Int.not_lt, Int.not_le] at hc); (try (exfalso; first | omega | exact hc trivial | exact hc rfl)))))
  all_goals (first | (exfalso; simp at hc; done) | (refine GE.resOne rfl (by (repeat (first | apply Res.nil | (apply Res.tmp; rfl) | (refine Res.cellA rfl rfl rfl ?_) | (refine Res.cell1 rfl rfl ?_)))) (fun w h => ?_); exact ⟨rfl, bytesP.shut (m := m) e0 h.sub⟩))
theorem scrub_Step (tx : List UInt8) (hx : 0 ≤ x ∧ x ≤ sz) (n : Int) (hn : 1 ≤ n) (w : World) (F : List HProp) (hw : holds w (bytesP b sz tx :: blk wb (.cells #[.pointer (some ⟨b, 0, none⟩), .int .i64 x] 262 (0, 0)) :: F)) :
    Ct Tryz.prog 132 #[.pointer (some ⟨wb, 0, none⟩), .int .i64 n] w fun e w' => e = .returned (.tuple #[.int .i64 (min n ((sz : Int) - x)), .int .i64 0]) ∧ holds w' (bytesP b sz (By.splice tx x.toNat (St.zeros (min n ((sz : Int) - x)).toNat)) :: blk wb (.cells #[.pointer (some ⟨b, 0, none⟩), .int .i64 (x + min n ((sz : Int) - x))] 262 (0, 0)) :: F) := by
  obtain ⟨m, am, e0, h1⟩ := bytesP.open hw
  obtain ⟨q, hq⟩ : ∃ q, q = min n ((sz : Int) - x) := ⟨_, rfl⟩
  have hsz := e0.2.2.1.2
  have hl := e0.1
  have hno : ¬ St.off tx x q := by unfold St.off; rw [hl]; omega
  have hWi := fun w (F : List HProp) h => bytes_Wipe b sz tx x q (by omega) w F h
  rw [if_neg hno, if_neg hno] at hWi
  have hAd := fun w (F : List HProp) h => i64_Add wb 1 _ (cellAt_blk wb [.pointer (some ⟨b, 0, none⟩)] [] 262) x q (by omega) w F h
  rw [← hq]
  refine Ct.go (args := [.pointer (some ⟨wb, 0, none⟩), .int .i64 n]) Tryz.func132 rfl rfl rfl h1 ?_
  repeat' (first | (first | (rw [← hq]) | first | (apply GL.isCall; refine GL.call1 rfl rfl (fun w h => scrub_is wb b x w _ h) ?_) | (apply GD.isAny; refine GD.call rfl rfl (fun w F' h => scrub_is wb b x w _ h) ?_) | first | (apply GL.isCall; refine GL.call1 rfl rfl (fun w h => scrub_Left wb b sz x hsz hx m w _ h) ?_) | (apply GD.isAny; refine GD.call rfl rfl (fun w F' h => scrub_Left wb b sz x hsz hx m w _ h) ?_) | refine G.drawTail 7 (by kernel_rfl) (by simp only [List.take_succ_cons, List.take_zero]; rfl) (by simp only [List.drop_succ_cons, List.drop_zero]; rfl) (by kernel_rfl) ?_ | (apply GD.isAny; refine GD.call (vs := [.pointer (some ⟨wb, 0, none⟩)]) (v := .int .i64 x) rfl rfl (fun w F' h => by exact scrub_Place wb b x w _ h) ?_) | (apply GL.isCall; refine GL.call1 (vs := [.pointer (some ⟨b, 0, none⟩), .int .i64 x, .int .i64 q]) rfl rfl (fun w h => hWi w (blk wb (.cells #[.pointer (some ⟨b, 0, none⟩), .int .i64 x] 262 (0, 0)) :: F) (bytesP.shut (m := m) (am := am) e0 h.sub)) ?_) | (apply GL.isCall; refine GL.call1 (vs := [.pointer (some ⟨wb, 1, none⟩), .int .i64 q]) rfl rfl (fun w h => hAd w (bytesP b sz (By.splice tx x.toNat (St.zeros q.toNat)) :: F) (holds.sub (H := blk wb (.cells #[.pointer (some ⟨b, 0, none⟩), .int .i64 x] 262 (0, 0)) :: bytesP b sz (By.splice tx x.toNat (St.zeros q.toNat)) :: F) h)) ?_)) | first | refine stp ?_ | (refine stpB ?_; intro _) | (refine spl ?_ ?_ <;> intro hc <;> ((try simp only [decide_eq_true_eq, decide_eq_false_iff_not, Bool.not_true, Bool.not_false, ne_eq, Classical.not_not, Int.not_lt, Int.not_le] at hc); (try (exfalso; first | omega | exact hc trivial | exact hc rfl)))))
  all_goals (first | (exfalso; simp at hc; done) | (exfalso; omega) | skip)
  refine GE.resMany rfl (by (repeat (first | apply Res.nil | (apply Res.tmp; rfl) | (refine Res.cellA rfl rfl rfl ?_) | (refine Res.cell1 rfl rfl ?_)))) (fun w h => ?_)
  exact ⟨rfl, holds.order h [1, 0]⟩
end
end Go.Proofs.YtipkgamiejenaaaGreat

/- Package stack's memory: one block of ints that the places and the list share. -/
namespace Go.Proofs.YtipkgamiejenaaaGreat
open Go Go.RowKit Go.MapKept
set_option linter.unusedVariables false
set_option linter.unusedSimpArgs false
set_option maxRecDepth 100000
set_option maxHeartbeats 1000000
/-- The block r holds n places pl, the list l and what is left of its room. -/
def stkB (r n : Nat) (pl l jk : List Int) : HProp := fun f => (pl.length = n ∧ l.length + jk.length = n) ∧ blk r (.cells ((pl ++ l ++ jk).flatMap encI1).toArray 3 (0, 0)) f
theorem stkB.open {r n : Nat} {pl l jk : List Int} {w : World} {F : List HProp} (h : holds w (stkB r n pl l jk :: F)) : (pl.length = n ∧ l.length + jk.length = n) ∧ holds w (blk r (.cells ((pl ++ l ++ jk).flatMap encI1).toArray 3 (0, 0)) :: F) := by
  refine ⟨?_, h.mono fun f hf => hf.2⟩
  obtain ⟨f, hf, f1, f2, ha, hs, j⟩ := h
  exact ha.1
theorem stkB.shut {r n : Nat} {pl l jk : List Int} {w : World} {F : List HProp} (e : pl.length = n ∧ l.length + jk.length = n) (h : holds w (blk r (.cells ((pl ++ l ++ jk).flatMap encI1).toArray 3 (0, 0)) :: F)) : holds w (stkB r n pl l jk :: F) := h.mono fun f hf => ⟨e, hf⟩
theorem flatI_get (l : List Int) (i : Nat) : (l.flatMap encI1)[i]? = (l[i]?).map (.int .i64 ·) := by
  induction l generalizing i with
  | nil => simp
  | cons a l ih =>
    cases i with
    | zero => simp [encI1]
    | succ i => simpa [encI1] using ih i
theorem flatI_len (l : List Int) : (l.flatMap encI1).length = l.length := by simpa using Enc.flat_len (enc := encI1) (n := 1) l
theorem flatI_map (l : List Int) : l.flatMap encI1 = l.map (.int .i64 ·) := by
  induction l with
  | nil => rfl
  | cons a l ih => simpa [encI1] using ih
instance {r n : Nat} {pl l jk : List Int} {F : List HProp} : Reads (stkB r n pl l jk :: F) (.slice (some ⟨r, 0, none⟩) n n) encI1 1 pl := ⟨fun w h => by
  obtain ⟨⟨rfl, e⟩, h1⟩ := stkB.open h
  refine ⟨by simpa using Enc.flat_len (enc := encI1) (n := 1) pl, _, _, rfl, Nat.le_refl _, .inr ⟨r, 0, rfl, fun i hi => ?_⟩⟩
  rw [cell_of_row w r (0 + i) _ 3 (0, 0) h1.get_blk, flatI_get]
  simp only [List.getElem?_toArray, flatI_get, List.append_assoc]
  rw [Nat.zero_add, List.getElem?_append_left (by omega)]⟩
theorem stkB.list {r n k : Nat} {pl l jk : List Int} {F : List HProp} (hk : k = l.length) : Reads (stkB r n pl l jk :: F) (.slice (some ⟨r, n, none⟩) k n) encI1 1 l := ⟨fun w h => by
  subst hk
  obtain ⟨⟨rfl, e⟩, h1⟩ := stkB.open h
  refine ⟨by simpa using Enc.flat_len (enc := encI1) (n := 1) l, _, _, rfl, by omega, .inr ⟨r, pl.length, rfl, fun i hi => ?_⟩⟩
  rw [cell_of_row w r (pl.length + i) _ 3 (0, 0) h1.get_blk, flatI_get]
  simp only [List.getElem?_toArray, flatI_get, List.append_assoc]
  rw [List.getElem?_append_right (by omega), Nat.add_sub_cancel_left, List.getElem?_append_left (by omega)]⟩
instance {r n : Nat} {pl l jk : List Int} {F : List HProp} : Reads (stkB r n pl l jk :: F) (.slice (some ⟨r, n, none⟩) l.length n) encI1 1 l := stkB.list rfl
section
variable {P : Program} {nn : Nat} {Q : Exit → Act → World → Prop} {env : Env} {F F' : List HProp} {ops : Array Oper} {rest : List Oper} {ty : TypeId} {pos : String} {aft : Array Edge}
/-- A store to one of the places. -/
theorem GL.storePl {t : TypeId} {x y : Operand} {r n i off : Nat} {pl l jk : List Int} {z : Int} (hx : opnd env x = some (.pointer (some ⟨r, off, none⟩))) (hy : opnd env y = some (.int .i64 z)) [ht : CellT P t] [hk : Has F (stkB r n pl l jk) F'] (ho : off = i) (hi : i < pl.length)
    (h : GL P nn ops Q rest env (stkB r n (pl.set i z) l jk :: F')) : GL P nn ops Q (⟨none, .store t x y, ty, pos, aft, none⟩ :: rest) env F := .mk fun a w hf hw => by
  subst ho
  obtain ⟨i', ds, g1, g2, g3, g4⟩ := ht.ok
  obtain ⟨⟨e1, e2⟩, hb⟩ := stkB.open (hw.perm hk.perm)
  refine wpList_store1_sl rfl rfl t x y rfl (off := off) (.int .i64 z) (hf.eval hx) (hf.eval hy) (by simp [g1, g2]) rfl rfl hb (by simp only [List.size_toArray, flatI_len, List.length_append]; omega) fun w' hw' => h a w' hf ?_
  refine stkB.shut ⟨by simpa using e1, e2⟩ ?_
  have e : ((pl ++ l ++ jk).flatMap encI1).toArray.setIfInBounds off (.int .i64 z) = ((pl.set off z ++ l ++ jk).flatMap encI1).toArray := by
    apply Array.ext'
    simp only [Array.toList_setIfInBounds, flatI_map]
    rw [show pl.set off z ++ l ++ jk = (pl ++ l ++ jk).set off z by rw [List.append_assoc, List.append_assoc, List.set_append_left _ _ hi], List.map_set]
  rw [← e]
  exact hw'
theorem run_append_off {w : World} (t ty e : TypeId) (i : TypeInfo) (ht : P.underlying t = some (.slice e)) (hi : P.info? e = some i)
    (g off sLen sCap : Nat) (cur : Array Value) (hg : w.heap[g]? = some (.cells cur e (0, 0)))
    (a : Addr) (m c : Nat) (news : List Value) (hl : news.length = m * i.size) (hnews : ∀ j u, news[j]? = some u → w.cell? (a.add j) = some u) (h1 : ∀ u ∈ news, u.oneCell' = true)
    (hroom : sLen + m ≤ sCap) (hfit : off + sLen * i.size + news.length ≤ cur.size) :
    (Builtin.append_ #[t, t] ty #[.slice (some ⟨g, off, none⟩) sLen sCap, .slice (some a) m c]).run P w =
      .ok (.slice (some ⟨g, off, none⟩) (sLen + m) sCap) (w.setRow g (cur.toList.take (off + sLen * i.size) ++ news ++ cur.toList.drop (off + sLen * i.size + news.length)).toArray) := by
  have hf := run_firstCells_some (P := P) w i.size m a m c news hl hnews
  have hst := run_storeCells_at P g (off + sLen * i.size) e news 0 cur w hg (by simpa using hfit) h1
  simp only [Nat.add_zero] at hst
  simp [Builtin.append_, run_underlying ht, sizeOf, typeInfo, hi, Builtin.lenOf, hroom, hf, Addr.add_lit, hst]
/-- append within the room. -/
theorem GL.appendStk {t : TypeId} {x y : Operand} {u z : Value} {r n k : Nat} {pl l jk : List Int} {q : Int} {bytes d : Nat} [ht : SliceT P t 3 1] [hz : ZeroT P 3 z 1 bytes] (hx : opnd env x = some (.slice (some ⟨r, n, none⟩) k n)) (hy : opnd env y = some u) [hr : Has F (stkB r n pl l jk) F'] [hb : Reads F u encI1 1 [q]]
    (hkl : k = l.length) (hroom : l.length < n) (hd : Nat.blt d nn = true)
    (h : GL P nn ops Q rest ((d, .slice (some ⟨r, n, none⟩) (k + 1) n) :: env) (stkB r n pl (l ++ [q]) (jk.drop 1) :: F')) : GL P nn ops Q (⟨some d, .call { callee := .builtin .append, args := #[x, y], argTypes := #[t, t] }, ty, pos, aft, none⟩ :: rest) env F := .mk fun a w hf hw => by
  subst hkl
  refine wpList_plain rfl fun K hK => ?_
  obtain ⟨⟨e1, e2⟩, hB⟩ := stkB.open (hw.perm hr.perm)
  obtain ⟨i, h1, h2, h3⟩ := ht.ok
  obtain ⟨b, off, cap, rfl, hcap, hcell⟩ := (hb.at_ w hw).cells (by simp)
  have hrun := run_append_off (P := P) t ty 3 i h1 h2 r n l.length n _ hB.get_blk ⟨b, off, none⟩ 1 cap [.int .i64 q] (by simp [h3]) (fun j u hu => by
    have hj := (List.getElem?_eq_some_iff.1 hu).1
    rw [addr_add, hcell j (by simpa using hj)]; exact hu) (fun u hu => by simp at hu; subst hu; rfl) (by omega) (by
    simp only [List.size_toArray, flatI_len, List.length_append, h3, List.length_cons, List.length_nil]; omega)
  unfold Oper.wp
  simp only [execOp, resolve, invoke, builtin, Sem.run_bind, Sem.run_pure, Result.andThen_ok, List.map_toArray, List.map_cons, List.map_nil, hf.eval hx, hf.eval hy, List.length_cons, List.length_nil, Nat.zero_add, hrun]
  refine hK _ _ (h _ _ (hf.put hd _) ?_)
  refine stkB.shut ⟨e1, by simp only [List.length_append, List.length_cons, List.length_nil, List.length_drop]; omega⟩ ?_
  have h5 := hB.turn (w' := w.setRow r (((pl ++ l ++ jk).flatMap encI1).toArray.toList.take (n + l.length * i.size) ++ [Value.int .i64 q] ++ ((pl ++ l ++ jk).flatMap encI1).toArray.toList.drop (n + l.length * i.size + ([Value.int .i64 q]).length)).toArray) ⟨rfl, rfl, rfl, by simp, fun k _ hk => setRow_other w r k _ (fun e => hk (by simp [e]))⟩ (setRow_heap w r _ _ 3 _ hB.get_blk)
  have e : (((pl ++ l ++ jk).flatMap encI1).toArray.toList.take (n + l.length * i.size) ++ [Value.int .i64 q] ++ ((pl ++ l ++ jk).flatMap encI1).toArray.toList.drop (n + l.length * i.size + ([Value.int .i64 q]).length)) = (pl ++ (l ++ [q]) ++ jk.drop 1).flatMap encI1 := by
    simp only [flatI_map, h3, Nat.mul_one, List.length_cons, List.length_nil, ← List.map_take, ← List.map_drop]
    have t1 : (pl ++ l ++ jk).take (n + l.length) = pl ++ l := by rw [show n + l.length = (pl ++ l).length by rw [List.length_append, e1]]; exact List.take_left
    have t2 : (pl ++ l ++ jk).drop (n + l.length + (0 + 1)) = jk.drop 1 := by
      rw [show n + l.length + (0 + 1) = (pl ++ l).length + 1 by rw [List.length_append, e1], ← List.drop_drop, List.drop_left]
    rw [t1, t2]
    simp
  rw [e] at h5
  have e2 : List.take (n + l.length * i.size) (List.flatMap encI1 (pl ++ l ++ jk)) ++ [Value.int .i64 q] ++ List.drop (n + l.length * i.size + 1) (List.flatMap encI1 (pl ++ l ++ jk)) = (pl ++ (l ++ [q]) ++ jk.drop 1).flatMap encI1 := e
  rw [e2]
  exact h5
end
end Go.Proofs.YtipkgamiejenaaaGreat

/- A slice literal as a row. -/
namespace Go.Proofs.YtipkgamiejenaaaGreat
open Go Go.RowKit Go.MapKept
set_option linter.unusedVariables false
set_option linter.unusedSimpArgs false
set_option maxRecDepth 100000
set_option maxHeartbeats 1000000
theorem holds.rowOf {α : Type} {enc : α → List Value} {m : Nat} [he : Enc enc m] {w : World} {F : List HProp} {e : TypeId} {g k : Nat} (l : List α) (hk : l.length = k) (hl : k ≤ maxLen) (h : holds w (blk g (.cells (l.flatMap enc).toArray e (0, 0)) :: F)) : holds w (owns e enc m (.slice (some ⟨g, 0, none⟩) k k) l :: F) := by
  subst hk
  have h1 := h.mkRow (size := m) (n := l.length) (cap := l.length) (Nat.le_refl _) hl (by rw [List.size_toArray, Enc.flat_len])
  have h2 : (l.flatMap enc).toArray.toList.take (l.length * m) = l.flatMap enc := by
    exact List.take_of_length_le (by rw [Enc.flat_len]; exact Nat.le_refl _)
  rw [h2] at h1
  exact h1
section
variable {P : Program} {n : Nat} {Q : Exit → Act → World → Prop} {env : Env} {F : List HProp} {ops : Array Oper} {rest : List Oper} {ty : TypeId} {pos : String} {aft : Array Edge}
/-- A slice literal as a row. -/
theorem GL.buildR {α : Type} {enc : α → List Value} {t e : TypeId} {size m bytes : Nat} {z : Value} {parts : List (Nat × Operand)} {ps : List (Nat × Value)} {d : Tmp} (l : List α) [ht : SliceT P t e size] [hz : ZeroT P e z size bytes] [he : Enc enc size] (hk : l.length = m) (hp : partsOf env parts = some ps) (hpos : Nat.blt 0 (m * size) = true) (hm : Nat.ble (m * size) 16777216 = true)
    (hr : fillL ((List.range m).map fun i => (i * size, size)) (List.replicate (m * size) (default : Value)) ps = some (l.flatMap enc)) (hall : ∀ l', l'.length = m * size → fillL ((List.range m).map fun i => (i * size, size)) l' ps = some (l.flatMap enc)) (hd : Nat.blt d n = true)
    (h : ∀ g, GL P n ops Q rest ((d, .slice (some ⟨g, 0, none⟩) m m) :: env) (owns e enc size (.slice (some ⟨g, 0, none⟩) m m) l :: F)) :
    GL P n ops Q (⟨some d, .buildSlice t m parts.toArray, ty, pos, aft, none⟩ :: rest) env F :=
  GL.buildSlice hp hpos hm hr hall hd fun g => GL.imp (h g) fun w hw => holds.rowOf l hk (by
    have h1 := Nat.le_of_ble_eq_true hm
    have h2 : m ≤ m * size := Nat.le_mul_of_pos_right _ he.pos
    unfold maxLen; omega) hw
end
end Go.Proofs.YtipkgamiejenaaaGreat

/- Package stack: the walks. -/
namespace Go.Proofs.YtipkgamiejenaaaGreat
open Go Go.RowKit Go.MapKept
set_option linter.unusedVariables false
set_option linter.unusedSimpArgs false
set_option maxRecDepth 100000
set_option maxHeartbeats 1000000
/-- The place of x, -1 where it has none. -/
def Stk.place (pl : List Int) (x : Int) : Int := if x < 0 ∨ (pl.length : Int) ≤ x then -1 else pl.getD x.toNat 0
section
variable (s r n : Nat) (pl l jk : List Int)
theorem stack_Place (x : Int) (w : World) (F : List HProp) (hw : holds w (blk s (.cells #[.slice (some ⟨r, n, none⟩) l.length n, .slice (some ⟨r, 0, none⟩) n n] 267 (0, 0)) :: stkB r n pl l jk :: F)) :
    Ct Tryz.prog 225 #[.pointer (some ⟨s, 0, none⟩), .int .i64 x] w fun e w' => e = .returned (.int .i64 (Stk.place pl x)) ∧ holds w' (blk s (.cells #[.slice (some ⟨r, n, none⟩) l.length n, .slice (some ⟨r, 0, none⟩) n n] 267 (0, 0)) :: stkB r n pl l jk :: F) := by
  obtain ⟨⟨e1, e2⟩, _⟩ := stkB.open hw.tail
  unfold Stk.place
  refine Ct.go (args := [.pointer (some ⟨s, 0, none⟩), .int .i64 x]) Tryz.func225 rfl rfl rfl hw ?_
  by_cases hx : x < 0 ∨ (pl.length : Int) ≤ x
  · rw [if_pos hx]
    repeat' (first | refine stp ?_ | (refine stpB ?_; intro _) | (refine spl ?_ ?_ <;> intro hc <;> ((try simp only [decide_eq_true_eq, decide_eq_false_iff_not, Bool.not_true, Bool.not_false, ne_eq, Classical.not_not, Int.not_lt, Int.not_le] at hc); (try (exfalso; first | omega | exact hc trivial | exact hc rfl)))))
    all_goals (first | (exfalso; omega) | (refine GE.resOne rfl (by (repeat (first | apply Res.nil | (apply Res.tmp; rfl) | (refine Res.cellA rfl rfl rfl ?_) | (refine Res.cell1 rfl rfl ?_)))) (fun w h => ?_); exact ⟨rfl, h.sub⟩))
  · rw [if_neg hx]
    obtain ⟨i, rfl⟩ : ∃ i : Nat, x = i := ⟨x.toNat, by omega⟩
    have hi : i < pl.length := by omega
    rw [show pl.getD (i : Int).toNat 0 = pl[i] by rw [List.getD_eq_getElem?_getD, Int.toNat_natCast, List.getElem?_eq_getElem hi]; rfl]
    repeat' (first | refine stp ?_ | (refine stpB ?_; intro _) | (refine spl ?_ ?_ <;> intro hc <;> ((try simp only [decide_eq_true_eq, decide_eq_false_iff_not, Bool.not_true, Bool.not_false, ne_eq, Classical.not_not, Int.not_lt, Int.not_le] at hc); (try (exfalso; first | omega | exact hc trivial | exact hc rfl)))))
    all_goals (first | (exfalso; omega) | (refine GE.resOne rfl (by (repeat (first | apply Res.nil | (apply Res.tmp; rfl) | (refine Res.cellA rfl rfl rfl ?_) | (refine Res.cell1 rfl rfl ?_)))) (fun w h => ?_); exact ⟨rfl, h.sub⟩))
theorem stack_Top (w : World) (F : List HProp) (hn : n ≤ 1048576) (hw : holds w (blk s (.cells #[.slice (some ⟨r, n, none⟩) l.length n, .slice (some ⟨r, 0, none⟩) n n] 267 (0, 0)) :: stkB r n pl l jk :: F)) :
    Ct Tryz.prog 199 #[.pointer (some ⟨s, 0, none⟩)] w fun e w' => e = .returned (.tuple #[.int .i64 (l.getLast?.getD 0), .bool (decide (l ≠ []))]) ∧ holds w' (blk s (.cells #[.slice (some ⟨r, n, none⟩) l.length n, .slice (some ⟨r, 0, none⟩) n n] 267 (0, 0)) :: stkB r n pl l jk :: F) := by
  obtain ⟨⟨e1, e2⟩, _⟩ := stkB.open hw.tail
  refine Ct.go (args := [.pointer (some ⟨s, 0, none⟩)]) Tryz.func199 rfl rfl rfl hw ?_
  by_cases hl : l = []
  · subst hl
    repeat' (first | refine stp ?_ | (refine stpB ?_; intro _) | (refine spl ?_ ?_ <;> intro hc <;> ((try simp only [decide_eq_true_eq, decide_eq_false_iff_not, Bool.not_true, Bool.not_false, ne_eq, Classical.not_not, Int.not_lt, Int.not_le] at hc); (try (exfalso; first | omega | exact hc trivial | exact hc rfl)))))
    all_goals (first | (exfalso; simp at hc; done) | (refine GE.resMany rfl (by (repeat (first | apply Res.nil | (apply Res.tmp; rfl) | (refine Res.cellA rfl rfl rfl ?_) | (refine Res.cell1 rfl rfl ?_)))) (fun w h => ?_); exact ⟨rfl, h.sub⟩))
  · have hp : 0 < l.length := List.length_pos_iff.2 hl
    repeat' (first | ((apply GD.isAny; refine GD.run (by (apply Runs.isIndexA; exact Runs.indexAddr (k := l.length - 1) rfl rfl rfl (by omega) (by omega))) rfl ?_)) | first | refine stp ?_ | (refine stpB ?_; intro _) | (refine spl ?_ ?_ <;> intro hc <;> ((try simp only [decide_eq_true_eq, decide_eq_false_iff_not, Bool.not_true, Bool.not_false, ne_eq, Classical.not_not, Int.not_lt, Int.not_le] at hc); (try (exfalso; first | omega | exact hc trivial | exact hc rfl)))))
    all_goals (first | (exfalso; omega) | (refine GE.resMany rfl (by (repeat (first | apply Res.nil | (apply Res.tmp; rfl) | (refine Res.cellA rfl rfl rfl ?_) | (refine Res.cell1 rfl rfl ?_)))) (fun w h => ?_); exact ⟨by rw [decide_eq_true hl, List.getLast?_eq_getElem?, List.getElem?_eq_getElem (by omega)]; rfl, h.sub⟩))
theorem stack_PushY (i : Nat) (hn : n ≤ 1048576) (hi : i < n) (hp : Stk.place pl i < 0) (hr : l.length < n) (w : World) (F : List HProp) (hw : holds w (blk s (.cells #[.slice (some ⟨r, n, none⟩) l.length n, .slice (some ⟨r, 0, none⟩) n n] 267 (0, 0)) :: stkB r n pl l jk :: F)) :
    Ct Tryz.prog 139 #[.pointer (some ⟨s, 0, none⟩), .int .i64 i] w fun e w' => e = .returned (.bool true) ∧ holds w' (blk s (.cells #[.slice (some ⟨r, n, none⟩) (l ++ [(i : Int)]).length n, .slice (some ⟨r, 0, none⟩) n n] 267 (0, 0)) :: stkB r n (pl.set i l.length) (l ++ [(i : Int)]) (jk.drop 1) :: F) := by
  obtain ⟨⟨e1, e2⟩, _⟩ := stkB.open hw.tail
  have hi2 : i < pl.length := by omega
  unfold Stk.place at hp
  have eg : pl.getD (i : Int).toNat 0 = pl[i] := by rw [List.getD_eq_getElem?_getD, Int.toNat_natCast, List.getElem?_eq_getElem hi2]; rfl
  rw [if_neg (by omega), eg] at hp
  rw [List.length_append, List.length_cons, List.length_nil, Nat.zero_add]
  refine Ct.go (args := [.pointer (some ⟨s, 0, none⟩), .int .i64 i]) Tryz.func139 rfl rfl rfl hw ?_
  repeat' (first | (first | (refine G.isRegion 3 ?_; refine G.drawTail 11 (by kernel_rfl) (by simp only [List.take_succ_cons, List.take_zero]; rfl) (by simp only [List.drop_succ_cons, List.drop_zero]; rfl) (by kernel_rfl) ?_) | (apply GL.isAny; refine GL.buildR (enc := encI1) [(i : Int)] (parts := [(0, .tmp 46)]) rfl rfl rfl rfl rfl (fun l hl => match l, hl with | [_], _ => rfl) rfl (fun g0 => ?_)) | (apply GL.isStore; refine GL.storePl (r := r) (n := n) (pl := pl) (l := l) (jk := jk) (i := i) rfl rfl (by simp [rowO]) hi2 ?_) | (apply GL.isCall; refine GL.appendStk (r := r) (n := n) (pl := pl.set i l.length) (l := l) (jk := jk) (q := (i : Int)) rfl rfl rfl hr rfl ?_)) | first | refine stp ?_ | (refine stpB ?_; intro _) | (refine spl ?_ ?_ <;> intro hc <;> ((try simp only [decide_eq_true_eq, decide_eq_false_iff_not, Bool.not_true, Bool.not_false, ne_eq, Classical.not_not, Int.not_lt, Int.not_le] at hc); (try (exfalso; first | omega | exact hc trivial | exact hc rfl)))))
  all_goals (first | (exfalso; omega) | (refine GE.resOne rfl (by (repeat (first | apply Res.nil | (apply Res.tmp; rfl) | (refine Res.cellA rfl rfl rfl ?_) | (refine Res.cell1 rfl rfl ?_)))) (fun w h => ?_); exact ⟨rfl, holds.sub (F := blk s (.cells #[.slice (some ⟨r, n, none⟩) (l.length + 1) n, .slice (some ⟨r, 0, none⟩) n n] 267 (0, 0)) :: stkB r n (pl.set i l.length) (l ++ [(i : Int)]) (jk.drop 1) :: owns 3 encI1 1 (.slice (some ⟨_, 0, none⟩) 1 1) [(i : Int)] :: F) h⟩))
end
end Go.Proofs.YtipkgamiejenaaaGreat

/- Package stack: New, and the top one taken out. -/
namespace Go.Proofs.YtipkgamiejenaaaGreat
open Go Go.RowKit Go.MapKept
set_option linter.unusedVariables false
set_option linter.unusedSimpArgs false
set_option maxRecDepth 100000
set_option maxHeartbeats 1000000
section
variable {P : Program} {nn : Nat} {Q : Exit → Act → World → Prop} {env : Env} {F F' : List HProp} {ops : Array Oper} {rest : List Oper} {ty : TypeId} {pos : String} {aft : Array Edge}
/-- A store to an element of the list. -/
theorem GL.storeLi {t : TypeId} {x y : Operand} {r n i off : Nat} {pl l jk : List Int} {z : Int} (hx : opnd env x = some (.pointer (some ⟨r, off, none⟩))) (hy : opnd env y = some (.int .i64 z)) [ht : CellT P t] [hk : Has F (stkB r n pl l jk) F'] (ho : off = n + i) (hi : i < l.length)
    (h : GL P nn ops Q rest env (stkB r n pl (l.set i z) jk :: F')) : GL P nn ops Q (⟨none, .store t x y, ty, pos, aft, none⟩ :: rest) env F := .mk fun a w hf hw => by
  obtain ⟨i', ds, g1, g2, g3, g4⟩ := ht.ok
  obtain ⟨⟨e1, e2⟩, hb⟩ := stkB.open (hw.perm hk.perm)
  refine wpList_store1_sl rfl rfl t x y rfl (off := off) (.int .i64 z) (hf.eval hx) (hf.eval hy) (by simp [g1, g2]) rfl rfl hb (by simp only [List.size_toArray, flatI_len, List.length_append]; omega) fun w' hw' => h a w' hf ?_
  refine stkB.shut ⟨e1, by simpa using e2⟩ ?_
  have e : ((pl ++ l ++ jk).flatMap encI1).toArray.setIfInBounds off (.int .i64 z) = ((pl ++ l.set i z ++ jk).flatMap encI1).toArray := by
    apply Array.ext'
    simp only [Array.toList_setIfInBounds, flatI_map]
    rw [show pl ++ l.set i z ++ jk = (pl ++ l ++ jk).set off z by
      rw [List.append_assoc, List.append_assoc, List.set_append_right _ _ (by omega), List.set_append_left _ _ (by omega)]
      congr 3; omega, List.map_set]
  rw [← e]
  exact hw'
theorem Runs.cutLo {t e : TypeId} {x y z : Operand} {g N n : Nat} {l : List Int} [ht : SliceT P t e 1] [hr : Reads F (.slice (some ⟨g, 0, none⟩) N N) encI1 1 l] (hx : opnd env x = some (.slice (some ⟨g, 0, none⟩) N N)) (hhi : opnd env y = some (.int .i64 (n : Nat))) (hmx : opnd env z = some (.int .i64 (n : Nat))) (h0 : 0 < n) (hl : n ≤ l.length) :
    Runs P nn env F (.slice t x none (some y) (some z)) (.slice (some ⟨g, 0, none⟩) n n) := by
  have h := Runs.slice3 (P := P) (n := nn) (env := env) (F := F) (t := t) (x := x) (lo := none) (y := y) (z := z) (l := l) 0 n hx rfl (by simp [bnd, hhi]) (by simp [bnd, hmx]) rfl rfl rfl ⟨⟨Nat.zero_le _, hl⟩, .inr rfl⟩
  have e : secV (.slice (some ⟨g, 0, none⟩) N N) 0 n (some n) l.length 1 ⟨⟨Nat.zero_le _, hl⟩, .inr rfl⟩ = .slice (some ⟨g, 0, none⟩) n n := by
    simp [secV, subV, Addr.add]
  rw [e] at h; exact h
theorem Runs.cutHi {t e : TypeId} {x y z u : Operand} {g n : Nat} {l : List Int} {i j c : Int} [ht : SliceT P t e 1] [hr : Reads F (.slice (some ⟨g, 0, none⟩) (2 * n) (2 * n)) encI1 1 l] (hx : opnd env x = some (.slice (some ⟨g, 0, none⟩) (2 * n) (2 * n))) (hlo : opnd env y = some (.int .i64 i)) (hhi : opnd env z = some (.int .i64 j)) (hmx : opnd env u = some (.int .i64 c)) (hi : i = n) (hj : j = n) (hc : c = ((2 * n : Nat) : Int)) (h0 : 0 < n) (hl : l.length = 2 * n) :
    Runs P nn env F (.slice t x (some y) (some z) (some u)) (.slice (some ⟨g, n, none⟩) 0 n) := by
  have h := Runs.slice3M (P := P) (n := nn) (env := env) (F := F) (t := t) (x := x) (y := y) (z := z) (u := u) (l := l) n n rfl hx hlo hhi hmx hi hj (by rw [hl]; exact hc) (Nat.le_refl _) (by omega)
  have e : subV (.slice (some ⟨g, 0, none⟩) (2 * n) (2 * n)) n n (some l.length) 1 = .slice (some ⟨g, n, none⟩) 0 n := by
    have e1 : ¬ (2 * n = n) := by omega
    have e2 : 2 * n - n = n := by omega
    have e3 : n ≠ 0 := by omega
    simp [subV, Addr.add, hl, e1, e2, e3]
  rw [e] at h; exact h
structure Halt (p : Prop) : Prop where
  out : p
theorem G.halt {c : Code} (h : Halt (G P nn c Q env F)) : G P nn c Q env F := h.out
theorem Runs.indexAddrL {t e : TypeId} {x y : Operand} {r o k c : Nat} {i : Int} (j : Nat) [ht : SliceT P t e 1] (hx : opnd env x = some (.slice (some ⟨r, o, none⟩) k c)) (hy : opnd env y = some (.int .i64 i)) (hij : i = (j : Nat)) (hj : j < k) : Runs P nn env F (.indexAddr t x y) (.pointer (some ⟨r, o + j, none⟩)) := .mk fun a w ty pos aft g d hf hw => by
  subst hij
  obtain ⟨i, h1, h2, h3⟩ := ht.ok
  simp [execOp, hf.eval hx, hf.eval hy, Instr.indexAt, asIntOf, run_underlying h1, sizeOf, typeInfo, h2, h3, hj, addr_add, Result.andThen]
theorem Runs.cutTopL {t e : TypeId} {x y : Operand} {r n k m : Nat} {j : Int} [ht : SliceT P t e 1] (hx : opnd env x = some (.slice (some ⟨r, n, none⟩) m n)) (hhi : opnd env y = some (.int .i64 j)) (hj : j = (k : Nat)) (h0 : 0 < n) (hl : k ≤ m) (hmn : m ≤ n) :
    Runs P nn env F (.slice t x none (some y) none) (.slice (some ⟨r, n, none⟩) k n) := .mk fun ac w ty pos aft g d hf hw => by
  subst hj
  obtain ⟨it, g1, g2, g3⟩ := ht.ok
  have h4 : k ≤ n := by omega
  have hsl : (Instr.sliceBounds true m n none (some (.int .i64 k)) none).run P w = .ok (0, k, n) w := by
    simp [Instr.sliceBounds, Instr.sliceBound, asIntOf, h4, hl, Result.andThen]
  have e1 : ¬ (n = 0) := by omega
  simp [execOp, hf.eval hx, hf.eval hhi, Instr.sliceAt, Instr.slice, run_underlying g1, sizeOf, typeInfo, g2, g3, hsl, Result.andThen, Addr.add, e1]
theorem DoesW.storePl {t : TypeId} {x y : Operand} {r n i off : Nat} {pl l jk : List Int} {z : Int} {L : List HProp} (hx : opnd env x = some (.pointer (some ⟨r, off, none⟩))) (hy : opnd env y = some (.int .i64 z)) [ht : CellT P t] (ho : off = i) (hi : i < pl.length) :
    DoesW P nn env F [stkB r n pl l jk] L (.store t x y) (fun _ => True) (fun _ => stkB r n (pl.set i z) l jk) := ⟨fun a w F' ty pos aft g d hf hw => by
  subst ho
  obtain ⟨i, ds, g1, g2, g3, g4⟩ := ht.ok
  obtain ⟨⟨e1, e2⟩, hb⟩ := stkB.open (show holds w (stkB r n pl l jk :: (L ++ (F ++ F'))) from by simpa using hw)
  have hlt : off < ((pl ++ l ++ jk).flatMap encI1).toArray.size := by simp only [List.size_toArray, flatI_len, List.length_append]; omega
  obtain ⟨w', hr, hh⟩ := run_storeVar_sl (P := P) (t := t) (val := .int .i64 z) (off := off) (by simp [g1, g2]; rfl) (by simp [Value.cells, Value.oneCell']) hb (by have : (Value.int .i64 z).cells.size = 1 := rfl; omega)
  simp [execOp, hf.eval hx, hf.eval hy, Instr.storeAt, Instr.sureAddr, hr, Result.andThen, looseUpon]
  refine stkB.shut ⟨by simpa using e1, e2⟩ ?_
  have e : ((pl ++ l ++ jk).flatMap encI1).toArray.toList.take off ++ (Value.int .i64 z).cells.toList ++ ((pl ++ l ++ jk).flatMap encI1).toArray.toList.drop (off + (Value.int .i64 z).cells.size) = (pl.set off z ++ l ++ jk).flatMap encI1 := by
    have : (Value.int .i64 z).cells = #[.int .i64 z] := rfl
    simp only [this, List.size_toArray, List.length_singleton]
    rw [show pl.set off z ++ l ++ jk = (pl ++ l ++ jk).set off z by rw [List.append_assoc, List.append_assoc, List.set_append_left _ _ hi]]
    simp only [flatI_map]
    rw [List.map_set, List.set_eq_take_append_cons_drop, if_pos (by simp only [List.length_map, List.length_append]; omega)]
    simp
  rw [e] at hh
  exact hh⟩
theorem DoesW.storeLi {t : TypeId} {x y : Operand} {r n i off : Nat} {pl l jk : List Int} {z : Int} {L : List HProp} (hx : opnd env x = some (.pointer (some ⟨r, off, none⟩))) (hy : opnd env y = some (.int .i64 z)) [ht : CellT P t] (ho : off = n + i) (hi : i < l.length) (hz : l.set i z = l) :
    DoesW P nn env F [stkB r n pl l jk] L (.store t x y) (fun _ => True) (fun _ => stkB r n pl l jk) := ⟨fun a w F' ty pos aft g d hf hw => by
  subst ho
  obtain ⟨_, ds, g1, g2, g3, g4⟩ := ht.ok
  obtain ⟨⟨e1, e2⟩, hb⟩ := stkB.open (show holds w (stkB r n pl l jk :: (L ++ (F ++ F'))) from by simpa using hw)
  have hlt : n + i < ((pl ++ l ++ jk).flatMap encI1).toArray.size := by simp only [List.size_toArray, flatI_len, List.length_append]; omega
  obtain ⟨w', hr, hh⟩ := run_storeVar_sl (P := P) (t := t) (val := .int .i64 z) (off := n + i) (by simp [g1, g2]; rfl) (by simp [Value.cells, Value.oneCell']) hb (by have : (Value.int .i64 z).cells.size = 1 := rfl; omega)
  simp [execOp, hf.eval hx, hf.eval hy, Instr.storeAt, Instr.sureAddr, hr, Result.andThen, looseUpon]
  refine stkB.shut ⟨e1, e2⟩ ?_
  have e : ((pl ++ l ++ jk).flatMap encI1).toArray.toList.take (n + i) ++ (Value.int .i64 z).cells.toList ++ ((pl ++ l ++ jk).flatMap encI1).toArray.toList.drop (n + i + (Value.int .i64 z).cells.size) = (pl ++ l ++ jk).flatMap encI1 := by
    have : (Value.int .i64 z).cells = #[.int .i64 z] := rfl
    simp only [this, List.size_toArray, List.length_singleton]
    have e3 : (pl ++ l ++ jk).set (n + i) z = pl ++ l ++ jk := by
      rw [List.append_assoc, List.set_append_right _ _ (by omega), List.set_append_left _ _ (by omega), show n + i - pl.length = i by omega, hz]
    conv => rhs; rw [← e3]
    simp only [flatI_map]
    rw [List.map_set, List.set_eq_take_append_cons_drop, if_pos (by simp only [List.length_map, List.length_append]; omega)]
    simp
  rw [e] at hh
  exact hh⟩
end
theorem stkB.shift {w : World} {F : List HProp} {r n : Nat} {pl l jk : List Int} {x : Int} (h : holds w (stkB r n pl (l ++ [x]) jk :: F)) : holds w (stkB r n pl l (x :: jk) :: F) := by
  obtain ⟨⟨e1, e2⟩, hb⟩ := stkB.open h
  refine stkB.shut ⟨e1, by simp at e2 ⊢; omega⟩ ?_
  rw [show pl ++ l ++ x :: jk = pl ++ (l ++ [x]) ++ jk by simp]
  exact hb
theorem stkB.ofOwn {w : World} {F : List HProp} {r n : Nat} (h : holds w (owns 3 encI1 1 (.slice (some ⟨r, 0, none⟩) (2 * n) (2 * n)) (List.replicate (2 * n) 0) :: F)) : holds w (stkB r n (List.replicate n 0) [] (List.replicate n 0) :: F) := by
  obtain ⟨hl, ho⟩ := holds.open_own h
  rcases ho with ⟨h1, _⟩ | ⟨g, cap, cur, h1, h2, h3, h4, h5, h6⟩
  · cases h1
  · simp only [Value.slice.injEq, Option.some.injEq, Addr.mk.injEq, List.length_replicate] at h1
    obtain ⟨⟨rfl, -, -⟩, -, rfl⟩ := h1
    refine stkB.shut ⟨by simp, by simp⟩ ?_
    have e : cur = ((List.replicate n (0 : Int) ++ [] ++ List.replicate n (0 : Int)).flatMap encI1).toArray := by
      apply Array.ext'
      rw [List.append_nil, List.replicate_append_replicate]
      rw [List.take_of_length_le (by simp at h4 ⊢; omega)] at h5
      rw [h5, show n + n = 2 * n by omega]
    rw [← e]; exact h6
theorem stack_New (n : Nat) (h0 : 0 < n) (hn : n ≤ 1048576) (w : World) (F : List HProp) (hw : holds w F) :
    Ct Tryz.prog 137 #[.int .i64 (n : Nat)] w fun e w' => ∃ x : Nat × Nat, e = .returned (.pointer (some ⟨x.1, 0, none⟩)) ∧ holds w' (blk x.1 (.cells #[.slice (some ⟨x.2, n, none⟩) 0 n, .slice (some ⟨x.2, 0, none⟩) n n] 267 (0, 0)) :: stkB x.2 n (List.replicate n (-1)) [] (List.replicate n 0) :: F) := by
  refine Ct.go (args := [.int .i64 (n : Nat)]) Tryz.func137 rfl rfl rfl hw ?_
  repeat' (first | (first | (refine G.isRegion 5 ?_; refine G.imp (F' := stkB r n (List.replicate n 0) [] (List.replicate n 0) :: blk s (.cells #[.slice (some ⟨r, n, none⟩) 0 n, .slice (some ⟨r, 0, none⟩) n n] 267 (0, 0)) :: F) ?_ (fun w h => stkB.ofOwn (holds.sub (H := owns 3 encI1 1 (.slice (some ⟨r, 0, none⟩) (2 * n) (2 * n)) (List.replicate (2 * n) 0) :: blk s (.cells #[.slice (some ⟨r, n, none⟩) 0 n, .slice (some ⟨r, 0, none⟩) n n] 267 (0, 0)) :: F) h)); apply G.region) | (apply GL.isAny; refine GL.makeSl encI1 0 (2 * n) (2 * n) rfl rfl rfl (by omega) (by omega) (by omega) (by omega) (by unfold maxLen; omega) rfl (fun r => ?_)) | refine G.drawTail 11 (by kernel_rfl) (by simp only [List.take_succ_cons, List.take_zero]; rfl) (by simp only [List.drop_succ_cons, List.drop_zero]; rfl) (by kernel_rfl) ?_ | (apply GD.isAny; refine GD.run (by apply Runs.isSlice; first | exact Runs.cutLo rfl rfl rfl h0 (by rw [List.length_replicate]; omega) | exact Runs.cutHi rfl rfl rfl rfl rfl rfl (by omega) h0 (by rw [List.length_replicate])) rfl ?_) | (apply GL.isBox; refine GL.boxA (cs := #[.slice (some ⟨_, n, none⟩) 0 n, .slice (some ⟨_, 0, none⟩) n n]) rfl rfl (fun s => ?_))) | first | refine stp ?_ | (refine stpB ?_; intro _) | (refine spl ?_ ?_ <;> intro hc <;> ((try simp only [decide_eq_true_eq, decide_eq_false_iff_not, Bool.not_true, Bool.not_false, ne_eq, Classical.not_not, Int.not_lt, Int.not_le] at hc); (try (exfalso; first | omega | exact hc trivial | exact hc rfl)))))
  all_goals (first | (exfalso; omega) | skip)
  rw [List.length_replicate]
  refine G.loopK [4, 31] (Nat) (fun k => [(32, .int .i64 k)]) (fun k => stkB r n (List.replicate k (-1) ++ List.replicate (n - k) 0) [] (List.replicate n 0) :: blk s (.cells #[.slice (some ⟨r, n, none⟩) 0 n, .slice (some ⟨r, 0, none⟩) n n] 267 (0, 0)) :: F) (fun k => k ≤ n) (fun k => n - k) (0) (Nat.zero_le _) (by repeat (first | exact trivial | refine And.intro rfl ?_)) (fun w h => by (try dsimp only); first | exact h | exact h.sub | ((try simp only [List.take_zero, List.drop_zero, List.map_nil, List.nil_append, List.zipIdx_nil, List.filter_nil]); exact h.sub)) ?_
  intro k hk
  have hlen : (List.replicate k (-1 : Int) ++ List.replicate (n - k) (0 : Int)).length = n := by simp; omega
  by_cases hlt : k < n
  · repeat' (first | (first | (apply GL.isAny; refine GL.run (by apply Runs.isIndexA; exact Runs.indexAddr (k := k) rfl rfl rfl rfl (by omega)) rfl ?_) | (apply GL.isStore; refine GL.storePl (r := r) (n := n) (pl := List.replicate k (-1 : Int) ++ List.replicate (n - k) (0 : Int)) (l := []) (jk := List.replicate n 0) (i := k) (z := -1) rfl rfl (by simp [rowO]) (by omega) ?_)) | first | refine stp ?_ | (refine stpB ?_; intro _) | (refine spl ?_ ?_ <;> intro hc <;> ((try simp only [decide_eq_true_eq, decide_eq_false_iff_not, Bool.not_true, Bool.not_false, ne_eq, Classical.not_not, Int.not_lt, Int.not_le] at hc); (try (exfalso; first | omega | exact hc trivial | exact hc rfl)))))
    have e : (List.replicate k (-1 : Int) ++ List.replicate (n - k) (0 : Int)).set k (-1) = List.replicate (k + 1) (-1) ++ List.replicate (n - (k + 1)) 0 := by
      rw [List.set_append_right _ _ (by simp), List.length_replicate, Nat.sub_self]
      obtain ⟨m, hm⟩ : ∃ m, n - k = m + 1 := ⟨n - k - 1, by omega⟩
      rw [hm, List.replicate_succ, List.set_cons_zero, List.replicate_succ', List.append_assoc, show n - (k + 1) = m by omega]; rfl
    rw [e]
    refine GE.round (k + 1) (hlt) (by repeat (first | exact trivial | refine And.intro rfl ?_)) (fun w h => by (try dsimp only); exact h.sub) (by (try dsimp only); omega)
  · obtain rfl : k = n := by omega
    rw [Nat.sub_self]
    repeat' (first | refine stp ?_ | (refine stpB ?_; intro _) | (refine spl ?_ ?_ <;> intro hc <;> ((try simp only [decide_eq_true_eq, decide_eq_false_iff_not, Bool.not_true, Bool.not_false, ne_eq, Classical.not_not, Int.not_lt, Int.not_le] at hc); (try (exfalso; first | omega | exact hc trivial | exact hc rfl)))))
    refine GE.resOne rfl (by (repeat (first | apply Res.nil | (apply Res.tmp; rfl) | (refine Res.cellA rfl rfl rfl ?_) | (refine Res.cell1 rfl rfl ?_)))) (fun w h => ?_)
    exact ⟨(s, r), rfl, by rw [List.replicate_zero, List.append_nil] at h; exact h.sub⟩
section
variable (s r n : Nat) (pl l jk : List Int)
/-- The top one is taken out. -/
theorem stack_DropTop (hn : n ≤ 1048576) (x : Nat) (hx : x < n) (hp : pl.getD x 0 = l.length) (w : World) (F : List HProp) (hw : holds w (blk s (.cells #[.slice (some ⟨r, n, none⟩) (l ++ [(x : Int)]).length n, .slice (some ⟨r, 0, none⟩) n n] 267 (0, 0)) :: stkB r n pl (l ++ [(x : Int)]) jk :: F)) :
    Ct Tryz.prog 202 #[.pointer (some ⟨s, 0, none⟩), .int .i64 (x : Nat)] w fun e w' => e = .returned (.bool true) ∧ holds w' (blk s (.cells #[.slice (some ⟨r, n, none⟩) l.length n, .slice (some ⟨r, 0, none⟩) n n] 267 (0, 0)) :: stkB r n (pl.set x (-1)) l ((x : Int) :: jk) :: F) := by
  obtain ⟨⟨e1, e2⟩, _⟩ := stkB.open hw.tail
  rw [List.length_append, List.length_cons, List.length_nil] at e2
  have eP : Stk.place pl x = l.length := by
    unfold Stk.place
    rw [if_neg (by omega), Int.toNat_natCast, hp]
  have hP := fun w F h => stack_Place s r n pl (l ++ [(x : Int)]) jk x w F h
  rw [eP] at hP
  refine Ct.go (args := [.pointer (some ⟨s, 0, none⟩), .int .i64 (x : Nat)]) Tryz.func202 rfl rfl rfl hw ?_
  have hL : (l ++ [(x : Int)]).length = l.length + 1 := by simp
  have eT : (l ++ [(x : Int)])[l.length]'(by omega) = x := by rw [List.getElem_append_right (by omega)]; simp
  have eS : (l ++ [(x : Int)]).set l.length (x : Int) = (l ++ [(x : Int)]) := by simp
  repeat' (first | (first | first | (apply GL.isCall; refine GL.call1 rfl rfl (fun w h => hP w _ h) ?_) | (apply GD.isAny; refine GD.call rfl rfl (fun w F' h => hP w _ h) ?_) | (refine G.isRegion 6 ?_; rw [eT]; refine G.drawW [⟨none, [], some 13, none, fun _ => True, fun _ => stkB r n pl (l ++ [(x : Int)]) jk⟩, ⟨some 13, [0], some 15, none, fun _ => True, fun _ => stkB r n pl (l ++ [(x : Int)]) jk⟩, ⟨some 15, [1], none, none, fun _ => True, fun _ => stkB r n (pl.set x l.length) (l ++ [(x : Int)]) jk⟩] [] [0] [2] (by kernel_rfl) (by kernel_rfl) rfl ⟨⟨_, rfl, .inl rfl⟩, trivial⟩ ?_) | (refine G.isRegion 7 ?_; refine G.drawW [⟨none, [], some 14, none, fun _ => True, fun _ => blk s (.cells #[.slice (some ⟨r, n, none⟩) (l ++ [(x : Int)]).length n, .slice (some ⟨r, 0, none⟩) n n] 267 (0, 0))⟩, ⟨some 14, [0], none, none, fun _ => True, fun _ => blk s (.cells #[.slice (some ⟨r, n, none⟩) l.length n, .slice (some ⟨r, 0, none⟩) n n] 267 (0, 0))⟩, ⟨none, [], some 16, none, fun _ => True, fun _ => stkB r n (pl.set x l.length) (l ++ [(x : Int)]) jk⟩, ⟨some 16, [2], none, none, fun _ => True, fun _ => stkB r n ((pl.set x l.length).set x (-1)) (l ++ [(x : Int)]) jk⟩] [(4, [0]), (9, [0])] [0, 2] [1, 3] (by kernel_rfl) (by kernel_rfl) rfl ⟨⟨_, rfl, .inl rfl⟩, ⟨_, rfl, .inl rfl⟩, trivial⟩ ?_) | (apply GL.isAny; refine GL.run (by apply Runs.isIndexA; exact Runs.indexAddr (k := l.length) rfl rfl rfl (by omega) (by omega)) rfl ?_) | (apply GW.isAny; first | refine GW.runA rfl rfl ?_ | refine GW.seeA rfl rfl ⟨⟨_, rfl, .inl rfl⟩, trivial⟩ rfl ?_) | (apply GW.isAny; refine GW.see (L := [blk s (.cells #[.slice (some ⟨r, n, none⟩) (l ++ [(x : Int)]).length n, .slice (some ⟨r, 0, none⟩) n n] 267 (0, 0))]) rfl rfl ⟨⟨_, rfl, .inl rfl⟩, trivial⟩ (by show Runs _ _ _ (_ :: _) _ _; first | (apply Runs.isMove; exact Runs.move rfl) | (apply Runs.isLoad; first | exact Runs.loadBlk rfl rfl | exact Runs.loadRow rfl (by first | omega | decide) rfl | exact Runs.loadRow0 rfl (by first | omega | decide) rfl | exact Runs.loadElem rfl (by first | omega | decide) | exact Runs.loadWhole rfl rfl | exact Runs.loadBlkA rfl rfl rfl) | (apply Runs.isFieldA; exact Runs.fieldAddr rfl) | (apply Runs.isBin; first | (apply Runs.eql <;> rfl) | (apply Runs.lss <;> rfl) | (apply Runs.neq <;> rfl) | (apply Runs.leq <;> rfl) | (apply Runs.gtr <;> rfl) | (apply Runs.geq <;> rfl) | exact Runs.add rfl rfl (by omega) | exact Runs.sub rfl rfl (by omega) | exact Runs.mul rfl rfl (by omega) | exact Runs.quo rfl rfl (by omega) | exact Runs.rem rfl rfl (by omega) | exact Runs.shr rfl rfl | exact Runs.shl rfl rfl (by omega) | exact Runs.and20 rfl rfl | exact Runs.shrU rfl rfl | exact Runs.eqlPtrNil rfl | exact Runs.neqPtrNil rfl | exact Runs.eqlMapNil rfl | exact Runs.neqMapNil rfl | exact Runs.eqlSlNil rfl | exact Runs.eqlInts rfl rfl rfl rfl | exact Runs.neqInts rfl rfl rfl rfl) | (apply Runs.isAssign; exact Runs.assign rfl) | (apply Runs.isIndexA; first | exact Runs.indexAddr rfl rfl rfl rfl (by first | omega | decide) | exact Runs.indexAddrI rfl rfl rfl (by first | omega | decide) (by first | omega | decide) | exact Runs.indexArr rfl rfl rfl (by first | omega | decide)) | (apply Runs.isPick; first | exact Runs.pickT rfl rfl | exact Runs.pickF rfl rfl) | (apply Runs.isExtract; exact Runs.extract rfl rfl) | (apply Runs.isBuiltin; first | exact Runs.lenRow rfl | exact Runs.min2 rfl rfl | exact Runs.max2 rfl rfl | exact Runs.lenMap rfl | exact Runs.lenArr rfl) | (apply Runs.isLookup; first | exact Runs.lookupI rfl rfl | exact Runs.lookupS rfl rfl (by assumption) | exact Runs.lookupN rfl rfl (by assumption) | exact Runs.lookup rfl rfl | exact Runs.lookupOk rfl rfl) | (apply Runs.isSlice; first | exact Runs.slice _ _ rfl rfl rfl rfl rfl rfl ⟨⟨(by first | omega | decide), (by first | omega | decide)⟩, .inl rfl⟩ | exact Runs.slice3 _ _ rfl rfl rfl rfl rfl rfl rfl ⟨⟨(by first | omega | decide), (by first | omega | decide)⟩, .inr rfl⟩) | (apply Runs.isConvert; exact Runs.convII rfl (by omega)) | (apply Runs.isField; first | exact Runs.fieldVal rfl rfl | exact Runs.fieldAgg rfl) | (apply Runs.isBuild; exact Runs.build rfl rfl) | (apply Runs.isIndex; first | exact Runs.indexVal rfl rfl rfl (by first | omega | decide) rfl | exact Runs.indexAgg rfl rfl rfl rfl rfl) | (apply Runs.isUn; first | exact Runs.not rfl | exact Runs.neg rfl (by omega)) | (apply Runs.isMakeFunc; exact Runs.makeFunc rfl rfl) | (apply Runs.isNilCheck; exact Runs.nilCheck rfl)) rfl ?_) | (apply GW.isAny; refine GW.store rfl rfl rfl rfl rfl ⟨⟨_, rfl, .inl rfl⟩, trivial⟩ rfl trivial rfl (DoesW.storeBlk (R := fun _ => True) rfl rfl (by first | rfl | assumption) (by first | rfl | assumption) rfl rfl) ?_) | (apply GW.isAny; refine GW.run rfl (by apply Runs.isIndexA; first | exact Runs.indexAddrL l.length rfl rfl rfl (by omega) | exact Runs.indexAddrL x rfl rfl rfl hx) rfl ?_) | (apply GW.isAny; refine GW.run rfl (by apply Runs.isSlice; exact Runs.cutTopL (k := l.length) rfl rfl (by omega) (by omega) (by omega) (by omega)) rfl ?_) | (apply GW.isAny; refine GW.store rfl rfl rfl rfl rfl ⟨⟨_, rfl, .inl rfl⟩, trivial⟩ rfl trivial rfl (DoesW.storeLi (i := l.length) (z := x) rfl rfl rfl (by omega) eS) ?_) | (apply GW.isAny; refine GW.store rfl rfl rfl rfl rfl ⟨⟨_, rfl, .inr (.inl rfl)⟩, trivial⟩ rfl trivial rfl (DoesW.storePl (i := x) (z := l.length) rfl rfl (by omega) (by omega)) ?_) | (apply GW.isAny; refine GW.store rfl rfl rfl rfl rfl ⟨⟨_, rfl, .inl rfl⟩, trivial⟩ rfl trivial rfl (DoesW.storePl (i := x) (z := -1) rfl rfl (by omega) (by rw [List.length_set]; omega)) ?_) | (refine GW.nilE rfl ⟨⟨_, rfl, .inr (.inl rfl)⟩, trivial⟩ ?_; refine GE.imp (F' := stkB r n (pl.set x l.length) (l ++ [(x : Int)]) jk :: blk s (.cells #[.slice (some ⟨r, n, none⟩) (l ++ [(x : Int)]).length n, .slice (some ⟨r, 0, none⟩) n n] 267 (0, 0)) :: F) ?_ (fun w h => h)) | (refine GW.nilE rfl ⟨⟨_, rfl, .inr (.inl rfl)⟩, ⟨_, rfl, .inr (.inl rfl)⟩, trivial⟩ ?_; refine GE.imp (F' := blk s (.cells #[.slice (some ⟨r, n, none⟩) l.length n, .slice (some ⟨r, 0, none⟩) n n] 267 (0, 0)) :: stkB r n ((pl.set x l.length).set x (-1)) (l ++ [(x : Int)]) jk :: F) ?_ (fun w h => h))) | first | refine stp ?_ | (refine stpB ?_; intro _) | (refine spl ?_ ?_ <;> intro hc <;> ((try simp only [decide_eq_true_eq, decide_eq_false_iff_not, Bool.not_true, Bool.not_false, ne_eq, Classical.not_not, Int.not_lt, Int.not_le] at hc); (try (exfalso; first | omega | exact hc trivial | exact hc rfl)))))
  all_goals (first | (exfalso; omega) | skip)
  refine GE.resOne rfl (by (repeat (first | apply Res.nil | (apply Res.tmp; rfl) | (refine Res.cellA rfl rfl rfl ?_) | (refine Res.cell1 rfl rfl ?_)))) (fun w h => ?_)
  have h2 := stkB.shift (holds.sub (H := stkB r n ((pl.set x l.length).set x (-1)) (l ++ [(x : Int)]) jk :: blk s (.cells #[.slice (some ⟨r, n, none⟩) l.length n, .slice (some ⟨r, 0, none⟩) n n] 267 (0, 0)) :: F) h)
  rw [List.set_set] at h2
  exact ⟨rfl, h2.order [1, 0]⟩
end
end Go.Proofs.YtipkgamiejenaaaGreat

/- More of numbers without a sign: shifts by any count, and-not, and. -/
namespace Go.Proofs.YtipkgamiejenaaaGreat
open Go Go.RowKit Go.MapKept
set_option linter.unusedVariables false
set_option linter.unusedSimpArgs false
def andNotI (i j : Int) : Int := ((BitVec.ofInt 64 i &&& ~~~BitVec.ofInt 64 j).toNat : Nat)
section
variable {P : Program} {n : Nat} {env : Env} {F : List HProp} {xT yT : TypeId} {x y : Operand} {i j s c : Int} {k : IntKind}
theorem Runs.andNotU (hx : opnd env x = some (.int .u64 i)) (hy : opnd env y = some (.int .u64 j)) : Runs P n env F (.binOp .andNot xT x y yT) (.int .u64 (andNotI i j)) := .mk fun a w ty pos aft g d hf hw => by
  have e : Op.intBits .andNot .u64 i j = pure (.int .u64 (IntKind.u64.wrap (andNotI i j))) := rfl
  simp only [execOp, hf.eval hx, hf.eval hy]
  have e2 : eqGuard .andNot xT x y (.int .u64 i) (.int .u64 j) = pure () := rfl
  have e3 : binOp .andNot xT (.int .u64 i) (.int .u64 j) = Op.intBits .andNot .u64 i j := rfl
  have h := natBV_lt (BitVec.ofInt 64 i &&& ~~~BitVec.ofInt 64 j)
  have h : 0 ≤ andNotI i j ∧ andNotI i j ≤ 18446744073709551615 := h
  rw [e2, e3, e, wrapU, Int.emod_eq_of_lt h.1 (by omega)]
  simp [Result.andThen]
theorem Runs.shrC (hx : opnd env x = some (.int .u64 i)) (hy : opnd env y = some (.int k c)) (h : 0 ≤ c ∧ c ≤ 64) : Runs P n env F (.binOp .shr xT x y yT) (.int .u64 (i / (2 ^ c.toNat : Int))) := .mk fun a w ty pos aft g d hf hw => by
  have hc : ¬ c < 0 := by omega
  have hm : min c.toNat 64 = c.toNat := by omega
  have h2 := Int.fdiv_eq_ediv_of_nonneg i (b := (2 ^ c.toNat : Int)) (Int.pow_nonneg (by omega))
  simp [execOp, hf.eval hx, hf.eval hy, eqGuard, binOp, Op.shift, IntKind.bits, hc, hm, h2, Result.andThen]
theorem Runs.shlC (hx : opnd env x = some (.int .u64 1)) (hy : opnd env y = some (.int k c)) (h : 0 ≤ c ∧ c < 64) : Runs P n env F (.binOp .shl xT x y yT) (.int .u64 ((2 ^ c.toNat : Nat) : Int)) := .mk fun a w ty pos aft g d hf hw => by
  have hc : ¬ c < 0 := by omega
  have hm : min c.toNat 64 = c.toNat := by omega
  have h3 : (2 ^ c.toNat : Nat) < 2 ^ 64 := Nat.pow_lt_pow_right (by omega) (by omega)
  have h4 : ((2 ^ c.toNat : Nat) : Int) % 18446744073709551616 = ((2 ^ c.toNat : Nat) : Int) := Int.emod_eq_of_lt (Int.natCast_nonneg _) (by have h5 : ((2 ^ c.toNat : Nat) : Int) < ((2 ^ 64 : Nat) : Int) := Int.ofNat_lt.2 h3; exact h5)
  rw [Int.natCast_pow] at h4
  simp [execOp, hf.eval hx, hf.eval hy, eqGuard, binOp, Op.shift, IntKind.bits, hc, hm, wrapU, Result.andThen]
  exact h4
theorem Runs.and127 (hx : opnd env x = some (.int .i64 i)) (hy : opnd env y = some (.int .i64 127)) : Runs P n env F (.binOp .and xT x y yT) (.int .i64 (i % 128)) := .mk fun a w ty pos aft g d hf hw => by
  have e3 : binOp .and xT (.int .i64 i) (.int .i64 127) = Op.intBits .and .i64 i 127 := rfl
  have e2 : eqGuard .and xT x y (.int .i64 i) (.int .i64 127) = pure () := rfl
  have e : Op.intBits .and .i64 i 127 = pure (.int .i64 (IntKind.i64.wrap (((BitVec.ofInt 64 i &&& BitVec.ofInt 64 127).toNat : Nat) : Int))) := rfl
  have h : (BitVec.ofInt 64 i &&& BitVec.ofInt 64 127).toNat = (BitVec.ofInt 64 i).toNat % 128 := by
    rw [BitVec.toNat_and]
    have : (BitVec.ofInt 64 127).toNat = 2 ^ 7 - 1 := rfl
    rw [this, Nat.and_two_pow_sub_one_eq_mod]
  have h2 : (((BitVec.ofInt 64 i).toNat % 128 : Nat) : Int) = i % 128 := by
    rw [BitVec.toNat_ofInt]; omega
  simp only [execOp, hf.eval hx, hf.eval hy]
  rw [e2, e3, e, h, h2, IntWalk.i64_in _ (by omega)]
  simp [Result.andThen]
end
end Go.Proofs.YtipkgamiejenaaaGreat
