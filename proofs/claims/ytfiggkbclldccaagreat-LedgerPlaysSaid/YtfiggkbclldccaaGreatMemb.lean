/- Members: rows of them, and what they hold together; Members and Held of both. -/
import Derived.Test.YtfiggkbclldccaaGreatAcctsC
namespace Go.Proofs.YtfiggkbclldccaaGreat
open Go Go.RowKit Go.MapKept
set_option maxRecDepth 100000
set_option linter.unusedVariables false
set_option maxHeartbeats 1000000
attribute [local go_sem] exactUpon looseUpon

def mbCells (x : Int × AcM) : Array Value := #[.int .i64 x.1, .int .i64 x.2.claim, .int .i64 x.2.held, .int .i64 x.2.credits]
def mbL (x : Int × AcM) : List Value := (mbCells x).toList
theorem mbL_len : ∀ x, (mbL x).length = 4 := fun _ => rfl
theorem mbL_one (x : Int × AcM) : ∀ u ∈ mbL x, u.oneCell' = true := by simp [mbL, mbCells, Value.oneCell']
def ownMb (v : Value) (l : List (Int × AcM)) : HProp := ownRow 166 4 v l.length (l.flatMap mbL)
def roMb (v : Value) (l : List (Int × AcM)) : HProp := roRow 4 v l.length (l.flatMap mbL)
theorem holds.shareMb {w : World} {F : List HProp} {v : Value} {l : List (Int × AcM)} (h : holds w (ownMb v l :: F)) : holds w (roMb v l :: F) := holds.shareRow h
theorem roMb_form {w : World} {F : List HProp} {v : Value} {l : List (Int × AcM)} (h : holds w (roMb v l :: F)) : ∃ a cap, v = .slice a l.length cap ∧ l.length ≤ cap := (holds.roReads h).form
theorem Tryz.infoMb : (Tryz.prog.info? 166).map (fun i => (i.zero, i.size, i.bytes)) = some (some (.agg (mbCells (0, ac0))), 4, 32) := by kernel_rfl
theorem wpList_appendMb {ops : Array Oper} {rest : List Oper} {o : Oper} {a : Act} {Q : Exit → Act → World → Prop} {w : World} {F : List HProp} (hg : o.guard = none) (s x : Operand)
    (hop : o.op = .call { callee := .builtin .append, args := #[s, x], argTypes := #[50, 50] })
    {v : Value} {l : List (Int × AcM)} {t : Int × AcM} {nb c : Nat} {T : TypeId} (hs : a.eval s = v) (hw : holds w (ownMb v l :: F)) (hx : a.eval x = .slice (some ⟨nb, 0, none⟩) 1 c)
    (hb : w.heap[nb]? = some (.cells (mbCells t) T (0, 0))) (hlen : l.length < 100000000)
    (hK : ∀ v' w', holds w' (ownMb v' (l ++ [t]) :: F) → wpList Tryz.prog ops Q rest (a.put o.dst v') w') : wpList Tryz.prog ops Q (o :: rest) a w := by
  obtain ⟨i0, hi, hz0, hz1, hz2⟩ := info_parts Tryz.infoMb
  exact wpList_appendElem mbL_len hg s x _ hop Tryz.underlying50 hi hz0 hz1 hz2 rfl (by omega) hs hw hx hb (mbL_one t) (by unfold maxLen; omega) (by omega) hK
theorem tok_appMb {w : World} {G : List HProp} {o : Oper} {a : Act} (s x : Operand) (hop : o.op = .call { callee := .builtin .append, args := #[s, x], argTypes := #[50, 50] })
    {v : Value} {l : List (Int × AcM)} {t : Int × AcM} {nb cap : Nat} {T : TypeId} (hs : a.eval s = v) (hx : a.eval x = .slice (some ⟨nb, 0, none⟩) 1 cap) (hcap : 1 ≤ cap) (hw : holds w (ownMb v l :: blk nb (.cells (mbCells t) T (0, 0)) :: G)) (hl : l.length + 1 ≤ 100000000) :
    looseUpon Tryz.prog (fun u w' => (∃ (a : Option Addr) (cap : Nat), u = .slice a (l.length + 1) cap) ∧ holds w' (ownMb u (l ++ [t]) :: blk nb (.cells (mbCells t) T (0, 0)) :: G)) ((execOp a.eval o).run Tryz.prog w) := by
  obtain ⟨i0, hi, hz0, hz1, hz2⟩ := info_parts Tryz.infoMb
  refine tok_append s x _ hop Tryz.underlying50 hi hz0 hz1 hz2 rfl (by omega) hs hw hx (blk_reads (hw.pick 1) 4 1 cap (by simp [mbCells]) hcap) (mbL_one t) (by unfold maxLen; omega) (by omega) fun v' w' h => ?_
  have h2 : holds w' (ownMb v' (l ++ [t]) :: blk nb (.cells (mbCells t) T (0, 0)) :: G) := by
    unfold ownMb
    rw [List.length_append, List.flatMap_append]
    simpa [mbL] using h
  obtain ⟨a1, c1, e1⟩ := ownRow_form h2
  exact ⟨⟨a1, c1, by rw [e1, List.length_append]; rfl⟩, h2⟩

def AccsM.ids (t : AccsM) : List Int := sortInts (alKeys t.s.opn)
def AccsM.members (t : AccsM) : List (Int × AcM) := t.ids.map fun p => (p, t.A.getD p.toNat ac0)
def mbSum (l : List (Int × AcM)) : Int := (l.map fun x => x.2.held).sum
def acSum (A : List AcM) : Int := (A.map (·.held)).sum
theorem AccsM.ids_len (t : AccsM) : t.ids.length = t.s.opn.length := by
  unfold AccsM.ids sortInts
  rw [(List.mergeSort_perm _ _).length_eq]
  simp [alKeys]
theorem AccsM.mem_ids {t : AccsM} {p : Int} : p ∈ t.ids ↔ p ∈ alKeys t.s.opn := (List.mergeSort_perm _ _).mem_iff
theorem AccsM.Ok.opn_le {t : AccsM} {k : Nat} (h : t.Ok k) : t.s.opn.length ≤ t.s.gens.length := by
  rw [← ob_opens h.good]
  have := openTo_len (openBools t.s) (openBools t.s).length
  rw [ob_len] at this ⊢
  exact this
theorem AccsM.sum_to (t : AccsM) (hv : ∀ p b, alGet t.s.opn p = some b → b = true) (hok : t.s.ok) (hz : ∀ (i : Nat) (hi : i < t.A.length), (i : Int) ∉ alKeys t.s.opn → t.A[i] = ac0) (hl : t.A.length = t.s.gens.length) : ∀ j, j ≤ t.A.length → mbSum ((openTo (openBools t.s) j).map fun p => (p, t.A.getD p.toNat ac0)) = acSum (t.A.take j)
  | 0, _ => by simp [openTo, mbSum, acSum]
  | j + 1, hj => by
    have ih := AccsM.sum_to t hv hok hz hl j (by omega)
    rw [openTo_succ, List.take_succ_eq_append_getElem (show j < t.A.length by omega)]
    unfold mbSum acSum at *
    rw [List.map_append, List.map_append, List.sum_append, ih, List.map_append, List.sum_append]
    congr 1
    rw [ob_getD t.s hok j]
    cases hg : alGet t.s.opn (j : Int) with
    | none =>
      have hn : (j : Int) ∉ alKeys t.s.opn := (alGet_none _ _).1 hg
      rw [hz j (by omega) hn]
      simp [ac0]
    | some b =>
      cases b with
      | true => simp [show j < t.A.length by omega]
      | false => exact absurd (hv _ _ hg) (by simp)
theorem AccsM.Ok.sum {t : AccsM} {k : Nat} (h : t.Ok k) : mbSum t.members = acSum t.A := by
  have := AccsM.sum_to t h.good.val h.good.ok h.zero h.len t.A.length (Nat.le_refl _)
  rw [List.take_length] at this
  unfold AccsM.members AccsM.ids
  rw [← openTo_ob h.good, ob_len, ← h.len]
  exact this

theorem accs_Members (w : World) (v : Value) (t : AccsM) (k : Nat) (F : List HProp) (ho : t.Ok k) (hl : t.s.gens.length ≤ 1000) (hw : holds w (accsAt v t :: F)) :
    Calls Tryz.prog 100 #[v] w fun e w' => ∃ a c, e = .returned (.slice a t.members.length c) ∧ holds w' (roMb (.slice a t.members.length c) t.members :: accsAt v t :: F) := by
  have hpl := ho.opn_le
  have hPl : t.ids.length ≤ 1000 := by rw [AccsM.ids_len]; omega
  have HP := Lib.hid (fun w v F h => slots_Places w v t.s F (by omega) (fun x hx => ⟨keys_pos ho.good.ok x hx, by have := keys_lt ho.good.ok x hx; omega⟩) h)
  have HMI := Lib.hid (fun p => (AccsM.mem_ids (t := t) (p := p)).1)
  clear ho hl hpl
  change Calls _ _ _ _ fun e w' => ∃ a c, e = .returned (.slice a (t.ids.map fun p => (p, t.A.getD p.toNat ac0)).length c) ∧ holds w' (roMb (.slice a (t.ids.map fun p => (p, t.A.getD p.toNat ac0)).length c) (t.ids.map fun p => (p, t.A.getD p.toNat ac0)) :: accsAt v t :: F)
  change Hid (∀ w v F (h : holds w (slotsAt v t.s :: F)), Calls Tryz.prog 192 #[v] w fun e w' => ∃ r, e = .returned r ∧ holds w' (roInts r t.ids :: slotsAt v t.s :: F)) at HP
  generalize t.ids = P at HP HMI hPl ⊢
  rw [List.length_map]
  go_enter Tryz.func100, Tryz.ntmps100
  go_wp2_with fail
  refine (accs_is _ _ _ _ hw).mono ?_
  rintro e1 w1 ⟨rfl, h1⟩
  obtain ⟨b, b2, bm, m, rfl, hm, h2⟩ := open_accs h1
  clear hw h1
  have c0 := cellAt h2.get_blk 0
  simp at c0
  have HGM := Lib.hid (fun p (hp : p ∈ P) => show alGet m p = some (t.A.getD p.toNat ac0) by rw [hm.get p, if_pos (HMI.out p hp)])
  have HM := Lib.hid hm
  clear hm
  go_wp2_with fail
  refine (HP.out _ _ _ (h2.order [1, 0])).mono ?_
  rintro e2 w2 ⟨r, rfl, h3⟩
  obtain ⟨a, c, rfl, _⟩ := roInts_form h3
  clear c0 h2
  go_wp2_with fail
  go_loopw [3, 5, 15] (fun out _ i wr => ∃ j : Nat, j ≤ P.length ∧ i = .int .i64 j ∧ holds wr (ownMb out ((P.take j).map fun p => (p, t.A.getD p.toNat ac0)) :: roInts (.slice a P.length c) P :: slotsAt (.pointer (some ⟨b2, 0, none⟩)) t.s :: blk b (.cells #[.pointer (some ⟨b2, 0, none⟩), .map (some bm)] 172 (0, 0)) :: imap acV bm m :: F)) (fun _ _ i _ => P.length - (intOf i).toNat)
  case atStart => exact ⟨0, Nat.zero_le _, rfl, holds_ownRow_nil h3 _ _⟩
  case round =>
    obtain ⟨j, hj, rfl, h4⟩ := hrel
    clear h3
    by_cases hlt : j < P.length
    · obtain ⟨g1, o1, cp, hv, _, hc⟩ := (h4.pick 1).roIntAt (by omega)
      cases hv
      have k0 := hc j hlt
      clear hc
      have hg := HGM.out P[j] (List.getElem_mem hlt)
      have hs : (P.take (j + 1)).map (fun p => (p, t.A.getD p.toNat ac0)) = (P.take j).map (fun p => (p, t.A.getD p.toNat ac0)) ++ [(P[j], t.A.getD P[j].toNat ac0)] := by rw [List.take_succ_eq_append_getElem hlt, List.map_append]; rfl
      have hql : ((P.take j).map (fun p => (p, t.A.getD p.toNat ac0))).length ≤ P.length := by simp; omega
      generalize (P.take j).map (fun p => (p, t.A.getD p.toNat ac0)) = q at h4 hs hql
      generalize hpj : P[j] = p at k0 hg hs
      generalize t.A.getD p.toNat ac0 = x at hg hs
      have HS := Lib.hid hs
      have HG := Lib.hid hg
      clear hs hg hpj
      have c1 := cellAt (h4.pick 3).get_blk 1
      simp at c1
      have hlk := run_lookup_sl (P := Tryz.prog) (t := 170) (z := ac0) Tryz.underlying170 Tryz.underlying3 (by kernel_rfl) (h4.pick 4) p false
      rw [HG.out] at hlk
      simp only [Bool.false_eq_true, if_false, Option.getD_some] at hlk
      unfold acV acCells at hlk
      go_wp2_with (at_builtin; (refine wpList_appendMb (t := (p, x)) rfl _ _ rfl rfl (h4.alloc _).tail rfl (h4.alloc _).get_blk (by omega) ?_); clear k0 c1 hlk; intro v5 w5 h5)
      go_roundw
      case rel => exact ⟨j + 1, by omega, by go_num, by rw [HS.out]; exact h5⟩
      case measure => simp [intOf]; omega
    · have hjl : j = P.length := by omega
      subst hjl
      rw [List.take_length] at h4
      have h5 := holds.shareMb h4
      obtain ⟨a6, c6, e6, _⟩ := roMb_form h5
      rw [List.length_map] at e6
      go_wp2_with fail
      go_ret
      have h7 : holds wr (accsAt (.pointer (some ⟨b, 0, none⟩)) t :: roMb _ (P.map fun p => (p, t.A.getD p.toNat ac0)) :: F) := shut_accs HM.out (h5.sel 5 [3, 2, 4, 0])
      rw [e6] at h7
      exact ⟨a6, c6, by rw [← e6]; rfl, h7.sel 2 [1, 0]⟩
end Go.Proofs.YtfiggkbclldccaaGreat
