import Derived.Test.YtfiggkbclldccaaMg6
import Derived.Test.YtfiggkbclldccaaMg5
import Derived.Test.YtfiggkbclldccaaTypes
import Derived.Test.YtfiggkbclldccaaMg0
import Derived.Test.YtfiggkbclldccaaLay

/- Accounts, in the new road. -/
namespace Go.Proofs.Ytfiggkbclldccaa
open Go Go.RowKit Go.MapKept
set_option linter.unusedVariables false
set_option linter.unusedSimpArgs false
set_option maxRecDepth 100000
set_option maxHeartbeats 4000000

instance : CellT Try.prog 177 := .of (by kernel_rfl)
instance : BuildT Try.prog 179 [(0, 1), (1, 1)] [.nilFunc, .int .i64 0] := .ofStruct (by kernel_rfl) Try.underlying179 (by kernel_rfl)
structure AccM where
  claim : Int
  held : Int
  credits : Int
deriving DecidableEq
@[reducible] def encAcc (a : AccM) : List Value := [.int .i64 a.claim, .int .i64 a.held, .int .i64 a.credits]
namespace Acc
def Bd (a : AccM) : Prop := -1099511627776 ≤ a.held ∧ a.held ≤ 1099511627776 ∧ -1099511627776 ≤ a.credits ∧ a.credits ≤ 1099511627776 ∧ -1099511627776 ≤ a.claim ∧ a.claim ≤ 1099511627776
instance (a : AccM) : Decidable (Bd a) := by unfold Bd; infer_instance
def Right (a : AccM) : Prop := 1 ≤ a.claim ∧ a.claim ≤ 1048576 ∧ 0 ≤ a.held ∧ 0 ≤ a.credits ∧ a.held + a.credits ≤ a.claim
instance (a : AccM) : Decidable (Right a) := by unfold Right; infer_instance
def need (a : AccM) : Int := if Right a then a.claim - a.held else 0
def gr (a : AccM) (n : Int) : AccM := ⟨a.claim, a.held + n, a.credits - n⟩
/-- Grant: the account behind it, and the error's number. -/
def grant (a : AccM) (n : Int) : AccM × Int :=
  if ¬ Right a ∨ n < 1 then (⟨0, 0, 0⟩, 2) else if 1048576 < n then (⟨0, 0, 0⟩, 20) else if Right (gr a n) then (gr a n, 0) else (⟨0, 0, 0⟩, 20)
theorem need_y {a : AccM} (h : Right a) : need a = a.claim - a.held := by simp [need, h]
theorem need_n {a : AccM} (h : ¬ Right a) : need a = 0 := by simp [need, h]
end Acc

theorem num_Add (a b : Int) (ha : -4611686018427387904 ≤ a ∧ a ≤ 4611686018427387903) (hb : -4611686018427387904 ≤ b ∧ b ≤ 4611686018427387903) (w : World) (F : List HProp) (hw : holds w F) :
    Ct Try.prog 123 #[.int .i64 a, .int .i64 b] w fun e w' => e = .returned (.tuple #[.int .i64 (a + b), .bool true]) ∧ holds w' F := by
  refine Ct.go (args := [.int .i64 a, .int .i64 b]) Try.func123 rfl rfl rfl hw ?_
  repeat' (first | (apply GL.isAny; first | refine GL.runA rfl ?_ | (apply GL.isStore; first | refine GL.storeBlk rfl rfl rfl rfl rfl ?_ | refine GL.storeWhole rfl rfl rfl rfl rfl ?_ | refine GL.storeBlkA rfl rfl rfl rfl rfl ?_) | refine GL.guardY rfl rfl ?_ | refine GL.guardN rfl rfl rfl ?_ | refine GL.guardU rfl rfl rfl ?_ | (apply GL.isBox; first | refine GL.boxA rfl rfl (fun _ => ?_) | refine GL.box1 rfl rfl rfl (fun _ => ?_) | refine GL.box rfl rfl (fun _ => ?_)) | (apply GL.isBuildS; first | refine GL.buildSlice1A rfl rfl rfl rfl rfl (fun _ => ?_) | refine GL.buildSlice1 rfl rfl rfl rfl rfl (fun _ => ?_)) | (apply GL.isCall; refine GL.append1 _ rfl rfl rfl rfl (by rfl) (by omega) (by omega) rfl (fun _ => ?_)) | (apply GL.isAlloc; refine GL.alloc rfl (fun _ => ?_))) | apply GL.nil | first | apply G.seq | apply G.region | apply G.block | apply G.skip | apply G.exit | apply G.ret | (apply G.isCond; first | refine G.condT rfl ?_ | refine G.condF rfl ?_) | refine G.draw (by kernel_rfl) (by kernel_rfl) ?_ | (apply GE.isAny; first | apply GE.again | apply GE.thenG | apply GE.blockN | apply GE.blockE | apply GE.thenE | apply GE.thenR | apply GE.blockR | refine GE.blockO rfl ?_ | apply GE.only) | (apply GD.isAny; first | refine GD.runA rfl ?_ | refine GD.guardY rfl rfl ?_ | refine GD.guardN rfl rfl rfl ?_ | refine GD.guardU rfl rfl rfl ?_) | apply GD.nilE | apply GD.nilL | (apply GT.isAny; refine GT.runA rfl rfl ?_) | ((first | (apply GL.isAny; refine GL.guard rfl rfl (fun hc => ?_) (fun hc => ?_)) | (apply G.isCond; refine G.cond rfl (fun hc => ?_) (fun hc => ?_)) | (apply GD.isAny; refine GD.guard rfl rfl (fun hc => ?_) (fun hc => ?_))) <;> ((try simp only [decide_eq_true_eq, decide_eq_false_iff_not, Bool.not_true, Bool.not_false, ne_eq, Classical.not_not, Int.not_lt, Int.not_le] at hc); (try (exfalso; first | omega | exact hc trivial | exact hc rfl)))))
  all_goals
    refine GE.resMany rfl (by (repeat (first | apply Res.nil | (apply Res.tmp; rfl) | (refine Res.cellA rfl rfl rfl ?_) | (refine Res.cell1 rfl rfl ?_)))) (fun w h => ?_)
    exact ⟨rfl, h.sub⟩
theorem account_Right (a : AccM) (hb : Acc.Bd a) (w : World) (F : List HProp) (hw : holds w F) :
    Ct Try.prog 100 #[.agg (encAcc a).toArray] w fun e w' => e = .returned (.bool (decide (Acc.Right a))) ∧ holds w' F := by
  obtain ⟨b1, b2, b3, b4, b5, b6⟩ := hb
  refine Ct.go (args := [.agg (encAcc a).toArray]) Try.func100 rfl rfl rfl hw ?_
  repeat' (first | first | (apply GL.isAny; first | refine GL.runA rfl ?_ | (apply GL.isStore; first | refine GL.storeBlk rfl rfl rfl rfl rfl ?_ | refine GL.storeWhole rfl rfl rfl rfl rfl ?_ | refine GL.storeBlkA rfl rfl rfl rfl rfl ?_) | refine GL.guardY rfl rfl ?_ | refine GL.guardN rfl rfl rfl ?_ | refine GL.guardU rfl rfl rfl ?_ | (apply GL.isBox; first | refine GL.boxA rfl rfl (fun _ => ?_) | refine GL.box1 rfl rfl rfl (fun _ => ?_) | refine GL.box rfl rfl (fun _ => ?_)) | (apply GL.isBuildS; first | refine GL.buildSlice1A rfl rfl rfl rfl rfl (fun _ => ?_) | refine GL.buildSlice1 rfl rfl rfl rfl rfl (fun _ => ?_)) | (apply GL.isCall; refine GL.append1 _ rfl rfl rfl rfl (by rfl) (by omega) (by omega) rfl (fun _ => ?_)) | (apply GL.isAlloc; refine GL.alloc rfl (fun _ => ?_))) | apply GL.nil | first | apply G.seq | apply G.region | apply G.block | apply G.skip | apply G.exit | apply G.ret | (apply G.isCond; first | refine G.condT rfl ?_ | refine G.condF rfl ?_) | refine G.draw (by kernel_rfl) (by kernel_rfl) ?_ | (apply GE.isAny; first | apply GE.again | apply GE.thenG | apply GE.blockN | apply GE.blockE | apply GE.thenE | apply GE.thenR | apply GE.blockR | refine GE.blockO rfl ?_ | apply GE.only) | (apply GD.isAny; first | refine GD.runA rfl ?_ | refine GD.guardY rfl rfl ?_ | refine GD.guardN rfl rfl rfl ?_ | refine GD.guardU rfl rfl rfl ?_) | apply GD.nilE | apply GD.nilL | (apply GT.isAny; refine GT.runA rfl rfl ?_) | ((first | (apply GL.isAny; refine GL.guard rfl rfl (fun hc => ?_) (fun hc => ?_)) | (apply G.isCond; refine G.cond rfl (fun hc => ?_) (fun hc => ?_)) | (apply GD.isAny; refine GD.guard rfl rfl (fun hc => ?_) (fun hc => ?_))) <;> ((try simp only [decide_eq_true_eq, decide_eq_false_iff_not, Bool.not_true, Bool.not_false, ne_eq, Classical.not_not, Int.not_lt, Int.not_le] at hc); (try (exfalso; first | omega | exact hc trivial | exact hc rfl)))) | ((apply GL.isCall; refine GL.call1 rfl rfl (fun w h => num_Add _ _ (by omega) (by omega) w _ h) ?_)))
  all_goals
    refine GE.resOne rfl (by (repeat (first | apply Res.nil | (apply Res.tmp; rfl) | (refine Res.cellA rfl rfl rfl ?_) | (refine Res.cell1 rfl rfl ?_)))) (fun w h => ?_)
    refine ⟨?_, h.sub⟩
    congr 2
    first | rfl | (rw [decide_eq_decide]; unfold Acc.Right; omega) | (symm; rw [decide_eq_false_iff_not]; unfold Acc.Right; omega) | (symm; rw [decide_eq_true_eq]; unfold Acc.Right; omega)
theorem account_Need (a : AccM) (hb : Acc.Bd a) (w : World) (F : List HProp) (hw : holds w F) :
    Ct Try.prog 152 #[.agg (encAcc a).toArray] w fun e w' => e = .returned (.int .i64 (Acc.need a)) ∧ holds w' F := by
  have hb' := hb
  obtain ⟨b1, b2, b3, b4, b5, b6⟩ := hb
  refine Ct.go (args := [.agg (encAcc a).toArray]) Try.func152 rfl rfl rfl hw ?_
  repeat' (first | first | (apply GL.isAny; first | refine GL.runA rfl ?_ | (apply GL.isStore; first | refine GL.storeBlk rfl rfl rfl rfl rfl ?_ | refine GL.storeWhole rfl rfl rfl rfl rfl ?_ | refine GL.storeBlkA rfl rfl rfl rfl rfl ?_) | refine GL.guardY rfl rfl ?_ | refine GL.guardN rfl rfl rfl ?_ | refine GL.guardU rfl rfl rfl ?_ | (apply GL.isBox; first | refine GL.boxA rfl rfl (fun _ => ?_) | refine GL.box1 rfl rfl rfl (fun _ => ?_) | refine GL.box rfl rfl (fun _ => ?_)) | (apply GL.isBuildS; first | refine GL.buildSlice1A rfl rfl rfl rfl rfl (fun _ => ?_) | refine GL.buildSlice1 rfl rfl rfl rfl rfl (fun _ => ?_)) | (apply GL.isCall; refine GL.append1 _ rfl rfl rfl rfl (by rfl) (by omega) (by omega) rfl (fun _ => ?_)) | (apply GL.isAlloc; refine GL.alloc rfl (fun _ => ?_))) | apply GL.nil | first | apply G.seq | apply G.region | apply G.block | apply G.skip | apply G.exit | apply G.ret | (apply G.isCond; first | refine G.condT rfl ?_ | refine G.condF rfl ?_) | refine G.draw (by kernel_rfl) (by kernel_rfl) ?_ | (apply GE.isAny; first | apply GE.again | apply GE.thenG | apply GE.blockN | apply GE.blockE | apply GE.thenE | apply GE.thenR | apply GE.blockR | refine GE.blockO rfl ?_ | apply GE.only) | (apply GD.isAny; first | refine GD.runA rfl ?_ | refine GD.guardY rfl rfl ?_ | refine GD.guardN rfl rfl rfl ?_ | refine GD.guardU rfl rfl rfl ?_) | apply GD.nilE | apply GD.nilL | (apply GT.isAny; refine GT.runA rfl rfl ?_) | ((first | (apply GL.isAny; refine GL.guard rfl rfl (fun hc => ?_) (fun hc => ?_)) | (apply G.isCond; refine G.cond rfl (fun hc => ?_) (fun hc => ?_)) | (apply GD.isAny; refine GD.guard rfl rfl (fun hc => ?_) (fun hc => ?_))) <;> ((try simp only [decide_eq_true_eq, decide_eq_false_iff_not, Bool.not_true, Bool.not_false, ne_eq, Classical.not_not, Int.not_lt, Int.not_le] at hc); (try (exfalso; first | omega | exact hc trivial | exact hc rfl)))) | ((apply GL.isCall; refine GL.call1 rfl rfl (fun w h => account_Right a hb' w _ h) ?_)))
  · refine GE.resOne rfl (by (repeat (first | apply Res.nil | (apply Res.tmp; rfl) | (refine Res.cellA rfl rfl rfl ?_) | (refine Res.cell1 rfl rfl ?_)))) (fun w h => ?_)
    exact ⟨by rw [Acc.need_n (by simpa using hc)], h.sub⟩
  · refine GE.resOne rfl (by (repeat (first | apply Res.nil | (apply Res.tmp; rfl) | (refine Res.cellA rfl rfl rfl ?_) | (refine Res.cell1 rfl rfl ?_)))) (fun w h => ?_)
    exact ⟨by rw [Acc.need_y (by simpa using hc)], h.sub⟩
theorem Acc.Bd.of {a : AccM} (h : Acc.Right a) : Acc.Bd a := by unfold Acc.Right at h; unfold Acc.Bd; omega
end Go.Proofs.Ytfiggkbclldccaa

/- slices.Sorted(maps.Keys(m)) at maps keyed by ints: the keys, ascending. -/
namespace Go.Proofs.Ytfiggkbclldccaa
open Go Go.RowKit Go.MapKept Go.Maps Go.Sort Go.Shelf Go.WideElems
set_option maxRecDepth 100000

/-- The keys of a map, ascending. -/
def sortInts (l : List Int) : List Int := l.mergeSort (fun x y => decide (x ≤ y))
theorem sortInts_perm {l m : List Int} (h : l.Perm m) : sortInts l = sortInts m := by
  have tr : ∀ a b c : Int, decide (a ≤ b) = true → decide (b ≤ c) = true → decide (a ≤ c) = true := by simp; omega
  have to : ∀ a b : Int, (decide (a ≤ b) || decide (b ≤ a)) = true := by simp; omega
  refine List.Perm.eq_of_pairwise (le := fun a b => decide (a ≤ b) = true) ?_ (List.pairwise_mergeSort tr to l) (List.pairwise_mergeSort tr to m) ((List.mergeSort_perm l _).trans (h.trans (List.mergeSort_perm m _).symm))
  intro a b _ _ h1 h2
  simp at h1 h2
  omega

def anyElem {H : Type} (_ : Value) : Option (DataW H × List MemPlace) := some (.nil, [])

theorem imap_ownsMap {P : Program} {w : World} {F : List HProp} {β : Type} {enc : β → Value} {b : Nat} {m : List (Int × β)} {k : TypeId} (hk : P.underlying k = some (.int .i64)) (h : holds w (imap enc b m :: F)) (hwf : ∀ x ∈ alKeys m, (Lit.int .i64 x).wf = true) (hsz : m.length ≤ maxLen) :
    ∃ D : DataW Unit, w.ownsMap P k anyElem b m.length D ∧ (intKeys D).Perm (alKeys m) ∧ Maps.size D = m.length := by
  obtain ⟨es, clock, h1, h2, h3⟩ := h.open_map
  have hs := size_of_kv h1
  have hkey : ∀ x ∈ es.toList, ∃ q, x.key = .int .i64 q ∧ q ∈ alKeys m := fun x hx => by
    have : (x.key, x.val) ∈ m.map (kv enc) := by rw [← h1]; exact List.mem_map.2 ⟨x, hx, rfl⟩
    obtain ⟨p, hp, hpe⟩ := List.mem_map.1 this
    simp only [kv, Prod.mk.injEq] at hpe
    exact ⟨p.1, hpe.1.symm, List.mem_map.2 ⟨p, hp, rfl⟩⟩
  have hrg : ∀ x ∈ es.toList, ∃ q, x.key = .int .i64 q ∧ rd P k anyElem x = some (.int .i64 q, (.nil : DataW Unit)) := fun x hx => by
    obtain ⟨q, hq, hm⟩ := hkey x hx
    refine ⟨q, hq, ?_⟩
    obtain ⟨kx, vx, bx⟩ := x
    simp only at hq
    subst hq
    exact rd_mk (yv := (.nil, [])) (keyOf_int_mk hk (hwf q hm)) rfl
  have Ft : Fit P k (anyElem (H := Unit)) es clock := ⟨by omega, h2, fun x hx => by obtain ⟨q, _, hr⟩ := hrg x hx; exact ⟨_, hr⟩⟩
  refine ⟨.map ((es.toList.map (rg P k anyElem)).foldr DataW.insert []), ⟨es, clock, h3.get_blk, Ft, by omega, rfl⟩, ?_, ?_⟩
  · have hp : ∀ l : List (Lit × DataW Unit), (l.foldr DataW.insert []).Perm l := by
      intro l
      induction l with
      | nil => exact List.Perm.refl _
      | cons x l ih =>
        have hi : ∀ (x : Lit × DataW Unit) (l : List (Lit × DataW Unit)), (DataW.insert x l).Perm (x :: l) := by
          intro x l
          induction l with
          | nil => exact List.Perm.refl _
          | cons y r ih2 =>
            unfold DataW.insert
            split
            · exact List.Perm.refl _
            · exact (List.Perm.cons y ih2).trans (List.Perm.swap _ _ _)
        exact (hi x _).trans (List.Perm.cons x ih)
    have h4 : (intKeys (DataW.map ((es.toList.map (rg P k anyElem)).foldr DataW.insert [] : List (Lit × DataW Unit)))).Perm ((es.toList.map (rg P k (anyElem (H := Unit)))).map fun p => Go.intOf p.1) := (hp _).map _
    refine h4.trans ?_
    rw [List.map_map]
    have h5 : es.toList.map ((fun p => Go.intOf p.1) ∘ rg P k (anyElem (H := Unit))) = alKeys m := by
      have e1 : es.toList.map ((fun p => Go.intOf p.1) ∘ rg P k (anyElem (H := Unit))) = es.toList.map (fun x => RowKit.intOf x.key) := by
        apply List.map_congr_left
        intro x hx
        obtain ⟨q, hq, hr⟩ := hrg x hx
        simp only [Function.comp_apply, rg_of hr, hq]
        rfl
      rw [e1]
      have e2 := congrArg (List.map (fun p : Value × Value => RowKit.intOf p.1)) h1
      rw [List.map_map, List.map_map] at e2
      have e3 : es.toList.map (fun x => RowKit.intOf x.key) = es.toList.map ((fun p : Value × Value => RowKit.intOf p.1) ∘ fun e => (e.key, e.val)) := rfl
      rw [e3, e2]
      unfold alKeys
      apply List.map_congr_left
      intro x _
      rfl
    rw [h5]
  · show ((es.toList.map (rg P k anyElem)).foldr DataW.insert []).length = m.length
    rw [length_read]
    exact hs

/-- slices.Sort's two contracts, at the fence that asks nothing. -/
theorem Try.sortsInt (m : Nat) : AnyZI.SortsIn Try.prog Try.sortedInt_ren Fence.wide m :=
  ⟨fun blk off cap ss W hH hblk hsz => callsIn_wide.2 (AnyM.slices_Sort_int Try.sortInt blk off cap ss W hH hblk hsz),
   fun p cap W => callsIn_wide.2 (AnyM.slices_Sort_int_none Try.sortInt p cap W)⟩

/-- A row that a library's contract hands back, new since w. -/
theorem own_of_row {w w' : World} {F : List HProp} {e size n : Nat} {v : Value} {xs : List Value} (hw : holds w F) (hb : Below w.heap.size w w') (h : w'.ownsRow w.heap.size e size v n xs) : holds w' (ownRow e size v n xs :: F) := by
  obtain ⟨hl, ⟨rfl, rfl⟩ | ⟨g, cap, cur, rfl, hg, hh, h1, h2, h3, h4⟩⟩ := h
  · obtain rfl : xs = [] := List.eq_nil_of_length_eq_zero (by simpa using hl)
    exact holds_ownRow_nil (hw.below hb) e size
  · have h5 := (hw.new hb hg hh).mkRow (size := size) h1 h2 h3
    rw [h4] at h5
    exact h5


/-- maps.Keys[map[int]int,int,int] -/
theorem Try.keysII_call (w : World) (b : Nat) (F : List HProp) (hw : holds w F) : Calls Try.prog 127 #[.map (some b)] w fun e w' => e = .returned (.func (.func 140) #[] #[.pointer (some ⟨w.heap.size, 0, none⟩)]) ∧ holds w' (blk w.heap.size (.cells #[.map (some b)] 151 (0, 0)) :: F) :=
  (callsIn_wide (n := 5)).1 ((AnyZI.keys_in Try.keys127 Fence.wide 5 trivial rfl (some b) w).mono fun e w' ⟨he, hw'⟩ => ⟨he, by subst hw'; exact hw.alloc _⟩)
theorem Try.sortedII_call {β : Type} (enc : β → Value) (w : World) (b nb : Nat) (m : List (Int × β)) (F : List HProp) (hw : holds w (blk nb (.cells #[.map (some b)] 151 (0, 0)) :: imap enc b m :: F)) (hwf : ∀ x ∈ alKeys m, (Lit.int .i64 x).wf = true) (hsz : m.length ≤ 1000000000) :
    Calls Try.prog 115 #[.func (.func 140) #[] #[.pointer (some ⟨nb, 0, none⟩)]] w fun e w' => ∃ v, e = .returned v ∧ holds w' (ownInts v (sortInts (alKeys m)) :: imap enc b m :: F) := by
  obtain ⟨D, hown, hperm, hsize⟩ := imap_ownsMap Try.underlying3 (hw.pick 1) hwf (by unfold maxLen; omega)
  have hseq : SeqGives Fence.wide 2 Try.prog 140 #[.pointer (some ⟨nb, 0, none⟩)] encZ (fun ss => ss.Perm (intKeys D)) (Maps.size D) w :=
    AnyZI.keys_gives (ρ := Try.keys127_ren) { Try.keys127 with } Fence.wide _ trivial rfl (by omega) nb b m.length D w hw.lt (by rw [cellAt hw.get_blk]; rfl) hown
  have cS := AnyZI.sorted_in Try.sortedInt Fence.wide 5 trivial trivial trivial trivial rfl (by omega) (Try.sortsInt _) (enters_of Try.func132 (by kernel_rfl) rfl) 140 #[.pointer (some ⟨nb, 0, none⟩)] trivial (enters_of Try.func140 (by kernel_rfl) rfl) _ _ (by unfold maxLen; omega) (by omega) _ hseq
  change CallsIn _ _ Try.prog 115 _ _ _ at cS
  refine ((callsIn_wide (n := 5)).1 cS).mono ?_
  rintro e w' ⟨v, ss, rfl, hS, hrow, hnil, hb⟩
  refine ⟨v, rfl, ?_⟩
  have hk : sortInts ss = sortInts (alKeys m) := sortInts_perm (hS.trans hperm)
  have hlen : (sortInts (alKeys m)).length = ss.length := by rw [← hk]; exact (List.mergeSort_perm ss _).length_eq
  have hrow2 : w'.ownsRow w.heap.size 3 1 v (sortInts (alKeys m)).length (ints (sortInts (alKeys m))) := by rw [hlen, ← hk]; exact hrow
  exact own_of_row hw.tail hb hrow2


end Go.Proofs.Ytfiggkbclldccaa

/- Plain: the numbers of a list above 0, each once, rising: one after the other by the least one above the last. -/
namespace Go.Proofs.Ytfiggkbclldccaa

/-- The least one above 'last', in as many as have been looked at; 0: none yet. -/
def leastStep (last next x : Int) : Int := if last < x ∧ (next = 0 ∨ x < next) then x else next
def leastAbove (last : Int) (l : List Int) : Int := l.foldl (leastStep last) 0

theorem leastAbove_snoc (last : Int) (l : List Int) (k : Nat) (hk : k < l.length) : leastAbove last (l.take (k + 1)) = leastStep last (leastAbove last (l.take k)) l[k] := by
  unfold leastAbove
  rw [List.take_succ_eq_append_getElem hk, List.foldl_append]
  rfl

theorem leastAbove_spec (last : Int) (h0 : 0 ≤ last) (l : List Int) : ∀ k, k ≤ l.length →
    (leastAbove last (l.take k) = 0 ∧ ∀ x ∈ l.take k, x ≤ last) ∨ (last < leastAbove last (l.take k) ∧ leastAbove last (l.take k) ∈ l.take k ∧ ∀ x ∈ l.take k, last < x → leastAbove last (l.take k) ≤ x)
  | 0, _ => .inl ⟨rfl, by simp⟩
  | k + 1, hk => by
    have hlt : k < l.length := by omega
    have ih := leastAbove_spec last h0 l k (by omega)
    rw [leastAbove_snoc last l k hlt]
    have hm : ∀ x, x ∈ l.take (k + 1) ↔ x ∈ l.take k ∨ x = l[k] := fun x => by rw [List.take_succ_eq_append_getElem hlt, List.mem_append]; simp
    generalize leastAbove last (l.take k) = n at ih
    generalize l[k] = y at hm
    unfold leastStep
    rcases ih with ⟨rfl, h1⟩ | ⟨h1, h2, h3⟩
    · by_cases hy : last < y
      · rw [if_pos ⟨hy, .inl rfl⟩]
        refine .inr ⟨hy, (hm y).2 (.inr rfl), fun x hx hlx => ?_⟩
        rcases (hm x).1 hx with h | h
        · have := h1 x h; omega
        · omega
      · rw [if_neg (fun h => hy h.1)]
        refine .inl ⟨rfl, fun x hx => ?_⟩
        rcases (hm x).1 hx with h | h
        · exact h1 x h
        · omega
    · by_cases hy : last < y ∧ y < n
      · rw [if_pos ⟨hy.1, .inr hy.2⟩]
        refine .inr ⟨hy.1, (hm y).2 (.inr rfl), fun x hx hlx => ?_⟩
        rcases (hm x).1 hx with h | h
        · have := h3 x h hlx; omega
        · omega
      · rw [if_neg (fun h => hy ⟨h.1, by rcases h.2 with h | h <;> omega⟩)]
        refine .inr ⟨h1, (hm n).2 (.inl h2), fun x hx hlx => ?_⟩
        rcases (hm x).1 hx with h | h
        · exact h3 x h hlx
        · omega

/-- What has been told up to 'last'. -/
structure Told (l : List Int) (last : Int) (o : List Int) : Prop where
  pos : 0 ≤ last
  up : o.Pairwise (· < ·)
  mem : ∀ x, x ∈ o ↔ x ∈ l ∧ 0 < x ∧ x ≤ last

theorem Told.start (l : List Int) : Told l 0 [] := ⟨by omega, by simp, fun x => by simp⟩
theorem Told.next {l : List Int} {last : Int} {o : List Int} (h : Told l last o) (hn : 0 < leastAbove last l) : Told l (leastAbove last l) (o ++ [leastAbove last l]) ∧ last < leastAbove last l ∧ leastAbove last l ∈ l := by
  have hs := leastAbove_spec last h.pos l l.length (Nat.le_refl _)
  rw [List.take_length] at hs
  generalize leastAbove last l = n at hn hs
  rcases hs with ⟨h1, _⟩ | ⟨h1, h2, h3⟩
  · omega
  · refine ⟨⟨by omega, ?_, fun x => ?_⟩, h1, h2⟩
    · rw [List.pairwise_append]
      refine ⟨h.up, by simp, fun a ha b hb => ?_⟩
      have := ((h.mem a).1 ha).2.2
      simp at hb
      omega
    · rw [List.mem_append, h.mem]
      constructor
      · rintro (⟨a, b, c⟩ | hx)
        · exact ⟨a, b, by omega⟩
        · simp at hx; subst hx; exact ⟨h2, by omega, by omega⟩
      · rintro ⟨a, b, c⟩
        by_cases hx : x ≤ last
        · exact .inl ⟨a, b, hx⟩
        · have := h3 x a (by omega)
          exact .inr (by simp; omega)
theorem Told.last {l : List Int} {last : Int} {o : List Int} (h : Told l last o) (hn : ¬ 0 < leastAbove last l) : o.Pairwise (· < ·) ∧ ∀ x, x ∈ o ↔ x ∈ l ∧ 0 < x := by
  have hs := leastAbove_spec last h.pos l l.length (Nat.le_refl _)
  rw [List.take_length] at hs
  have hp := h.pos
  refine ⟨h.up, fun x => ?_⟩
  rw [h.mem]
  constructor
  · rintro ⟨a, b, _⟩; exact ⟨a, b⟩
  · rintro ⟨a, b⟩
    rcases hs with ⟨_, h1⟩ | ⟨h1, _, _⟩
    · exact ⟨a, b, h1 x a⟩
    · omega

/-- How many are above a. -/
def leftN (l : List Int) (a : Int) : Nat := (l.filter fun x => decide (a < x)).length
theorem mem_sortInts (l : List Int) (x : Int) : x ∈ sortInts l ↔ x ∈ l := (List.mergeSort_perm l _).mem_iff

end Go.Proofs.Ytfiggkbclldccaa

/- The plain law of chapter 48: who is passed, and who most often. -/
namespace Go.Proofs.Ytfiggkbclldccaa
open Go Go.RowKit Go.MapKept
set_option linter.unusedVariables false
set_option maxRecDepth 100000

structure TickM where
  id : Int
  client : Int
  count : Int
  state : Int
  passed : Int
deriving DecidableEq
/-- The first place, zs a number. -/
def idxOf {α : Type} (p : α → Bool) : List α → Int
  | [] => -1
  | x :: l => if p x = true then 0 else if idxOf p l < 0 then -1 else idxOf p l + 1
theorem idxOf_is {α : Type} (p : α → Bool) : ∀ l : List α, IsIdx p l (idxOf p l)
  | [] => .inl ⟨rfl, by simp⟩
  | x :: l => by
    have ih := idxOf_is p l
    unfold idxOf
    split
    · rename_i h
      exact .inr ⟨0, by simp, rfl, by simpa using h, fun j hj hj0 => absurd hj0 (Nat.not_lt_zero j)⟩
    · rename_i h
      split
      · rename_i h2
        rcases ih with ⟨h3, h4⟩ | ⟨i, hi, h3, _⟩
        · refine .inl ⟨rfl, fun y hy => ?_⟩
          rcases List.mem_cons.1 hy with rfl | hy
          · simpa using h
          · exact h4 y hy
        · omega
      · rename_i h2
        rcases ih with ⟨h3, h4⟩ | ⟨i, hi, h3, h4, h5⟩
        · omega
        · refine .inr ⟨i + 1, by simp; omega, by omega, by simpa using h4, fun j hj hj0 => ?_⟩
          cases j with
          | zero => simpa using h
          | succ j => simpa using h5 j (by simpa using hj) (by omega)
theorem IsIdx.eq {α : Type} {p : α → Bool} {l : List α} {r s : Int} (h : IsIdx p l r) (g : IsIdx p l s) : r = s := by
  rcases h with ⟨rfl, h1⟩ | ⟨i, hi, rfl, h1, h2⟩
  · rcases g with ⟨rfl, g1⟩ | ⟨j, hj, rfl, g1, g2⟩
    · rfl
    · rw [h1 _ (List.getElem_mem hj)] at g1; cases g1
  · rcases g with ⟨rfl, g1⟩ | ⟨j, hj, rfl, g1, g2⟩
    · rw [g1 _ (List.getElem_mem hi)] at h1; cases h1
    · rcases Nat.lt_trichotomy i j with e | e | e
      · rw [g2 i hi e] at h1; cases h1
      · rw [e]
      · rw [h2 j hj e] at g1; cases g1
namespace Fr
def place (l : List TickM) (id : Int) : Int := idxOf (fun t => decide (t.id = id)) l
/-- Is place i passed, when these places are granted one behind the other? -/
def was (i : Int) : List Int → Bool
  | [] => false
  | a :: zs => decide (i < a) || (!decide (a = i) && was i zs)
/-- The tickets that are passed. -/
def passed (l : List TickM) (ats : List Int) : List Int := (l.zipIdx.filter fun p => was p.2 ats).map (·.1.id)
def ats (l : List TickM) (g : List Int) : List Int := g.map (place l)
/-- Who is passed waits, ahead of one that is granted. -/
theorem was_ex {i : Int} : ∀ {zs : List Int}, was i zs = true → ∃ a ∈ zs, i < a
  | [], h => by simp [was] at h
  | a :: zs, h => by
    unfold was at h
    simp only [Bool.or_eq_true, decide_eq_true_eq, Bool.and_eq_true] at h
    rcases h with h | ⟨_, h⟩
    · exact ⟨a, by simp, h⟩
    · obtain ⟨b, hb, hi⟩ := was_ex h
      exact ⟨b, by simp [hb], hi⟩
theorem mem_passed {l : List TickM} {zs : List Int} {x : Int} (h : x ∈ passed l zs) : ∃ (i : Nat) (hi : i < l.length), l[i].id = x ∧ was i zs = true := by
  unfold passed at h
  simp only [List.mem_map, List.mem_filter, Prod.exists, List.mk_mem_zipIdx_iff_getElem?] at h
  obtain ⟨t, i, ⟨h1, h2⟩, rfl⟩ := h
  obtain ⟨hi, rfl⟩ := List.getElem?_eq_some_iff.1 h1
  exact ⟨i, hi, rfl, h2⟩
theorem place_is {l : List TickM} {id : Int} {a : Nat} (h : place l id = a) : ∃ h : a < l.length, l[a].id = id ∧ ∀ (j : Nat) (h : j < l.length), j < a → l[j].id ≠ id := by
  rcases idxOf_is (fun t => decide (t.id = id)) l with ⟨h1, _⟩ | ⟨i, hi, h1, h2, h3⟩
  · unfold place at h; omega
  · unfold place at h
    obtain rfl : i = a := by omega
    exact ⟨hi, by simpa using h2, fun j hj hji => by simpa using h3 j hj hji⟩
/-- FairPassed. -/
theorem older {l : List TickM} {g : List Int} {x : Int} (h : x ∈ passed l (ats l g)) : ∃ (a : Nat), place l x = a ∧ ∃ (b : Nat) (hb : b < l.length), a < b ∧ l[b].id ∈ g := by
  obtain ⟨i, hi, hx, hw⟩ := mem_passed h
  obtain ⟨c, hc, hic⟩ := was_ex hw
  obtain ⟨y, hy, rfl⟩ := List.mem_map.1 hc
  have h0 : 0 ≤ place l y := by omega
  obtain ⟨b, hb⟩ := Int.eq_ofNat_of_zero_le h0
  obtain ⟨hbl, hbid, _⟩ := place_is hb
  rcases idxOf_is (fun t => decide (t.id = x)) l with ⟨_, h2⟩ | ⟨a, ha, h1, h2, h3⟩
  · have := h2 _ (List.getElem_mem hi); simp [hx] at this
  · refine ⟨a, h1, b, hbl, ?_, by rw [hbid]; exact hy⟩
    have : a ≤ i := by
      rcases Nat.lt_or_ge i a with h4 | h4
      · have := h3 i hi h4; simp [hx] at this
      · exact h4
    omega
end Fr
namespace Fr
/-- The one that c tells most of, the least of these. -/
def Best (c : Int → Int) (S : List Int) (r : Int × Int) : Prop := (S = [] ∧ r = (0, 0)) ∨ (r.1 ∈ S ∧ r.2 = c r.1 ∧ ∀ p ∈ S, c p < r.2 ∨ (c p = r.2 ∧ r.1 ≤ p))
theorem Best.add {c : Int → Int} {S : List Int} {r : Int × Int} (h : Best c S r) {p : Int} (hp : 1 ≤ c p) : Best c (S ++ [p]) (if r.2 < c p ∨ (c p = r.2 ∧ p < r.1) then (p, c p) else r) := by
  right
  rcases h with ⟨rfl, rfl⟩ | ⟨h1, h2, h3⟩
  · rw [if_pos (by left; simp only; omega)]
    exact ⟨by simp, rfl, fun q hq => by simp at hq; subst hq; right; exact ⟨rfl, Int.le_refl _⟩⟩
  · split
    · rename_i hc
      refine ⟨by simp, rfl, fun q hq => ?_⟩
      rcases List.mem_append.1 hq with hq | hq
      · have := h3 q hq; simp only; omega
      · simp at hq; subst hq; right; exact ⟨rfl, Int.le_refl _⟩
    · rename_i hc
      refine ⟨by simp [h1], h2, fun q hq => ?_⟩
      rcases List.mem_append.1 hq with hq | hq
      · exact h3 q hq
      · simp at hq; subst hq; omega
/-- In how many lists a number stands. -/
def cnt (Ls : List (List Int)) (x : Int) : Int := ((Ls.filter fun l => decide (x ∈ l)).length : Nat)
end Fr
end Go.Proofs.Ytfiggkbclldccaa
