import Derived.Test.YtfiggkbclldccaaMg9
import Derived.Test.YtfiggkbclldccaaMg7

/- Contracts of chapter 20: Owners, and the reference's Many and Owners. -/
namespace Go.Proofs.Ytfiggkbclldccaa
open Go Go.RowKit Go.MapKept
set_option maxRecDepth 100000

def owners (l : List ChunkM) : List Int := l.map (·.owner)
theorem mem_counts (l : List ChunkM) (x : Int) : x ∈ alKeys (Audit.counts l) ↔ x ∈ owners l ∧ 0 < x := by
  have h := Audit.counts_get l l.length (Nat.le_refl _) x
  rw [List.take_length] at h
  have h2 := alGet_none x (Audit.counts l)
  have h3 : Audit.held l x = 0 ↔ ¬ (x ∈ owners l ∧ 0 < x) := by
    unfold Audit.held
    by_cases hx : 0 < x
    · simp only [hx, if_true, List.length_eq_zero_iff, List.filter_eq_nil_iff, owners, List.mem_map, and_true, not_exists, not_and]
      simp
    · simp [hx]
  by_cases hz : Audit.held l x = 0
  · rw [if_pos hz] at h
    have h4 := h2.1 h
    constructor
    · intro h5; exact absurd h5 h4
    · intro h5; exact absurd h5 (h3.1 hz)
  · rw [if_neg hz] at h
    have h4 : x ∈ alKeys (Audit.counts l) := by
      apply Classical.byContradiction
      intro hc
      rw [h2.2 hc] at h
      cases h
    constructor
    · intro _
      apply Classical.byContradiction
      intro hc
      exact hz (h3.2 hc)
    · intro _; exact h4
theorem counts_length (l : List ChunkM) : (Audit.counts l).length ≤ l.length := by
  have : ∀ (l : List ChunkM) (m : List (Int × Int)), (Audit.countsTo l m).length ≤ m.length + l.length := by
    intro l
    induction l with
    | nil => exact fun m => by simp [Audit.countsTo]
    | cons c l ih =>
      intro m
      simp only [Audit.countsTo]
      have hs : ∀ (m : List (Int × Int)) (a b : Int), (alSet m a b).length ≤ m.length + 1 := by
        intro m a b
        have := congrArg List.length (alKeys_set a b m)
        simp only [alKeys, List.length_map] at this
        rw [this]
        by_cases hm : a ∈ List.map (fun x => x.fst) m <;> simp [hm]
      split
      · have h1 := ih (alSet m c.owner ((alGet m c.owner).getD 0 + 1))
        have h2 := hs m c.owner ((alGet m c.owner).getD 0 + 1)
        simp; omega
      · have h1 := ih m
        simp; omega
  have := this l []
  simpa [Audit.counts] using this

theorem audit_OwnersO (v : Value) (l : List ChunkM) (w : World) (F : List HProp) (hl : l.length ≤ 1000000) (hwf : ∀ c ∈ l, (Lit.int .i64 c.owner).wf = true) (hw : holds w (roChunks v l :: F)) :
    Calls Try.prog 105 #[v] w fun e w' => ∃ v', e = .returned v' ∧ holds w' (ownInts v' (sortInts (alKeys (Audit.counts l))) :: roChunks v l :: F) := by
  have hk : ∀ x ∈ alKeys (Audit.counts l), (Lit.int .i64 x).wf = true := fun x hx => by
    obtain ⟨c, hc, rfl⟩ := List.mem_map.1 ((mem_counts l x).1 hx).1
    exact hwf c hc
  have hcl := counts_length l
  have HK := Lib.hid hk
  clear hk hwf
  go_enter Try.func105, Try.ntmps105
  go_wp2_with fail
  refine (audit_counts v l _ F hl hw).mono ?_
  rintro e w1 ⟨b, rfl, h1⟩
  go_wp2_with fail
  refine (Try.keysII_call _ b _ h1).mono ?_
  rintro e w2 ⟨rfl, h2⟩
  go_wp2_with fail
  refine (Try.sortedII_call (.int .i64) _ b _ _ _ h2 HK.out (by omega)).mono ?_
  rintro e w3 ⟨v', rfl, h3⟩
  go_wp2_with fail
  go_ret
  exact ⟨_, rfl, (h3.pick 1).tail⟩
def truth : Value → Nat
  | .bool true => 1
  | _ => 0

/-! ### The reference's Many -/
def Audit.manyTo (l : List ChunkM) (p k : Nat) (q : Nat) : Nat := if q < p then Audit.many l q else if q = p then Audit.many (l.take k) q else 0
def manyToCells (l : List ChunkM) (p k : Nat) : Array Value := #[.int .i64 (Audit.manyTo l p k 0 : Nat), .int .i64 (Audit.manyTo l p k 1 : Nat), .int .i64 (Audit.manyTo l p k 2 : Nat), .int .i64 (Audit.manyTo l p k 3 : Nat)]
end Go.Proofs.Ytfiggkbclldccaa

/- The audit's walks in the new road; members of a state. -/
namespace Go.Proofs.Ytfiggkbclldccaa
open Go Go.RowKit Go.MapKept
set_option linter.unusedVariables false
set_option linter.unusedSimpArgs false
set_option maxRecDepth 100000
set_option maxHeartbeats 2000000

instance : Enc chunkCells 3 := ⟨fun _ => rfl, fun _ => by simp [chunkCells, Value.oneCell'], by omega⟩
theorem rows_ints (v : Value) (l : List Int) : rows encI1 1 v l = roInts v l := by unfold rows roInts ints; rw [flat_ints]
theorem ownI_owns (v : Value) (l : List Int) : ownInts v l = owns 3 encI1 1 v l := by rw [owns_ints]; rfl
section
variable {v vw : Value} {C : List ChunkM} {q : List Int} {w : World} {F : List HProp}
theorem heldC [h1 : Reads F v chunkCells 3 C] (hw : holds w F) : holds w (roChunks v C :: [allOf w]) := Reads.held (v := v) hw (holds.start w)
theorem heldCQ [h1 : Reads F v chunkCells 3 C] [h2 : Reads F vw encI1 1 q] (hw : holds w F) : holds w (roChunks v C :: roInts vw q :: [allOf w]) := by
  have g1 := Reads.held (v := vw) hw (holds.start w)
  have g2 := Reads.held (v := v) hw (L := [rows encI1 1 vw q]) g1.sub
  rw [rows_ints] at g2
  exact (show holds w (roChunks v C :: allOf w :: roInts vw q :: []) from g2).sub
end
section
variable (v vw : Value) (C : List ChunkM) (q : List Int) (w : World) (F : List HProp)
theorem aud_Sound (hl : C.length ≤ 1000000) (hq : q.length ≤ 1000000) [Reads F v chunkCells 3 C] [Reads F vw encI1 1 q] (hw : holds w F) :
    Ct Try.prog 99 #[v, vw] w fun e w' => e = .returned (.bool (Audit.sound C q)) ∧ holds w' F := ⟨(audit_Sound v vw C q w [allOf w] hl hq (heldCQ hw)).mono fun e w' ⟨he, h⟩ => ⟨he, hw.back0 h.sub⟩⟩
theorem aud_Held (o : Int) (hl : C.length ≤ 1000000) [Reads F v chunkCells 3 C] (hw : holds w F) :
    Ct Try.prog 101 #[v, .int .i64 o] w fun e w' => e = .returned (.int .i64 (Audit.held C o)) ∧ holds w' F := ⟨(audit_Held v C o w [allOf w] hl (heldC hw)).mono fun e w' ⟨he, h⟩ => ⟨he, hw.back0 h.sub⟩⟩
theorem aud_Many (hl : C.length ≤ 1000000) [Reads F v chunkCells 3 C] (hw : holds w F) :
    Ct Try.prog 109 #[v] w fun e w' => e = .returned (.agg (manyCells C)) ∧ holds w' F := ⟨(audit_Many v C w [allOf w] hl (heldC hw)).mono fun e w' ⟨he, h⟩ => ⟨he, hw.back0 h.sub⟩⟩
theorem aud_Owners (hl : C.length ≤ 1000000) (hwf : ∀ c ∈ C, (Lit.int .i64 c.owner).wf = true) [Reads F v chunkCells 3 C] (hw : holds w F) :
    Ct Try.prog 105 #[v] w fun e w' => ∃ v' : Value, e = .returned v' ∧ holds w' (owns 3 encI1 1 v' (sortInts (alKeys (Audit.counts C))) :: F) := ⟨(audit_OwnersO v C w [allOf w] hl hwf (heldC hw)).mono fun e w' ⟨v', he, h⟩ => ⟨v', he, by rw [← ownI_owns]; exact hw.back1 h.sub⟩⟩
end
theorem wfi_le {x : Int} (h : (Lit.int .i64 x).wf = true) : -9223372036854775808 ≤ x ∧ x ≤ 9223372036854775807 := by
  simpa [Lit.wf, IntKind.min, IntKind.max, IntKind.signed, IntKind.bits] using h
theorem sortInts_len (l : List Int) : (sortInts l).length = l.length := (List.mergeSort_perm l _).length_eq
namespace Snd
def hasMb (M : List MbM) (id : Int) : Bool := M.any fun m => decide (m.id = id)
theorem any_idx {α : Type} {p : α → Bool} {l : List α} {r : Int} (h : IsIdx p l r) : (l.any p = decide (0 ≤ r)) ∧ (r = -1 ∨ (0 ≤ r ∧ r < l.length)) := by
  rcases h with ⟨rfl, hn⟩ | ⟨i, hi, rfl, hp, hn⟩
  · refine ⟨?_, .inl rfl⟩
    rw [decide_eq_false (by omega)]
    exact List.any_eq_false.2 fun x hx => by rw [hn x hx]; simp
  · refine ⟨?_, .inr ⟨by omega, by omega⟩⟩
    rw [decide_eq_true (by omega)]
    exact List.any_eq_true.2 ⟨l[i], List.getElem_mem hi, hp⟩
/-- Is a member wrong, of those behind one of the ID last? -/
def mbad (C : List ChunkM) : Int → List MbM → Bool
  | _, [] => false
  | last, m :: r => (decide (m.id ≤ last) || decide (64 ≤ m.id) || !decide (Acc.Right m.acc) || !decide ((Audit.held C (m.id + 1) : Int) = m.acc.held)) || mbad C m.id r
theorem mb1 {a b c d e : Bool} (h : a = true ∨ b = true ∨ c = true ∨ d = true) : (a || b || c || d || e) = true := by rcases h with rfl | rfl | rfl | rfl <;> simp
theorem mb0 {a b c d e : Bool} (h : a = false ∧ b = false ∧ c = false ∧ d = false) : (a || b || c || d || e) = e := by obtain ⟨rfl, rfl, rfl, rfl⟩ := h; rfl
def stranger (C : List ChunkM) (M : List MbM) : Bool := (owners C).any fun o => decide (0 < o) && !hasMb M (o - 1)
def members (C : List ChunkM) (M : List MbM) : Bool := mbad C (-1) M || stranger C M
theorem stranger_of {C : List ChunkM} {M : List MbM} {l : List Int} (h : ∀ x, x ∈ l ↔ x ∈ owners C ∧ 0 < x) : l.any (fun o => !hasMb M (o - 1)) = stranger C M := by
  rw [Bool.eq_iff_iff]
  unfold stranger
  rw [List.any_eq_true, List.any_eq_true]
  constructor
  · rintro ⟨x, hx, h2⟩
    obtain ⟨h3, h4⟩ := (h x).1 hx
    exact ⟨x, h3, by rw [decide_eq_true h4, h2]; rfl⟩
  · rintro ⟨x, hx, h2⟩
    simp only [Bool.and_eq_true, decide_eq_true_eq] at h2
    exact ⟨x, (h x).2 ⟨hx, h2.1⟩, h2.2⟩
end Snd
/-- What a state's value holds. -/
abbrev stV (tk : Int) (vc vw vm vp vl : Value) : Array Value := #[.int .i64 tk, vc, vw, vm, vp, vl]
section
variable (tk : Int) (vc vw vm vp vl : Value) (M : List MbM)
theorem sound_find1 (b : Nat) (id : Int) (m : MbM) (w : World) (F : List HProp) [SeesBlk F b #[.int .i64 id]] (hw : holds w F) :
    Ct Try.prog 125 #[.agg (encMb m).toArray, .pointer (some ⟨b, 0, none⟩)] w fun e w' => e = .returned (.bool (decide (m.id = id))) ∧ holds w' F := by
  refine Ct.go (args := [.agg (encMb m).toArray, .pointer (some ⟨b, 0, none⟩)]) Try.func125 rfl rfl rfl hw ?_
  repeat' (first | (apply GL.isAny; first | refine GL.runA rfl ?_ | (apply GL.isStore; first | refine GL.storeBlk rfl rfl rfl rfl rfl ?_ | refine GL.storeWhole rfl rfl rfl rfl rfl ?_ | refine GL.storeBlkA rfl rfl rfl rfl rfl ?_) | refine GL.guardY rfl rfl ?_ | refine GL.guardN rfl rfl rfl ?_ | refine GL.guardU rfl rfl rfl ?_ | (apply GL.isBox; first | refine GL.boxA rfl rfl (fun _ => ?_) | refine GL.box1 rfl rfl rfl (fun _ => ?_) | refine GL.box rfl rfl (fun _ => ?_)) | (apply GL.isBuildS; first | refine GL.buildSlice1A rfl rfl rfl rfl rfl (fun _ => ?_) | refine GL.buildSlice1 rfl rfl rfl rfl rfl (fun _ => ?_)) | (apply GL.isCall; refine GL.append1 _ rfl rfl rfl rfl (by rfl) (by omega) (by omega) rfl (fun _ => ?_)) | (apply GL.isAlloc; refine GL.alloc rfl (fun _ => ?_))) | apply GL.nil | first | apply G.seq | apply G.region | apply G.block | apply G.skip | apply G.exit | apply G.ret | (apply G.isCond; first | refine G.condT rfl ?_ | refine G.condF rfl ?_) | refine G.draw (by kernel_rfl) (by kernel_rfl) ?_ | (apply GE.isAny; first | apply GE.again | apply GE.thenG | apply GE.blockN | apply GE.blockE | apply GE.thenE | apply GE.thenR | apply GE.blockR | refine GE.blockO rfl ?_ | apply GE.only) | (apply GD.isAny; first | refine GD.runA rfl ?_ | refine GD.guardY rfl rfl ?_ | refine GD.guardN rfl rfl rfl ?_ | refine GD.guardU rfl rfl rfl ?_) | apply GD.nilE | apply GD.nilL | (apply GT.isAny; refine GT.runA rfl rfl ?_) | ((first | (apply GL.isAny; refine GL.guard rfl rfl (fun hc => ?_) (fun hc => ?_)) | (apply G.isCond; refine G.cond rfl (fun hc => ?_) (fun hc => ?_)) | (apply GD.isAny; refine GD.guard rfl rfl (fun hc => ?_) (fun hc => ?_))) <;> ((try simp only [decide_eq_true_eq, decide_eq_false_iff_not, Bool.not_true, Bool.not_false, ne_eq, Classical.not_not, Int.not_lt, Int.not_le] at hc); (try (exfalso; first | omega | exact hc trivial | exact hc rfl)))))
  refine GE.resOne rfl (by (repeat (first | apply Res.nil | (apply Res.tmp; rfl) | (refine Res.cellA rfl rfl rfl ?_) | (refine Res.cell1 rfl rfl ?_)))) (fun w h => ?_)
  exact ⟨rfl, h.sub⟩
theorem sound_find (hn : M.length ≤ 1000000) (hs : ∀ u ∈ [vc, vw, vm, vp, vl], ∃ a k c, u = .slice a k c) (id : Int) (w : World) (F : List HProp) [hr : Reads F vm encMb 4 M] (hw : holds w F) :
    Ct Try.prog 103 #[.agg (stV tk vc vw vm vp vl), .int .i64 id] w fun e w' => ∃ p : {p : Option Addr // p.isNone = !Snd.hasMb M id}, e = .returned (.pointer p.1) ∧ holds w' F := by
  obtain ⟨ac, kc, cc, rfl⟩ := hs vc (by simp)
  obtain ⟨aw, kw, cw, rfl⟩ := hs vw (by simp)
  obtain ⟨am, cm, rfl, _⟩ := (hr.at_ w hw).form
  obtain ⟨ap, kp, cp, rfl⟩ := hs vp (by simp)
  obtain ⟨al, kl, cl, rfl⟩ := hs vl (by simp)
  refine Ct.go (args := [.agg (stV tk (.slice ac kc cc) (.slice aw kw cw) (.slice am M.length cm) (.slice ap kp cp) (.slice al kl cl)), .int .i64 id]) Try.func103 rfl rfl rfl hw ?_
  repeat' (first | (first | (apply GL.isBox; first | refine GL.boxA rfl rfl (fun bs => ?_) | refine GL.box1 rfl rfl rfl (fun bi => ?_))) | first | (apply GL.isAny; first | refine GL.runA rfl ?_ | (apply GL.isStore; first | refine GL.storeBlk rfl rfl rfl rfl rfl ?_ | refine GL.storeWhole rfl rfl rfl rfl rfl ?_ | refine GL.storeBlkA rfl rfl rfl rfl rfl ?_) | refine GL.guardY rfl rfl ?_ | refine GL.guardN rfl rfl rfl ?_ | refine GL.guardU rfl rfl rfl ?_ | (apply GL.isBox; first | refine GL.boxA rfl rfl (fun _ => ?_) | refine GL.box1 rfl rfl rfl (fun _ => ?_) | refine GL.box rfl rfl (fun _ => ?_)) | (apply GL.isBuildS; first | refine GL.buildSlice1A rfl rfl rfl rfl rfl (fun _ => ?_) | refine GL.buildSlice1 rfl rfl rfl rfl rfl (fun _ => ?_)) | (apply GL.isCall; refine GL.append1 _ rfl rfl rfl rfl (by rfl) (by omega) (by omega) rfl (fun _ => ?_)) | (apply GL.isAlloc; refine GL.alloc rfl (fun _ => ?_))) | apply GL.nil | first | apply G.seq | apply G.region | apply G.block | apply G.skip | apply G.exit | apply G.ret | (apply G.isCond; first | refine G.condT rfl ?_ | refine G.condF rfl ?_) | refine G.draw (by kernel_rfl) (by kernel_rfl) ?_ | (apply GE.isAny; first | apply GE.again | apply GE.thenG | apply GE.blockN | apply GE.blockE | apply GE.thenE | apply GE.thenR | apply GE.blockR | refine GE.blockO rfl ?_ | apply GE.only) | (apply GD.isAny; first | refine GD.runA rfl ?_ | refine GD.guardY rfl rfl ?_ | refine GD.guardN rfl rfl rfl ?_ | refine GD.guardU rfl rfl rfl ?_) | apply GD.nilE | apply GD.nilL | (apply GT.isAny; refine GT.runA rfl rfl ?_) | ((first | (apply GL.isAny; refine GL.guard rfl rfl (fun hc => ?_) (fun hc => ?_)) | (apply G.isCond; refine G.cond rfl (fun hc => ?_) (fun hc => ?_)) | (apply GD.isAny; refine GD.guard rfl rfl (fun hc => ?_) (fun hc => ?_))) <;> ((try simp only [decide_eq_true_eq, decide_eq_false_iff_not, Bool.not_true, Bool.not_false, ne_eq, Classical.not_not, Int.not_lt, Int.not_le] at hc); (try (exfalso; first | omega | exact hc trivial | exact hc rfl)))))
  refine GL.call (vs := [.slice am M.length cm, .func (.func 125) #[] #[.pointer (some ⟨bi, 0, none⟩)]]) rfl rfl (fun w h => ctIndexFunc61 (enc := encMb) (.slice am M.length cm) M (fun m => decide (m.id = id)) 125 [] [.pointer (some ⟨bi, 0, none⟩)] (by omega) w _ (fun m hm w h => sound_find1 bi id m w _ h) h) (fun r => ?_)
  obtain ⟨r, hri⟩ := r
  dsimp only
  obtain ⟨g1, g2⟩ := Snd.any_idx hri
  repeat' (first | (apply GL.isAny; first | refine GL.runA rfl ?_ | (apply GL.isStore; first | refine GL.storeBlk rfl rfl rfl rfl rfl ?_ | refine GL.storeWhole rfl rfl rfl rfl rfl ?_ | refine GL.storeBlkA rfl rfl rfl rfl rfl ?_) | refine GL.guardY rfl rfl ?_ | refine GL.guardN rfl rfl rfl ?_ | refine GL.guardU rfl rfl rfl ?_ | (apply GL.isBox; first | refine GL.boxA rfl rfl (fun _ => ?_) | refine GL.box1 rfl rfl rfl (fun _ => ?_) | refine GL.box rfl rfl (fun _ => ?_)) | (apply GL.isBuildS; first | refine GL.buildSlice1A rfl rfl rfl rfl rfl (fun _ => ?_) | refine GL.buildSlice1 rfl rfl rfl rfl rfl (fun _ => ?_)) | (apply GL.isCall; refine GL.append1 _ rfl rfl rfl rfl (by rfl) (by omega) (by omega) rfl (fun _ => ?_)) | (apply GL.isAlloc; refine GL.alloc rfl (fun _ => ?_))) | apply GL.nil | first | apply G.seq | apply G.region | apply G.block | apply G.skip | apply G.exit | apply G.ret | (apply G.isCond; first | refine G.condT rfl ?_ | refine G.condF rfl ?_) | refine G.draw (by kernel_rfl) (by kernel_rfl) ?_ | (apply GE.isAny; first | apply GE.again | apply GE.thenG | apply GE.blockN | apply GE.blockE | apply GE.thenE | apply GE.thenR | apply GE.blockR | refine GE.blockO rfl ?_ | apply GE.only) | (apply GD.isAny; first | refine GD.runA rfl ?_ | refine GD.guardY rfl rfl ?_ | refine GD.guardN rfl rfl rfl ?_ | refine GD.guardU rfl rfl rfl ?_) | apply GD.nilE | apply GD.nilL | (apply GT.isAny; refine GT.runA rfl rfl ?_) | ((first | (apply GL.isAny; refine GL.guard rfl rfl (fun hc => ?_) (fun hc => ?_)) | (apply G.isCond; refine G.cond rfl (fun hc => ?_) (fun hc => ?_)) | (apply GD.isAny; refine GD.guard rfl rfl (fun hc => ?_) (fun hc => ?_))) <;> ((try simp only [decide_eq_true_eq, decide_eq_false_iff_not, Bool.not_true, Bool.not_false, ne_eq, Classical.not_not, Int.not_lt, Int.not_le] at hc); (try (exfalso; first | omega | exact hc trivial | exact hc rfl)))))
  · refine GE.resOne rfl (by (repeat (first | apply Res.nil | (apply Res.tmp; rfl) | (refine Res.cellA rfl rfl rfl ?_) | (refine Res.cell1 rfl rfl ?_)))) (fun w h => ?_)
    exact ⟨⟨none, by unfold Snd.hasMb; rw [g1, decide_eq_false (by omega)]; rfl⟩, rfl, h.sub⟩
  · rcases g2 with g2 | g2
    · exfalso; omega
    · repeat' (first | ((apply GL.isAny; refine GL.run (by apply Runs.isIndexA; exact Runs.indexAddrI rfl rfl rfl (by omega) (by omega)) rfl ?_)) | first | (apply GL.isAny; first | refine GL.runA rfl ?_ | (apply GL.isStore; first | refine GL.storeBlk rfl rfl rfl rfl rfl ?_ | refine GL.storeWhole rfl rfl rfl rfl rfl ?_ | refine GL.storeBlkA rfl rfl rfl rfl rfl ?_) | refine GL.guardY rfl rfl ?_ | refine GL.guardN rfl rfl rfl ?_ | refine GL.guardU rfl rfl rfl ?_ | (apply GL.isBox; first | refine GL.boxA rfl rfl (fun _ => ?_) | refine GL.box1 rfl rfl rfl (fun _ => ?_) | refine GL.box rfl rfl (fun _ => ?_)) | (apply GL.isBuildS; first | refine GL.buildSlice1A rfl rfl rfl rfl rfl (fun _ => ?_) | refine GL.buildSlice1 rfl rfl rfl rfl rfl (fun _ => ?_)) | (apply GL.isCall; refine GL.append1 _ rfl rfl rfl rfl (by rfl) (by omega) (by omega) rfl (fun _ => ?_)) | (apply GL.isAlloc; refine GL.alloc rfl (fun _ => ?_))) | apply GL.nil | first | apply G.seq | apply G.region | apply G.block | apply G.skip | apply G.exit | apply G.ret | (apply G.isCond; first | refine G.condT rfl ?_ | refine G.condF rfl ?_) | refine G.draw (by kernel_rfl) (by kernel_rfl) ?_ | (apply GE.isAny; first | apply GE.again | apply GE.thenG | apply GE.blockN | apply GE.blockE | apply GE.thenE | apply GE.thenR | apply GE.blockR | refine GE.blockO rfl ?_ | apply GE.only) | (apply GD.isAny; first | refine GD.runA rfl ?_ | refine GD.guardY rfl rfl ?_ | refine GD.guardN rfl rfl rfl ?_ | refine GD.guardU rfl rfl rfl ?_) | apply GD.nilE | apply GD.nilL | (apply GT.isAny; refine GT.runA rfl rfl ?_) | ((first | (apply GL.isAny; refine GL.guard rfl rfl (fun hc => ?_) (fun hc => ?_)) | (apply G.isCond; refine G.cond rfl (fun hc => ?_) (fun hc => ?_)) | (apply GD.isAny; refine GD.guard rfl rfl (fun hc => ?_) (fun hc => ?_))) <;> ((try simp only [decide_eq_true_eq, decide_eq_false_iff_not, Bool.not_true, Bool.not_false, ne_eq, Classical.not_not, Int.not_lt, Int.not_le] at hc); (try (exfalso; first | omega | exact hc trivial | exact hc rfl)))))
      refine GE.resOne rfl (by (repeat (first | apply Res.nil | (apply Res.tmp; rfl) | (refine Res.cellA rfl rfl rfl ?_) | (refine Res.cell1 rfl rfl ?_)))) (fun w h => ?_)
      exact ⟨⟨some _, by unfold Snd.hasMb; rw [g1, decide_eq_true (by omega)]; rfl⟩, rfl, h.sub⟩
theorem sound_stranger (hn : M.length ≤ 1000000) (hs : ∀ u ∈ [vc, vw, vm, vp, vl], ∃ a k c, u = .slice a k c) (b : Nat) (o : Int) (ho : 1 ≤ o ∧ o ≤ 9223372036854775807) (w : World) (F : List HProp) [hr : Reads F vm encMb 4 M] [hb : SeesBlk F b (stV tk vc vw vm vp vl)] (hw : holds w F) :
    Ct Try.prog 102 #[.int .i64 o, .pointer (some ⟨b, 0, none⟩)] w fun e w' => e = .returned (.bool (!Snd.hasMb M (o - 1))) ∧ holds w' F := by
  refine Ct.go (args := [.int .i64 o, .pointer (some ⟨b, 0, none⟩)]) Try.func102 rfl rfl rfl hw ?_
  repeat' (first | ((apply GL.isCall; refine GL.call (vs := [.agg (stV tk vc vw vm vp vl), .int .i64 (o - 1)]) rfl rfl (fun w h => sound_find tk vc vw vm vp vl M hn hs (o - 1) w _ h) (fun p => ?_))) | first | (apply GL.isAny; first | refine GL.runA rfl ?_ | (apply GL.isStore; first | refine GL.storeBlk rfl rfl rfl rfl rfl ?_ | refine GL.storeWhole rfl rfl rfl rfl rfl ?_ | refine GL.storeBlkA rfl rfl rfl rfl rfl ?_) | refine GL.guardY rfl rfl ?_ | refine GL.guardN rfl rfl rfl ?_ | refine GL.guardU rfl rfl rfl ?_ | (apply GL.isBox; first | refine GL.boxA rfl rfl (fun _ => ?_) | refine GL.box1 rfl rfl rfl (fun _ => ?_) | refine GL.box rfl rfl (fun _ => ?_)) | (apply GL.isBuildS; first | refine GL.buildSlice1A rfl rfl rfl rfl rfl (fun _ => ?_) | refine GL.buildSlice1 rfl rfl rfl rfl rfl (fun _ => ?_)) | (apply GL.isCall; refine GL.append1 _ rfl rfl rfl rfl (by rfl) (by omega) (by omega) rfl (fun _ => ?_)) | (apply GL.isAlloc; refine GL.alloc rfl (fun _ => ?_))) | apply GL.nil | first | apply G.seq | apply G.region | apply G.block | apply G.skip | apply G.exit | apply G.ret | (apply G.isCond; first | refine G.condT rfl ?_ | refine G.condF rfl ?_) | refine G.draw (by kernel_rfl) (by kernel_rfl) ?_ | (apply GE.isAny; first | apply GE.again | apply GE.thenG | apply GE.blockN | apply GE.blockE | apply GE.thenE | apply GE.thenR | apply GE.blockR | refine GE.blockO rfl ?_ | apply GE.only) | (apply GD.isAny; first | refine GD.runA rfl ?_ | refine GD.guardY rfl rfl ?_ | refine GD.guardN rfl rfl rfl ?_ | refine GD.guardU rfl rfl rfl ?_) | apply GD.nilE | apply GD.nilL | (apply GT.isAny; refine GT.runA rfl rfl ?_) | ((first | (apply GL.isAny; refine GL.guard rfl rfl (fun hc => ?_) (fun hc => ?_)) | (apply G.isCond; refine G.cond rfl (fun hc => ?_) (fun hc => ?_)) | (apply GD.isAny; refine GD.guard rfl rfl (fun hc => ?_) (fun hc => ?_))) <;> ((try simp only [decide_eq_true_eq, decide_eq_false_iff_not, Bool.not_true, Bool.not_false, ne_eq, Classical.not_not, Int.not_lt, Int.not_le] at hc); (try (exfalso; first | omega | exact hc trivial | exact hc rfl)))))
  refine GE.resOne rfl (by (repeat (first | apply Res.nil | (apply Res.tmp; rfl) | (refine Res.cellA rfl rfl rfl ?_) | (refine Res.cell1 rfl rfl ?_)))) (fun w h => ?_)
  exact ⟨by rw [p.property], h.sub⟩
theorem sound_strangers (hn : M.length ≤ 1000000) (hs : ∀ u ∈ [vc, vw, vm, vp, vl], ∃ a k c, u = .slice a k c) (b : Nat) (vo : Value) (O : List Int) (hO : ∀ o ∈ O, 1 ≤ o ∧ o ≤ 9223372036854775807) (hl : O.length ≤ 1000000) (w : World) (F : List HProp) [hr : Reads F vm encMb 4 M] [hb : SeesBlk F b (stV tk vc vw vm vp vl)] [hv : Reads F vo encI1 1 O] (hw : holds w F) :
    Ct Try.prog 104 #[vo, .func (.func 102) #[] #[.pointer (some ⟨b, 0, none⟩)]] w fun e w' => e = .returned (.bool (O.any fun o => !Snd.hasMb M (o - 1))) ∧ holds w' F :=
  ctContainsFunc104 vo O (fun o => !Snd.hasMb M (o - 1)) 102 [] [.pointer (some ⟨b, 0, none⟩)] (by omega) w F (fun o ho w h => sound_stranger tk vc vw vm vp vl M hn hs b o (hO o ho) w F h) hw
end
section
variable (tk : Int) (ac aw am ap al : Option Addr) (kc kw km kp kl cc cw cm cp cl : Nat) (C : List ChunkM) (q : List Int) (M : List MbM)
/-- What of a state is bounded. -/
structure StOk (C : List ChunkM) (q : List Int) (M : List MbM) : Prop where
  c : C.length ≤ 100000
  q : q.length ≤ 100000
  m : M.length ≤ 100000
  wf : ∀ c ∈ C, (Lit.int .i64 c.owner).wf = true
  fit : ∀ m ∈ M, m.acc.Fits
theorem sl5 : ∀ u ∈ [Value.slice ac kc cc, .slice aw kw cw, .slice am km cm, .slice ap kp cp, .slice al kl cl], ∃ a k c, u = .slice a k c := by
  intro u hu
  simp only [List.mem_cons, List.not_mem_nil, or_false] at hu
  rcases hu with rfl | rfl | rfl | rfl | rfl <;> exact ⟨_, _, _, rfl⟩
abbrev st5 : Array Value := stV tk (.slice ac kc cc) (.slice aw kw cw) (.slice am km cm) (.slice ap kp cp) (.slice al kl cl)
theorem sound_members (setup : Array Value) (hsc : ∃ n z u l : Int, setup = #[.int .i64 n, .int .i64 z, .int .i64 u, .int .i64 l]) (h : StOk C q M) (w : World) (F : List HProp) [hr1 : Reads F (.slice ac kc cc) chunkCells 3 C] [hr2 : Reads F (.slice am km cm) encMb 4 M] (hw : holds w F) :
    Ct Try.prog 75 #[.agg setup, .agg (st5 tk ac aw am ap al kc kw km kp kl cc cw cm cp cl)] w fun e w' => e = .returned (.bool (Snd.members C M)) ∧ holds w' F := by
  obtain ⟨n, z, u, l, rfl⟩ := hsc
  refine Ct.go (args := [.agg #[.int .i64 n, .int .i64 z, .int .i64 u, .int .i64 l], .agg (st5 tk ac aw am ap al kc kw km kp kl cc cw cm cp cl)]) Try.func75 rfl rfl rfl hw ?_
  obtain ⟨hC, hq, hM, hwf, hfit⟩ := h
  have hkm : km = M.length := by obtain ⟨_, _, he, _⟩ := (hr2.at_ w hw).form; cases he; rfl
  subst hkm
  have hs5 := sl5 ac aw am ap al kc kw M.length kp kl cc cw cm cp cl
  repeat' (first | (first | (apply GL.isBox; first | refine GL.boxA rfl rfl (fun bx => ?_))) | first | (apply GL.isAny; first | refine GL.runA rfl ?_ | (apply GL.isStore; first | refine GL.storeBlk rfl rfl rfl rfl rfl ?_ | refine GL.storeWhole rfl rfl rfl rfl rfl ?_ | refine GL.storeBlkA rfl rfl rfl rfl rfl ?_) | refine GL.guardY rfl rfl ?_ | refine GL.guardN rfl rfl rfl ?_ | refine GL.guardU rfl rfl rfl ?_ | (apply GL.isBox; first | refine GL.boxA rfl rfl (fun _ => ?_) | refine GL.box1 rfl rfl rfl (fun _ => ?_) | refine GL.box rfl rfl (fun _ => ?_)) | (apply GL.isBuildS; first | refine GL.buildSlice1A rfl rfl rfl rfl rfl (fun _ => ?_) | refine GL.buildSlice1 rfl rfl rfl rfl rfl (fun _ => ?_)) | (apply GL.isCall; refine GL.append1 _ rfl rfl rfl rfl (by rfl) (by omega) (by omega) rfl (fun _ => ?_)) | (apply GL.isAlloc; refine GL.alloc rfl (fun _ => ?_))) | apply GL.nil | first | apply G.seq | apply G.region | apply G.block | apply G.skip | apply G.exit | apply G.ret | (apply G.isCond; first | refine G.condT rfl ?_ | refine G.condF rfl ?_) | refine G.draw (by kernel_rfl) (by kernel_rfl) ?_ | (apply GE.isAny; first | apply GE.again | apply GE.thenG | apply GE.blockN | apply GE.blockE | apply GE.thenE | apply GE.thenR | apply GE.blockR | refine GE.blockO rfl ?_ | apply GE.only) | (apply GD.isAny; first | refine GD.runA rfl ?_ | refine GD.guardY rfl rfl ?_ | refine GD.guardN rfl rfl rfl ?_ | refine GD.guardU rfl rfl rfl ?_) | apply GD.nilE | apply GD.nilL | (apply GT.isAny; refine GT.runA rfl rfl ?_) | ((first | (apply GL.isAny; refine GL.guard rfl rfl (fun hc => ?_) (fun hc => ?_)) | (apply G.isCond; refine G.cond rfl (fun hc => ?_) (fun hc => ?_)) | (apply GD.isAny; refine GD.guard rfl rfl (fun hc => ?_) (fun hc => ?_))) <;> ((try simp only [decide_eq_true_eq, decide_eq_false_iff_not, Bool.not_true, Bool.not_false, ne_eq, Classical.not_not, Int.not_lt, Int.not_le] at hc); (try (exfalso; first | omega | exact hc trivial | exact hc rfl)))))
  rename_i b2
  refine G.loopK [3, 10, 11] (Nat × Int) (fun y => [(12, .int .i64 y.1), (5, .int .i64 y.2)]) (fun y => blk bx (.cells (st5 tk ac aw am ap al kc kw M.length kp kl cc cw cm cp cl) 30 (0, 0)) :: F) (fun y => y.1 ≤ M.length ∧ -1 ≤ y.2 ∧ y.2 ≤ 63 ∧ Snd.mbad C (-1) M = Snd.mbad C y.2 (M.drop y.1)) (fun y => M.length - y.1) ((0, -1)) (⟨Nat.zero_le _, by dsimp only; omega, by dsimp only; omega, rfl⟩) (by repeat (first | exact trivial | refine And.intro rfl ?_)) (fun w h => by (try dsimp only); first | exact h | exact h.sub | ((try simp only [List.take_zero, List.drop_zero, List.map_nil, List.nil_append, List.zipIdx_nil, List.filter_nil]); exact h.sub)) ?_
  rintro ⟨k, last⟩ ⟨hk, hl0, hl1, hI⟩
  dsimp only at hk hl0 hl1 hI ⊢
  by_cases hlt : k < M.length
  · rw [List.drop_eq_getElem_cons hlt, Snd.mbad] at hI
    have hfk := hfit _ (List.getElem_mem hlt)
    have C1 := account_RightT (M[k]).acc hfk
    repeat' (first | (first | (apply GD.isAny; refine GD.call (vs := [.agg (encAcc (M[k]).acc).toArray]) rfl rfl (fun w F' h => C1 w _ h) ?_) | (apply GD.isAny; refine GD.call rfl rfl (fun w F' h => aud_Held _ C w _ ((M[k]).id + 1) (by omega) h) ?_)) | first | (apply GL.isAny; first | refine GL.runA rfl ?_ | (apply GL.isStore; first | refine GL.storeBlk rfl rfl rfl rfl rfl ?_ | refine GL.storeWhole rfl rfl rfl rfl rfl ?_ | refine GL.storeBlkA rfl rfl rfl rfl rfl ?_) | refine GL.guardY rfl rfl ?_ | refine GL.guardN rfl rfl rfl ?_ | refine GL.guardU rfl rfl rfl ?_ | (apply GL.isBox; first | refine GL.boxA rfl rfl (fun _ => ?_) | refine GL.box1 rfl rfl rfl (fun _ => ?_) | refine GL.box rfl rfl (fun _ => ?_)) | (apply GL.isBuildS; first | refine GL.buildSlice1A rfl rfl rfl rfl rfl (fun _ => ?_) | refine GL.buildSlice1 rfl rfl rfl rfl rfl (fun _ => ?_)) | (apply GL.isCall; refine GL.append1 _ rfl rfl rfl rfl (by rfl) (by omega) (by omega) rfl (fun _ => ?_)) | (apply GL.isAlloc; refine GL.alloc rfl (fun _ => ?_))) | apply GL.nil | first | apply G.seq | apply G.region | apply G.block | apply G.skip | apply G.exit | apply G.ret | (apply G.isCond; first | refine G.condT rfl ?_ | refine G.condF rfl ?_) | refine G.draw (by kernel_rfl) (by kernel_rfl) ?_ | (apply GE.isAny; first | apply GE.again | apply GE.thenG | apply GE.blockN | apply GE.blockE | apply GE.thenE | apply GE.thenR | apply GE.blockR | refine GE.blockO rfl ?_ | apply GE.only) | (apply GD.isAny; first | refine GD.runA rfl ?_ | refine GD.guardY rfl rfl ?_ | refine GD.guardN rfl rfl rfl ?_ | refine GD.guardU rfl rfl rfl ?_) | apply GD.nilE | apply GD.nilL | (apply GT.isAny; refine GT.runA rfl rfl ?_) | ((first | (apply GL.isAny; refine GL.guard rfl rfl (fun hc => ?_) (fun hc => ?_)) | (apply G.isCond; refine G.cond rfl (fun hc => ?_) (fun hc => ?_)) | (apply GD.isAny; refine GD.guard rfl rfl (fun hc => ?_) (fun hc => ?_))) <;> ((try simp only [decide_eq_true_eq, decide_eq_false_iff_not, Bool.not_true, Bool.not_false, ne_eq, Classical.not_not, Int.not_lt, Int.not_le] at hc); (try (exfalso; first | omega | exact hc trivial | exact hc rfl)))))
    all_goals (first | (exfalso; omega) | (refine GE.resOne rfl (by (repeat (first | apply Res.nil | (apply Res.tmp; rfl) | (refine Res.cellA rfl rfl rfl ?_) | (refine Res.cell1 rfl rfl ?_)))) (fun w h => ?_); refine ⟨?_, h.sub⟩; congr 2; unfold Snd.members; rw [hI.trans (Snd.mb1 (by first | exact .inl (decide_eq_true (by omega)) | exact .inr (.inl (decide_eq_true (by omega))) | exact .inr (.inr (.inl hc)) | exact .inr (.inr (.inr (by rw [decide_eq_false hc]; rfl)))))]; rfl) | skip)
    refine GE.round ((k + 1, (M[k]).id)) (⟨hlt, by dsimp only; omega, by dsimp only; omega, hI.trans (Snd.mb0 ⟨decide_eq_false (by omega), decide_eq_false (by omega), by assumption, by rw [decide_eq_true hc]; rfl⟩)⟩) (by repeat (first | exact trivial | refine And.intro rfl ?_)) (fun w h => by (try dsimp only); exact h.sub) (by (try dsimp only); omega)
  · rw [List.drop_eq_nil_of_le (by omega)] at hI
    have hmem : ∀ x, x ∈ sortInts (alKeys (Audit.counts C)) ↔ x ∈ owners C ∧ 0 < x := fun x => by rw [mem_sortInts, mem_counts]
    have hlen : (sortInts (alKeys (Audit.counts C))).length ≤ 1000000 := by have := counts_length C; rw [(sortInts_len _)]; unfold alKeys; rw [List.length_map]; omega
    have hgoal : Snd.members C M = (sortInts (alKeys (Audit.counts C))).any fun o => !Snd.hasMb M (o - 1) := by unfold Snd.members; rw [hI, Snd.stranger_of hmem]; rfl
    rw [hgoal]
    generalize hOeq : sortInts (alKeys (Audit.counts C)) = O at hmem hlen ⊢
    have hO : ∀ o ∈ O, 1 ≤ o ∧ o ≤ 9223372036854775807 := fun o ho => by
      obtain ⟨h1, h2⟩ := (hmem o).1 ho
      obtain ⟨c, hc, rfl⟩ := List.mem_map.1 h1
      have := wfi_le (hwf c hc)
      omega
    repeat' (first | (first | (apply GL.isCall; refine GL.call rfl rfl (fun w h => aud_Owners _ C w _ (by omega) hwf h) (fun vo => ?_); rw [hOeq]) | (apply GL.isCall; refine GL.call1 rfl rfl (fun w h => sound_strangers tk _ _ _ _ _ M (by omega) hs5 bx _ O hO hlen w _ h) ?_)) | first | (apply GL.isAny; first | refine GL.runA rfl ?_ | (apply GL.isStore; first | refine GL.storeBlk rfl rfl rfl rfl rfl ?_ | refine GL.storeWhole rfl rfl rfl rfl rfl ?_ | refine GL.storeBlkA rfl rfl rfl rfl rfl ?_) | refine GL.guardY rfl rfl ?_ | refine GL.guardN rfl rfl rfl ?_ | refine GL.guardU rfl rfl rfl ?_ | (apply GL.isBox; first | refine GL.boxA rfl rfl (fun _ => ?_) | refine GL.box1 rfl rfl rfl (fun _ => ?_) | refine GL.box rfl rfl (fun _ => ?_)) | (apply GL.isBuildS; first | refine GL.buildSlice1A rfl rfl rfl rfl rfl (fun _ => ?_) | refine GL.buildSlice1 rfl rfl rfl rfl rfl (fun _ => ?_)) | (apply GL.isCall; refine GL.append1 _ rfl rfl rfl rfl (by rfl) (by omega) (by omega) rfl (fun _ => ?_)) | (apply GL.isAlloc; refine GL.alloc rfl (fun _ => ?_))) | apply GL.nil | first | apply G.seq | apply G.region | apply G.block | apply G.skip | apply G.exit | apply G.ret | (apply G.isCond; first | refine G.condT rfl ?_ | refine G.condF rfl ?_) | refine G.draw (by kernel_rfl) (by kernel_rfl) ?_ | (apply GE.isAny; first | apply GE.again | apply GE.thenG | apply GE.blockN | apply GE.blockE | apply GE.thenE | apply GE.thenR | apply GE.blockR | refine GE.blockO rfl ?_ | apply GE.only) | (apply GD.isAny; first | refine GD.runA rfl ?_ | refine GD.guardY rfl rfl ?_ | refine GD.guardN rfl rfl rfl ?_ | refine GD.guardU rfl rfl rfl ?_) | apply GD.nilE | apply GD.nilL | (apply GT.isAny; refine GT.runA rfl rfl ?_) | ((first | (apply GL.isAny; refine GL.guard rfl rfl (fun hc => ?_) (fun hc => ?_)) | (apply G.isCond; refine G.cond rfl (fun hc => ?_) (fun hc => ?_)) | (apply GD.isAny; refine GD.guard rfl rfl (fun hc => ?_) (fun hc => ?_))) <;> ((try simp only [decide_eq_true_eq, decide_eq_false_iff_not, Bool.not_true, Bool.not_false, ne_eq, Classical.not_not, Int.not_lt, Int.not_le] at hc); (try (exfalso; first | omega | exact hc trivial | exact hc rfl)))))
    refine GE.resOne rfl (by (repeat (first | apply Res.nil | (apply Res.tmp; rfl) | (refine Res.cellA rfl rfl rfl ?_) | (refine Res.cell1 rfl rfl ?_)))) (fun w h => ?_); exact ⟨rfl, h.sub⟩
end
end Go.Proofs.Ytfiggkbclldccaa

/- Members and tickets of a state: the walks. -/
namespace Go.Proofs.Ytfiggkbclldccaa
open Go Go.RowKit Go.MapKept
set_option linter.unusedVariables false
set_option linter.unusedSimpArgs false
set_option maxRecDepth 100000
set_option maxHeartbeats 2000000
section
variable (M : List MbM)
def Snd.at_ (M : List MbM) (id : Int) : Int := idxOf (fun m => decide (m.id = id)) M
end
section
variable (tk : Int) (ac aw am ap al : Option Addr) (kc kw km kp kl cc cw cm cp cl : Nat) (C : List ChunkM) (q : List Int) (M : List MbM)
end
end Go.Proofs.Ytfiggkbclldccaa

/- Tickets of a state: the walks. -/
namespace Go.Proofs.Ytfiggkbclldccaa
open Go Go.RowKit Go.MapKept
set_option linter.unusedVariables false
set_option linter.unusedSimpArgs false
set_option maxRecDepth 100000
set_option maxHeartbeats 2000000
namespace Snd
def tbad (M : List MbM) : Int → List TickM → Bool
  | _, [] => false
  | last, t :: r => (!decide t.Right || !decide (t.state = 1) || decide (t.id ≤ last) || !hasMb M t.client) || tbad M t.id r
def sumOf (id : Int) : List TickM → Int
  | [] => 0
  | t :: r => (if t.client = id then t.count else 0) + sumOf id r
theorem sumOf_app (id : Int) : ∀ (a b : List TickM), sumOf id (a ++ b) = sumOf id a + sumOf id b
  | [], b => by simp [sumOf]
  | t :: a, b => by rw [List.cons_append, sumOf, sumOf, sumOf_app id a b]; omega
theorem sumOf_snoc (id : Int) (T : List TickM) (k : Nat) (h : k < T.length) : sumOf id (T.take (k + 1)) = sumOf id (T.take k) + if (T[k]).client = id then (T[k]).count else 0 := by
  rw [List.take_succ_eq_append_getElem h, sumOf_app]; simp [sumOf]
def credits (M : List MbM) (T : List TickM) : Bool := M.any fun m => !decide (sumOf m.id T = m.acc.credits)
def pending (M : List MbM) (T : List TickM) : Bool := tbad M 0 T || credits M T
end Snd
def encZ (x : Int) : Value := .int .i64 x
section
variable (tk : Int) (ac aw am ap al : Option Addr) (kc kw km kp kl cc cw cm cp cl : Nat) (M : List MbM) (T : List TickM)
theorem sound_pending1 (b mb : Nat) (mm : List (Int × Int)) (m : MbM) (w : World) (F : List HProp) {F' : List HProp} [SeesBlk F b #[.map (some mb)]] [HasMap F mb encZ mm F'] (hw : holds w F) :
    Ct Try.prog 108 #[.agg (encMb m).toArray, .pointer (some ⟨b, 0, none⟩)] w fun e w' => e = .returned (.bool (!decide ((alGet mm m.id).getD 0 = m.acc.credits))) ∧ holds w' F := by
  refine Ct.go (args := [.agg (encMb m).toArray, .pointer (some ⟨b, 0, none⟩)]) Try.func108 rfl rfl rfl hw ?_
  repeat' (first | (apply GL.isAny; first | refine GL.runA rfl ?_ | (apply GL.isStore; first | refine GL.storeBlk rfl rfl rfl rfl rfl ?_ | refine GL.storeWhole rfl rfl rfl rfl rfl ?_ | refine GL.storeBlkA rfl rfl rfl rfl rfl ?_) | refine GL.guardY rfl rfl ?_ | refine GL.guardN rfl rfl rfl ?_ | refine GL.guardU rfl rfl rfl ?_ | (apply GL.isBox; first | refine GL.boxA rfl rfl (fun _ => ?_) | refine GL.box1 rfl rfl rfl (fun _ => ?_) | refine GL.box rfl rfl (fun _ => ?_)) | (apply GL.isBuildS; first | refine GL.buildSlice1A rfl rfl rfl rfl rfl (fun _ => ?_) | refine GL.buildSlice1 rfl rfl rfl rfl rfl (fun _ => ?_)) | (apply GL.isCall; refine GL.append1 _ rfl rfl rfl rfl (by rfl) (by omega) (by omega) rfl (fun _ => ?_)) | (apply GL.isAlloc; refine GL.alloc rfl (fun _ => ?_))) | apply GL.nil | first | apply G.seq | apply G.region | apply G.block | apply G.skip | apply G.exit | apply G.ret | (apply G.isCond; first | refine G.condT rfl ?_ | refine G.condF rfl ?_) | refine G.draw (by kernel_rfl) (by kernel_rfl) ?_ | (apply GE.isAny; first | apply GE.again | apply GE.thenG | apply GE.blockN | apply GE.blockE | apply GE.thenE | apply GE.thenR | apply GE.blockR | refine GE.blockO rfl ?_ | apply GE.only) | (apply GD.isAny; first | refine GD.runA rfl ?_ | refine GD.guardY rfl rfl ?_ | refine GD.guardN rfl rfl rfl ?_ | refine GD.guardU rfl rfl rfl ?_) | apply GD.nilE | apply GD.nilL | (apply GT.isAny; refine GT.runA rfl rfl ?_) | ((first | (apply GL.isAny; refine GL.guard rfl rfl (fun hc => ?_) (fun hc => ?_)) | (apply G.isCond; refine G.cond rfl (fun hc => ?_) (fun hc => ?_)) | (apply GD.isAny; refine GD.guard rfl rfl (fun hc => ?_) (fun hc => ?_))) <;> ((try simp only [decide_eq_true_eq, decide_eq_false_iff_not, Bool.not_true, Bool.not_false, ne_eq, Classical.not_not, Int.not_lt, Int.not_le] at hc); (try (exfalso; first | omega | exact hc trivial | exact hc rfl)))))
  refine GE.resOne rfl (by (repeat (first | apply Res.nil | (apply Res.tmp; rfl) | (refine Res.cellA rfl rfl rfl ?_) | (refine Res.cell1 rfl rfl ?_)))) (fun w h => ?_)
  refine ⟨?_, h.sub⟩
  simp
theorem sound_creds (b mb : Nat) (mm : List (Int × Int)) (vm : Value) (hn : M.length ≤ 1000000) (w : World) (F : List HProp) {F' : List HProp} [SeesBlk F b #[.map (some mb)]] [HasMap F mb encZ mm F'] [Reads F vm encMb 4 M] (hw : holds w F) :
    Ct Try.prog 107 #[vm, .func (.func 108) #[] #[.pointer (some ⟨b, 0, none⟩)]] w fun e w' => e = .returned (.bool (M.any fun m => !decide ((alGet mm m.id).getD 0 = m.acc.credits))) ∧ holds w' F :=
  ctContainsFunc107 (enc := encMb) vm M (fun m => !decide ((alGet mm m.id).getD 0 = m.acc.credits)) 108 [] [.pointer (some ⟨b, 0, none⟩)] (by omega) w F (fun m hm w h => sound_pending1 b mb mm m w F h) hw
theorem sound_pending (setup : Array Value) (hsc : ∃ n z u l : Int, setup = #[.int .i64 n, .int .i64 z, .int .i64 u, .int .i64 l]) (hM : M.length ≤ 100000) (hT : T.length ≤ 100000) (hs5 : True) (w : World) (F : List HProp) [hr1 : Reads F (.slice am km cm) encMb 4 M] [hr2 : Reads F (.slice ap kp cp) encTk 5 T] (hw : holds w F) :
    Ct Try.prog 76 #[.agg setup, .agg (st5 tk ac aw am ap al kc kw km kp kl cc cw cm cp cl)] w fun e w' => e = .returned (.bool (Snd.pending M T)) ∧ holds w' F := by
  obtain ⟨n, z, u, l, rfl⟩ := hsc
  refine Ct.go (args := [.agg #[.int .i64 n, .int .i64 z, .int .i64 u, .int .i64 l], .agg (st5 tk ac aw am ap al kc kw km kp kl cc cw cm cp cl)]) Try.func76 rfl rfl rfl hw ?_
  have hkp : kp = T.length := by obtain ⟨_, _, he, _⟩ := (hr2.at_ w hw).form; cases he; rfl
  subst hkp
  have hs5 := sl5 ac aw am ap al kc kw km T.length kl cc cw cm cp cl
  repeat' (first | (first | (apply GL.isBox; first | refine GL.boxA rfl rfl (fun bx => ?_)) | (refine GL.makeMap encZ rfl (fun mb => ?_)) | (apply GL.isAny; apply GL.isAlloc; refine GL.alloc rfl (fun bm => ?_))) | first | (apply GL.isAny; first | refine GL.runA rfl ?_ | (apply GL.isStore; first | refine GL.storeBlk rfl rfl rfl rfl rfl ?_ | refine GL.storeWhole rfl rfl rfl rfl rfl ?_ | refine GL.storeBlkA rfl rfl rfl rfl rfl ?_) | refine GL.guardY rfl rfl ?_ | refine GL.guardN rfl rfl rfl ?_ | refine GL.guardU rfl rfl rfl ?_ | (apply GL.isBox; first | refine GL.boxA rfl rfl (fun _ => ?_) | refine GL.box1 rfl rfl rfl (fun _ => ?_) | refine GL.box rfl rfl (fun _ => ?_)) | (apply GL.isBuildS; first | refine GL.buildSlice1A rfl rfl rfl rfl rfl (fun _ => ?_) | refine GL.buildSlice1 rfl rfl rfl rfl rfl (fun _ => ?_)) | (apply GL.isCall; refine GL.append1 _ rfl rfl rfl rfl (by rfl) (by omega) (by omega) rfl (fun _ => ?_)) | (apply GL.isAlloc; refine GL.alloc rfl (fun _ => ?_))) | apply GL.nil | first | apply G.seq | apply G.region | apply G.block | apply G.skip | apply G.exit | apply G.ret | (apply G.isCond; first | refine G.condT rfl ?_ | refine G.condF rfl ?_) | refine G.draw (by kernel_rfl) (by kernel_rfl) ?_ | (apply GE.isAny; first | apply GE.again | apply GE.thenG | apply GE.blockN | apply GE.blockE | apply GE.thenE | apply GE.thenR | apply GE.blockR | refine GE.blockO rfl ?_ | apply GE.only) | (apply GD.isAny; first | refine GD.runA rfl ?_ | refine GD.guardY rfl rfl ?_ | refine GD.guardN rfl rfl rfl ?_ | refine GD.guardU rfl rfl rfl ?_) | apply GD.nilE | apply GD.nilL | (apply GT.isAny; refine GT.runA rfl rfl ?_) | ((first | (apply GL.isAny; refine GL.guard rfl rfl (fun hc => ?_) (fun hc => ?_)) | (apply G.isCond; refine G.cond rfl (fun hc => ?_) (fun hc => ?_)) | (apply GD.isAny; refine GD.guard rfl rfl (fun hc => ?_) (fun hc => ?_))) <;> ((try simp only [decide_eq_true_eq, decide_eq_false_iff_not, Bool.not_true, Bool.not_false, ne_eq, Classical.not_not, Int.not_lt, Int.not_le] at hc); (try (exfalso; first | omega | exact hc trivial | exact hc rfl)))))
  rename_i b2
  refine G.imp (F' := blk bm (.cells #[.map (some mb)] 151 (0, 0)) :: imap encZ mb [] :: blk bx (.cells (st5 tk ac aw am ap al kc kw km T.length kl cc cw cm cp cl) 30 (0, 0)) :: F) ?_ (fun w h => by
    have h2 : holds w (blk bm (.cells #[.map (some mb)] 151 (0, 0)) :: imap encZ mb [] :: blk bx (.cells (st5 tk ac aw am ap al kc kw km T.length kl cc cw cm cp cl) 30 (0, 0)) :: blk b2 (.cells #[.int .i64 n, .int .i64 z, .int .i64 u, .int .i64 l] 23 (0, 0)) :: F) := h
    exact h2.sub)
  refine G.loopK [3, 6, 11, 12] (Nat × Int × List (Int × Int)) (fun y => [(13, .int .i64 y.1), (5, .int .i64 y.2.1)]) (fun y => blk bm (.cells #[.map (some mb)] 151 (0, 0)) :: imap encZ mb y.2.2 :: blk bx (.cells (st5 tk ac aw am ap al kc kw km T.length kl cc cw cm cp cl) 30 (0, 0)) :: F) (fun y => y.1 ≤ T.length ∧ Snd.tbad M 0 T = Snd.tbad M y.2.1 (T.drop y.1) ∧ ∀ id, (alGet y.2.2 id).getD 0 = Snd.sumOf id (T.take y.1) ∧ 0 ≤ Snd.sumOf id (T.take y.1) ∧ Snd.sumOf id (T.take y.1) ≤ y.1 * 1048576) (fun y => T.length - y.1) ((0, 0, [])) (⟨Nat.zero_le _, rfl, fun id => ⟨rfl, by simp [Snd.sumOf], by simp [Snd.sumOf]⟩⟩) (by repeat (first | exact trivial | refine And.intro rfl ?_)) (fun w h => by (try dsimp only); first | exact h | exact h.sub | ((try simp only [List.take_zero, List.drop_zero, List.map_nil, List.nil_append, List.zipIdx_nil, List.filter_nil]); exact h.sub)) ?_
  rintro ⟨k, last, mm⟩ ⟨hk, hI, hS⟩
  dsimp only at hk hI hS ⊢
  by_cases hlt : k < T.length
  · rw [List.drop_eq_getElem_cons hlt, Snd.tbad] at hI
    have hSk := hS (T[k]).client
    have hnx : ∀ id, (alGet (alSet mm (T[k]).client ((alGet mm (T[k]).client).getD 0 + (T[k]).count)) id).getD 0 = Snd.sumOf id (T.take (k + 1)) := fun id => by
      rw [Snd.sumOf_snoc id T k hlt, alGet_set]
      by_cases he : (T[k]).client = id
      · subst he; rw [if_pos rfl, if_pos rfl, Option.getD_some, hSk.1]
      · rw [if_neg (fun e => he e.symm), if_neg he, (hS id).1]; omega
    obtain ⟨u0, hu0⟩ : ∃ u0, (alGet mm (T[k]).client).getD 0 = u0 := ⟨_, rfl⟩
    rw [hu0] at hSk hnx
    by_cases hR : (T[k]).Right
    · have hRb : 1 ≤ (T[k]).count ∧ (T[k]).count ≤ 1048576 := ⟨hR.2.2.2.1, hR.2.2.2.2.1⟩
      rw [decide_eq_true hR] at hI
      have C1 := ticket_RightT T[k]
      rw [decide_eq_true hR] at C1
      repeat' (first | (first | (apply GL.isCall; refine GL.call1 (vs := [.agg (encTk T[k]).toArray]) rfl rfl (fun w h => C1 w _ h) ?_) | first | (apply GL.isCall; refine GL.call1 (vs := [.agg (encTk T[k]).toArray]) rfl rfl (fun w h => ticket_RightT T[k] w _ h) ?_) | (apply GL.isCall; refine GL.call rfl rfl (fun w h => sound_find tk _ _ _ _ _ M (by omega) hs5 (T[k]).client w _ h) (fun p => ?_)) | (apply GL.isAny; refine GL.mapUpdate (enc := encZ) ((alGet mm (T[k]).client).getD 0 + (T[k]).count) rfl rfl rfl rfl ?_)) | first | (apply GL.isAny; first | refine GL.runA rfl ?_ | (apply GL.isStore; first | refine GL.storeBlk rfl rfl rfl rfl rfl ?_ | refine GL.storeWhole rfl rfl rfl rfl rfl ?_ | refine GL.storeBlkA rfl rfl rfl rfl rfl ?_) | refine GL.guardY rfl rfl ?_ | refine GL.guardN rfl rfl rfl ?_ | refine GL.guardU rfl rfl rfl ?_ | (apply GL.isBox; first | refine GL.boxA rfl rfl (fun _ => ?_) | refine GL.box1 rfl rfl rfl (fun _ => ?_) | refine GL.box rfl rfl (fun _ => ?_)) | (apply GL.isBuildS; first | refine GL.buildSlice1A rfl rfl rfl rfl rfl (fun _ => ?_) | refine GL.buildSlice1 rfl rfl rfl rfl rfl (fun _ => ?_)) | (apply GL.isCall; refine GL.append1 _ rfl rfl rfl rfl (by rfl) (by omega) (by omega) rfl (fun _ => ?_)) | (apply GL.isAlloc; refine GL.alloc rfl (fun _ => ?_))) | apply GL.nil | first | apply G.seq | apply G.region | apply G.block | apply G.skip | apply G.exit | apply G.ret | (apply G.isCond; first | refine G.condT rfl ?_ | refine G.condF rfl ?_) | refine G.draw (by kernel_rfl) (by kernel_rfl) ?_ | (apply GE.isAny; first | apply GE.again | apply GE.thenG | apply GE.blockN | apply GE.blockE | apply GE.thenE | apply GE.thenR | apply GE.blockR | refine GE.blockO rfl ?_ | apply GE.only) | (apply GD.isAny; first | refine GD.runA rfl ?_ | refine GD.guardY rfl rfl ?_ | refine GD.guardN rfl rfl rfl ?_ | refine GD.guardU rfl rfl rfl ?_) | apply GD.nilE | apply GD.nilL | (apply GT.isAny; refine GT.runA rfl rfl ?_) | ((first | (apply GL.isAny; refine GL.guard rfl rfl (fun hc => ?_) (fun hc => ?_)) | (apply G.isCond; refine G.cond rfl (fun hc => ?_) (fun hc => ?_)) | (apply GD.isAny; refine GD.guard rfl rfl (fun hc => ?_) (fun hc => ?_))) <;> ((try simp only [decide_eq_true_eq, decide_eq_false_iff_not, Bool.not_true, Bool.not_false, ne_eq, Classical.not_not, Int.not_lt, Int.not_le] at hc); (try (exfalso; first | omega | exact hc trivial | exact hc rfl)))))
      all_goals (first | (exfalso; omega) | (refine GE.resOne rfl (by (repeat (first | apply Res.nil | (apply Res.tmp; rfl) | (refine Res.cellA rfl rfl rfl ?_) | (refine Res.cell1 rfl rfl ?_)))) (fun w h => ?_); refine ⟨?_, h.sub⟩; unfold Snd.pending; rw [hI.trans (Snd.mb1 (by first | exact .inr (.inl (by rw [decide_eq_false (by omega)]; rfl)) | exact .inr (.inr (.inl (decide_eq_true (by omega)))) | exact .inr (.inr (.inr (by rw [← p.property]; exact hc)))))]; rfl) | skip)
      refine GE.round ((k + 1, (T[k]).id, alSet mm (T[k]).client ((alGet mm (T[k]).client).getD 0 + (T[k]).count))) (⟨hlt, hI.trans (Snd.mb0 ⟨rfl, by rw [decide_eq_true (by omega)]; rfl, decide_eq_false (by omega), by rw [← p.property]; exact hc⟩), fun id => ⟨by dsimp only; rw [hu0]; exact hnx id, by dsimp only; rw [Snd.sumOf_snoc id T k hlt]; have := hS id; split ; omega ; omega, by dsimp only; rw [Snd.sumOf_snoc id T k hlt]; have := hS id; split ; omega ; omega⟩⟩) (by repeat (first | exact trivial | refine And.intro rfl ?_)) (fun w h => by (try dsimp only); exact h.sub) (by (try dsimp only); omega)
    · have C1 := ticket_RightT T[k]
      rw [decide_eq_false hR] at C1 hI
      repeat' (first | (first | (apply GL.isCall; refine GL.call1 (vs := [.agg (encTk T[k]).toArray]) rfl rfl (fun w h => C1 w _ h) ?_) | first | (apply GL.isCall; refine GL.call1 (vs := [.agg (encTk T[k]).toArray]) rfl rfl (fun w h => ticket_RightT T[k] w _ h) ?_) | (apply GL.isCall; refine GL.call rfl rfl (fun w h => sound_find tk _ _ _ _ _ M (by omega) hs5 (T[k]).client w _ h) (fun p => ?_)) | (apply GL.isAny; refine GL.mapUpdate (enc := encZ) ((alGet mm (T[k]).client).getD 0 + (T[k]).count) rfl rfl rfl rfl ?_)) | first | (apply GL.isAny; first | refine GL.runA rfl ?_ | (apply GL.isStore; first | refine GL.storeBlk rfl rfl rfl rfl rfl ?_ | refine GL.storeWhole rfl rfl rfl rfl rfl ?_ | refine GL.storeBlkA rfl rfl rfl rfl rfl ?_) | refine GL.guardY rfl rfl ?_ | refine GL.guardN rfl rfl rfl ?_ | refine GL.guardU rfl rfl rfl ?_ | (apply GL.isBox; first | refine GL.boxA rfl rfl (fun _ => ?_) | refine GL.box1 rfl rfl rfl (fun _ => ?_) | refine GL.box rfl rfl (fun _ => ?_)) | (apply GL.isBuildS; first | refine GL.buildSlice1A rfl rfl rfl rfl rfl (fun _ => ?_) | refine GL.buildSlice1 rfl rfl rfl rfl rfl (fun _ => ?_)) | (apply GL.isCall; refine GL.append1 _ rfl rfl rfl rfl (by rfl) (by omega) (by omega) rfl (fun _ => ?_)) | (apply GL.isAlloc; refine GL.alloc rfl (fun _ => ?_))) | apply GL.nil | first | apply G.seq | apply G.region | apply G.block | apply G.skip | apply G.exit | apply G.ret | (apply G.isCond; first | refine G.condT rfl ?_ | refine G.condF rfl ?_) | refine G.draw (by kernel_rfl) (by kernel_rfl) ?_ | (apply GE.isAny; first | apply GE.again | apply GE.thenG | apply GE.blockN | apply GE.blockE | apply GE.thenE | apply GE.thenR | apply GE.blockR | refine GE.blockO rfl ?_ | apply GE.only) | (apply GD.isAny; first | refine GD.runA rfl ?_ | refine GD.guardY rfl rfl ?_ | refine GD.guardN rfl rfl rfl ?_ | refine GD.guardU rfl rfl rfl ?_) | apply GD.nilE | apply GD.nilL | (apply GT.isAny; refine GT.runA rfl rfl ?_) | ((first | (apply GL.isAny; refine GL.guard rfl rfl (fun hc => ?_) (fun hc => ?_)) | (apply G.isCond; refine G.cond rfl (fun hc => ?_) (fun hc => ?_)) | (apply GD.isAny; refine GD.guard rfl rfl (fun hc => ?_) (fun hc => ?_))) <;> ((try simp only [decide_eq_true_eq, decide_eq_false_iff_not, Bool.not_true, Bool.not_false, ne_eq, Classical.not_not, Int.not_lt, Int.not_le] at hc); (try (exfalso; first | omega | exact hc trivial | exact hc rfl)))))
      refine GE.resOne rfl (by (repeat (first | apply Res.nil | (apply Res.tmp; rfl) | (refine Res.cellA rfl rfl rfl ?_) | (refine Res.cell1 rfl rfl ?_)))) (fun w h => ?_)
      refine ⟨?_, h.sub⟩
      unfold Snd.pending
      rw [hI]; simp
  · rw [List.drop_eq_nil_of_le (by omega)] at hI
    have hany : (M.any fun m => !decide ((alGet mm m.id).getD 0 = m.acc.credits)) = Snd.credits M T := by
      unfold Snd.credits
      congr 1
      funext m
      rw [(hS m.id).1, List.take_of_length_le (by omega)]
    have hgoal : Snd.pending M T = Snd.credits M T := by unfold Snd.pending; rw [hI]; rfl
    rw [hgoal, ← hany]
    repeat' (first | ((apply GL.isCall; refine GL.call1 rfl rfl (fun w h => sound_creds M bm mb mm _ (by omega) w _ h) ?_)) | first | (apply GL.isAny; first | refine GL.runA rfl ?_ | (apply GL.isStore; first | refine GL.storeBlk rfl rfl rfl rfl rfl ?_ | refine GL.storeWhole rfl rfl rfl rfl rfl ?_ | refine GL.storeBlkA rfl rfl rfl rfl rfl ?_) | refine GL.guardY rfl rfl ?_ | refine GL.guardN rfl rfl rfl ?_ | refine GL.guardU rfl rfl rfl ?_ | (apply GL.isBox; first | refine GL.boxA rfl rfl (fun _ => ?_) | refine GL.box1 rfl rfl rfl (fun _ => ?_) | refine GL.box rfl rfl (fun _ => ?_)) | (apply GL.isBuildS; first | refine GL.buildSlice1A rfl rfl rfl rfl rfl (fun _ => ?_) | refine GL.buildSlice1 rfl rfl rfl rfl rfl (fun _ => ?_)) | (apply GL.isCall; refine GL.append1 _ rfl rfl rfl rfl (by rfl) (by omega) (by omega) rfl (fun _ => ?_)) | (apply GL.isAlloc; refine GL.alloc rfl (fun _ => ?_))) | apply GL.nil | first | apply G.seq | apply G.region | apply G.block | apply G.skip | apply G.exit | apply G.ret | (apply G.isCond; first | refine G.condT rfl ?_ | refine G.condF rfl ?_) | refine G.draw (by kernel_rfl) (by kernel_rfl) ?_ | (apply GE.isAny; first | apply GE.again | apply GE.thenG | apply GE.blockN | apply GE.blockE | apply GE.thenE | apply GE.thenR | apply GE.blockR | refine GE.blockO rfl ?_ | apply GE.only) | (apply GD.isAny; first | refine GD.runA rfl ?_ | refine GD.guardY rfl rfl ?_ | refine GD.guardN rfl rfl rfl ?_ | refine GD.guardU rfl rfl rfl ?_) | apply GD.nilE | apply GD.nilL | (apply GT.isAny; refine GT.runA rfl rfl ?_) | ((first | (apply GL.isAny; refine GL.guard rfl rfl (fun hc => ?_) (fun hc => ?_)) | (apply G.isCond; refine G.cond rfl (fun hc => ?_) (fun hc => ?_)) | (apply GD.isAny; refine GD.guard rfl rfl (fun hc => ?_) (fun hc => ?_))) <;> ((try simp only [decide_eq_true_eq, decide_eq_false_iff_not, Bool.not_true, Bool.not_false, ne_eq, Classical.not_not, Int.not_lt, Int.not_le] at hc); (try (exfalso; first | omega | exact hc trivial | exact hc rfl)))))
    all_goals (first | (exfalso; omega) | (refine GE.resOne rfl (by (repeat (first | apply Res.nil | (apply Res.tmp; rfl) | (refine Res.cellA rfl rfl rfl ?_) | (refine Res.cell1 rfl rfl ?_)))) (fun w h => ?_); exact ⟨rfl, h.sub⟩))
end
end Go.Proofs.Ytfiggkbclldccaa

/- Whether all may end, by the reference; tickets by the reference. -/
namespace Go.Proofs.Ytfiggkbclldccaa
open Go Go.RowKit Go.MapKept
set_option linter.unusedVariables false
set_option linter.unusedSimpArgs false
set_option maxRecDepth 100000
set_option maxHeartbeats 2000000
section
variable (M : List MbM)
/-- How far the taking is. -/
structure TakI (M : List MbM) (L : List (Int × Int)) (out : List Int) (done : List Bool) (free : Int) : Prop where
  inv : Ord.Inv M L out.length done free
  rel : ∀ i (h : i < done.length), done[i] = decide ((i : Int) ∈ out)
theorem TakI.start {M : List MbM} {free : Int} (hf : 0 ≤ free ∧ free ≤ 1048576) : TakI M (Ord.takL M.length (List.replicate M.length false) free M) [] (List.replicate M.length false) free :=
  ⟨Ord.Inv.start M free hf.1 hf.2, fun i h => by simp⟩
theorem TakI.step {M : List MbM} (hr : ∀ m ∈ M, Acc.Right m.acc) {L : List (Int × Int)} {out : List Int} {done : List Bool} {free : Int} (h : TakI M L out done free) {k : Nat} (hk : k < M.length) (hnin : (k : Int) ∉ out) (hneed : Acc.need (M[k]).acc ≤ free) (hlo : ∀ (j : Nat) (h : j < (done.zip M).length), j < k → Ord.pz free (done.zip M)[j] = false) :
    TakI M L (out ++ [(k : Int)]) (done.set k true) (free + (M[k]).acc.held) := by
  have hd := h.inv.len
  have hdk : done[k]'(by omega) = false := by rw [h.rel]; exact decide_eq_false hnin
  have hnx : Ord.nx done free M = k := Ord.nx_at hd hk (by rw [hdk]; rfl) hneed hlo
  obtain ⟨i, hi, h1, h2, h3, h4, h5, h6⟩ := h.inv.step hr (by rw [hnx]; omega)
  obtain rfl : k = i := by have := hnx.symm.trans h1; omega
  refine ⟨by rw [List.length_append]; exact h6, fun j hj => ?_⟩
  rw [List.getElem_set]
  split
  · rename_i e; subst e; simp
  · rename_i e
    rw [h.rel j (by rw [List.length_set] at hj; exact hj), decide_eq_decide]
    simp only [List.mem_append, List.mem_singleton]
    constructor
    · exact .inl
    · rintro (h | h)
      · exact h
      · exfalso; omega
end
section
variable (tk : Int) (ac aw am ap al : Option Addr) (kc kw km kp kl cc cw cm cp cl : Nat) (C : List ChunkM) (M : List MbM) (T : List TickM)
theorem many_le (l : List ChunkM) (p : Int) : Audit.many l p ≤ l.length := List.length_filter_le _ _
theorem sound_unsafe (setup : Array Value) (hsc : ∃ n z u l : Int, setup = #[.int .i64 n, .int .i64 z, .int .i64 u, .int .i64 l]) (hC : C.length ≤ 100000) (hM : M.length ≤ 100000) (hr : ∀ m ∈ M, Acc.Right m.acc) (w : World) (F : List HProp) [hr1 : Reads F (.slice ac kc cc) chunkCells 3 C] [hr2 : Reads F (.slice am km cm) encMb 4 M] (hw : holds w F) :
    Ct Try.prog 77 #[.agg setup, .agg (st5 tk ac aw am ap al kc kw km kp kl cc cw cm cp cl)] w fun e w' => e = .returned (.bool (!Ord.safe M (Audit.many C 0 + Audit.many C 2 + Audit.many C 3))) ∧ holds w' F := by
  obtain ⟨n, z, u, l, rfl⟩ := hsc
  refine Ct.go (args := [.agg #[.int .i64 n, .int .i64 z, .int .i64 u, .int .i64 l], .agg (st5 tk ac aw am ap al kc kw km kp kl cc cw cm cp cl)]) Try.func77 rfl rfl rfl hw ?_
  have h0 := many_le C 0
  have h2 := many_le C 2
  have h3 := many_le C 3
  have CM : ∀ (w : World) (F : List HProp) [Reads F (.slice ac kc cc) chunkCells 3 C] (hw : holds w F), Ct Try.prog 109 #[.slice ac kc cc] w fun e w' => e = .returned (.agg #[.int .i64 (Audit.many C 0 : Nat), .int .i64 (Audit.many C 1 : Nat), .int .i64 (Audit.many C 2 : Nat), .int .i64 (Audit.many C 3 : Nat)]) ∧ holds w' F := fun w F _ hw => aud_Many (.slice ac kc cc) C w F (by omega) hw
  generalize Audit.many C 0 = m0 at *
  generalize Audit.many C 1 = m1 at *
  generalize Audit.many C 2 = m2 at *
  generalize Audit.many C 3 = m3 at *
  repeat' (first | (first | (apply GL.isBox; first | refine GL.boxA rfl rfl (fun bx => ?_)) | (apply GL.isCall; refine GL.call1 rfl rfl (fun w h => CM w _ h) ?_) | (apply GL.isCall; refine GL.call1 rfl rfl (fun w h => order_Safe _ M hr (m0 + m2 + m3) (by omega) (by omega) (by omega) w _ h) ?_)) | first | (apply GL.isAny; first | refine GL.runA rfl ?_ | (apply GL.isStore; first | refine GL.storeBlk rfl rfl rfl rfl rfl ?_ | refine GL.storeWhole rfl rfl rfl rfl rfl ?_ | refine GL.storeBlkA rfl rfl rfl rfl rfl ?_) | refine GL.guardY rfl rfl ?_ | refine GL.guardN rfl rfl rfl ?_ | refine GL.guardU rfl rfl rfl ?_ | (apply GL.isBox; first | refine GL.boxA rfl rfl (fun _ => ?_) | refine GL.box1 rfl rfl rfl (fun _ => ?_) | refine GL.box rfl rfl (fun _ => ?_)) | (apply GL.isBuildS; first | refine GL.buildSlice1A rfl rfl rfl rfl rfl (fun _ => ?_) | refine GL.buildSlice1 rfl rfl rfl rfl rfl (fun _ => ?_)) | (apply GL.isCall; refine GL.append1 _ rfl rfl rfl rfl (by rfl) (by omega) (by omega) rfl (fun _ => ?_)) | (apply GL.isAlloc; refine GL.alloc rfl (fun _ => ?_))) | apply GL.nil | first | apply G.seq | apply G.region | apply G.block | apply G.skip | apply G.exit | apply G.ret | (apply G.isCond; first | refine G.condT rfl ?_ | refine G.condF rfl ?_) | refine G.draw (by kernel_rfl) (by kernel_rfl) ?_ | (apply GE.isAny; first | apply GE.again | apply GE.thenG | apply GE.blockN | apply GE.blockE | apply GE.thenE | apply GE.thenR | apply GE.blockR | refine GE.blockO rfl ?_ | apply GE.only) | (apply GD.isAny; first | refine GD.runA rfl ?_ | refine GD.guardY rfl rfl ?_ | refine GD.guardN rfl rfl rfl ?_ | refine GD.guardU rfl rfl rfl ?_) | apply GD.nilE | apply GD.nilL | (apply GT.isAny; refine GT.runA rfl rfl ?_) | ((first | (apply GL.isAny; refine GL.guard rfl rfl (fun hc => ?_) (fun hc => ?_)) | (apply G.isCond; refine G.cond rfl (fun hc => ?_) (fun hc => ?_)) | (apply GD.isAny; refine GD.guard rfl rfl (fun hc => ?_) (fun hc => ?_))) <;> ((try simp only [decide_eq_true_eq, decide_eq_false_iff_not, Bool.not_true, Bool.not_false, ne_eq, Classical.not_not, Int.not_lt, Int.not_le] at hc); (try (exfalso; first | omega | exact hc trivial | exact hc rfl)))))
  refine GE.resOne rfl (by (repeat (first | apply Res.nil | (apply Res.tmp; rfl) | (refine Res.cellA rfl rfl rfl ?_) | (refine Res.cell1 rfl rfl ?_)))) (fun w h => ?_); exact ⟨rfl, h.sub⟩
end
end Go.Proofs.Ytfiggkbclldccaa

/- Tickets of a state by the reference: the walk. -/
namespace Go.Proofs.Ytfiggkbclldccaa
open Go Go.RowKit Go.MapKept
set_option linter.unusedVariables false
set_option linter.unusedSimpArgs false
set_option maxRecDepth 100000
set_option maxHeartbeats 2000000
namespace Snd
end Snd
section
variable (tk : Int) (ac aw am ap al : Option Addr) (kc kw km kp kl cc cw cm cp cl : Nat) (M : List MbM) (T : List TickM)
end
end Go.Proofs.Ytfiggkbclldccaa
