/- The audit's walks in the new road; members of a state. -/
import Derived.Test.YtfiggkbclldccaaSdA
import Derived.Test.YtfiggkbclldccaaGoOld
import Derived.Test.YtfiggkbclldccaaAuditG
import Derived.Test.YtfiggkbclldccaaAuditF
namespace Go.Proofs.Ytfiggkbclldccaa
open Go Go.RowKit Go.MapKept
set_option linter.unusedVariables false
set_option linter.unusedSimpArgs false
set_option maxRecDepth 100000
set_option maxHeartbeats 2000000

instance : Enc chunkCells 3 := ⟨fun _ => rfl, fun _ => by simp [chunkCells, Value.oneCell'], by omega⟩
theorem rows_ints (v : Value) (l : List Int) : rows encI1 1 v l = roInts v l := by unfold rows roInts ints; rw [flat_ints]
theorem ownI_owns (v : Value) (l : List Int) : ownInts v l = owns 3 encI1 1 v l := by rw [owns_ints]; rfl
section
variable {v vw : Value} {C : List ChunkM} {q : List Int} {w : World} {F : List HProp}
theorem heldC [h1 : Reads F v chunkCells 3 C] (hw : holds w F) : holds w (roChunks v C :: [allOf w]) := Reads.held (v := v) hw (holds.start w)
theorem heldCQ [h1 : Reads F v chunkCells 3 C] [h2 : Reads F vw encI1 1 q] (hw : holds w F) : holds w (roChunks v C :: roInts vw q :: [allOf w]) := by
  have g1 := Reads.held (v := vw) hw (holds.start w)
  have g2 := Reads.held (v := v) hw (L := [rows encI1 1 vw q]) g1.sub
  rw [rows_ints] at g2
  exact (show holds w (roChunks v C :: allOf w :: roInts vw q :: []) from g2).sub
end
section
variable (v vw : Value) (C : List ChunkM) (q : List Int) (w : World) (F : List HProp)
theorem aud_Sound (hl : C.length ≤ 1000000) (hq : q.length ≤ 1000000) [Reads F v chunkCells 3 C] [Reads F vw encI1 1 q] (hw : holds w F) :
    Ct Try.prog 99 #[v, vw] w fun e w' => e = .returned (.bool (Audit.sound C q)) ∧ holds w' F := ⟨(audit_Sound v vw C q w [allOf w] hl hq (heldCQ hw)).mono fun e w' ⟨he, h⟩ => ⟨he, hw.back0 h.sub⟩⟩
theorem r20_Sound (hl : C.length ≤ 1000000) (hq : q.length ≤ 1000000) [Reads F v chunkCells 3 C] [Reads F vw encI1 1 q] (hw : holds w F) :
    Ct Try.prog 35 #[v, vw] w fun e w' => e = .returned (.bool (Audit.refSound C q)) ∧ holds w' F := ⟨(ref20_Sound v vw C q w [allOf w] hl hq (heldCQ hw)).mono fun e w' ⟨he, h⟩ => ⟨he, hw.back0 h.sub⟩⟩
theorem aud_Held (o : Int) (hl : C.length ≤ 1000000) [Reads F v chunkCells 3 C] (hw : holds w F) :
    Ct Try.prog 101 #[v, .int .i64 o] w fun e w' => e = .returned (.int .i64 (Audit.held C o)) ∧ holds w' F := ⟨(audit_Held v C o w [allOf w] hl (heldC hw)).mono fun e w' ⟨he, h⟩ => ⟨he, hw.back0 h.sub⟩⟩
theorem r20_Held (o : Int) (hl : C.length ≤ 1000000) [Reads F v chunkCells 3 C] (hw : holds w F) :
    Ct Try.prog 66 #[v, .int .i64 o] w fun e w' => e = .returned (.int .i64 (Audit.held C o : Nat)) ∧ holds w' F := ⟨(ref20_Held v C o w [allOf w] hl (heldC hw)).mono fun e w' ⟨he, h⟩ => ⟨he, hw.back0 h.sub⟩⟩
theorem aud_Many (hl : C.length ≤ 1000000) [Reads F v chunkCells 3 C] (hw : holds w F) :
    Ct Try.prog 109 #[v] w fun e w' => e = .returned (.agg (manyCells C)) ∧ holds w' F := ⟨(audit_Many v C w [allOf w] hl (heldC hw)).mono fun e w' ⟨he, h⟩ => ⟨he, hw.back0 h.sub⟩⟩
theorem r20_Many (hl : C.length ≤ 1000000) [Reads F v chunkCells 3 C] (hw : holds w F) :
    Ct Try.prog 38 #[v] w fun e w' => e = .returned (.agg (manyCells C)) ∧ holds w' F := ⟨(ref20_Many v C w [allOf w] hl (heldC hw)).mono fun e w' ⟨he, h⟩ => ⟨he, hw.back0 h.sub⟩⟩
theorem aud_Owners (hl : C.length ≤ 1000000) (hwf : ∀ c ∈ C, (Lit.int .i64 c.owner).wf = true) [Reads F v chunkCells 3 C] (hw : holds w F) :
    Ct Try.prog 105 #[v] w fun e w' => ∃ v' : Value, e = .returned v' ∧ holds w' (owns 3 encI1 1 v' (sortInts (alKeys (Audit.counts C))) :: F) := ⟨(audit_OwnersO v C w [allOf w] hl hwf (heldC hw)).mono fun e w' ⟨v', he, h⟩ => ⟨v', he, by rw [← ownI_owns]; exact hw.back1 h.sub⟩⟩
theorem r20_Owners (hl : C.length ≤ 1000000) [Reads F v chunkCells 3 C] (hw : holds w F) :
    Ct Try.prog 67 #[v] w fun e w' => ∃ r : {r : Value × List Int // (∀ x, x ∈ r.2 ↔ x ∈ owners C ∧ 0 < x) ∧ r.2.length ≤ maxLen}, e = .returned r.1.1 ∧ holds w' (owns 3 encI1 1 r.1.1 r.1.2 :: F) := ⟨(ref20_OwnersO v C w [allOf w] hl (heldC hw)).mono fun e w' ⟨v', he, o, ho, h⟩ => ⟨⟨(v', o), ho.2, by
  obtain ⟨_, h1⟩ := holds.open_own h
  rcases h1 with ⟨_, h2, _⟩ | ⟨g, cap, cur, _, h2, h3, _⟩
  · dsimp only; omega
  · dsimp only; omega⟩, he, by rw [← ownI_owns]; exact hw.back1 h.sub⟩⟩
end
theorem wfi_le {x : Int} (h : (Lit.int .i64 x).wf = true) : -9223372036854775808 ≤ x ∧ x ≤ 9223372036854775807 := by
  simpa [Lit.wf, IntKind.min, IntKind.max, IntKind.signed, IntKind.bits] using h
theorem sortInts_len (l : List Int) : (sortInts l).length = l.length := (List.mergeSort_perm l _).length_eq
namespace Snd
def hasMb (M : List MbM) (id : Int) : Bool := M.any fun m => decide (m.id = id)
theorem any_idx {α : Type} {p : α → Bool} {l : List α} {r : Int} (h : IsIdx p l r) : (l.any p = decide (0 ≤ r)) ∧ (r = -1 ∨ (0 ≤ r ∧ r < l.length)) := by
  rcases h with ⟨rfl, hn⟩ | ⟨i, hi, rfl, hp, hn⟩
  · refine ⟨?_, .inl rfl⟩
    rw [decide_eq_false (by omega)]
    exact List.any_eq_false.2 fun x hx => by rw [hn x hx]; simp
  · refine ⟨?_, .inr ⟨by omega, by omega⟩⟩
    rw [decide_eq_true (by omega)]
    exact List.any_eq_true.2 ⟨l[i], List.getElem_mem hi, hp⟩
/-- Is a member wrong, of those behind one of the ID last? -/
def mbad (C : List ChunkM) : Int → List MbM → Bool
  | _, [] => false
  | last, m :: r => (decide (m.id ≤ last) || decide (64 ≤ m.id) || !decide (Acc.Right m.acc) || !decide ((Audit.held C (m.id + 1) : Int) = m.acc.held)) || mbad C m.id r
theorem mb1 {a b c d e : Bool} (h : a = true ∨ b = true ∨ c = true ∨ d = true) : (a || b || c || d || e) = true := by rcases h with rfl | rfl | rfl | rfl <;> simp
theorem mb0 {a b c d e : Bool} (h : a = false ∧ b = false ∧ c = false ∧ d = false) : (a || b || c || d || e) = e := by obtain ⟨rfl, rfl, rfl, rfl⟩ := h; rfl
def stranger (C : List ChunkM) (M : List MbM) : Bool := (owners C).any fun o => decide (0 < o) && !hasMb M (o - 1)
def members (C : List ChunkM) (M : List MbM) : Bool := mbad C (-1) M || stranger C M
theorem stranger_of {C : List ChunkM} {M : List MbM} {l : List Int} (h : ∀ x, x ∈ l ↔ x ∈ owners C ∧ 0 < x) : l.any (fun o => !hasMb M (o - 1)) = stranger C M := by
  rw [Bool.eq_iff_iff]
  unfold stranger
  rw [List.any_eq_true, List.any_eq_true]
  constructor
  · rintro ⟨x, hx, h2⟩
    obtain ⟨h3, h4⟩ := (h x).1 hx
    exact ⟨x, h3, by rw [decide_eq_true h4, h2]; rfl⟩
  · rintro ⟨x, hx, h2⟩
    simp only [Bool.and_eq_true, decide_eq_true_eq] at h2
    exact ⟨x, (h x).2 ⟨hx, h2.1⟩, h2.2⟩
end Snd
/-- What a state's value holds. -/
abbrev stV (tk : Int) (vc vw vm vp vl : Value) : Array Value := #[.int .i64 tk, vc, vw, vm, vp, vl]
section
variable (tk : Int) (vc vw vm vp vl : Value) (M : List MbM)
theorem sound_find1 (b : Nat) (id : Int) (m : MbM) (w : World) (F : List HProp) [SeesBlk F b #[.int .i64 id]] (hw : holds w F) :
    Ct Try.prog 125 #[.agg (encMb m).toArray, .pointer (some ⟨b, 0, none⟩)] w fun e w' => e = .returned (.bool (decide (m.id = id))) ∧ holds w' F := by
  refine Ct.go (args := [.agg (encMb m).toArray, .pointer (some ⟨b, 0, none⟩)]) Try.func125 rfl rfl rfl hw ?_
  repeat' (first | (apply GL.isAny; first | refine GL.runA rfl ?_ | (apply GL.isStore; first | refine GL.storeBlk rfl rfl rfl rfl rfl ?_ | refine GL.storeWhole rfl rfl rfl rfl rfl ?_ | refine GL.storeBlkA rfl rfl rfl rfl rfl ?_) | refine GL.guardY rfl rfl ?_ | refine GL.guardN rfl rfl rfl ?_ | refine GL.guardU rfl rfl rfl ?_ | (apply GL.isBox; first | refine GL.boxA rfl rfl (fun _ => ?_) | refine GL.box1 rfl rfl rfl (fun _ => ?_) | refine GL.box rfl rfl (fun _ => ?_)) | (apply GL.isBuildS; first | refine GL.buildSlice1A rfl rfl rfl rfl rfl (fun _ => ?_) | refine GL.buildSlice1 rfl rfl rfl rfl rfl (fun _ => ?_)) | (apply GL.isCall; refine GL.append1 _ rfl rfl rfl rfl (by rfl) (by omega) (by omega) rfl (fun _ => ?_)) | (apply GL.isAlloc; refine GL.alloc rfl (fun _ => ?_))) | apply GL.nil | first | apply G.seq | apply G.region | apply G.block | apply G.skip | apply G.exit | apply G.ret | (apply G.isCond; first | refine G.condT rfl ?_ | refine G.condF rfl ?_) | refine G.draw (by kernel_rfl) (by kernel_rfl) ?_ | (apply GE.isAny; first | apply GE.again | apply GE.thenG | apply GE.blockN | apply GE.blockE | apply GE.thenE | apply GE.thenR | apply GE.blockR | refine GE.blockO rfl ?_ | apply GE.only) | (apply GD.isAny; first | refine GD.runA rfl ?_ | refine GD.guardY rfl rfl ?_ | refine GD.guardN rfl rfl rfl ?_ | refine GD.guardU rfl rfl rfl ?_) | apply GD.nilE | apply GD.nilL | (apply GT.isAny; refine GT.runA rfl rfl ?_) | ((first | (apply GL.isAny; refine GL.guard rfl rfl (fun hc => ?_) (fun hc => ?_)) | (apply G.isCond; refine G.cond rfl (fun hc => ?_) (fun hc => ?_)) | (apply GD.isAny; refine GD.guard rfl rfl (fun hc => ?_) (fun hc => ?_))) <;> ((try simp only [decide_eq_true_eq, decide_eq_false_iff_not, Bool.not_true, Bool.not_false, ne_eq, Classical.not_not, Int.not_lt, Int.not_le] at hc); (try (exfalso; first | omega | exact hc trivial | exact hc rfl)))))
  refine GE.resOne rfl (by (repeat (first | apply Res.nil | (apply Res.tmp; rfl) | (refine Res.cellA rfl rfl rfl ?_) | (refine Res.cell1 rfl rfl ?_)))) (fun w h => ?_)
  exact ⟨rfl, h.sub⟩
theorem sound_find (hn : M.length ≤ 1000000) (hs : ∀ u ∈ [vc, vw, vm, vp, vl], ∃ a k c, u = .slice a k c) (id : Int) (w : World) (F : List HProp) [hr : Reads F vm encMb 4 M] (hw : holds w F) :
    Ct Try.prog 103 #[.agg (stV tk vc vw vm vp vl), .int .i64 id] w fun e w' => ∃ p : {p : Option Addr // p.isNone = !Snd.hasMb M id}, e = .returned (.pointer p.1) ∧ holds w' F := by
  obtain ⟨ac, kc, cc, rfl⟩ := hs vc (by simp)
  obtain ⟨aw, kw, cw, rfl⟩ := hs vw (by simp)
  obtain ⟨am, cm, rfl, _⟩ := (hr.at_ w hw).form
  obtain ⟨ap, kp, cp, rfl⟩ := hs vp (by simp)
  obtain ⟨al, kl, cl, rfl⟩ := hs vl (by simp)
  refine Ct.go (args := [.agg (stV tk (.slice ac kc cc) (.slice aw kw cw) (.slice am M.length cm) (.slice ap kp cp) (.slice al kl cl)), .int .i64 id]) Try.func103 rfl rfl rfl hw ?_
  repeat' (first | (first | (apply GL.isBox; first | refine GL.boxA rfl rfl (fun bs => ?_) | refine GL.box1 rfl rfl rfl (fun bi => ?_))) | first | (apply GL.isAny; first | refine GL.runA rfl ?_ | (apply GL.isStore; first | refine GL.storeBlk rfl rfl rfl rfl rfl ?_ | refine GL.storeWhole rfl rfl rfl rfl rfl ?_ | refine GL.storeBlkA rfl rfl rfl rfl rfl ?_) | refine GL.guardY rfl rfl ?_ | refine GL.guardN rfl rfl rfl ?_ | refine GL.guardU rfl rfl rfl ?_ | (apply GL.isBox; first | refine GL.boxA rfl rfl (fun _ => ?_) | refine GL.box1 rfl rfl rfl (fun _ => ?_) | refine GL.box rfl rfl (fun _ => ?_)) | (apply GL.isBuildS; first | refine GL.buildSlice1A rfl rfl rfl rfl rfl (fun _ => ?_) | refine GL.buildSlice1 rfl rfl rfl rfl rfl (fun _ => ?_)) | (apply GL.isCall; refine GL.append1 _ rfl rfl rfl rfl (by rfl) (by omega) (by omega) rfl (fun _ => ?_)) | (apply GL.isAlloc; refine GL.alloc rfl (fun _ => ?_))) | apply GL.nil | first | apply G.seq | apply G.region | apply G.block | apply G.skip | apply G.exit | apply G.ret | (apply G.isCond; first | refine G.condT rfl ?_ | refine G.condF rfl ?_) | refine G.draw (by kernel_rfl) (by kernel_rfl) ?_ | (apply GE.isAny; first | apply GE.again | apply GE.thenG | apply GE.blockN | apply GE.blockE | apply GE.thenE | apply GE.thenR | apply GE.blockR | refine GE.blockO rfl ?_ | apply GE.only) | (apply GD.isAny; first | refine GD.runA rfl ?_ | refine GD.guardY rfl rfl ?_ | refine GD.guardN rfl rfl rfl ?_ | refine GD.guardU rfl rfl rfl ?_) | apply GD.nilE | apply GD.nilL | (apply GT.isAny; refine GT.runA rfl rfl ?_) | ((first | (apply GL.isAny; refine GL.guard rfl rfl (fun hc => ?_) (fun hc => ?_)) | (apply G.isCond; refine G.cond rfl (fun hc => ?_) (fun hc => ?_)) | (apply GD.isAny; refine GD.guard rfl rfl (fun hc => ?_) (fun hc => ?_))) <;> ((try simp only [decide_eq_true_eq, decide_eq_false_iff_not, Bool.not_true, Bool.not_false, ne_eq, Classical.not_not, Int.not_lt, Int.not_le] at hc); (try (exfalso; first | omega | exact hc trivial | exact hc rfl)))))
  refine GL.call (vs := [.slice am M.length cm, .func (.func 125) #[] #[.pointer (some ⟨bi, 0, none⟩)]]) rfl rfl (fun w h => ctIndexFunc61 (enc := encMb) (.slice am M.length cm) M (fun m => decide (m.id = id)) 125 [] [.pointer (some ⟨bi, 0, none⟩)] (by omega) w _ (fun m hm w h => sound_find1 bi id m w _ h) h) (fun r => ?_)
  obtain ⟨r, hri⟩ := r
  dsimp only
  obtain ⟨g1, g2⟩ := Snd.any_idx hri
  repeat' (first | (apply GL.isAny; first | refine GL.runA rfl ?_ | (apply GL.isStore; first | refine GL.storeBlk rfl rfl rfl rfl rfl ?_ | refine GL.storeWhole rfl rfl rfl rfl rfl ?_ | refine GL.storeBlkA rfl rfl rfl rfl rfl ?_) | refine GL.guardY rfl rfl ?_ | refine GL.guardN rfl rfl rfl ?_ | refine GL.guardU rfl rfl rfl ?_ | (apply GL.isBox; first | refine GL.boxA rfl rfl (fun _ => ?_) | refine GL.box1 rfl rfl rfl (fun _ => ?_) | refine GL.box rfl rfl (fun _ => ?_)) | (apply GL.isBuildS; first | refine GL.buildSlice1A rfl rfl rfl rfl rfl (fun _ => ?_) | refine GL.buildSlice1 rfl rfl rfl rfl rfl (fun _ => ?_)) | (apply GL.isCall; refine GL.append1 _ rfl rfl rfl rfl (by rfl) (by omega) (by omega) rfl (fun _ => ?_)) | (apply GL.isAlloc; refine GL.alloc rfl (fun _ => ?_))) | apply GL.nil | first | apply G.seq | apply G.region | apply G.block | apply G.skip | apply G.exit | apply G.ret | (apply G.isCond; first | refine G.condT rfl ?_ | refine G.condF rfl ?_) | refine G.draw (by kernel_rfl) (by kernel_rfl) ?_ | (apply GE.isAny; first | apply GE.again | apply GE.thenG | apply GE.blockN | apply GE.blockE | apply GE.thenE | apply GE.thenR | apply GE.blockR | refine GE.blockO rfl ?_ | apply GE.only) | (apply GD.isAny; first | refine GD.runA rfl ?_ | refine GD.guardY rfl rfl ?_ | refine GD.guardN rfl rfl rfl ?_ | refine GD.guardU rfl rfl rfl ?_) | apply GD.nilE | apply GD.nilL | (apply GT.isAny; refine GT.runA rfl rfl ?_) | ((first | (apply GL.isAny; refine GL.guard rfl rfl (fun hc => ?_) (fun hc => ?_)) | (apply G.isCond; refine G.cond rfl (fun hc => ?_) (fun hc => ?_)) | (apply GD.isAny; refine GD.guard rfl rfl (fun hc => ?_) (fun hc => ?_))) <;> ((try simp only [decide_eq_true_eq, decide_eq_false_iff_not, Bool.not_true, Bool.not_false, ne_eq, Classical.not_not, Int.not_lt, Int.not_le] at hc); (try (exfalso; first | omega | exact hc trivial | exact hc rfl)))))
  · refine GE.resOne rfl (by (repeat (first | apply Res.nil | (apply Res.tmp; rfl) | (refine Res.cellA rfl rfl rfl ?_) | (refine Res.cell1 rfl rfl ?_)))) (fun w h => ?_)
    exact ⟨⟨none, by unfold Snd.hasMb; rw [g1, decide_eq_false (by omega)]; rfl⟩, rfl, h.sub⟩
  · rcases g2 with g2 | g2
    · exfalso; omega
    · repeat' (first | ((apply GL.isAny; refine GL.run (by apply Runs.isIndexA; exact Runs.indexAddrI rfl rfl rfl (by omega) (by omega)) rfl ?_)) | first | (apply GL.isAny; first | refine GL.runA rfl ?_ | (apply GL.isStore; first | refine GL.storeBlk rfl rfl rfl rfl rfl ?_ | refine GL.storeWhole rfl rfl rfl rfl rfl ?_ | refine GL.storeBlkA rfl rfl rfl rfl rfl ?_) | refine GL.guardY rfl rfl ?_ | refine GL.guardN rfl rfl rfl ?_ | refine GL.guardU rfl rfl rfl ?_ | (apply GL.isBox; first | refine GL.boxA rfl rfl (fun _ => ?_) | refine GL.box1 rfl rfl rfl (fun _ => ?_) | refine GL.box rfl rfl (fun _ => ?_)) | (apply GL.isBuildS; first | refine GL.buildSlice1A rfl rfl rfl rfl rfl (fun _ => ?_) | refine GL.buildSlice1 rfl rfl rfl rfl rfl (fun _ => ?_)) | (apply GL.isCall; refine GL.append1 _ rfl rfl rfl rfl (by rfl) (by omega) (by omega) rfl (fun _ => ?_)) | (apply GL.isAlloc; refine GL.alloc rfl (fun _ => ?_))) | apply GL.nil | first | apply G.seq | apply G.region | apply G.block | apply G.skip | apply G.exit | apply G.ret | (apply G.isCond; first | refine G.condT rfl ?_ | refine G.condF rfl ?_) | refine G.draw (by kernel_rfl) (by kernel_rfl) ?_ | (apply GE.isAny; first | apply GE.again | apply GE.thenG | apply GE.blockN | apply GE.blockE | apply GE.thenE | apply GE.thenR | apply GE.blockR | refine GE.blockO rfl ?_ | apply GE.only) | (apply GD.isAny; first | refine GD.runA rfl ?_ | refine GD.guardY rfl rfl ?_ | refine GD.guardN rfl rfl rfl ?_ | refine GD.guardU rfl rfl rfl ?_) | apply GD.nilE | apply GD.nilL | (apply GT.isAny; refine GT.runA rfl rfl ?_) | ((first | (apply GL.isAny; refine GL.guard rfl rfl (fun hc => ?_) (fun hc => ?_)) | (apply G.isCond; refine G.cond rfl (fun hc => ?_) (fun hc => ?_)) | (apply GD.isAny; refine GD.guard rfl rfl (fun hc => ?_) (fun hc => ?_))) <;> ((try simp only [decide_eq_true_eq, decide_eq_false_iff_not, Bool.not_true, Bool.not_false, ne_eq, Classical.not_not, Int.not_lt, Int.not_le] at hc); (try (exfalso; first | omega | exact hc trivial | exact hc rfl)))))
      refine GE.resOne rfl (by (repeat (first | apply Res.nil | (apply Res.tmp; rfl) | (refine Res.cellA rfl rfl rfl ?_) | (refine Res.cell1 rfl rfl ?_)))) (fun w h => ?_)
      exact ⟨⟨some _, by unfold Snd.hasMb; rw [g1, decide_eq_true (by omega)]; rfl⟩, rfl, h.sub⟩
theorem sound_stranger (hn : M.length ≤ 1000000) (hs : ∀ u ∈ [vc, vw, vm, vp, vl], ∃ a k c, u = .slice a k c) (b : Nat) (o : Int) (ho : 1 ≤ o ∧ o ≤ 9223372036854775807) (w : World) (F : List HProp) [hr : Reads F vm encMb 4 M] [hb : SeesBlk F b (stV tk vc vw vm vp vl)] (hw : holds w F) :
    Ct Try.prog 102 #[.int .i64 o, .pointer (some ⟨b, 0, none⟩)] w fun e w' => e = .returned (.bool (!Snd.hasMb M (o - 1))) ∧ holds w' F := by
  refine Ct.go (args := [.int .i64 o, .pointer (some ⟨b, 0, none⟩)]) Try.func102 rfl rfl rfl hw ?_
  repeat' (first | ((apply GL.isCall; refine GL.call (vs := [.agg (stV tk vc vw vm vp vl), .int .i64 (o - 1)]) rfl rfl (fun w h => sound_find tk vc vw vm vp vl M hn hs (o - 1) w _ h) (fun p => ?_))) | first | (apply GL.isAny; first | refine GL.runA rfl ?_ | (apply GL.isStore; first | refine GL.storeBlk rfl rfl rfl rfl rfl ?_ | refine GL.storeWhole rfl rfl rfl rfl rfl ?_ | refine GL.storeBlkA rfl rfl rfl rfl rfl ?_) | refine GL.guardY rfl rfl ?_ | refine GL.guardN rfl rfl rfl ?_ | refine GL.guardU rfl rfl rfl ?_ | (apply GL.isBox; first | refine GL.boxA rfl rfl (fun _ => ?_) | refine GL.box1 rfl rfl rfl (fun _ => ?_) | refine GL.box rfl rfl (fun _ => ?_)) | (apply GL.isBuildS; first | refine GL.buildSlice1A rfl rfl rfl rfl rfl (fun _ => ?_) | refine GL.buildSlice1 rfl rfl rfl rfl rfl (fun _ => ?_)) | (apply GL.isCall; refine GL.append1 _ rfl rfl rfl rfl (by rfl) (by omega) (by omega) rfl (fun _ => ?_)) | (apply GL.isAlloc; refine GL.alloc rfl (fun _ => ?_))) | apply GL.nil | first | apply G.seq | apply G.region | apply G.block | apply G.skip | apply G.exit | apply G.ret | (apply G.isCond; first | refine G.condT rfl ?_ | refine G.condF rfl ?_) | refine G.draw (by kernel_rfl) (by kernel_rfl) ?_ | (apply GE.isAny; first | apply GE.again | apply GE.thenG | apply GE.blockN | apply GE.blockE | apply GE.thenE | apply GE.thenR | apply GE.blockR | refine GE.blockO rfl ?_ | apply GE.only) | (apply GD.isAny; first | refine GD.runA rfl ?_ | refine GD.guardY rfl rfl ?_ | refine GD.guardN rfl rfl rfl ?_ | refine GD.guardU rfl rfl rfl ?_) | apply GD.nilE | apply GD.nilL | (apply GT.isAny; refine GT.runA rfl rfl ?_) | ((first | (apply GL.isAny; refine GL.guard rfl rfl (fun hc => ?_) (fun hc => ?_)) | (apply G.isCond; refine G.cond rfl (fun hc => ?_) (fun hc => ?_)) | (apply GD.isAny; refine GD.guard rfl rfl (fun hc => ?_) (fun hc => ?_))) <;> ((try simp only [decide_eq_true_eq, decide_eq_false_iff_not, Bool.not_true, Bool.not_false, ne_eq, Classical.not_not, Int.not_lt, Int.not_le] at hc); (try (exfalso; first | omega | exact hc trivial | exact hc rfl)))))
  refine GE.resOne rfl (by (repeat (first | apply Res.nil | (apply Res.tmp; rfl) | (refine Res.cellA rfl rfl rfl ?_) | (refine Res.cell1 rfl rfl ?_)))) (fun w h => ?_)
  exact ⟨by rw [p.property], h.sub⟩
theorem sound_strangers (hn : M.length ≤ 1000000) (hs : ∀ u ∈ [vc, vw, vm, vp, vl], ∃ a k c, u = .slice a k c) (b : Nat) (vo : Value) (O : List Int) (hO : ∀ o ∈ O, 1 ≤ o ∧ o ≤ 9223372036854775807) (hl : O.length ≤ 1000000) (w : World) (F : List HProp) [hr : Reads F vm encMb 4 M] [hb : SeesBlk F b (stV tk vc vw vm vp vl)] [hv : Reads F vo encI1 1 O] (hw : holds w F) :
    Ct Try.prog 104 #[vo, .func (.func 102) #[] #[.pointer (some ⟨b, 0, none⟩)]] w fun e w' => e = .returned (.bool (O.any fun o => !Snd.hasMb M (o - 1))) ∧ holds w' F :=
  ctContainsFunc104 vo O (fun o => !Snd.hasMb M (o - 1)) 102 [] [.pointer (some ⟨b, 0, none⟩)] (by omega) w F (fun o ho w h => sound_stranger tk vc vw vm vp vl M hn hs b o (hO o ho) w F h) hw
end
section
variable (tk : Int) (ac aw am ap al : Option Addr) (kc kw km kp kl cc cw cm cp cl : Nat) (C : List ChunkM) (q : List Int) (M : List MbM)
/-- What of a state is bounded. -/
structure StOk (C : List ChunkM) (q : List Int) (M : List MbM) : Prop where
  c : C.length ≤ 100000
  q : q.length ≤ 100000
  m : M.length ≤ 100000
  wf : ∀ c ∈ C, (Lit.int .i64 c.owner).wf = true
  fit : ∀ m ∈ M, m.acc.Fits
theorem sl5 : ∀ u ∈ [Value.slice ac kc cc, .slice aw kw cw, .slice am km cm, .slice ap kp cp, .slice al kl cl], ∃ a k c, u = .slice a k c := by
  intro u hu
  simp only [List.mem_cons, List.not_mem_nil, or_false] at hu
  rcases hu with rfl | rfl | rfl | rfl | rfl <;> exact ⟨_, _, _, rfl⟩
abbrev st5 : Array Value := stV tk (.slice ac kc cc) (.slice aw kw cw) (.slice am km cm) (.slice ap kp cp) (.slice al kl cl)
theorem sound_members (setup : Array Value) (hsc : ∃ n z u l : Int, setup = #[.int .i64 n, .int .i64 z, .int .i64 u, .int .i64 l]) (h : StOk C q M) (w : World) (F : List HProp) [hr1 : Reads F (.slice ac kc cc) chunkCells 3 C] [hr2 : Reads F (.slice am km cm) encMb 4 M] (hw : holds w F) :
    Ct Try.prog 75 #[.agg setup, .agg (st5 tk ac aw am ap al kc kw km kp kl cc cw cm cp cl)] w fun e w' => e = .returned (.bool (Snd.members C M)) ∧ holds w' F := by
  obtain ⟨n, z, u, l, rfl⟩ := hsc
  refine Ct.go (args := [.agg #[.int .i64 n, .int .i64 z, .int .i64 u, .int .i64 l], .agg (st5 tk ac aw am ap al kc kw km kp kl cc cw cm cp cl)]) Try.func75 rfl rfl rfl hw ?_
  obtain ⟨hC, hq, hM, hwf, hfit⟩ := h
  have hkm : km = M.length := by obtain ⟨_, _, he, _⟩ := (hr2.at_ w hw).form; cases he; rfl
  subst hkm
  have hs5 := sl5 ac aw am ap al kc kw M.length kp kl cc cw cm cp cl
  repeat' (first | (first | (apply GL.isBox; first | refine GL.boxA rfl rfl (fun bx => ?_))) | first | (apply GL.isAny; first | refine GL.runA rfl ?_ | (apply GL.isStore; first | refine GL.storeBlk rfl rfl rfl rfl rfl ?_ | refine GL.storeWhole rfl rfl rfl rfl rfl ?_ | refine GL.storeBlkA rfl rfl rfl rfl rfl ?_) | refine GL.guardY rfl rfl ?_ | refine GL.guardN rfl rfl rfl ?_ | refine GL.guardU rfl rfl rfl ?_ | (apply GL.isBox; first | refine GL.boxA rfl rfl (fun _ => ?_) | refine GL.box1 rfl rfl rfl (fun _ => ?_) | refine GL.box rfl rfl (fun _ => ?_)) | (apply GL.isBuildS; first | refine GL.buildSlice1A rfl rfl rfl rfl rfl (fun _ => ?_) | refine GL.buildSlice1 rfl rfl rfl rfl rfl (fun _ => ?_)) | (apply GL.isCall; refine GL.append1 _ rfl rfl rfl rfl (by rfl) (by omega) (by omega) rfl (fun _ => ?_)) | (apply GL.isAlloc; refine GL.alloc rfl (fun _ => ?_))) | apply GL.nil | first | apply G.seq | apply G.region | apply G.block | apply G.skip | apply G.exit | apply G.ret | (apply G.isCond; first | refine G.condT rfl ?_ | refine G.condF rfl ?_) | refine G.draw (by kernel_rfl) (by kernel_rfl) ?_ | (apply GE.isAny; first | apply GE.again | apply GE.thenG | apply GE.blockN | apply GE.blockE | apply GE.thenE | apply GE.thenR | apply GE.blockR | refine GE.blockO rfl ?_ | apply GE.only) | (apply GD.isAny; first | refine GD.runA rfl ?_ | refine GD.guardY rfl rfl ?_ | refine GD.guardN rfl rfl rfl ?_ | refine GD.guardU rfl rfl rfl ?_) | apply GD.nilE | apply GD.nilL | (apply GT.isAny; refine GT.runA rfl rfl ?_) | ((first | (apply GL.isAny; refine GL.guard rfl rfl (fun hc => ?_) (fun hc => ?_)) | (apply G.isCond; refine G.cond rfl (fun hc => ?_) (fun hc => ?_)) | (apply GD.isAny; refine GD.guard rfl rfl (fun hc => ?_) (fun hc => ?_))) <;> ((try simp only [decide_eq_true_eq, decide_eq_false_iff_not, Bool.not_true, Bool.not_false, ne_eq, Classical.not_not, Int.not_lt, Int.not_le] at hc); (try (exfalso; first | omega | exact hc trivial | exact hc rfl)))))
  rename_i b2
  refine G.loopK [3, 10, 11] (Nat × Int) (fun y => [(12, .int .i64 y.1), (5, .int .i64 y.2)]) (fun y => blk bx (.cells (st5 tk ac aw am ap al kc kw M.length kp kl cc cw cm cp cl) 30 (0, 0)) :: F) (fun y => y.1 ≤ M.length ∧ -1 ≤ y.2 ∧ y.2 ≤ 63 ∧ Snd.mbad C (-1) M = Snd.mbad C y.2 (M.drop y.1)) (fun y => M.length - y.1) ((0, -1)) (⟨Nat.zero_le _, by dsimp only; omega, by dsimp only; omega, rfl⟩) (by repeat (first | exact trivial | refine And.intro rfl ?_)) (fun w h => by (try dsimp only); first | exact h | exact h.sub | ((try simp only [List.take_zero, List.drop_zero, List.map_nil, List.nil_append, List.zipIdx_nil, List.filter_nil]); exact h.sub)) ?_
  rintro ⟨k, last⟩ ⟨hk, hl0, hl1, hI⟩
  dsimp only at hk hl0 hl1 hI ⊢
  by_cases hlt : k < M.length
  · rw [List.drop_eq_getElem_cons hlt, Snd.mbad] at hI
    have hfk := hfit _ (List.getElem_mem hlt)
    have C1 := account_RightT (M[k]).acc hfk
    repeat' (first | (first | (apply GD.isAny; refine GD.call (vs := [.agg (encAcc (M[k]).acc).toArray]) rfl rfl (fun w F' h => C1 w _ h) ?_) | (apply GD.isAny; refine GD.call rfl rfl (fun w F' h => aud_Held _ C w _ ((M[k]).id + 1) (by omega) h) ?_)) | first | (apply GL.isAny; first | refine GL.runA rfl ?_ | (apply GL.isStore; first | refine GL.storeBlk rfl rfl rfl rfl rfl ?_ | refine GL.storeWhole rfl rfl rfl rfl rfl ?_ | refine GL.storeBlkA rfl rfl rfl rfl rfl ?_) | refine GL.guardY rfl rfl ?_ | refine GL.guardN rfl rfl rfl ?_ | refine GL.guardU rfl rfl rfl ?_ | (apply GL.isBox; first | refine GL.boxA rfl rfl (fun _ => ?_) | refine GL.box1 rfl rfl rfl (fun _ => ?_) | refine GL.box rfl rfl (fun _ => ?_)) | (apply GL.isBuildS; first | refine GL.buildSlice1A rfl rfl rfl rfl rfl (fun _ => ?_) | refine GL.buildSlice1 rfl rfl rfl rfl rfl (fun _ => ?_)) | (apply GL.isCall; refine GL.append1 _ rfl rfl rfl rfl (by rfl) (by omega) (by omega) rfl (fun _ => ?_)) | (apply GL.isAlloc; refine GL.alloc rfl (fun _ => ?_))) | apply GL.nil | first | apply G.seq | apply G.region | apply G.block | apply G.skip | apply G.exit | apply G.ret | (apply G.isCond; first | refine G.condT rfl ?_ | refine G.condF rfl ?_) | refine G.draw (by kernel_rfl) (by kernel_rfl) ?_ | (apply GE.isAny; first | apply GE.again | apply GE.thenG | apply GE.blockN | apply GE.blockE | apply GE.thenE | apply GE.thenR | apply GE.blockR | refine GE.blockO rfl ?_ | apply GE.only) | (apply GD.isAny; first | refine GD.runA rfl ?_ | refine GD.guardY rfl rfl ?_ | refine GD.guardN rfl rfl rfl ?_ | refine GD.guardU rfl rfl rfl ?_) | apply GD.nilE | apply GD.nilL | (apply GT.isAny; refine GT.runA rfl rfl ?_) | ((first | (apply GL.isAny; refine GL.guard rfl rfl (fun hc => ?_) (fun hc => ?_)) | (apply G.isCond; refine G.cond rfl (fun hc => ?_) (fun hc => ?_)) | (apply GD.isAny; refine GD.guard rfl rfl (fun hc => ?_) (fun hc => ?_))) <;> ((try simp only [decide_eq_true_eq, decide_eq_false_iff_not, Bool.not_true, Bool.not_false, ne_eq, Classical.not_not, Int.not_lt, Int.not_le] at hc); (try (exfalso; first | omega | exact hc trivial | exact hc rfl)))))
    all_goals (first | (exfalso; omega) | (refine GE.resOne rfl (by (repeat (first | apply Res.nil | (apply Res.tmp; rfl) | (refine Res.cellA rfl rfl rfl ?_) | (refine Res.cell1 rfl rfl ?_)))) (fun w h => ?_); refine ⟨?_, h.sub⟩; congr 2; unfold Snd.members; rw [hI.trans (Snd.mb1 (by first | exact .inl (decide_eq_true (by omega)) | exact .inr (.inl (decide_eq_true (by omega))) | exact .inr (.inr (.inl hc)) | exact .inr (.inr (.inr (by rw [decide_eq_false hc]; rfl)))))]; rfl) | skip)
    refine GE.round ((k + 1, (M[k]).id)) (⟨hlt, by dsimp only; omega, by dsimp only; omega, hI.trans (Snd.mb0 ⟨decide_eq_false (by omega), decide_eq_false (by omega), by assumption, by rw [decide_eq_true hc]; rfl⟩)⟩) (by repeat (first | exact trivial | refine And.intro rfl ?_)) (fun w h => by (try dsimp only); exact h.sub) (by (try dsimp only); omega)
  · rw [List.drop_eq_nil_of_le (by omega)] at hI
    have hmem : ∀ x, x ∈ sortInts (alKeys (Audit.counts C)) ↔ x ∈ owners C ∧ 0 < x := fun x => by rw [mem_sortInts, mem_counts]
    have hlen : (sortInts (alKeys (Audit.counts C))).length ≤ 1000000 := by have := counts_length C; rw [(sortInts_len _)]; unfold alKeys; rw [List.length_map]; omega
    have hgoal : Snd.members C M = (sortInts (alKeys (Audit.counts C))).any fun o => !Snd.hasMb M (o - 1) := by unfold Snd.members; rw [hI, Snd.stranger_of hmem]; rfl
    rw [hgoal]
    generalize hOeq : sortInts (alKeys (Audit.counts C)) = O at hmem hlen ⊢
    have hO : ∀ o ∈ O, 1 ≤ o ∧ o ≤ 9223372036854775807 := fun o ho => by
      obtain ⟨h1, h2⟩ := (hmem o).1 ho
      obtain ⟨c, hc, rfl⟩ := List.mem_map.1 h1
      have := wfi_le (hwf c hc)
      omega
    repeat' (first | (first | (apply GL.isCall; refine GL.call rfl rfl (fun w h => aud_Owners _ C w _ (by omega) hwf h) (fun vo => ?_); rw [hOeq]) | (apply GL.isCall; refine GL.call1 rfl rfl (fun w h => sound_strangers tk _ _ _ _ _ M (by omega) hs5 bx _ O hO hlen w _ h) ?_)) | first | (apply GL.isAny; first | refine GL.runA rfl ?_ | (apply GL.isStore; first | refine GL.storeBlk rfl rfl rfl rfl rfl ?_ | refine GL.storeWhole rfl rfl rfl rfl rfl ?_ | refine GL.storeBlkA rfl rfl rfl rfl rfl ?_) | refine GL.guardY rfl rfl ?_ | refine GL.guardN rfl rfl rfl ?_ | refine GL.guardU rfl rfl rfl ?_ | (apply GL.isBox; first | refine GL.boxA rfl rfl (fun _ => ?_) | refine GL.box1 rfl rfl rfl (fun _ => ?_) | refine GL.box rfl rfl (fun _ => ?_)) | (apply GL.isBuildS; first | refine GL.buildSlice1A rfl rfl rfl rfl rfl (fun _ => ?_) | refine GL.buildSlice1 rfl rfl rfl rfl rfl (fun _ => ?_)) | (apply GL.isCall; refine GL.append1 _ rfl rfl rfl rfl (by rfl) (by omega) (by omega) rfl (fun _ => ?_)) | (apply GL.isAlloc; refine GL.alloc rfl (fun _ => ?_))) | apply GL.nil | first | apply G.seq | apply G.region | apply G.block | apply G.skip | apply G.exit | apply G.ret | (apply G.isCond; first | refine G.condT rfl ?_ | refine G.condF rfl ?_) | refine G.draw (by kernel_rfl) (by kernel_rfl) ?_ | (apply GE.isAny; first | apply GE.again | apply GE.thenG | apply GE.blockN | apply GE.blockE | apply GE.thenE | apply GE.thenR | apply GE.blockR | refine GE.blockO rfl ?_ | apply GE.only) | (apply GD.isAny; first | refine GD.runA rfl ?_ | refine GD.guardY rfl rfl ?_ | refine GD.guardN rfl rfl rfl ?_ | refine GD.guardU rfl rfl rfl ?_) | apply GD.nilE | apply GD.nilL | (apply GT.isAny; refine GT.runA rfl rfl ?_) | ((first | (apply GL.isAny; refine GL.guard rfl rfl (fun hc => ?_) (fun hc => ?_)) | (apply G.isCond; refine G.cond rfl (fun hc => ?_) (fun hc => ?_)) | (apply GD.isAny; refine GD.guard rfl rfl (fun hc => ?_) (fun hc => ?_))) <;> ((try simp only [decide_eq_true_eq, decide_eq_false_iff_not, Bool.not_true, Bool.not_false, ne_eq, Classical.not_not, Int.not_lt, Int.not_le] at hc); (try (exfalso; first | omega | exact hc trivial | exact hc rfl)))))
    refine GE.resOne rfl (by (repeat (first | apply Res.nil | (apply Res.tmp; rfl) | (refine Res.cellA rfl rfl rfl ?_) | (refine Res.cell1 rfl rfl ?_)))) (fun w h => ?_); exact ⟨rfl, h.sub⟩
end
end Go.Proofs.Ytfiggkbclldccaa
