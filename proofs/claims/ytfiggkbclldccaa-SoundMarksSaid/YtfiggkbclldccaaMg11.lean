import Derived.Test.YtfiggkbclldccaaMg10

import Derived.Test.YtfiggkbclldccaaMg4
/- Pieces of a state: the walks. -/
namespace Go.Proofs.Ytfiggkbclldccaa
open Go Go.RowKit Go.MapKept
set_option linter.unusedVariables false
set_option linter.unusedSimpArgs false
set_option maxRecDepth 100000
set_option maxHeartbeats 2000000
section
variable {P : Program} {n : Nat} {env : Env} {F : List HProp}
theorem Runs.lookupOkS {β : Type} {t k e : TypeId} {x y : Operand} {b size bytes : Nat} {i : Int} {z : Value} {enc : β → Value} {m : List (Int × β)} {F' : List HProp} {u : β} [hm : MapT P t k e] [hk : IntT P k .i64] [hz : ZeroT P e z size bytes] (hx : opnd env x = some (.map (some b))) (hy : opnd env y = some (.int .i64 i)) [hr : HasMap F b enc m F'] (hg : alGet m i = some u) :
    Runs P n env F (.lookup t x y true) (.tuple #[enc u, .bool true]) := by
  have := Runs.lookupOk (P := P) (n := n) (t := t) hx hy (hr := hr)
  rw [hg] at this; exact this
theorem Runs.lookupOkN {β : Type} {t k e : TypeId} {x y : Operand} {b size bytes : Nat} {i : Int} {z : Value} {enc : β → Value} {m : List (Int × β)} {F' : List HProp} [hm : MapT P t k e] [hk : IntT P k .i64] [hz : ZeroT P e z size bytes] (hx : opnd env x = some (.map (some b))) (hy : opnd env y = some (.int .i64 i)) [hr : HasMap F b enc m F'] (hg : alGet m i = none) :
    Runs P n env F (.lookup t x y true) (.tuple #[z, .bool false]) := by
  have := Runs.lookupOk (P := P) (n := n) (t := t) hx hy (hr := hr)
  rw [hg] at this; exact this
end
namespace Snd
/-- Of a piece's own numbers: is it outside? -/
def Within (z : Int) (C : List ChunkM) (l : LaidM) : Prop := 0 ≤ l.chunk ∧ l.chunk < C.length ∧ 0 ≤ l.pos ∧ 1 ≤ l.len ∧ l.pos ≤ z ∧ l.len ≤ z - l.pos
instance (z : Int) (C : List ChunkM) (l : LaidM) : Decidable (Within z C l) := by unfold Within; infer_instance
def chk (C : List ChunkM) (l : LaidM) : ChunkM := C.getD l.chunk.toNat ⟨0, 0, 0⟩
def Good1 (z : Int) (C : List ChunkM) (l : LaidM) : Prop := Within z C l ∧ (chk C l).phase = 1 ∧ (chk C l).gen = l.gen
instance (z : Int) (C : List ChunkM) (l : LaidM) : Decidable (Good1 z C l) := by unfold Good1; infer_instance
def hits (x l : LaidM) : Bool := decide (x.chunk = l.chunk) && meets x.pos x.len l.pos l.len
def other (C : List ChunkM) (x l : LaidM) : Bool := decide (x.region = l.region) && !decide ((chk C x).owner = (chk C l).owner)
def pbad (z : Int) (C : List ChunkM) : List LaidM → List LaidM → Bool
  | _, [] => false
  | seen, l :: r => !decide (Good1 z C l) || (seen.any fun x => hits x l || other C x l) || pbad z C (seen ++ [l]) r
theorem chk_at {C : List ChunkM} {l : LaidM} {k : Nat} (hk : k < C.length) (h : l.chunk = k) : chk C l = C[k] := by
  unfold chk; rw [h, Int.toNat_natCast, List.getD, List.getElem?_eq_getElem hk]; rfl
/-- What the map of owners tells. -/
def MapOk (C : List ChunkM) (om : List (Int × Int)) (seen : List LaidM) : Prop := ∀ g, match alGet om g with
  | none => ∀ x ∈ seen, x.region ≠ g
  | some o => (∃ x ∈ seen, x.region = g) ∧ ∀ x ∈ seen, x.region = g → (chk C x).owner = o
theorem MapOk.next {C : List ChunkM} {om : List (Int × Int)} {seen : List LaidM} (h : MapOk C om seen) {l : LaidM} (ho : ∀ x ∈ seen, other C x l = false) : MapOk C (alSet om l.region (chk C l).owner) (seen ++ [l]) := fun g => by
  rw [alGet_set]
  by_cases hg : g = l.region
  · rw [if_pos hg]
    subst hg
    refine ⟨⟨l, by simp, rfl⟩, fun x hx hr => ?_⟩
    rcases List.mem_append.1 hx with hx | hx
    · have := ho x hx
      unfold other at this
      rw [decide_eq_true hr] at this
      simpa using this
    · rw [List.mem_singleton.1 hx]
  · rw [if_neg hg]
    have h1 := h g
    cases hm : alGet om g with
    | none =>
      rw [hm] at h1
      intro x hx
      rcases List.mem_append.1 hx with hx | hx
      · exact h1 x hx
      · rw [List.mem_singleton.1 hx]; exact fun e => hg e.symm
    | some o =>
      rw [hm] at h1
      obtain ⟨⟨y, hy, hyr⟩, h2⟩ := h1
      refine ⟨⟨y, by simp [hy], hyr⟩, fun x hx hr => ?_⟩
      rcases List.mem_append.1 hx with hx | hx
      · exact h2 x hx hr
      · rw [List.mem_singleton.1 hx] at hr; exact absurd hr.symm hg
theorem MapOk.free {C : List ChunkM} {om : List (Int × Int)} {seen : List LaidM} (h : MapOk C om seen) {l : LaidM} (ho : ∀ o, alGet om l.region = some o → o = (chk C l).owner) : ∀ x ∈ seen, other C x l = false := fun x hx => by
  have h1 := h l.region
  unfold other
  by_cases hr : x.region = l.region
  · cases hm : alGet om l.region with
    | none => rw [hm] at h1; exact absurd hr (h1 x hx)
    | some o =>
      rw [hm] at h1
      rw [h1.2 x hx hr, ho o hm]; simp
  · rw [decide_eq_false hr]; rfl
theorem MapOk.hit {C : List ChunkM} {om : List (Int × Int)} {seen : List LaidM} (h : MapOk C om seen) {l : LaidM} {o : Int} (hm : alGet om l.region = some o) (ho : ¬ o = (chk C l).owner) : (seen.any fun x => hits x l || other C x l) = true := by
  have h1 := h l.region
  rw [hm] at h1
  obtain ⟨⟨y, hy, hyr⟩, h2⟩ := h1
  refine List.any_eq_true.2 ⟨y, hy, ?_⟩
  unfold other
  rw [h2 y hy hyr, decide_eq_true hyr, decide_eq_false ho]
  simp
end Snd
section
variable (tk : Int) (ac aw am ap al : Option Addr) (kc kw km kp kl cc cw cm cp cl : Nat) (C : List ChunkM) (L : List LaidM)
theorem sound_pieces (n z u q : Int) (hz : R64 z) (hC : C.length ≤ 100000) (hL : L.length ≤ 100000) (w : World) (F : List HProp) [hr1 : Reads F (.slice ac kc cc) chunkCells 3 C] [hr2 : Reads F (.slice al kl cl) encLaid 5 L] (hw : holds w F) :
    Ct Try.prog 78 #[.agg #[.int .i64 n, .int .i64 z, .int .i64 u, .int .i64 q], .agg (st5 tk ac aw am ap al kc kw km kp kl cc cw cm cp cl)] w fun e w' => e = .returned (.bool (Snd.pbad z C [] L)) ∧ holds w' F := by
  refine Ct.go (args := [.agg #[.int .i64 n, .int .i64 z, .int .i64 u, .int .i64 q], .agg (st5 tk ac aw am ap al kc kw km kp kl cc cw cm cp cl)]) Try.func78 rfl rfl rfl hw ?_
  have hkl : kl = L.length := by obtain ⟨_, _, he, _⟩ := (hr2.at_ w hw).form; cases he; rfl
  subst hkl
  have hkc : kc = C.length := by obtain ⟨_, _, he, _⟩ := (hr1.at_ w hw).form; cases he; rfl
  subst hkc
  unfold R64 at hz
  repeat' (first | (first | first | apply G.scope | apply G.label | apply GE.nogN | apply GE.nogE | apply GE.nogR | (apply GL.isBox; first | refine GL.boxA rfl rfl (fun bx => ?_)) | (refine GL.makeMap encZ rfl (fun mb => ?_))) | first | (apply GL.isAny; first | refine GL.runA rfl ?_ | (apply GL.isStore; first | refine GL.storeBlk rfl rfl rfl rfl rfl ?_ | refine GL.storeWhole rfl rfl rfl rfl rfl ?_ | refine GL.storeBlkA rfl rfl rfl rfl rfl ?_) | refine GL.guardY rfl rfl ?_ | refine GL.guardN rfl rfl rfl ?_ | refine GL.guardU rfl rfl rfl ?_ | (apply GL.isBox; first | refine GL.boxA rfl rfl (fun _ => ?_) | refine GL.box1 rfl rfl rfl (fun _ => ?_) | refine GL.box rfl rfl (fun _ => ?_)) | (apply GL.isBuildS; first | refine GL.buildSlice1A rfl rfl rfl rfl rfl (fun _ => ?_) | refine GL.buildSlice1 rfl rfl rfl rfl rfl (fun _ => ?_)) | (apply GL.isCall; refine GL.append1 _ rfl rfl rfl rfl (by rfl) (by omega) (by omega) rfl (fun _ => ?_)) | (apply GL.isAlloc; refine GL.alloc rfl (fun _ => ?_))) | apply GL.nil | first | apply G.seq | apply G.region | apply G.block | apply G.skip | apply G.exit | apply G.ret | (apply G.isCond; first | refine G.condT rfl ?_ | refine G.condF rfl ?_) | refine G.draw (by kernel_rfl) (by kernel_rfl) ?_ | (apply GE.isAny; first | apply GE.again | apply GE.thenG | apply GE.blockN | apply GE.blockE | apply GE.thenE | apply GE.thenR | apply GE.blockR | refine GE.blockO rfl ?_ | apply GE.only) | (apply GD.isAny; first | refine GD.runA rfl ?_ | refine GD.guardY rfl rfl ?_ | refine GD.guardN rfl rfl rfl ?_ | refine GD.guardU rfl rfl rfl ?_) | apply GD.nilE | apply GD.nilL | (apply GT.isAny; refine GT.runA rfl rfl ?_) | ((first | (apply GL.isAny; refine GL.guard rfl rfl (fun hc => ?_) (fun hc => ?_)) | (apply G.isCond; refine G.cond rfl (fun hc => ?_) (fun hc => ?_)) | (apply GD.isAny; refine GD.guard rfl rfl (fun hc => ?_) (fun hc => ?_))) <;> ((try simp only [decide_eq_true_eq, decide_eq_false_iff_not, Bool.not_true, Bool.not_false, ne_eq, Classical.not_not, Int.not_lt, Int.not_le] at hc); (try (exfalso; first | omega | exact hc trivial | exact hc rfl)))))
  rename_i b2
  refine G.loopK [2, 3, 6, 16, 17] (Nat × List (Int × Int)) (fun y => [(18, .int .i64 y.1), (5, .bool false)]) (fun y => imap encZ mb y.2 :: blk b2 (.cells #[.int .i64 n, .int .i64 z, .int .i64 u, .int .i64 q] 23 (0, 0)) :: blk bx (.cells (st5 tk ac aw am ap al C.length kw km kp L.length cc cw cm cp cl) 30 (0, 0)) :: F) (fun y => y.1 ≤ L.length ∧ Snd.pbad z C [] L = Snd.pbad z C ((L.take y.1).drop 0) (L.drop y.1) ∧ Snd.MapOk C y.2 (L.take y.1) ∧ ∀ x ∈ L.take y.1, Snd.Good1 z C x) (fun y => L.length - y.1) ((0, [])) (⟨Nat.zero_le _, rfl, (fun g x hx => by simp at hx), (fun x hx => by simp at hx)⟩) (by repeat (first | exact trivial | refine And.intro rfl ?_)) (fun w h => by (try dsimp only); first | exact h | exact h.sub | ((try simp only [List.take_zero, List.drop_zero, List.map_nil, List.nil_append, List.zipIdx_nil, List.filter_nil]); exact h.sub)) ?_
  rintro ⟨k, om⟩ ⟨hk, hI, hM, hG⟩
  dsimp only at hk hI hM hG ⊢
  by_cases hlt : k < L.length
  · rw [List.drop_eq_getElem_cons hlt, Snd.pbad] at hI
    by_cases hW : Snd.Within z C L[k]
    · obtain ⟨w1, w2, w3, w4, w5, w6⟩ := id hW
      obtain ⟨c, hc0⟩ : ∃ c : Nat, (L[k]).chunk = c := ⟨(L[k]).chunk.toNat, by omega⟩
      have hck : c < C.length := by omega
      have hchk := Snd.chk_at hck hc0
      by_cases hGd : (C[c]).phase = 1 ∧ (C[c]).gen = (L[k]).gen
      · have hgood : Snd.Good1 z C L[k] := ⟨hW, by rw [hchk]; exact hGd.1, by rw [hchk]; exact hGd.2⟩
        rw [decide_eq_true hgood] at hI
        by_cases hown : ∀ o, alGet om (L[k]).region = some o → o = (Snd.chk C L[k]).owner
        · have hfree := hM.free hown
          have hnx := hM.next (l := L[k]) hfree
          obtain ⟨gd1, gd2⟩ := hGd
          rw [hchk] at hown
          cases hg : alGet om (L[k]).region
          all_goals (first | (have hoo := hown _ hg) | skip)
          all_goals (repeat' (first | (first | first | apply G.scope | apply G.label | apply GE.nogN | apply GE.nogE | apply GE.nogR | (apply GL.isAny; refine GL.run (by apply Runs.isIndexA; exact Runs.indexAddr (k := c) rfl rfl rfl hc0 hck) rfl ?_) | (apply GL.isAny; refine GL.run (by apply Runs.isLookup; first | exact Runs.lookupOkS rfl rfl (by assumption) | exact Runs.lookupOkN rfl rfl (by assumption)) rfl ?_) | (apply GL.isAny; refine GL.mapUpdate (enc := encZ) (C[c]).owner rfl rfl rfl rfl ?_) | (apply GL.isAny; apply GL.isAlloc; refine GL.alloc (d := 8) rfl (fun b8 => ?_))) | first | (apply GL.isAny; first | refine GL.runA rfl ?_ | (apply GL.isStore; first | refine GL.storeBlk rfl rfl rfl rfl rfl ?_ | refine GL.storeWhole rfl rfl rfl rfl rfl ?_ | refine GL.storeBlkA rfl rfl rfl rfl rfl ?_) | refine GL.guardY rfl rfl ?_ | refine GL.guardN rfl rfl rfl ?_ | refine GL.guardU rfl rfl rfl ?_ | (apply GL.isBox; first | refine GL.boxA rfl rfl (fun _ => ?_) | refine GL.box1 rfl rfl rfl (fun _ => ?_) | refine GL.box rfl rfl (fun _ => ?_)) | (apply GL.isBuildS; first | refine GL.buildSlice1A rfl rfl rfl rfl rfl (fun _ => ?_) | refine GL.buildSlice1 rfl rfl rfl rfl rfl (fun _ => ?_)) | (apply GL.isCall; refine GL.append1 _ rfl rfl rfl rfl (by rfl) (by omega) (by omega) rfl (fun _ => ?_)) | (apply GL.isAlloc; refine GL.alloc rfl (fun _ => ?_))) | apply GL.nil | first | apply G.seq | apply G.region | apply G.block | apply G.skip | apply G.exit | apply G.ret | (apply G.isCond; first | refine G.condT rfl ?_ | refine G.condF rfl ?_) | refine G.draw (by kernel_rfl) (by kernel_rfl) ?_ | (apply GE.isAny; first | apply GE.again | apply GE.thenG | apply GE.blockN | apply GE.blockE | apply GE.thenE | apply GE.thenR | apply GE.blockR | refine GE.blockO rfl ?_ | apply GE.only) | (apply GD.isAny; first | refine GD.runA rfl ?_ | refine GD.guardY rfl rfl ?_ | refine GD.guardN rfl rfl rfl ?_ | refine GD.guardU rfl rfl rfl ?_) | apply GD.nilE | apply GD.nilL | (apply GT.isAny; refine GT.runA rfl rfl ?_) | ((first | (apply GL.isAny; refine GL.guard rfl rfl (fun hc => ?_) (fun hc => ?_)) | (apply G.isCond; refine G.cond rfl (fun hc => ?_) (fun hc => ?_)) | (apply GD.isAny; refine GD.guard rfl rfl (fun hc => ?_) (fun hc => ?_))) <;> ((try simp only [decide_eq_true_eq, decide_eq_false_iff_not, Bool.not_true, Bool.not_false, ne_eq, Classical.not_not, Int.not_lt, Int.not_le] at hc); (try (exfalso; first | omega | exact hc trivial | exact hc rfl))))))
          all_goals (first | (exfalso; omega) | skip)
          all_goals (
            have hSl : ((L.take k).drop 0).length ≤ 100000 := by rw [List.drop_zero, List.length_take]; omega
            refine G.sub (e := [(103, .int .i64 0), (5, .bool false), (2, .pointer (some ⟨b2, 0, none⟩)), (3, .pointer (some ⟨bx, 0, none⟩)), (6, .map (some mb)), (8, .pointer (some ⟨b8, 0, none⟩)), (16, .slice al L.length cl), (17, .int .i64 L.length), (18, .int .i64 k), (101, secV (.slice al L.length cl) 0 k none L.length 5 ⟨⟨Nat.zero_le _, hk⟩, .inl rfl⟩), (102, .int .i64 ((L.take k).drop 0).length)]) ?_ ⟨rfl, rfl, rfl, rfl, rfl, rfl, rfl, rfl, rfl, rfl, rfl, trivial⟩
            refine G.loopK [2, 3, 6, 8, 16, 17, 18, 101, 102] (Nat) (fun j => [(103, .int .i64 j), (5, .bool false)]) (fun j => imap encZ mb (alSet om (L[k]).region (C[c]).owner) :: blk b8 (.cells (encLaid L[k]).toArray 71 (0, 0)) :: blk b2 (.cells #[.int .i64 n, .int .i64 z, .int .i64 u, .int .i64 q] 23 (0, 0)) :: blk bx (.cells (st5 tk ac aw am ap al C.length kw km kp L.length cc cw cm cp cl) 30 (0, 0)) :: F) (fun j => j ≤ ((L.take k).drop 0).length ∧ ∀ x ∈ ((L.take k).drop 0).take j, Snd.hits x L[k] = false) (fun j => ((L.take k).drop 0).length - j) (0) (⟨Nat.zero_le _, (fun x hx => by simp at hx)⟩) (by repeat (first | exact trivial | refine And.intro rfl ?_)) (fun w h => by (try dsimp only); first | exact h | exact h.sub | ((try simp only [List.take_zero, List.drop_zero, List.map_nil, List.nil_append, List.zipIdx_nil, List.filter_nil]); exact h.sub)) ?_
            rintro j ⟨hj, hJ⟩
            by_cases hjt : j < ((L.take k).drop 0).length
            · obtain ⟨⟨v1, v2, v3, v4, v5, v6⟩, _, _⟩ := hG _ (List.mem_of_mem_drop (List.getElem_mem hjt))
              have CM := spans_MeetT (((L.take k).drop 0)[j]).pos (((L.take k).drop 0)[j]).len (L[k]).pos (L[k]).len (by omega) (by omega)
              have hnext : Snd.hits ((L.take k).drop 0)[j] L[k] = false → ∀ x ∈ ((L.take k).drop 0).take (j + 1), Snd.hits x L[k] = false := fun h1 x hx => by
                rw [List.take_succ_eq_append_getElem hjt] at hx
                rcases List.mem_append.1 hx with hx | hx
                · exact hJ x hx
                · rw [List.mem_singleton.1 hx]; exact h1
              repeat' (first | (first | first | apply G.scope | apply G.label | apply GE.nogN | apply GE.nogE | apply GE.nogR | (apply GL.isCall; refine GL.call1 (vs := [.agg #[.int .i64 (((L.take k).drop 0)[j]).pos, .int .i64 (((L.take k).drop 0)[j]).len], .agg #[.int .i64 (L[k]).pos, .int .i64 (L[k]).len]]) rfl rfl (fun w h => CM w _ h) ?_)) | first | (apply GL.isAny; first | refine GL.runA rfl ?_ | (apply GL.isStore; first | refine GL.storeBlk rfl rfl rfl rfl rfl ?_ | refine GL.storeWhole rfl rfl rfl rfl rfl ?_ | refine GL.storeBlkA rfl rfl rfl rfl rfl ?_) | refine GL.guardY rfl rfl ?_ | refine GL.guardN rfl rfl rfl ?_ | refine GL.guardU rfl rfl rfl ?_ | (apply GL.isBox; first | refine GL.boxA rfl rfl (fun _ => ?_) | refine GL.box1 rfl rfl rfl (fun _ => ?_) | refine GL.box rfl rfl (fun _ => ?_)) | (apply GL.isBuildS; first | refine GL.buildSlice1A rfl rfl rfl rfl rfl (fun _ => ?_) | refine GL.buildSlice1 rfl rfl rfl rfl rfl (fun _ => ?_)) | (apply GL.isCall; refine GL.append1 _ rfl rfl rfl rfl (by rfl) (by omega) (by omega) rfl (fun _ => ?_)) | (apply GL.isAlloc; refine GL.alloc rfl (fun _ => ?_))) | apply GL.nil | first | apply G.seq | apply G.region | apply G.block | apply G.skip | apply G.exit | apply G.ret | (apply G.isCond; first | refine G.condT rfl ?_ | refine G.condF rfl ?_) | refine G.draw (by kernel_rfl) (by kernel_rfl) ?_ | (apply GE.isAny; first | apply GE.again | apply GE.thenG | apply GE.blockN | apply GE.blockE | apply GE.thenE | apply GE.thenR | apply GE.blockR | refine GE.blockO rfl ?_ | apply GE.only) | (apply GD.isAny; first | refine GD.runA rfl ?_ | refine GD.guardY rfl rfl ?_ | refine GD.guardN rfl rfl rfl ?_ | refine GD.guardU rfl rfl rfl ?_) | apply GD.nilE | apply GD.nilL | (apply GT.isAny; refine GT.runA rfl rfl ?_) | ((first | (apply GL.isAny; refine GL.guard rfl rfl (fun hc => ?_) (fun hc => ?_)) | (apply G.isCond; refine G.cond rfl (fun hc => ?_) (fun hc => ?_)) | (apply GD.isAny; refine GD.guard rfl rfl (fun hc => ?_) (fun hc => ?_))) <;> ((try simp only [decide_eq_true_eq, decide_eq_false_iff_not, Bool.not_true, Bool.not_false, ne_eq, Classical.not_not, Int.not_lt, Int.not_le] at hc); (try (exfalso; first | omega | exact hc trivial | exact hc rfl)))))
              all_goals (first | (exfalso; omega) | (refine GE.resOne rfl (by (repeat (first | apply Res.nil | (apply Res.tmp; rfl) | (refine Res.cellA rfl rfl rfl ?_) | (refine Res.cell1 rfl rfl ?_)))) (fun w h => ?_); refine ⟨?_, h.sub⟩; rw [show Snd.pbad z C [] L = true from hI.trans (by rw [show (((L.take k).drop 0).any fun x => Snd.hits x L[k] || Snd.other C x L[k]) = true from List.any_eq_true.2 ⟨_, List.getElem_mem hjt, by unfold Snd.hits; rw [decide_eq_true (by omega), hc]; rfl⟩]; rfl)]) | skip)
              all_goals (refine GE.round (j + 1) (⟨hjt, hnext (by unfold Snd.hits; first | (rw [decide_eq_false (by omega)]; rfl) | (rw [hc]; simp))⟩) (by repeat (first | exact trivial | refine And.intro rfl ?_)) (fun w h => by (try dsimp only); exact h.sub) (by (try dsimp only); omega))
            · rw [List.take_of_length_le (by omega)] at hJ
              repeat' (first | (first | apply G.scope | apply G.label | apply GE.nogN | apply GE.nogE | apply GE.nogR) | first | (apply GL.isAny; first | refine GL.runA rfl ?_ | (apply GL.isStore; first | refine GL.storeBlk rfl rfl rfl rfl rfl ?_ | refine GL.storeWhole rfl rfl rfl rfl rfl ?_ | refine GL.storeBlkA rfl rfl rfl rfl rfl ?_) | refine GL.guardY rfl rfl ?_ | refine GL.guardN rfl rfl rfl ?_ | refine GL.guardU rfl rfl rfl ?_ | (apply GL.isBox; first | refine GL.boxA rfl rfl (fun _ => ?_) | refine GL.box1 rfl rfl rfl (fun _ => ?_) | refine GL.box rfl rfl (fun _ => ?_)) | (apply GL.isBuildS; first | refine GL.buildSlice1A rfl rfl rfl rfl rfl (fun _ => ?_) | refine GL.buildSlice1 rfl rfl rfl rfl rfl (fun _ => ?_)) | (apply GL.isCall; refine GL.append1 _ rfl rfl rfl rfl (by rfl) (by omega) (by omega) rfl (fun _ => ?_)) | (apply GL.isAlloc; refine GL.alloc rfl (fun _ => ?_))) | apply GL.nil | first | apply G.seq | apply G.region | apply G.block | apply G.skip | apply G.exit | apply G.ret | (apply G.isCond; first | refine G.condT rfl ?_ | refine G.condF rfl ?_) | refine G.draw (by kernel_rfl) (by kernel_rfl) ?_ | (apply GE.isAny; first | apply GE.again | apply GE.thenG | apply GE.blockN | apply GE.blockE | apply GE.thenE | apply GE.thenR | apply GE.blockR | refine GE.blockO rfl ?_ | apply GE.only) | (apply GD.isAny; first | refine GD.runA rfl ?_ | refine GD.guardY rfl rfl ?_ | refine GD.guardN rfl rfl rfl ?_ | refine GD.guardU rfl rfl rfl ?_) | apply GD.nilE | apply GD.nilL | (apply GT.isAny; refine GT.runA rfl rfl ?_) | ((first | (apply GL.isAny; refine GL.guard rfl rfl (fun hc => ?_) (fun hc => ?_)) | (apply G.isCond; refine G.cond rfl (fun hc => ?_) (fun hc => ?_)) | (apply GD.isAny; refine GD.guard rfl rfl (fun hc => ?_) (fun hc => ?_))) <;> ((try simp only [decide_eq_true_eq, decide_eq_false_iff_not, Bool.not_true, Bool.not_false, ne_eq, Classical.not_not, Int.not_lt, Int.not_le] at hc); (try (exfalso; first | omega | exact hc trivial | exact hc rfl)))))
              all_goals (first | (exfalso; omega) | skip)
              have hGn : ∀ x ∈ L.take (k + 1), Snd.Good1 z C x := fun x hx => by
                rw [List.take_succ_eq_append_getElem hlt] at hx
                rcases List.mem_append.1 hx with hx | hx
                · exact hG x hx
                · rw [List.mem_singleton.1 hx]; exact hgood
              have hIn : Snd.pbad z C [] L = Snd.pbad z C ((L.take (k + 1)).drop 0) (L.drop (k + 1)) := hI.trans (by
                rw [show (((L.take k).drop 0).any fun x => Snd.hits x L[k] || Snd.other C x L[k]) = false from List.any_eq_false.2 fun x hx => by rw [hJ x hx, hfree x (List.mem_of_mem_drop hx)]; simp]
                rw [List.take_succ_eq_append_getElem hlt]; rfl)
              have hMn : Snd.MapOk C (alSet om (L[k]).region (C[c]).owner) (L.take (k + 1)) := by
                rw [List.take_succ_eq_append_getElem hlt, ← hchk]; exact hnx
              refine GE.round ((k + 1, alSet om (L[k]).region (C[c]).owner)) (⟨hlt, hIn, hMn, hGn⟩) (by repeat (first | exact trivial | refine And.intro rfl ?_)) (fun w h => by (try dsimp only); exact h.sub) (by (try dsimp only); omega))
        · have hb : Snd.pbad z C [] L = true := by
            obtain ⟨o, ho⟩ := Classical.not_forall.1 hown
            obtain ⟨ho1, ho2⟩ := Classical.not_imp.1 ho
            have h1 : (((L.take k).drop 0).any fun x => Snd.hits x L[k] || Snd.other C x L[k]) = true := hM.hit ho1 ho2
            exact hI.trans (by rw [h1]; rfl)
          rw [hb]
          obtain ⟨o, ho⟩ := Classical.not_forall.1 hown
          obtain ⟨hg, ho2⟩ := Classical.not_imp.1 ho
          rw [hchk] at ho2
          repeat' (first | (first | first | apply G.scope | apply G.label | apply GE.nogN | apply GE.nogE | apply GE.nogR | (apply GL.isAny; refine GL.run (by apply Runs.isIndexA; exact Runs.indexAddr (k := c) rfl rfl rfl hc0 hck) rfl ?_) | (apply GL.isAny; refine GL.run (by apply Runs.isLookup; first | exact Runs.lookupOkS rfl rfl (by assumption) | exact Runs.lookupOkN rfl rfl (by assumption)) rfl ?_)) | first | (apply GL.isAny; first | refine GL.runA rfl ?_ | (apply GL.isStore; first | refine GL.storeBlk rfl rfl rfl rfl rfl ?_ | refine GL.storeWhole rfl rfl rfl rfl rfl ?_ | refine GL.storeBlkA rfl rfl rfl rfl rfl ?_) | refine GL.guardY rfl rfl ?_ | refine GL.guardN rfl rfl rfl ?_ | refine GL.guardU rfl rfl rfl ?_ | (apply GL.isBox; first | refine GL.boxA rfl rfl (fun _ => ?_) | refine GL.box1 rfl rfl rfl (fun _ => ?_) | refine GL.box rfl rfl (fun _ => ?_)) | (apply GL.isBuildS; first | refine GL.buildSlice1A rfl rfl rfl rfl rfl (fun _ => ?_) | refine GL.buildSlice1 rfl rfl rfl rfl rfl (fun _ => ?_)) | (apply GL.isCall; refine GL.append1 _ rfl rfl rfl rfl (by rfl) (by omega) (by omega) rfl (fun _ => ?_)) | (apply GL.isAlloc; refine GL.alloc rfl (fun _ => ?_))) | apply GL.nil | first | apply G.seq | apply G.region | apply G.block | apply G.skip | apply G.exit | apply G.ret | (apply G.isCond; first | refine G.condT rfl ?_ | refine G.condF rfl ?_) | refine G.draw (by kernel_rfl) (by kernel_rfl) ?_ | (apply GE.isAny; first | apply GE.again | apply GE.thenG | apply GE.blockN | apply GE.blockE | apply GE.thenE | apply GE.thenR | apply GE.blockR | refine GE.blockO rfl ?_ | apply GE.only) | (apply GD.isAny; first | refine GD.runA rfl ?_ | refine GD.guardY rfl rfl ?_ | refine GD.guardN rfl rfl rfl ?_ | refine GD.guardU rfl rfl rfl ?_) | apply GD.nilE | apply GD.nilL | (apply GT.isAny; refine GT.runA rfl rfl ?_) | ((first | (apply GL.isAny; refine GL.guard rfl rfl (fun hc => ?_) (fun hc => ?_)) | (apply G.isCond; refine G.cond rfl (fun hc => ?_) (fun hc => ?_)) | (apply GD.isAny; refine GD.guard rfl rfl (fun hc => ?_) (fun hc => ?_))) <;> ((try simp only [decide_eq_true_eq, decide_eq_false_iff_not, Bool.not_true, Bool.not_false, ne_eq, Classical.not_not, Int.not_lt, Int.not_le] at hc); (try (exfalso; first | omega | exact hc trivial | exact hc rfl)))))
          all_goals (first | (exfalso; omega) | (refine GE.resOne rfl (by (repeat (first | apply Res.nil | (apply Res.tmp; rfl) | (refine Res.cellA rfl rfl rfl ?_) | (refine Res.cell1 rfl rfl ?_)))) (fun w h => ?_); exact ⟨rfl, h.sub⟩))
      · have hb : Snd.pbad z C [] L = true := hI.trans (by rw [decide_eq_false (fun h => hGd (by rw [← hchk]; exact h.2))]; rfl)
        rw [hb]
        cases hg : alGet om (L[k]).region
        all_goals (repeat' (first | (first | first | apply G.scope | apply G.label | apply GE.nogN | apply GE.nogE | apply GE.nogR | (apply GL.isAny; refine GL.run (by apply Runs.isIndexA; exact Runs.indexAddr (k := c) rfl rfl rfl hc0 hck) rfl ?_) | (apply GL.isAny; refine GL.run (by apply Runs.isLookup; first | exact Runs.lookupOkS rfl rfl (by assumption) | exact Runs.lookupOkN rfl rfl (by assumption)) rfl ?_)) | first | (apply GL.isAny; first | refine GL.runA rfl ?_ | (apply GL.isStore; first | refine GL.storeBlk rfl rfl rfl rfl rfl ?_ | refine GL.storeWhole rfl rfl rfl rfl rfl ?_ | refine GL.storeBlkA rfl rfl rfl rfl rfl ?_) | refine GL.guardY rfl rfl ?_ | refine GL.guardN rfl rfl rfl ?_ | refine GL.guardU rfl rfl rfl ?_ | (apply GL.isBox; first | refine GL.boxA rfl rfl (fun _ => ?_) | refine GL.box1 rfl rfl rfl (fun _ => ?_) | refine GL.box rfl rfl (fun _ => ?_)) | (apply GL.isBuildS; first | refine GL.buildSlice1A rfl rfl rfl rfl rfl (fun _ => ?_) | refine GL.buildSlice1 rfl rfl rfl rfl rfl (fun _ => ?_)) | (apply GL.isCall; refine GL.append1 _ rfl rfl rfl rfl (by rfl) (by omega) (by omega) rfl (fun _ => ?_)) | (apply GL.isAlloc; refine GL.alloc rfl (fun _ => ?_))) | apply GL.nil | first | apply G.seq | apply G.region | apply G.block | apply G.skip | apply G.exit | apply G.ret | (apply G.isCond; first | refine G.condT rfl ?_ | refine G.condF rfl ?_) | refine G.draw (by kernel_rfl) (by kernel_rfl) ?_ | (apply GE.isAny; first | apply GE.again | apply GE.thenG | apply GE.blockN | apply GE.blockE | apply GE.thenE | apply GE.thenR | apply GE.blockR | refine GE.blockO rfl ?_ | apply GE.only) | (apply GD.isAny; first | refine GD.runA rfl ?_ | refine GD.guardY rfl rfl ?_ | refine GD.guardN rfl rfl rfl ?_ | refine GD.guardU rfl rfl rfl ?_) | apply GD.nilE | apply GD.nilL | (apply GT.isAny; refine GT.runA rfl rfl ?_) | ((first | (apply GL.isAny; refine GL.guard rfl rfl (fun hc => ?_) (fun hc => ?_)) | (apply G.isCond; refine G.cond rfl (fun hc => ?_) (fun hc => ?_)) | (apply GD.isAny; refine GD.guard rfl rfl (fun hc => ?_) (fun hc => ?_))) <;> ((try simp only [decide_eq_true_eq, decide_eq_false_iff_not, Bool.not_true, Bool.not_false, ne_eq, Classical.not_not, Int.not_lt, Int.not_le] at hc); (try (exfalso; first | omega | exact hc trivial | exact hc rfl))))))
        all_goals (first | (exfalso; omega) | (refine GE.resOne rfl (by (repeat (first | apply Res.nil | (apply Res.tmp; rfl) | (refine Res.cellA rfl rfl rfl ?_) | (refine Res.cell1 rfl rfl ?_)))) (fun w h => ?_); exact ⟨rfl, h.sub⟩))
    · have hb : Snd.pbad z C [] L = true := hI.trans (by rw [decide_eq_false (fun h => hW h.1)]; rfl)
      rw [hb]
      unfold Snd.Within at hW
      repeat' (first | (first | apply G.scope | apply G.label | apply GE.nogN | apply GE.nogE | apply GE.nogR) | first | (apply GL.isAny; first | refine GL.runA rfl ?_ | (apply GL.isStore; first | refine GL.storeBlk rfl rfl rfl rfl rfl ?_ | refine GL.storeWhole rfl rfl rfl rfl rfl ?_ | refine GL.storeBlkA rfl rfl rfl rfl rfl ?_) | refine GL.guardY rfl rfl ?_ | refine GL.guardN rfl rfl rfl ?_ | refine GL.guardU rfl rfl rfl ?_ | (apply GL.isBox; first | refine GL.boxA rfl rfl (fun _ => ?_) | refine GL.box1 rfl rfl rfl (fun _ => ?_) | refine GL.box rfl rfl (fun _ => ?_)) | (apply GL.isBuildS; first | refine GL.buildSlice1A rfl rfl rfl rfl rfl (fun _ => ?_) | refine GL.buildSlice1 rfl rfl rfl rfl rfl (fun _ => ?_)) | (apply GL.isCall; refine GL.append1 _ rfl rfl rfl rfl (by rfl) (by omega) (by omega) rfl (fun _ => ?_)) | (apply GL.isAlloc; refine GL.alloc rfl (fun _ => ?_))) | apply GL.nil | first | apply G.seq | apply G.region | apply G.block | apply G.skip | apply G.exit | apply G.ret | (apply G.isCond; first | refine G.condT rfl ?_ | refine G.condF rfl ?_) | refine G.draw (by kernel_rfl) (by kernel_rfl) ?_ | (apply GE.isAny; first | apply GE.again | apply GE.thenG | apply GE.blockN | apply GE.blockE | apply GE.thenE | apply GE.thenR | apply GE.blockR | refine GE.blockO rfl ?_ | apply GE.only) | (apply GD.isAny; first | refine GD.runA rfl ?_ | refine GD.guardY rfl rfl ?_ | refine GD.guardN rfl rfl rfl ?_ | refine GD.guardU rfl rfl rfl ?_) | apply GD.nilE | apply GD.nilL | (apply GT.isAny; refine GT.runA rfl rfl ?_) | ((first | (apply GL.isAny; refine GL.guard rfl rfl (fun hc => ?_) (fun hc => ?_)) | (apply G.isCond; refine G.cond rfl (fun hc => ?_) (fun hc => ?_)) | (apply GD.isAny; refine GD.guard rfl rfl (fun hc => ?_) (fun hc => ?_))) <;> ((try simp only [decide_eq_true_eq, decide_eq_false_iff_not, Bool.not_true, Bool.not_false, ne_eq, Classical.not_not, Int.not_lt, Int.not_le] at hc); (try (exfalso; first | omega | exact hc trivial | exact hc rfl)))))
      all_goals (first | (exfalso; omega) | (refine GE.resOne rfl (by (repeat (first | apply Res.nil | (apply Res.tmp; rfl) | (refine Res.cellA rfl rfl rfl ?_) | (refine Res.cell1 rfl rfl ?_)))) (fun w h => ?_); exact ⟨rfl, h.sub⟩))
  · rw [show L.drop k = [] from List.drop_eq_nil_of_le (by omega)] at hI
    rw [hI]
    repeat' (first | (first | apply G.scope | apply G.label | apply GE.nogN | apply GE.nogE | apply GE.nogR) | first | (apply GL.isAny; first | refine GL.runA rfl ?_ | (apply GL.isStore; first | refine GL.storeBlk rfl rfl rfl rfl rfl ?_ | refine GL.storeWhole rfl rfl rfl rfl rfl ?_ | refine GL.storeBlkA rfl rfl rfl rfl rfl ?_) | refine GL.guardY rfl rfl ?_ | refine GL.guardN rfl rfl rfl ?_ | refine GL.guardU rfl rfl rfl ?_ | (apply GL.isBox; first | refine GL.boxA rfl rfl (fun _ => ?_) | refine GL.box1 rfl rfl rfl (fun _ => ?_) | refine GL.box rfl rfl (fun _ => ?_)) | (apply GL.isBuildS; first | refine GL.buildSlice1A rfl rfl rfl rfl rfl (fun _ => ?_) | refine GL.buildSlice1 rfl rfl rfl rfl rfl (fun _ => ?_)) | (apply GL.isCall; refine GL.append1 _ rfl rfl rfl rfl (by rfl) (by omega) (by omega) rfl (fun _ => ?_)) | (apply GL.isAlloc; refine GL.alloc rfl (fun _ => ?_))) | apply GL.nil | first | apply G.seq | apply G.region | apply G.block | apply G.skip | apply G.exit | apply G.ret | (apply G.isCond; first | refine G.condT rfl ?_ | refine G.condF rfl ?_) | refine G.draw (by kernel_rfl) (by kernel_rfl) ?_ | (apply GE.isAny; first | apply GE.again | apply GE.thenG | apply GE.blockN | apply GE.blockE | apply GE.thenE | apply GE.thenR | apply GE.blockR | refine GE.blockO rfl ?_ | apply GE.only) | (apply GD.isAny; first | refine GD.runA rfl ?_ | refine GD.guardY rfl rfl ?_ | refine GD.guardN rfl rfl rfl ?_ | refine GD.guardU rfl rfl rfl ?_) | apply GD.nilE | apply GD.nilL | (apply GT.isAny; refine GT.runA rfl rfl ?_) | ((first | (apply GL.isAny; refine GL.guard rfl rfl (fun hc => ?_) (fun hc => ?_)) | (apply G.isCond; refine G.cond rfl (fun hc => ?_) (fun hc => ?_)) | (apply GD.isAny; refine GD.guard rfl rfl (fun hc => ?_) (fun hc => ?_))) <;> ((try simp only [decide_eq_true_eq, decide_eq_false_iff_not, Bool.not_true, Bool.not_false, ne_eq, Classical.not_not, Int.not_lt, Int.not_le] at hc); (try (exfalso; first | omega | exact hc trivial | exact hc rfl)))))
    all_goals (first | (exfalso; omega) | (refine GE.resOne rfl (by (repeat (first | apply Res.nil | (apply Res.tmp; rfl) | (refine Res.cellA rfl rfl rfl ?_) | (refine Res.cell1 rfl rfl ?_)))) (fun w h => ?_); exact ⟨rfl, h.sub⟩))
end
end Go.Proofs.Ytfiggkbclldccaa

/- Pieces of a state by the reference: the walks. -/
namespace Go.Proofs.Ytfiggkbclldccaa
open Go Go.RowKit Go.MapKept
set_option linter.unusedVariables false
set_option linter.unusedSimpArgs false
set_option maxRecDepth 100000
set_option maxHeartbeats 2000000
section
variable (tk : Int) (ac aw am ap al : Option Addr) (kc kw km kp kl cc cw cm cp cl : Nat) (C : List ChunkM) (L : List LaidM)
end
end Go.Proofs.Ytfiggkbclldccaa

/- Pieces of a state by the reference: the walk of all. -/
namespace Go.Proofs.Ytfiggkbclldccaa
open Go Go.RowKit Go.MapKept
set_option linter.unusedVariables false
set_option linter.unusedSimpArgs false
set_option maxRecDepth 100000
set_option maxHeartbeats 2000000
section
variable (tk : Int) (ac aw am ap al : Option Addr) (kc kw km kp kl cc cw cm cp cl : Nat) (C : List ChunkM) (L : List LaidM)
end
end Go.Proofs.Ytfiggkbclldccaa

/- Chunks of a state: the walk. -/
namespace Go.Proofs.Ytfiggkbclldccaa
open Go Go.RowKit Go.MapKept
set_option linter.unusedVariables false
set_option linter.unusedSimpArgs false
set_option maxRecDepth 100000
set_option maxHeartbeats 2000000
section
variable (tk : Int) (ac aw am ap al : Option Addr) (kc kw km kp kl cc cw cm cp cl : Nat) (C : List ChunkM) (Q : List Int)
theorem sound_chunks (n z u q : Int) (hC : C.length ≤ 100000) (hQ : Q.length ≤ 100000) (w : World) (F : List HProp) [hr1 : Reads F (.slice ac kc cc) chunkCells 3 C] [hr2 : Reads F (.slice aw kw cw) encI1 1 Q] (hw : holds w F) :
    Ct Try.prog 74 #[.agg #[.int .i64 n, .int .i64 z, .int .i64 u, .int .i64 q], .agg (st5 tk ac aw am ap al kc kw km kp kl cc cw cm cp cl)] w fun e w' => e = .returned (.bool (!decide ((C.length : Int) = n) || !Audit.sound C Q)) ∧ holds w' F := by
  refine Ct.go (args := [.agg #[.int .i64 n, .int .i64 z, .int .i64 u, .int .i64 q], .agg (st5 tk ac aw am ap al kc kw km kp kl cc cw cm cp cl)]) Try.func74 rfl rfl rfl hw ?_
  have hkc : kc = C.length := by obtain ⟨_, _, he, _⟩ := (hr1.at_ w hw).form; cases he; rfl
  subst hkc
  have CS := fun w F [Reads F (.slice ac C.length cc) chunkCells 3 C] [Reads F (.slice aw kw cw) encI1 1 Q] hw => aud_Sound (.slice ac C.length cc) (.slice aw kw cw) C Q w F (by omega) (by omega) hw
  by_cases hn : (C.length : Int) = n
  · rw [decide_eq_true hn]
    repeat' (first | (first | (apply GL.isBox; first | refine GL.boxA rfl rfl (fun bx => ?_)) | (apply GL.isCall; refine GL.call1 rfl rfl (fun w h => CS w _ h) ?_)) | first | (apply GL.isAny; first | refine GL.runA rfl ?_ | (apply GL.isStore; first | refine GL.storeBlk rfl rfl rfl rfl rfl ?_ | refine GL.storeWhole rfl rfl rfl rfl rfl ?_ | refine GL.storeBlkA rfl rfl rfl rfl rfl ?_) | refine GL.guardY rfl rfl ?_ | refine GL.guardN rfl rfl rfl ?_ | refine GL.guardU rfl rfl rfl ?_ | (apply GL.isBox; first | refine GL.boxA rfl rfl (fun _ => ?_) | refine GL.box1 rfl rfl rfl (fun _ => ?_) | refine GL.box rfl rfl (fun _ => ?_)) | (apply GL.isBuildS; first | refine GL.buildSlice1A rfl rfl rfl rfl rfl (fun _ => ?_) | refine GL.buildSlice1 rfl rfl rfl rfl rfl (fun _ => ?_)) | (apply GL.isCall; refine GL.append1 _ rfl rfl rfl rfl (by rfl) (by omega) (by omega) rfl (fun _ => ?_)) | (apply GL.isAlloc; refine GL.alloc rfl (fun _ => ?_))) | apply GL.nil | first | apply G.seq | apply G.region | apply G.block | apply G.skip | apply G.exit | apply G.ret | (apply G.isCond; first | refine G.condT rfl ?_ | refine G.condF rfl ?_) | refine G.draw (by kernel_rfl) (by kernel_rfl) ?_ | (apply GE.isAny; first | apply GE.again | apply GE.thenG | apply GE.blockN | apply GE.blockE | apply GE.thenE | apply GE.thenR | apply GE.blockR | refine GE.blockO rfl ?_ | apply GE.only) | (apply GD.isAny; first | refine GD.runA rfl ?_ | refine GD.guardY rfl rfl ?_ | refine GD.guardN rfl rfl rfl ?_ | refine GD.guardU rfl rfl rfl ?_) | apply GD.nilE | apply GD.nilL | (apply GT.isAny; refine GT.runA rfl rfl ?_) | ((first | (apply GL.isAny; refine GL.guard rfl rfl (fun hc => ?_) (fun hc => ?_)) | (apply G.isCond; refine G.cond rfl (fun hc => ?_) (fun hc => ?_)) | (apply GD.isAny; refine GD.guard rfl rfl (fun hc => ?_) (fun hc => ?_))) <;> ((try simp only [decide_eq_true_eq, decide_eq_false_iff_not, Bool.not_true, Bool.not_false, ne_eq, Classical.not_not, Int.not_lt, Int.not_le] at hc); (try (exfalso; first | omega | exact hc trivial | exact hc rfl)))))
    all_goals (first | (exfalso; omega) | (refine GE.resOne rfl (by (repeat (first | apply Res.nil | (apply Res.tmp; rfl) | (refine Res.cellA rfl rfl rfl ?_) | (refine Res.cell1 rfl rfl ?_)))) (fun w h => ?_); exact ⟨by simp, h.sub⟩))
  · rw [decide_eq_false hn]
    repeat' (first | (first | (apply GL.isBox; first | refine GL.boxA rfl rfl (fun bx => ?_)) | (apply GL.isCall; refine GL.call1 rfl rfl (fun w h => CS w _ h) ?_)) | first | (apply GL.isAny; first | refine GL.runA rfl ?_ | (apply GL.isStore; first | refine GL.storeBlk rfl rfl rfl rfl rfl ?_ | refine GL.storeWhole rfl rfl rfl rfl rfl ?_ | refine GL.storeBlkA rfl rfl rfl rfl rfl ?_) | refine GL.guardY rfl rfl ?_ | refine GL.guardN rfl rfl rfl ?_ | refine GL.guardU rfl rfl rfl ?_ | (apply GL.isBox; first | refine GL.boxA rfl rfl (fun _ => ?_) | refine GL.box1 rfl rfl rfl (fun _ => ?_) | refine GL.box rfl rfl (fun _ => ?_)) | (apply GL.isBuildS; first | refine GL.buildSlice1A rfl rfl rfl rfl rfl (fun _ => ?_) | refine GL.buildSlice1 rfl rfl rfl rfl rfl (fun _ => ?_)) | (apply GL.isCall; refine GL.append1 _ rfl rfl rfl rfl (by rfl) (by omega) (by omega) rfl (fun _ => ?_)) | (apply GL.isAlloc; refine GL.alloc rfl (fun _ => ?_))) | apply GL.nil | first | apply G.seq | apply G.region | apply G.block | apply G.skip | apply G.exit | apply G.ret | (apply G.isCond; first | refine G.condT rfl ?_ | refine G.condF rfl ?_) | refine G.draw (by kernel_rfl) (by kernel_rfl) ?_ | (apply GE.isAny; first | apply GE.again | apply GE.thenG | apply GE.blockN | apply GE.blockE | apply GE.thenE | apply GE.thenR | apply GE.blockR | refine GE.blockO rfl ?_ | apply GE.only) | (apply GD.isAny; first | refine GD.runA rfl ?_ | refine GD.guardY rfl rfl ?_ | refine GD.guardN rfl rfl rfl ?_ | refine GD.guardU rfl rfl rfl ?_) | apply GD.nilE | apply GD.nilL | (apply GT.isAny; refine GT.runA rfl rfl ?_) | ((first | (apply GL.isAny; refine GL.guard rfl rfl (fun hc => ?_) (fun hc => ?_)) | (apply G.isCond; refine G.cond rfl (fun hc => ?_) (fun hc => ?_)) | (apply GD.isAny; refine GD.guard rfl rfl (fun hc => ?_) (fun hc => ?_))) <;> ((try simp only [decide_eq_true_eq, decide_eq_false_iff_not, Bool.not_true, Bool.not_false, ne_eq, Classical.not_not, Int.not_lt, Int.not_le] at hc); (try (exfalso; first | omega | exact hc trivial | exact hc rfl)))))
    all_goals (first | (exfalso; omega) | (refine GE.resOne rfl (by (repeat (first | apply Res.nil | (apply Res.tmp; rfl) | (refine Res.cellA rfl rfl rfl ?_) | (refine Res.cell1 rfl rfl ?_)))) (fun w h => ?_); exact ⟨by simp, h.sub⟩))
end
end Go.Proofs.Ytfiggkbclldccaa

/- Why a state is not sound, by the reference: the walk. -/
namespace Go.Proofs.Ytfiggkbclldccaa
open Go Go.RowKit Go.MapKept
set_option linter.unusedVariables false
set_option linter.unusedSimpArgs false
set_option maxRecDepth 100000
set_option maxHeartbeats 2000000
namespace Snd
def why (n z : Int) (C : List ChunkM) (Q : List Int) (M : List MbM) (T : List TickM) (L : List LaidM) : Int :=
  bif !decide ((C.length : Int) = n) || !Audit.sound C Q then 1 else bif members C M then 2 else bif pending M T then 3 else bif !Ord.safe M (Audit.many C 0 + Audit.many C 2 + Audit.many C 3) then 4 else bif pbad z C [] L then 5 else 0
theorem mbad_right (C : List ChunkM) : ∀ (M : List MbM) (last : Int), mbad C last M = false → ∀ m ∈ M, Acc.Right m.acc
  | [], _, _, m, h => by simp at h
  | x :: r, last, h, m, hm => by
    rw [mbad] at h
    simp only [Bool.or_eq_false_iff] at h
    rcases List.mem_cons.1 hm with rfl | hm
    · simpa using h.1.1.2
    · exact mbad_right C r x.id h.2 m hm
theorem members_right {C : List ChunkM} {M : List MbM} (h : members C M = false) : ∀ m ∈ M, Acc.Right m.acc := by
  unfold members at h
  simp only [Bool.or_eq_false_iff] at h
  exact mbad_right C M (-1) h.1
end Snd
section
variable (tk : Int) (ac aw am ap al : Option Addr) (kc kw km kp kl cc cw cm cp cl : Nat) (C : List ChunkM) (Q : List Int) (M : List MbM) (T : List TickM) (L : List LaidM)
end
end Go.Proofs.Ytfiggkbclldccaa

/- A slice literal as a row. -/
namespace Go.Proofs.Ytfiggkbclldccaa
open Go Go.RowKit Go.MapKept
set_option linter.unusedVariables false
set_option linter.unusedSimpArgs false
set_option maxRecDepth 100000
set_option maxHeartbeats 1000000
theorem holds.rowOf {α : Type} {enc : α → List Value} {m : Nat} [he : Enc enc m] {w : World} {F : List HProp} {e : TypeId} {g k : Nat} (l : List α) (hk : l.length = k) (hl : k ≤ maxLen) (h : holds w (blk g (.cells (l.flatMap enc).toArray e (0, 0)) :: F)) : holds w (owns e enc m (.slice (some ⟨g, 0, none⟩) k k) l :: F) := by
  subst hk
  have h1 := h.mkRow (size := m) (n := l.length) (cap := l.length) (Nat.le_refl _) hl (by rw [List.size_toArray, Enc.flat_len])
  have h2 : (l.flatMap enc).toArray.toList.take (l.length * m) = l.flatMap enc := by
    exact List.take_of_length_le (by rw [Enc.flat_len]; exact Nat.le_refl _)
  rw [h2] at h1
  exact h1
section
variable {P : Program} {n : Nat} {Q : Exit → Act → World → Prop} {env : Env} {F : List HProp} {ops : Array Oper} {rest : List Oper} {ty : TypeId} {pos : String} {aft : Array Edge}
/-- A slice literal as a row. -/
theorem GL.buildR {α : Type} {enc : α → List Value} {t e : TypeId} {size m bytes : Nat} {z : Value} {parts : List (Nat × Operand)} {ps : List (Nat × Value)} {d : Tmp} (l : List α) [ht : SliceT P t e size] [hz : ZeroT P e z size bytes] [he : Enc enc size] (hk : l.length = m) (hp : partsOf env parts = some ps) (hpos : Nat.blt 0 (m * size) = true) (hm : Nat.ble (m * size) 16777216 = true)
    (hr : fillL ((List.range m).map fun i => (i * size, size)) (List.replicate (m * size) (default : Value)) ps = some (l.flatMap enc)) (hall : ∀ l', l'.length = m * size → fillL ((List.range m).map fun i => (i * size, size)) l' ps = some (l.flatMap enc)) (hd : Nat.blt d n = true)
    (h : ∀ g, GL P n ops Q rest ((d, .slice (some ⟨g, 0, none⟩) m m) :: env) (owns e enc size (.slice (some ⟨g, 0, none⟩) m m) l :: F)) :
    GL P n ops Q (⟨some d, .buildSlice t m parts.toArray, ty, pos, aft, none⟩ :: rest) env F :=
  GL.buildSlice hp hpos hm hr hall hd fun g => GL.imp (h g) fun w hw => holds.rowOf l hk (by
    have h1 := Nat.le_of_ble_eq_true hm
    have h2 : m ≤ m * size := Nat.le_mul_of_pos_right _ he.pos
    unfold maxLen; omega) hw
end
end Go.Proofs.Ytfiggkbclldccaa

/- Why a state is not sound: the walk. -/
namespace Go.Proofs.Ytfiggkbclldccaa
open Go Go.RowKit Go.MapKept
set_option linter.unusedVariables false
set_option linter.unusedSimpArgs false
set_option maxRecDepth 100000
set_option maxHeartbeats 2000000
@[reducible] def fnV (f : FuncId) : Value := .func (.func f) #[] #[]
instance : BuildT Try.prog 80 [(0, 1)] [.nilFunc] := .ofStruct (by kernel_rfl) Try.underlying80 (by kernel_rfl)
def encFn (f : FuncId) : List Value := [.func (.func f) #[] #[]]
instance : Enc encFn 1 := ⟨fun _ => rfl, fun _ => by simp [encFn, Value.oneCell'], by omega⟩
@[reducible] def waysL : List FuncId := [74, 75, 76, 77, 78]
theorem sound_ways (w : World) (F : List HProp) (hw : holds w F) :
    Ct Try.prog 41 #[] w fun e w' => ∃ b : Nat, e = .returned (.slice (some ⟨b, 0, none⟩) 5 5) ∧ holds w' (owns 80 encFn 1 (.slice (some ⟨b, 0, none⟩) 5 5) waysL :: F) := by
  refine Ct.go (args := []) Try.func41 rfl rfl rfl hw ?_
  repeat' (first | ((apply GL.isAny; refine GL.buildR (enc := encFn) waysL (m := 5) (parts := [(0, .tmp 1), (1, .tmp 2), (2, .tmp 3), (3, .tmp 4), (4, .tmp 5)]) rfl rfl rfl rfl rfl (fun l hl => match l, hl with | [_, _, _, _, _], _ => rfl) rfl (fun b => ?_))) | first | (apply GL.isAny; first | refine GL.runA rfl ?_ | (apply GL.isStore; first | refine GL.storeBlk rfl rfl rfl rfl rfl ?_ | refine GL.storeWhole rfl rfl rfl rfl rfl ?_ | refine GL.storeBlkA rfl rfl rfl rfl rfl ?_) | refine GL.guardY rfl rfl ?_ | refine GL.guardN rfl rfl rfl ?_ | refine GL.guardU rfl rfl rfl ?_ | (apply GL.isBox; first | refine GL.boxA rfl rfl (fun _ => ?_) | refine GL.box1 rfl rfl rfl (fun _ => ?_) | refine GL.box rfl rfl (fun _ => ?_)) | (apply GL.isBuildS; first | refine GL.buildSlice1A rfl rfl rfl rfl rfl (fun _ => ?_) | refine GL.buildSlice1 rfl rfl rfl rfl rfl (fun _ => ?_)) | (apply GL.isCall; refine GL.append1 _ rfl rfl rfl rfl (by rfl) (by omega) (by omega) rfl (fun _ => ?_)) | (apply GL.isAlloc; refine GL.alloc rfl (fun _ => ?_))) | apply GL.nil | first | apply G.seq | apply G.region | apply G.block | apply G.skip | apply G.exit | apply G.ret | (apply G.isCond; first | refine G.condT rfl ?_ | refine G.condF rfl ?_) | refine G.draw (by kernel_rfl) (by kernel_rfl) ?_ | (apply GE.isAny; first | apply GE.again | apply GE.thenG | apply GE.blockN | apply GE.blockE | apply GE.thenE | apply GE.thenR | apply GE.blockR | refine GE.blockO rfl ?_ | apply GE.only) | (apply GD.isAny; first | refine GD.runA rfl ?_ | refine GD.guardY rfl rfl ?_ | refine GD.guardN rfl rfl rfl ?_ | refine GD.guardU rfl rfl rfl ?_) | apply GD.nilE | apply GD.nilL | (apply GT.isAny; refine GT.runA rfl rfl ?_) | ((first | (apply GL.isAny; refine GL.guard rfl rfl (fun hc => ?_) (fun hc => ?_)) | (apply G.isCond; refine G.cond rfl (fun hc => ?_) (fun hc => ?_)) | (apply GD.isAny; refine GD.guard rfl rfl (fun hc => ?_) (fun hc => ?_))) <;> ((try simp only [decide_eq_true_eq, decide_eq_false_iff_not, Bool.not_true, Bool.not_false, ne_eq, Classical.not_not, Int.not_lt, Int.not_le] at hc); (try (exfalso; first | omega | exact hc trivial | exact hc rfl)))))
  refine GE.resOne rfl (by (repeat (first | apply Res.nil | (apply Res.tmp; rfl) | (refine Res.cellA rfl rfl rfl ?_) | (refine Res.cell1 rfl rfl ?_)))) (fun w h => ?_)
  exact ⟨_, rfl, h.sub⟩
end Go.Proofs.Ytfiggkbclldccaa
