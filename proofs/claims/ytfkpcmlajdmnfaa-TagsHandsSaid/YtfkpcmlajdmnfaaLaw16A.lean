/- What the law TagsPlays wants of the tags: a model's calls, and the contracts over all pieces. -/
import Derived.Test.YtfkpcmlajdmnfaaLaw16
import Derived.Test.YtfkpcmlajdmnfaaArgsAct
namespace Go.Proofs.Ytfkpcmlajdmnfaa
open Go Go.RowKit Go.MapKept
set_option maxRecDepth 100000
set_option linter.unusedVariables false

def Tags.act (m : List (Int × Int)) (a : ChunkM) : Int × List (Int × Int) :=
  if a.phase = 0 then Tags.own m a.owner a.gen else if a.phase = 1 then Tags.leave m a.owner else if a.phase = 2 then Tags.raise m a.owner else (0, m)
structure TagsOk (m : List (Int × Int)) (n k : Nat) : Prop where
  len : m.length = n
  own : ∀ t ∈ m, 0 ≤ t.1
  gen : ∀ t ∈ m, 0 ≤ t.2 ∧ t.2 ≤ k
theorem TagsOk.set {m : List (Int × Int)} {n k : Nat} (h : TagsOk m n k) (i : Nat) (t : Int × Int) (h1 : 0 ≤ t.1) (h2 : 0 ≤ t.2 ∧ t.2 ≤ k + 1) : TagsOk (m.set i t) n (k + 1) :=
  ⟨by rw [List.length_set]; exact h.len, set_own h.own _ _ h1, fun u hu => by
    rcases List.mem_or_eq_of_mem_set hu with h3 | h3
    · have := h.gen u h3; omega
    · rw [h3]; exact_mod_cast h2⟩
theorem TagsOk.up {m : List (Int × Int)} {n k : Nat} (h : TagsOk m n k) : TagsOk m n (k + 1) := ⟨h.len, h.own, fun t ht => by have := h.gen t ht; omega⟩
theorem TagsOk.at {m : List (Int × Int)} {n k : Nat} (h : TagsOk m n k) (i : Nat) : 0 ≤ (m.getD i (0, 0)).1 ∧ 0 ≤ (m.getD i (0, 0)).2 ∧ (m.getD i (0, 0)).2 ≤ k := by
  by_cases hi : i < m.length
  · have e : m.getD i (0, 0) = m[i] := by simp [hi]
    rw [e]
    exact ⟨h.own _ (List.getElem_mem hi), h.gen _ (List.getElem_mem hi)⟩
  · have e : m.getD i (0, 0) = (0, 0) := by simp [hi]
    rw [e]
    simp
theorem TagsOk.act {m : List (Int × Int)} {n k : Nat} (h : TagsOk m n k) (a : ChunkM) : TagsOk (Tags.act m a).2 n (k + 1) := by
  have hi := h.at a.owner.toNat
  unfold Tags.act Tags.own Tags.leave Tags.raise
  split
  · split
    · exact h.up
    · split
      · exact h.up
      · exact h.set _ _ (by dsimp only; omega) (by dsimp only; omega)
  · split
    · split
      · exact h.up
      · split
        · exact h.up
        · exact h.set _ _ (by simp) (by dsimp only; omega)
    · split
      · split
        · exact h.up
        · split
          · exact h.up
          · split
            · exact h.up
            · exact h.set _ _ (by dsimp only; omega) (by dsimp only; omega)
      · exact h.up
theorem TagsOk.new (n : Nat) : TagsOk (List.replicate n (0, 0)) n 0 := ⟨by simp, fun t ht => by rw [List.eq_of_mem_replicate ht]; simp, fun t ht => by rw [List.eq_of_mem_replicate ht]; simp⟩

def tagsPs (v vo vg va : Value) (m : List (Int × Int)) (bx : Nat) (l : List ChunkM) (F : List HProp) : List HProp :=
  tagsAt v m :: roInts vo (m.map (·.1)) :: roInts vg (m.map (·.2)) :: blk bx (.cells #[vo, vg] 55 (0, 0)) :: roChunks va l :: F

/-- The contracts over all pieces together, and whatever else there is. -/
structure TagsFns (v vo vg : Value) (m : List (Int × Int)) (P : List HProp) : Prop where
  count : ∀ (o : Int) (w : World) (F : List HProp), holds w (P ++ F) → Calls Try.prog 45 #[v, .int .i64 o] w fun e w' => e = .returned (.int .i64 ((ofs (m.map (·.1)) o).length : Nat)) ∧ holds w' (P ++ F)
  of0 : ∀ (o : Int) (w : World) (F : List HProp), holds w (P ++ F) → Calls Try.prog 47 #[v, .int .i64 o] w fun e w' => ∃ a c, e = .returned (.slice a (ofs (m.map (·.1)) o).length c) ∧ holds w' (roInts (.slice a (ofs (m.map (·.1)) o).length c) (ofs (m.map (·.1)) o) :: (P ++ F))
  rof0 : ∀ (o : Int) (w : World) (F : List HProp), holds w (P ++ F) → Calls Try.prog 46 #[.agg #[vo, vg], .int .i64 o] w fun e w' => ∃ a c, e = .returned (.slice a (ofs (m.map (·.1)) o).length c) ∧ holds w' (roInts (.slice a (ofs (m.map (·.1)) o).length c) (ofs (m.map (·.1)) o) :: (P ++ F))
  owner : ∀ (i : Int) (w : World) (F : List HProp), holds w (P ++ F) → Calls Try.prog 43 #[v, .int .i64 i] w fun e w' => e = .returned (.int .i64 (if 0 ≤ i ∧ i < m.length then (m.getD i.toNat (0, 0)).1 else 0)) ∧ holds w' (P ++ F)
  gen : ∀ (i : Int) (w : World) (F : List HProp), holds w (P ++ F) → Calls Try.prog 44 #[v, .int .i64 i] w fun e w' => e = .returned (.int .i64 (if 0 ≤ i ∧ i < m.length then (m.getD i.toNat (0, 0)).2 else -1)) ∧ holds w' (P ++ F)
theorem tagsFns (v vo vg : Value) (m : List (Int × Int)) (F : List HProp) (hl : m.length ≤ 1048576) : TagsFns v vo vg m (tagsAt v m :: roInts vo (m.map (·.1)) :: roInts vg (m.map (·.2)) :: F) where
  count o w F h := by rw [ofs_cnt]; exact tags_Count w v m o _ h
  of0 o w F h := (tags_Of w v m o _ hl h).mono fun e w' ⟨v', he, h2⟩ => by
    obtain ⟨a, c, rfl, _⟩ := roInts_form h2.shareInts
    exact ⟨a, c, he, h2.shareInts⟩
  rof0 o w F h := (ref16_Of w vo vg (m.map (·.1)) o _ (by rw [List.length_map]; exact hl) (h.pick 1)).mono fun e w' ⟨v', he, h2⟩ => by
    obtain ⟨a, c, rfl, _⟩ := roInts_form h2.shareInts
    exact ⟨a, c, he, h2.shareInts.order [0, 2, 1]⟩
  owner i w F h := tags_Owner w v m i _ hl h
  gen i w F h := tags_Gen w v m i _ hl h
end Go.Proofs.Ytfkpcmlajdmnfaa
