/- Contracts of the reference of chapter 27: New, put, Get. -/
import Derived.Test.YtfiggkbclldccaaSlotsE
import Derived.Test.YtfiggkbclldccaaRef26
namespace Go.Proofs.Ytfiggkbclldccaa
open Go Go.RowKit Go.MapKept
set_option maxRecDepth 100000
set_option linter.unusedVariables false
set_option maxHeartbeats 1000000
attribute [local go_sem] exactUpon looseUpon

def acL (a : AcM) : List Value := (acCells a).toList
theorem acL_len : ∀ a, (acL a).length = 3 := fun _ => rfl
theorem acL_one (a : AcM) : ∀ u ∈ acL a, u.oneCell' = true := by simp [acL, acCells, Value.oneCell']
theorem acs_one (l : List AcM) : ∀ u ∈ l.flatMap acL, u.oneCell' = true := fun u hu => by
  obtain ⟨t, _, h⟩ := List.mem_flatMap.1 hu
  exact acL_one t u h
def ownAc (v : Value) (l : List AcM) : HProp := ownRow 55 3 v l.length (l.flatMap acL)
def roAc (v : Value) (l : List AcM) : HProp := roRow 3 v l.length (l.flatMap acL)
theorem holds.shareAc {w : World} {F : List HProp} {v : Value} {l : List AcM} (h : holds w (ownAc v l :: F)) : holds w (roAc v l :: F) := holds.shareRow h
theorem roAc_form {w : World} {F : List HProp} {v : Value} {l : List AcM} (h : holds w (roAc v l :: F)) : ∃ a cap, v = .slice a l.length cap ∧ l.length ≤ cap := (holds.roReads h).form
theorem holds.roAcAt {w : World} {F : List HProp} {v : Value} {l : List AcM} (hw : holds w (roAc v l :: F)) (h0 : 0 < l.length) :
    ∃ g off cap, v = .slice (some ⟨g, off, none⟩) l.length cap ∧ l.length ≤ cap ∧ ∀ (i : Nat) (hi : i < l.length), w.cell? ⟨g, off + i * 3, none⟩ = some (.int .i64 l[i].claim) ∧ w.cell? ⟨g, off + i * 3 + 1, none⟩ = some (.int .i64 l[i].held) ∧ w.cell? ⟨g, off + i * 3 + 2, none⟩ = some (.int .i64 l[i].credits) := by
  obtain ⟨g, off, cap, h1, h2, h4⟩ := holds.roElemAt acL_len hw h0 (by omega)
  exact ⟨g, off, cap, h1, h2, fun i hi => ⟨h4 i hi 0 (by omega), h4 i hi 1 (by omega), h4 i hi 2 (by omega)⟩⟩
theorem holds.acAt {w : World} {F : List HProp} {v : Value} {l : List AcM} (hw : holds w (ownAc v l :: F)) (h0 : 0 < l.length) :
    ∃ g cap, v = .slice (some ⟨g, 0, none⟩) l.length cap ∧ l.length ≤ cap ∧ cap ≤ maxLen := by
  obtain ⟨g, cap, h1, h2, h3, _⟩ := holds.elemAt acL_len hw h0
  exact ⟨g, cap, h1, h2, h3⟩
theorem Try.infoAc : (Try.prog.info? 55).map (fun i => (i.zero, i.size, i.bytes)) = some (some (acV ac0), 3, 24) := by kernel_rfl
theorem holds.emptyAcAt {w : World} {F : List HProp} {n : Nat} (hw : holds w F) (hn : w.heap.size = n) : holds (w.alloc (.cells #[] 55)) (ownAc (.slice (some ⟨n, 0, none⟩) 0 0) [] :: F) := by
  subst hn
  exact (hw.alloc (.cells #[] 55 (0, 0))).mkRow (size := 3) (n := 0) (cap := 0) (Nat.le_refl _) (Nat.zero_le _) (by simp)

theorem holds.alloc2 {w : World} {F : List HProp} (h : holds w F) (o1 o2 : Obj) : holds ((w.alloc o1).alloc o2) (blk (w.heap.size + 1) o2 :: blk w.heap.size o1 :: F) := by
  have := (h.alloc o1).alloc o2
  simp only [World.size_alloc] at this
  exact this
theorem holds.alloc3 {w : World} {F : List HProp} (h : holds w F) (o1 o2 o3 : Obj) : holds (((w.alloc o1).alloc o2).alloc o3) (blk (w.heap.size + 1 + 1) o3 :: blk (w.heap.size + 1) o2 :: blk w.heap.size o1 :: F) := by
  have := ((h.alloc o1).alloc o2).alloc o3
  simp only [World.size_alloc] at this
  exact this
theorem cells5 {w : World} {n : Nat} {T : TypeId} {x0 x1 x2 x3 x4 : Value} {F : List HProp} (h : holds w (blk n (.cells #[x0, x1, x2, x3, x4] T (0, 0)) :: F)) :
    w.cell? ⟨n, 0, none⟩ = some x0 ∧ w.cell? ⟨n, 1, none⟩ = some x1 ∧ w.cell? ⟨n, 2, none⟩ = some x2 ∧ w.cell? ⟨n, 3, none⟩ = some x3 ∧ w.cell? ⟨n, 4, none⟩ = some x4 ∧
    w.frozen? ⟨n, 0, none⟩ = false ∧ w.frozen? ⟨n, 1, none⟩ = false ∧ w.frozen? ⟨n, 2, none⟩ = false ∧ w.frozen? ⟨n, 3, none⟩ = false ∧ w.frozen? ⟨n, 4, none⟩ = false := by
  have r := h.get_blk
  exact ⟨cellAt r 0, cellAt r 1, cellAt r 2, cellAt r 3, cellAt r 4, frozen_of_row _ _ _ _ _ r, frozen_of_row _ _ _ _ _ r, frozen_of_row _ _ _ _ _ r, frozen_of_row _ _ _ _ _ r, frozen_of_row _ _ _ _ _ r⟩
theorem storeT5 {w : World} {n : Nat} {T : TypeId} {x0 x1 x2 x3 x4 : Value} {F : List HProp} (h : holds w (blk n (.cells #[x0, x1, x2, x3, x4] T (0, 0)) :: F)) (y0 y1 y2 y3 y4 : Value) :
    holds (((((w.setCell ⟨n, 0, none⟩ y0).setCell ⟨n, 1, none⟩ y1).setCell ⟨n, 2, none⟩ y2).setCell ⟨n, 3, none⟩ y3).setCell ⟨n, 4, none⟩ y4) (blk n (.cells #[y0, y1, y2, y3, y4] T (0, 0)) :: F) :=
  ((((h.setCell 0 y0).setCell 1 y1).setCell 2 y2).setCell 3 y3).setCell 4 y4
/-- The reference's value: the slots', and all accounts. -/
def tV (vo vg vc : Value) (fr : Int) (vA : Value) : Value := .agg #[vo, vg, vc, .int .i64 fr, vA]


/-- The reference's state: the slots, and the accounts of all places. -/
def Accs.get (s : SlotsM) (A : List AcM) (p g : Int) : AcM × Int := if s.right p g then (A.getD p.toNat ac0, 0) else (ac0, 4)
end Go.Proofs.Ytfiggkbclldccaa
