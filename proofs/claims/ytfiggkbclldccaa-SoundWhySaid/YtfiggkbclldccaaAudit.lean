/- Contracts of package audit and of its reference. -/
import Derived.Test.YtfiggkbclldccaaSepD
import Derived.Test.YtfiggkbclldccaaAuditPlain
namespace Go.Proofs.Ytfiggkbclldccaa
open Go Go.RowKit Go.MapKept
set_option maxRecDepth 100000

def chunkV (c : ChunkM) : Value := .agg #[.int .i64 c.phase, .int .i64 c.owner, .int .i64 c.gen]

theorem audit_is (n : Int) (w : World) : Calls Try.prog 79 #[.int .i64 n] w fun e w' => e = .returned (.bool (Audit.is n)) ∧ w = w' := by
  by_cases h : 0 ≤ n <;> by_cases h2 : n ≤ 3
  all_goals
    go_enter Try.func79, Try.ntmps79
    go_wp2
    go_ret
    exact ⟨by simp [Audit.is, h, h2], rfl⟩

namespace Audit
def follows (a b : ChunkM) : Bool :=
  if !is a.phase || !is b.phase || decide (a.gen < 0) || decide (b.gen < a.gen) then false
  else if a.gen < b.gen then true
  else decide (a.phase ≤ b.phase) && (a.phase != 1 || b.phase != 1 || a.owner == b.owner)
end Audit

theorem audit_Follows (a b : ChunkM) (w : World) (F : List HProp) (hw : holds w F) :
    Calls Try.prog 43 #[chunkV a, chunkV b] w fun e w' => e = .returned (.bool (Audit.follows a b)) ∧ holds w' F := by
  obtain ⟨r, hr⟩ : ∃ r, Audit.follows a b = r := ⟨_, rfl⟩
  rw [hr]
  obtain ⟨ap, ao, ag⟩ := a
  obtain ⟨bp, bo, bg⟩ := b
  unfold chunkV
  simp only
  have HR := Lib.hid hr
  clear hr
  go_enter Try.func43, Try.ntmps43
  go_wp2_with (go_at_call 79; refine (audit_is _ _).mono ?_; rintro e w' ⟨rfl, rfl⟩)
  all_goals
    go_ret
    refine ⟨?_, (hw.alloc _).tail.alloc _ |>.tail⟩
    rw [← HR.out]
    simp_all [Audit.follows]
  all_goals first | omega | simp [show ¬ ag < 0 by omega, show ¬ bg < ag by omega, show ¬ ag < bg by omega]

namespace Audit
def refFollows (a b : ChunkM) : Bool :=
  if decide (a.phase < 0) || decide (3 < a.phase) || decide (b.phase < 0) || decide (3 < b.phase) || decide (a.gen < 0) || decide (b.gen < a.gen) then false
  else if b.gen == a.gen && decide (b.phase < a.phase) then false
  else decide (a.gen < b.gen) || a.phase != 1 || b.phase != 1 || a.owner == b.owner
end Audit

theorem ref_Follows (a b : ChunkM) (w : World) (F : List HProp) (hw : holds w F) :
    Calls Try.prog 44 #[chunkV a, chunkV b] w fun e w' => e = .returned (.bool (Audit.refFollows a b)) ∧ holds w' F := by
  obtain ⟨r, hr⟩ : ∃ r, Audit.refFollows a b = r := ⟨_, rfl⟩
  rw [hr]
  obtain ⟨ap, ao, ag⟩ := a
  obtain ⟨bp, bo, bg⟩ := b
  unfold chunkV
  simp only
  have HR := Lib.hid hr
  clear hr
  go_enter Try.func44, Try.ntmps44
  go_wp2
  all_goals
    go_ret
    refine ⟨?_, (hw.alloc _).tail.alloc _ |>.tail⟩
    rw [← HR.out]
    simp_all [Audit.refFollows]
  all_goals first | omega | simp [show ¬ ag < 0 by omega, show ¬ bg < ag by omega, show ¬ ag < bg by omega]

end Go.Proofs.Ytfiggkbclldccaa
