/- Contract of slots.Places. -/
import Derived.Test.YtfiggkbclldccaaGreatSlotsC
import Derived.Test.YtfiggkbclldccaaGreatLooseT
import Derived.Test.YtfiggkbclldccaaGreatSorted
namespace Go.Proofs.YtfiggkbclldccaaGreat
open Go Go.RowKit Go.MapKept
set_option maxRecDepth 100000

set_option maxRecDepth 100000 in
theorem slots_Places (w : World) (v : Value) (s : SlotsM) (F : List HProp) (hsz : s.opn.length ≤ 1000000) (hwf : ∀ x ∈ alKeys s.opn, 0 ≤ x ∧ x ≤ 1048576) (hw : holds w (slotsAt v s :: F)) :
    Calls Tryz.prog 192 #[v] w fun e w' => ∃ r, e = .returned r ∧ holds w' (roInts r (sortInts (alKeys s.opn)) :: slotsAt v s :: F) := by
  obtain ⟨b, bm, vg, vc, rfl, h⟩ := open_slots hw
  have c1 := cellAt h.get_blk 1
  simp at c1
  have hwf2 : ∀ x ∈ alKeys s.opn, (Lit.int .i64 x).wf = true := fun x hx => by
    have := hwf x hx
    have h1 : IntKind.i64.min = -9223372036854775808 := by decide
    have h2 : IntKind.i64.max = 9223372036854775807 := by decide
    simp only [Lit.wf, h1, h2, Bool.and_eq_true, decide_eq_true_eq]
    omega
  clear hw
  go_enter Tryz.func192, Tryz.ntmps192
  go_wp2_with fail
  refine (Tryz.keysIB_call _ _ _ h).mono ?_
  rintro e w1 ⟨rfl, h1⟩
  have h2 : holds w1 (_ :: _ :: _ :: _ :: _ :: F) := h1.sel 5 [0, 4, 1, 2, 3]
  go_wp2_with fail
  refine (Tryz.sortedIB_call _ _ _ _ _ _ h2 hwf2 (by omega)).mono ?_
  rintro e w2 ⟨r, rfl, h3⟩
  go_wp2_with fail
  go_ret
  have h4 : holds w2 (blk b _ :: ownInts vg s.gens :: ownInts vc s.closed :: imap .bool bm s.opn :: roInts r _ :: F) := h3.shareInts.sel 5 [2, 3, 4, 1, 0]
  have h5 := shut_slots h4
  exact ⟨_, rfl, h5.sel 2 [1, 0]⟩
end Go.Proofs.YtfiggkbclldccaaGreat
