/- Contracts of the reference of chapter 27: Open, Close, Do. -/
import Derived.Test.YtfiggkbclldccaaRef27
namespace Go.Proofs.Ytfiggkbclldccaa
open Go Go.RowKit Go.MapKept
set_option maxRecDepth 100000
set_option linter.unusedVariables false
set_option maxHeartbeats 1000000
attribute [local go_sem] exactUpon looseUpon

theorem dupRS {w : World} {F : List HProp} {vo vg vc : Value} {O : List Bool} {G C : List Int} (h : holds w (roBools vo O :: roInts vg G :: roInts vc C :: F)) : holds w (roBools vo O :: roInts vg G :: roInts vc C :: roBools vo O :: roInts vg G :: roInts vc C :: F) := by
  have h1 : holds w (roBools vo O :: roBools vo O :: roInts vg G :: roInts vc C :: F) := holds.dupRow h
  have h2 : holds w (roInts vg G :: roInts vg G :: roBools vo O :: roBools vo O :: roInts vc C :: F) := holds.dupInts (h1.order [2, 0, 1])
  have h3 : holds w (roInts vc C :: roInts vc C :: roInts vg G :: roInts vg G :: roBools vo O :: roBools vo O :: F) := holds.dupInts (h2.order [4, 0, 1, 2, 3])
  exact h3.order [4, 2, 0, 5, 3, 1]
structure AccsM where
  s : SlotsM
  A : List AcM
def Accs.open (t : AccsM) (claim : Int) : AccsM × Int × Int × Int :=
  if (Acct.new claim).2 ≠ 0 then (t, 0, 0, (Acct.new claim).2) else if t.s.told.2.2 then (⟨t.s.opened, t.A.set t.s.told.1.toNat (Acct.new claim).1⟩, t.s.told.1, t.s.told.2.1, 0) else (t, 0, 0, 10)
def Accs.close (t : AccsM) (p g : Int) : AccsM × Int :=
  if (Accs.get t.s t.A p g).2 ≠ 0 then (t, (Accs.get t.s t.A p g).2) else if 0 < (Accs.get t.s t.A p g).1.held ∨ 0 < (Accs.get t.s t.A p g).1.credits then (t, 11) else (⟨t.s.closeAt p, t.A.set p.toNat ac0⟩, 0)
def Accs.act (t : AccsM) (c p g n : Int) : AccsM × Int :=
  if c < 1 ∨ 4 < c then (t, 2) else if (Accs.get t.s t.A p g).2 ≠ 0 then (t, (Accs.get t.s t.A p g).2)
  else if (Acct.act c (Accs.get t.s t.A p g).1 n).2 ≠ 0 then (t, (Acct.act c (Accs.get t.s t.A p g).1 n).2) else (⟨t.s, t.A.set p.toNat (Acct.act c (Accs.get t.s t.A p g).1 n).1⟩, 0)

end Go.Proofs.Ytfiggkbclldccaa
