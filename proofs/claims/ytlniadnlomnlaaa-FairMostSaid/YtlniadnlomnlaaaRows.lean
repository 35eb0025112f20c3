/-
  No cell of these rows narrows 'for every input' (looked for: loops, veiled, ifaces, maps, wideKeys, modest, calm, conditions, laid).
  DERIVED. THE GIVEN ROWS OF THIS SEAT. 6 by the template 'for every input the law returns true; each argument reads behind the call as it read before'; 0 by the template 'total and deterministic' (their statements: YtlniadnlomnlaaaTotals.lean).
  GIVEN WITH THE SEED: the statements are not yours to turn. If you find one false, say at which input.
  Laid BY PROGRAM, IN A SANDBOX (cutbox-rows.mjs): the forced cells as the released guide's own fill.sh prints them over the translation 152cc86286c388b0… (all of the seat's roots in one cut). By AI agents, Wed Nov 11 2026. No macro, syntax, notation, axiom, sorry.
-/
import Derived.Test.YtlniadnlomnlaaaChecked
import GoSem.Claim
import GoSem.ClaimJoined
import GoSem.ClaimMapViews
import Derived.JoinedTies
import Derived.KernelRfl
namespace Go.Proofs.Ytlniadnlomnlaaa
/- THE CELL 'sum', in the pinned program and in every row, IS THE sha256 OF THE DUMP (.gsa) THAT YtlniadnlomnlaaaProg.lean LOADS. Nothing in Lean hashes anything: it is a label: what it is worth is what the hold of that sum in a sandbox is worth. -/
noncomputable def Try.pinned : Pinned := { name := "ytlniadnlomnlaaa", sum := "152cc86286c388b0958fddaa41194e2ddab23799bd8eaffaba8b046a47c6e468", checked := Try.checked }
namespace Rows
def none {H : Type} : Left H := { results := [], args := [] }

/-- 'copyholdlaw41.LivePlays': WHATEVER THE INPUT: true; the input reads as it did. -/
def livePlaysSpec : ChangeSpec := { name := "livePlays", fn := fun _ => fun
  | [d1, d2] => { results := [.lit (.bool true)], args := [d1, d2] }
  | _ => none }
def livePlaysRow : OpenClaim := { program := "ytlniadnlomnlaaa", sum := "152cc86286c388b0958fddaa41194e2ddab23799bd8eaffaba8b046a47c6e468", func := "copyhold/copyholdlaw41.LivePlays", spec := "livePlays", unfollowed := true, recurses := true, apart := false }
def LivePlaysSaid : Prop := livePlaysRow.holds Try.pinned (OpenSpec.ofChange livePlaysSpec)

/-- ITS FALSE NEIGHBOUR: 'it returns false'. Refute it at one input. -/
def livePlaysWrong : ChangeSpec := { name := "livePlays", fn := fun _ => fun
  | [d1, d2] => { results := [.lit (.bool false)], args := [d1, d2] }
  | _ => none }
def LivePlaysWrongFalsely : Prop := livePlaysRow.holds Try.pinned (OpenSpec.ofChange livePlaysWrong)

/-- 'copyholdlaw41.LiveApart': WHATEVER THE INPUT: true; the input reads as it did. -/
def liveApartSpec : ChangeSpec := { name := "liveApart", fn := fun _ => fun
  | [d] => { results := [.lit (.bool true)], args := [d] }
  | _ => none }
def liveApartRow : OpenClaim := { program := "ytlniadnlomnlaaa", sum := "152cc86286c388b0958fddaa41194e2ddab23799bd8eaffaba8b046a47c6e468", func := "copyhold/copyholdlaw41.LiveApart", spec := "liveApart", unfollowed := true, recurses := true, apart := false }
def LiveApartSaid : Prop := liveApartRow.holds Try.pinned (OpenSpec.ofChange liveApartSpec)

/-- ITS FALSE NEIGHBOUR: 'it returns false'. Refute it at one input. -/
def liveApartWrong : ChangeSpec := { name := "liveApart", fn := fun _ => fun
  | [d] => { results := [.lit (.bool false)], args := [d] }
  | _ => none }
def LiveApartWrongFalsely : Prop := liveApartRow.holds Try.pinned (OpenSpec.ofChange liveApartWrong)

/-- 'copyholdlaw41.LiveHoles': WHATEVER THE INPUT: true; the input reads as it did. -/
def liveHolesSpec : ChangeSpec := { name := "liveHoles", fn := fun _ => fun
  | [d1, d2] => { results := [.lit (.bool true)], args := [d1, d2] }
  | _ => none }
def liveHolesRow : OpenClaim := { program := "ytlniadnlomnlaaa", sum := "152cc86286c388b0958fddaa41194e2ddab23799bd8eaffaba8b046a47c6e468", func := "copyhold/copyholdlaw41.LiveHoles", spec := "liveHoles", unfollowed := true, recurses := true, apart := false }
def LiveHolesSaid : Prop := liveHolesRow.holds Try.pinned (OpenSpec.ofChange liveHolesSpec)

/-- ITS FALSE NEIGHBOUR: 'it returns false'. Refute it at one input. -/
def liveHolesWrong : ChangeSpec := { name := "liveHoles", fn := fun _ => fun
  | [d1, d2] => { results := [.lit (.bool false)], args := [d1, d2] }
  | _ => none }
def LiveHolesWrongFalsely : Prop := liveHolesRow.holds Try.pinned (OpenSpec.ofChange liveHolesWrong)

/-- 'copyholdlaw48.FairPassed': WHATEVER THE INPUT: true; the input reads as it did. -/
def fairPassedSpec : ChangeSpec := { name := "fairPassed", fn := fun _ => fun
  | [d] => { results := [.lit (.bool true)], args := [d] }
  | _ => none }
def fairPassedRow : OpenClaim := { program := "ytlniadnlomnlaaa", sum := "152cc86286c388b0958fddaa41194e2ddab23799bd8eaffaba8b046a47c6e468", func := "copyhold/copyholdlaw48.FairPassed", spec := "fairPassed", unfollowed := true, recurses := true, apart := false }
def FairPassedSaid : Prop := fairPassedRow.holds Try.pinned (OpenSpec.ofChange fairPassedSpec)

/-- ITS FALSE NEIGHBOUR: 'it returns false'. Refute it at one input. -/
def fairPassedWrong : ChangeSpec := { name := "fairPassed", fn := fun _ => fun
  | [d] => { results := [.lit (.bool false)], args := [d] }
  | _ => none }
def FairPassedWrongFalsely : Prop := fairPassedRow.holds Try.pinned (OpenSpec.ofChange fairPassedWrong)

/-- 'copyholdlaw48.FairMost': WHATEVER THE INPUT: true; the input reads as it did. -/
def fairMostSpec : ChangeSpec := { name := "fairMost", fn := fun _ => fun
  | [d] => { results := [.lit (.bool true)], args := [d] }
  | _ => none }
def fairMostRow : OpenClaim := { program := "ytlniadnlomnlaaa", sum := "152cc86286c388b0958fddaa41194e2ddab23799bd8eaffaba8b046a47c6e468", func := "copyhold/copyholdlaw48.FairMost", spec := "fairMost", unfollowed := true, recurses := true, apart := false }
def FairMostSaid : Prop := fairMostRow.holds Try.pinned (OpenSpec.ofChange fairMostSpec)

/-- ITS FALSE NEIGHBOUR: 'it returns false'. Refute it at one input. -/
def fairMostWrong : ChangeSpec := { name := "fairMost", fn := fun _ => fun
  | [d] => { results := [.lit (.bool false)], args := [d] }
  | _ => none }
def FairMostWrongFalsely : Prop := fairMostRow.holds Try.pinned (OpenSpec.ofChange fairMostWrong)

/-- 'copyholdlaw49.SoundWhy': WHATEVER THE INPUT: true; the input reads as it did. -/
def soundWhySpec : ChangeSpec := { name := "soundWhy", fn := fun _ => fun
  | [d1, d2, d3] => { results := [.lit (.bool true)], args := [d1, d2, d3] }
  | _ => none }
def soundWhyRow : OpenClaim := { program := "ytlniadnlomnlaaa", sum := "152cc86286c388b0958fddaa41194e2ddab23799bd8eaffaba8b046a47c6e468", func := "copyhold/copyholdlaw49.SoundWhy", spec := "soundWhy", unfollowed := true, recurses := true, apart := false }
def SoundWhySaid : Prop := soundWhyRow.holds Try.pinned (OpenSpec.ofChange soundWhySpec)

/-- ITS FALSE NEIGHBOUR: 'it returns false'. Refute it at one input. -/
def soundWhyWrong : ChangeSpec := { name := "soundWhy", fn := fun _ => fun
  | [d1, d2, d3] => { results := [.lit (.bool false)], args := [d1, d2, d3] }
  | _ => none }
def SoundWhyWrongFalsely : Prop := soundWhyRow.holds Try.pinned (OpenSpec.ofChange soundWhyWrong)

/- THE SECOND FORM. 'bulk': how many values and letters a reading holds, each counted each time it is reached (what is shared counts as often as it is met; a slice's spare places count too). A statement '..UptoSaid' is the law's where the arguments, and the package variables that the reading takes, are together of bulk at most 1048576: NARROWER than '..Said'. Prove '..Said' where nothing that the law and all that it calls make is longer than what came in: it says more and counts as full. Else prove '..UptoSaid'. A law counts once. -/
mutual
def uptoBulk {H : Type} : DataW H → Nat
  | .lit (.string bytes) => bytes.length + 1
  | .lit _ => 1
  | .nil => 1
  | .ptr d => uptoBulk d + 1
  | .slice elems spare => uptoBulkAll elems + uptoBulkAll spare + 1
  | .agg parts => uptoBulkAll parts + 1
  | .iface _ d => uptoBulk d + 1
  | .map entries => uptoBulkEntries entries + 1
  | .held _ => 1
def uptoBulkAll {H : Type} : List (DataW H) → Nat
  | [] => 0
  | d :: r => uptoBulk d + uptoBulkAll r
def uptoBulkEntries {H : Type} : List (Lit × DataW H) → Nat
  | [] => 0
  | x :: r => uptoBulkEntry x + uptoBulkEntries r
def uptoBulkEntry {H : Type} : Lit × DataW H → Nat
  | (.string bytes, d) => bytes.length + uptoBulk d + 1
  | (_, d) => uptoBulk d + 1
 end
def uptoSmall : (H : Type) → List (DataW H) → Bool := fun _ ds => decide (uptoBulkAll ds ≤ 1048576)
def OpenSpec.upto (s : _root_.Go.ChangeSpec) : _root_.Go.OpenSpec := { _root_.Go.OpenSpec.ofChange s with cond := some uptoSmall }

/-- 'copyholdlaw41.LivePlays', WHERE WHAT IT READS IS OF BULK AT MOST 1048576: true; the input reads as it did. -/
def livePlaysUptoRow : OpenClaim := { program := "ytlniadnlomnlaaa", sum := "152cc86286c388b0958fddaa41194e2ddab23799bd8eaffaba8b046a47c6e468", func := "copyhold/copyholdlaw41.LivePlays", spec := "livePlays", unfollowed := true, recurses := true, apart := false, narrowed := true }
def LivePlaysUptoSaid : Prop := livePlaysUptoRow.holds Try.pinned (OpenSpec.upto livePlaysSpec)

/-- 'copyholdlaw41.LiveApart', WHERE WHAT IT READS IS OF BULK AT MOST 1048576: true; the input reads as it did. -/
def liveApartUptoRow : OpenClaim := { program := "ytlniadnlomnlaaa", sum := "152cc86286c388b0958fddaa41194e2ddab23799bd8eaffaba8b046a47c6e468", func := "copyhold/copyholdlaw41.LiveApart", spec := "liveApart", unfollowed := true, recurses := true, apart := false, narrowed := true }
def LiveApartUptoSaid : Prop := liveApartUptoRow.holds Try.pinned (OpenSpec.upto liveApartSpec)

/-- 'copyholdlaw41.LiveHoles', WHERE WHAT IT READS IS OF BULK AT MOST 1048576: true; the input reads as it did. -/
def liveHolesUptoRow : OpenClaim := { program := "ytlniadnlomnlaaa", sum := "152cc86286c388b0958fddaa41194e2ddab23799bd8eaffaba8b046a47c6e468", func := "copyhold/copyholdlaw41.LiveHoles", spec := "liveHoles", unfollowed := true, recurses := true, apart := false, narrowed := true }
def LiveHolesUptoSaid : Prop := liveHolesUptoRow.holds Try.pinned (OpenSpec.upto liveHolesSpec)

/-- 'copyholdlaw48.FairPassed', WHERE WHAT IT READS IS OF BULK AT MOST 1048576: true; the input reads as it did. -/
def fairPassedUptoRow : OpenClaim := { program := "ytlniadnlomnlaaa", sum := "152cc86286c388b0958fddaa41194e2ddab23799bd8eaffaba8b046a47c6e468", func := "copyhold/copyholdlaw48.FairPassed", spec := "fairPassed", unfollowed := true, recurses := true, apart := false, narrowed := true }
def FairPassedUptoSaid : Prop := fairPassedUptoRow.holds Try.pinned (OpenSpec.upto fairPassedSpec)

/-- 'copyholdlaw48.FairMost', WHERE WHAT IT READS IS OF BULK AT MOST 1048576: true; the input reads as it did. -/
def fairMostUptoRow : OpenClaim := { program := "ytlniadnlomnlaaa", sum := "152cc86286c388b0958fddaa41194e2ddab23799bd8eaffaba8b046a47c6e468", func := "copyhold/copyholdlaw48.FairMost", spec := "fairMost", unfollowed := true, recurses := true, apart := false, narrowed := true }
def FairMostUptoSaid : Prop := fairMostUptoRow.holds Try.pinned (OpenSpec.upto fairMostSpec)

/-- 'copyholdlaw49.SoundWhy', WHERE WHAT IT READS IS OF BULK AT MOST 1048576: true; the input reads as it did. -/
def soundWhyUptoRow : OpenClaim := { program := "ytlniadnlomnlaaa", sum := "152cc86286c388b0958fddaa41194e2ddab23799bd8eaffaba8b046a47c6e468", func := "copyhold/copyholdlaw49.SoundWhy", spec := "soundWhy", unfollowed := true, recurses := true, apart := false, narrowed := true }
def SoundWhyUptoSaid : Prop := soundWhyUptoRow.holds Try.pinned (OpenSpec.upto soundWhySpec)

end Rows
end Go.Proofs.Ytlniadnlomnlaaa
