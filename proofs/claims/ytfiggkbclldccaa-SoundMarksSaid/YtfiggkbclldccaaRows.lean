/-
  No cell of these rows narrows 'for every input' (looked for: loops, veiled, ifaces, maps, wideKeys, modest, calm, conditions, laid).
  DERIVED. THE GIVEN ROWS OF THIS SEAT. 3 by the template 'for every input the law returns true; each argument reads behind the call as it read before'; 0 by the template 'total and deterministic' (their statements: YtfiggkbclldccaaTotals.lean).
  GIVEN WITH THE SEED: the statements are not yours to turn. If you find one false, say at which input.
  Laid BY PROGRAM, IN A SANDBOX (cutbox-rows.mjs): the forced cells as the released guide's own fill.sh prints them over the translation db58773f1e67a3c4… (all of the seat's roots in one cut). By AI agents, Wed Nov 11 2026. No macro, syntax, notation, axiom, sorry.
-/
import Derived.Test.YtfiggkbclldccaaChecked
import GoSem.Claim
import GoSem.ClaimJoined
import GoSem.ClaimMapViews
import Derived.JoinedTies
import Derived.KernelRfl
namespace Go.Proofs.Ytfiggkbclldccaa
/- THE CELL 'sum', in the pinned program and in every row, IS THE sha256 OF THE DUMP (.gsa) THAT YtfiggkbclldccaaProg.lean LOADS. Nothing in Lean hashes anything: it is a label: what it is worth is what the hold of that sum in a sandbox is worth. -/
noncomputable def Try.pinned : Pinned := { name := "ytfiggkbclldccaa", sum := "db58773f1e67a3c47f63de1dfb50eb23b2dc2b781de8a29510be63d86eebde6e", checked := Try.checked }
namespace Rows
def none {H : Type} : Left H := { results := [], args := [] }

/-- 'copyholdlaw49.SoundWhy': WHATEVER THE INPUT: true; the input reads as it did. -/
def soundWhySpec : ChangeSpec := { name := "soundWhy", fn := fun _ => fun
  | [d1, d2, d3] => { results := [.lit (.bool true)], args := [d1, d2, d3] }
  | _ => none }
def soundWhyRow : OpenClaim := { program := "ytfiggkbclldccaa", sum := "db58773f1e67a3c47f63de1dfb50eb23b2dc2b781de8a29510be63d86eebde6e", func := "copyhold/copyholdlaw49.SoundWhy", spec := "soundWhy", unfollowed := true, recurses := true, plainKeys := false, apart := false }
def SoundWhySaid : Prop := soundWhyRow.holds Try.pinned (OpenSpec.ofChange soundWhySpec)

/-- ITS FALSE NEIGHBOUR: 'it returns false'. Refute it at one input. -/
def soundWhyWrong : ChangeSpec := { name := "soundWhy", fn := fun _ => fun
  | [d1, d2, d3] => { results := [.lit (.bool false)], args := [d1, d2, d3] }
  | _ => none }
def SoundWhyWrongFalsely : Prop := soundWhyRow.holds Try.pinned (OpenSpec.ofChange soundWhyWrong)

/-- 'copyholdlaw49.SoundMarks': WHATEVER THE INPUT: true; the input reads as it did. -/
def soundMarksSpec : ChangeSpec := { name := "soundMarks", fn := fun _ => fun
  | [d1, d2] => { results := [.lit (.bool true)], args := [d1, d2] }
  | _ => none }
def soundMarksRow : OpenClaim := { program := "ytfiggkbclldccaa", sum := "db58773f1e67a3c47f63de1dfb50eb23b2dc2b781de8a29510be63d86eebde6e", func := "copyhold/copyholdlaw49.SoundMarks", spec := "soundMarks", inPlace := ["sync/atomic.StoreUint64", "sync/atomic.LoadUint64"], unfollowed := true, recurses := true, plainKeys := false, apart := false }
def SoundMarksSaid : Prop := soundMarksRow.holds Try.pinned (OpenSpec.ofChange soundMarksSpec)

/-- ITS FALSE NEIGHBOUR: 'it returns false'. Refute it at one input. -/
def soundMarksWrong : ChangeSpec := { name := "soundMarks", fn := fun _ => fun
  | [d1, d2] => { results := [.lit (.bool false)], args := [d1, d2] }
  | _ => none }
def SoundMarksWrongFalsely : Prop := soundMarksRow.holds Try.pinned (OpenSpec.ofChange soundMarksWrong)

/-- 'copyholdlaw30.LedgerClaims': WHATEVER THE INPUT: true; the input reads as it did. -/
def ledgerClaimsSpec : ChangeSpec := { name := "ledgerClaims", fn := fun _ => fun
  | [d] => { results := [.lit (.bool true)], args := [d] }
  | _ => none }
def ledgerClaimsRow : OpenClaim := { program := "ytfiggkbclldccaa", sum := "db58773f1e67a3c47f63de1dfb50eb23b2dc2b781de8a29510be63d86eebde6e", func := "copyhold/copyholdlaw30.LedgerClaims", spec := "ledgerClaims", unfollowed := true, recurses := true, plainKeys := false, apart := false }
def LedgerClaimsSaid : Prop := ledgerClaimsRow.holds Try.pinned (OpenSpec.ofChange ledgerClaimsSpec)

/-- ITS FALSE NEIGHBOUR: 'it returns false'. Refute it at one input. -/
def ledgerClaimsWrong : ChangeSpec := { name := "ledgerClaims", fn := fun _ => fun
  | [d] => { results := [.lit (.bool false)], args := [d] }
  | _ => none }
def LedgerClaimsWrongFalsely : Prop := ledgerClaimsRow.holds Try.pinned (OpenSpec.ofChange ledgerClaimsWrong)

/- THE SECOND FORM. 'bulk': how many values and letters a reading holds, each counted each time it is reached (what is shared counts as often as it is met; a slice's spare places count too). A statement '..UptoSaid' is the law's where the arguments, and the package variables that the reading takes, are together of bulk at most 1048576: NARROWER than '..Said'. Prove '..Said' where nothing that the law and all that it calls make is longer than what came in: it says more and counts as full. Else prove '..UptoSaid'. A law counts once. -/
mutual
def uptoBulk {H : Type} : DataW H → Nat
  | .lit (.string bytes) => bytes.length + 1
  | .lit _ => 1
  | .nil => 1
  | .ptr d => uptoBulk d + 1
  | .slice elems spare => uptoBulkAll elems + uptoBulkAll spare + 1
  | .agg parts => uptoBulkAll parts + 1
  | .iface _ d => uptoBulk d + 1
  | .map entries => uptoBulkEntries entries + 1
  | .held _ => 1
def uptoBulkAll {H : Type} : List (DataW H) → Nat
  | [] => 0
  | d :: r => uptoBulk d + uptoBulkAll r
def uptoBulkEntries {H : Type} : List (Lit × DataW H) → Nat
  | [] => 0
  | x :: r => uptoBulkEntry x + uptoBulkEntries r
def uptoBulkEntry {H : Type} : Lit × DataW H → Nat
  | (.string bytes, d) => bytes.length + uptoBulk d + 1
  | (_, d) => uptoBulk d + 1
 end
def uptoSmall : (H : Type) → List (DataW H) → Bool := fun _ ds => decide (uptoBulkAll ds ≤ 1048576)
def OpenSpec.upto (s : _root_.Go.ChangeSpec) : _root_.Go.OpenSpec := { _root_.Go.OpenSpec.ofChange s with cond := some uptoSmall }

/-- 'copyholdlaw49.SoundWhy', WHERE WHAT IT READS IS OF BULK AT MOST 1048576: true; the input reads as it did. -/
def soundWhyUptoRow : OpenClaim := { program := "ytfiggkbclldccaa", sum := "db58773f1e67a3c47f63de1dfb50eb23b2dc2b781de8a29510be63d86eebde6e", func := "copyhold/copyholdlaw49.SoundWhy", spec := "soundWhy", unfollowed := true, recurses := true, plainKeys := false, apart := false, narrowed := true }
def SoundWhyUptoSaid : Prop := soundWhyUptoRow.holds Try.pinned (OpenSpec.upto soundWhySpec)

/-- 'copyholdlaw49.SoundMarks', WHERE WHAT IT READS IS OF BULK AT MOST 1048576: true; the input reads as it did. -/
def soundMarksUptoRow : OpenClaim := { program := "ytfiggkbclldccaa", sum := "db58773f1e67a3c47f63de1dfb50eb23b2dc2b781de8a29510be63d86eebde6e", func := "copyhold/copyholdlaw49.SoundMarks", spec := "soundMarks", inPlace := ["sync/atomic.StoreUint64", "sync/atomic.LoadUint64"], unfollowed := true, recurses := true, plainKeys := false, apart := false, narrowed := true }
def SoundMarksUptoSaid : Prop := soundMarksUptoRow.holds Try.pinned (OpenSpec.upto soundMarksSpec)

/-- 'copyholdlaw30.LedgerClaims', WHERE WHAT IT READS IS OF BULK AT MOST 1048576: true; the input reads as it did. -/
def ledgerClaimsUptoRow : OpenClaim := { program := "ytfiggkbclldccaa", sum := "db58773f1e67a3c47f63de1dfb50eb23b2dc2b781de8a29510be63d86eebde6e", func := "copyhold/copyholdlaw30.LedgerClaims", spec := "ledgerClaims", unfollowed := true, recurses := true, plainKeys := false, apart := false, narrowed := true }
def LedgerClaimsUptoSaid : Prop := ledgerClaimsUptoRow.holds Try.pinned (OpenSpec.upto ledgerClaimsSpec)

end Rows
end Go.Proofs.Ytfiggkbclldccaa
