/-
  No cell of these rows narrows 'for every input' (looked for: loops, veiled, ifaces, maps, wideKeys, modest, calm, conditions, laid).
  DERIVED. THE GIVEN ROWS OF THIS SEAT. 13 by the template 'for every input the law returns true; each argument reads behind the call as it read before'; 0 by the template 'total and deterministic' (their statements: YtfkpcmlajdmnfaaTotals.lean).
  GIVEN WITH THE SEED: the statements are not yours to turn. If you find one false, say at which input.
  Laid BY PROGRAM, IN A SANDBOX (cutbox-rows.mjs): the forced cells as the released guide's own fill.sh prints them over the translation a522843886dc748a… (all of the seat's roots in one cut). By AI agents, Wed Nov 11 2026. No macro, syntax, notation, axiom, sorry.
-/
import Derived.Test.YtfkpcmlajdmnfaaChecked
import GoSem.Claim
import GoSem.ClaimJoined
import GoSem.ClaimMapViews
import Derived.JoinedTies
import Derived.KernelRfl
namespace Go.Proofs.Ytfkpcmlajdmnfaa
/- THE CELL 'sum', in the pinned program and in every row, IS THE sha256 OF THE DUMP (.gsa) THAT YtfkpcmlajdmnfaaProg.lean LOADS. Nothing in Lean hashes anything: it is a label: what it is worth is what the hold of that sum in a sandbox is worth. -/
noncomputable def Try.pinned : Pinned := { name := "ytfkpcmlajdmnfaa", sum := "a522843886dc748a4d4fea34cb1ee262e8f3847990ee65f212812d714da53a86", checked := Try.checked }
namespace Rows
def none {H : Type} : Left H := { results := [], args := [] }

/-- 'copyholdlaw20.AuditFollows': WHATEVER THE INPUT: true; the input reads as it did. -/
def auditFollowsSpec : ChangeSpec := { name := "auditFollows", fn := fun _ => fun
  | [d1, d2, d3] => { results := [.lit (.bool true)], args := [d1, d2, d3] }
  | _ => none }
def auditFollowsRow : OpenClaim := { program := "ytfkpcmlajdmnfaa", sum := "a522843886dc748a4d4fea34cb1ee262e8f3847990ee65f212812d714da53a86", func := "copyhold/copyholdlaw20.AuditFollows", spec := "auditFollows", unfollowed := true, recurses := true, apart := false }
def AuditFollowsSaid : Prop := auditFollowsRow.holds Try.pinned (OpenSpec.ofChange auditFollowsSpec)

/-- ITS FALSE NEIGHBOUR: 'it returns false'. Refute it at one input. -/
def auditFollowsWrong : ChangeSpec := { name := "auditFollows", fn := fun _ => fun
  | [d1, d2, d3] => { results := [.lit (.bool false)], args := [d1, d2, d3] }
  | _ => none }
def AuditFollowsWrongFalsely : Prop := auditFollowsRow.holds Try.pinned (OpenSpec.ofChange auditFollowsWrong)

/-- 'copyholdlaw04.RingPlays': WHATEVER THE INPUT: true; the input reads as it did. -/
def ringPlaysSpec : ChangeSpec := { name := "ringPlays", fn := fun _ => fun
  | [d1, d2, d3] => { results := [.lit (.bool true)], args := [d1, d2, d3] }
  | _ => none }
def ringPlaysRow : OpenClaim := { program := "ytfkpcmlajdmnfaa", sum := "a522843886dc748a4d4fea34cb1ee262e8f3847990ee65f212812d714da53a86", func := "copyhold/copyholdlaw04.RingPlays", spec := "ringPlays", unfollowed := true, recurses := true, apart := false }
def RingPlaysSaid : Prop := ringPlaysRow.holds Try.pinned (OpenSpec.ofChange ringPlaysSpec)

/-- ITS FALSE NEIGHBOUR: 'it returns false'. Refute it at one input. -/
def ringPlaysWrong : ChangeSpec := { name := "ringPlays", fn := fun _ => fun
  | [d1, d2, d3] => { results := [.lit (.bool false)], args := [d1, d2, d3] }
  | _ => none }
def RingPlaysWrongFalsely : Prop := ringPlaysRow.holds Try.pinned (OpenSpec.ofChange ringPlaysWrong)

/-- 'copyholdlaw04.RingOrder': WHATEVER THE INPUT: true; the input reads as it did. -/
def ringOrderSpec : ChangeSpec := { name := "ringOrder", fn := fun _ => fun
  | [d1, d2] => { results := [.lit (.bool true)], args := [d1, d2] }
  | _ => none }
def ringOrderRow : OpenClaim := { program := "ytfkpcmlajdmnfaa", sum := "a522843886dc748a4d4fea34cb1ee262e8f3847990ee65f212812d714da53a86", func := "copyhold/copyholdlaw04.RingOrder", spec := "ringOrder", unfollowed := true, recurses := true, apart := false }
def RingOrderSaid : Prop := ringOrderRow.holds Try.pinned (OpenSpec.ofChange ringOrderSpec)

/-- ITS FALSE NEIGHBOUR: 'it returns false'. Refute it at one input. -/
def ringOrderWrong : ChangeSpec := { name := "ringOrder", fn := fun _ => fun
  | [d1, d2] => { results := [.lit (.bool false)], args := [d1, d2] }
  | _ => none }
def RingOrderWrongFalsely : Prop := ringOrderRow.holds Try.pinned (OpenSpec.ofChange ringOrderWrong)

/-- 'copyholdlaw16.TagsPlays': WHATEVER THE INPUT: true; the input reads as it did. -/
def tagsPlaysSpec : ChangeSpec := { name := "tagsPlays", fn := fun _ => fun
  | [d1, d2, d3] => { results := [.lit (.bool true)], args := [d1, d2, d3] }
  | _ => none }
def tagsPlaysRow : OpenClaim := { program := "ytfkpcmlajdmnfaa", sum := "a522843886dc748a4d4fea34cb1ee262e8f3847990ee65f212812d714da53a86", func := "copyhold/copyholdlaw16.TagsPlays", spec := "tagsPlays", apart := false }
def TagsPlaysSaid : Prop := tagsPlaysRow.holds Try.pinned (OpenSpec.ofChange tagsPlaysSpec)

/-- ITS FALSE NEIGHBOUR: 'it returns false'. Refute it at one input. -/
def tagsPlaysWrong : ChangeSpec := { name := "tagsPlays", fn := fun _ => fun
  | [d1, d2, d3] => { results := [.lit (.bool false)], args := [d1, d2, d3] }
  | _ => none }
def TagsPlaysWrongFalsely : Prop := tagsPlaysRow.holds Try.pinned (OpenSpec.ofChange tagsPlaysWrong)

/-- 'copyholdlaw16.TagsEach': WHATEVER THE INPUT: true; the input reads as it did. -/
def tagsEachSpec : ChangeSpec := { name := "tagsEach", fn := fun _ => fun
  | [d] => { results := [.lit (.bool true)], args := [d] }
  | _ => none }
def tagsEachRow : OpenClaim := { program := "ytfkpcmlajdmnfaa", sum := "a522843886dc748a4d4fea34cb1ee262e8f3847990ee65f212812d714da53a86", func := "copyhold/copyholdlaw16.TagsEach", spec := "tagsEach", apart := false }
def TagsEachSaid : Prop := tagsEachRow.holds Try.pinned (OpenSpec.ofChange tagsEachSpec)

/-- ITS FALSE NEIGHBOUR: 'it returns false'. Refute it at one input. -/
def tagsEachWrong : ChangeSpec := { name := "tagsEach", fn := fun _ => fun
  | [d] => { results := [.lit (.bool false)], args := [d] }
  | _ => none }
def TagsEachWrongFalsely : Prop := tagsEachRow.holds Try.pinned (OpenSpec.ofChange tagsEachWrong)

/-- 'copyholdlaw21.WaitsPlays': WHATEVER THE INPUT: true; the input reads as it did. -/
def waitsPlaysSpec : ChangeSpec := { name := "waitsPlays", fn := fun _ => fun
  | [d1, d2] => { results := [.lit (.bool true)], args := [d1, d2] }
  | _ => none }
def waitsPlaysRow : OpenClaim := { program := "ytfkpcmlajdmnfaa", sum := "a522843886dc748a4d4fea34cb1ee262e8f3847990ee65f212812d714da53a86", func := "copyhold/copyholdlaw21.WaitsPlays", spec := "waitsPlays", unfollowed := true, recurses := true, apart := false }
def WaitsPlaysSaid : Prop := waitsPlaysRow.holds Try.pinned (OpenSpec.ofChange waitsPlaysSpec)

/-- ITS FALSE NEIGHBOUR: 'it returns false'. Refute it at one input. -/
def waitsPlaysWrong : ChangeSpec := { name := "waitsPlays", fn := fun _ => fun
  | [d1, d2] => { results := [.lit (.bool false)], args := [d1, d2] }
  | _ => none }
def WaitsPlaysWrongFalsely : Prop := waitsPlaysRow.holds Try.pinned (OpenSpec.ofChange waitsPlaysWrong)

/-- 'copyholdlaw21.WaitsOrder': WHATEVER THE INPUT: true; the input reads as it did. -/
def waitsOrderSpec : ChangeSpec := { name := "waitsOrder", fn := fun _ => fun
  | [d1, d2] => { results := [.lit (.bool true)], args := [d1, d2] }
  | _ => none }
def waitsOrderRow : OpenClaim := { program := "ytfkpcmlajdmnfaa", sum := "a522843886dc748a4d4fea34cb1ee262e8f3847990ee65f212812d714da53a86", func := "copyhold/copyholdlaw21.WaitsOrder", spec := "waitsOrder", unfollowed := true, recurses := true, apart := false }
def WaitsOrderSaid : Prop := waitsOrderRow.holds Try.pinned (OpenSpec.ofChange waitsOrderSpec)

/-- ITS FALSE NEIGHBOUR: 'it returns false'. Refute it at one input. -/
def waitsOrderWrong : ChangeSpec := { name := "waitsOrder", fn := fun _ => fun
  | [d1, d2] => { results := [.lit (.bool false)], args := [d1, d2] }
  | _ => none }
def WaitsOrderWrongFalsely : Prop := waitsOrderRow.holds Try.pinned (OpenSpec.ofChange waitsOrderWrong)

/-- 'copyholdlaw21.WaitsAhead': WHATEVER THE INPUT: true; the input reads as it did. -/
def waitsAheadSpec : ChangeSpec := { name := "waitsAhead", fn := fun _ => fun
  | [d1, d2] => { results := [.lit (.bool true)], args := [d1, d2] }
  | _ => none }
def waitsAheadRow : OpenClaim := { program := "ytfkpcmlajdmnfaa", sum := "a522843886dc748a4d4fea34cb1ee262e8f3847990ee65f212812d714da53a86", func := "copyhold/copyholdlaw21.WaitsAhead", spec := "waitsAhead", unfollowed := true, recurses := true, apart := false }
def WaitsAheadSaid : Prop := waitsAheadRow.holds Try.pinned (OpenSpec.ofChange waitsAheadSpec)

/-- ITS FALSE NEIGHBOUR: 'it returns false'. Refute it at one input. -/
def waitsAheadWrong : ChangeSpec := { name := "waitsAhead", fn := fun _ => fun
  | [d1, d2] => { results := [.lit (.bool false)], args := [d1, d2] }
  | _ => none }
def WaitsAheadWrongFalsely : Prop := waitsAheadRow.holds Try.pinned (OpenSpec.ofChange waitsAheadWrong)

/-- 'copyholdlaw20.AuditSound': WHATEVER THE INPUT: true; the input reads as it did. -/
def auditSoundSpec : ChangeSpec := { name := "auditSound", fn := fun _ => fun
  | [d1, d2, d3] => { results := [.lit (.bool true)], args := [d1, d2, d3] }
  | _ => none }
def auditSoundRow : OpenClaim := { program := "ytfkpcmlajdmnfaa", sum := "a522843886dc748a4d4fea34cb1ee262e8f3847990ee65f212812d714da53a86", func := "copyhold/copyholdlaw20.AuditSound", spec := "auditSound", unfollowed := true, recurses := true, apart := false }
def AuditSoundSaid : Prop := auditSoundRow.holds Try.pinned (OpenSpec.ofChange auditSoundSpec)

/-- ITS FALSE NEIGHBOUR: 'it returns false'. Refute it at one input. -/
def auditSoundWrong : ChangeSpec := { name := "auditSound", fn := fun _ => fun
  | [d1, d2, d3] => { results := [.lit (.bool false)], args := [d1, d2, d3] }
  | _ => none }
def AuditSoundWrongFalsely : Prop := auditSoundRow.holds Try.pinned (OpenSpec.ofChange auditSoundWrong)

/-- 'copyholdlaw20.AuditSums': WHATEVER THE INPUT: true; the input reads as it did. -/
def auditSumsSpec : ChangeSpec := { name := "auditSums", fn := fun _ => fun
  | [d1, d2] => { results := [.lit (.bool true)], args := [d1, d2] }
  | _ => none }
def auditSumsRow : OpenClaim := { program := "ytfkpcmlajdmnfaa", sum := "a522843886dc748a4d4fea34cb1ee262e8f3847990ee65f212812d714da53a86", func := "copyhold/copyholdlaw20.AuditSums", spec := "auditSums", unfollowed := true, recurses := true, apart := false }
def AuditSumsSaid : Prop := auditSumsRow.holds Try.pinned (OpenSpec.ofChange auditSumsSpec)

/-- ITS FALSE NEIGHBOUR: 'it returns false'. Refute it at one input. -/
def auditSumsWrong : ChangeSpec := { name := "auditSums", fn := fun _ => fun
  | [d1, d2] => { results := [.lit (.bool false)], args := [d1, d2] }
  | _ => none }
def AuditSumsWrongFalsely : Prop := auditSumsRow.holds Try.pinned (OpenSpec.ofChange auditSumsWrong)

/-- 'copyholdlaw06.SlotsPlays': WHATEVER THE INPUT: true; the input reads as it did. -/
def slotsPlaysSpec : ChangeSpec := { name := "slotsPlays", fn := fun _ => fun
  | [d1, d2] => { results := [.lit (.bool true)], args := [d1, d2] }
  | _ => none }
def slotsPlaysRow : OpenClaim := { program := "ytfkpcmlajdmnfaa", sum := "a522843886dc748a4d4fea34cb1ee262e8f3847990ee65f212812d714da53a86", func := "copyhold/copyholdlaw06.SlotsPlays", spec := "slotsPlays", unfollowed := true, recurses := true, apart := false }
def SlotsPlaysSaid : Prop := slotsPlaysRow.holds Try.pinned (OpenSpec.ofChange slotsPlaysSpec)

/-- ITS FALSE NEIGHBOUR: 'it returns false'. Refute it at one input. -/
def slotsPlaysWrong : ChangeSpec := { name := "slotsPlays", fn := fun _ => fun
  | [d1, d2] => { results := [.lit (.bool false)], args := [d1, d2] }
  | _ => none }
def SlotsPlaysWrongFalsely : Prop := slotsPlaysRow.holds Try.pinned (OpenSpec.ofChange slotsPlaysWrong)

/-- 'copyholdlaw06.SlotsOnce': WHATEVER THE INPUT: true; the input reads as it did. -/
def slotsOnceSpec : ChangeSpec := { name := "slotsOnce", fn := fun _ => fun
  | [d1, d2] => { results := [.lit (.bool true)], args := [d1, d2] }
  | _ => none }
def slotsOnceRow : OpenClaim := { program := "ytfkpcmlajdmnfaa", sum := "a522843886dc748a4d4fea34cb1ee262e8f3847990ee65f212812d714da53a86", func := "copyhold/copyholdlaw06.SlotsOnce", spec := "slotsOnce", unfollowed := true, recurses := true, apart := false }
def SlotsOnceSaid : Prop := slotsOnceRow.holds Try.pinned (OpenSpec.ofChange slotsOnceSpec)

/-- ITS FALSE NEIGHBOUR: 'it returns false'. Refute it at one input. -/
def slotsOnceWrong : ChangeSpec := { name := "slotsOnce", fn := fun _ => fun
  | [d1, d2] => { results := [.lit (.bool false)], args := [d1, d2] }
  | _ => none }
def SlotsOnceWrongFalsely : Prop := slotsOnceRow.holds Try.pinned (OpenSpec.ofChange slotsOnceWrong)

/-- 'copyholdlaw16.TagsHands': WHATEVER THE INPUT: true; the input reads as it did. -/
def tagsHandsSpec : ChangeSpec := { name := "tagsHands", fn := fun _ => fun
  | [d1, d2] => { results := [.lit (.bool true)], args := [d1, d2] }
  | _ => none }
def tagsHandsRow : OpenClaim := { program := "ytfkpcmlajdmnfaa", sum := "a522843886dc748a4d4fea34cb1ee262e8f3847990ee65f212812d714da53a86", func := "copyhold/copyholdlaw16.TagsHands", spec := "tagsHands", unfollowed := true, recurses := true, apart := false }
def TagsHandsSaid : Prop := tagsHandsRow.holds Try.pinned (OpenSpec.ofChange tagsHandsSpec)

/-- ITS FALSE NEIGHBOUR: 'it returns false'. Refute it at one input. -/
def tagsHandsWrong : ChangeSpec := { name := "tagsHands", fn := fun _ => fun
  | [d1, d2] => { results := [.lit (.bool false)], args := [d1, d2] }
  | _ => none }
def TagsHandsWrongFalsely : Prop := tagsHandsRow.holds Try.pinned (OpenSpec.ofChange tagsHandsWrong)

/- THE SECOND FORM. 'bulk': how many values and letters a reading holds, each counted each time it is reached (what is shared counts as often as it is met; a slice's spare places count too). A statement '..UptoSaid' is the law's where the arguments, and the package variables that the reading takes, are together of bulk at most 1048576: NARROWER than '..Said'. Prove '..Said' where nothing that the law and all that it calls make is longer than what came in: it says more and counts as full. Else prove '..UptoSaid'. A law counts once. -/
mutual
def uptoBulk {H : Type} : DataW H → Nat
  | .lit (.string bytes) => bytes.length + 1
  | .lit _ => 1
  | .nil => 1
  | .ptr d => uptoBulk d + 1
  | .slice elems spare => uptoBulkAll elems + uptoBulkAll spare + 1
  | .agg parts => uptoBulkAll parts + 1
  | .iface _ d => uptoBulk d + 1
  | .map entries => uptoBulkEntries entries + 1
  | .held _ => 1
def uptoBulkAll {H : Type} : List (DataW H) → Nat
  | [] => 0
  | d :: r => uptoBulk d + uptoBulkAll r
def uptoBulkEntries {H : Type} : List (Lit × DataW H) → Nat
  | [] => 0
  | x :: r => uptoBulkEntry x + uptoBulkEntries r
def uptoBulkEntry {H : Type} : Lit × DataW H → Nat
  | (.string bytes, d) => bytes.length + uptoBulk d + 1
  | (_, d) => uptoBulk d + 1
 end
def uptoSmall : (H : Type) → List (DataW H) → Bool := fun _ ds => decide (uptoBulkAll ds ≤ 1048576)
def OpenSpec.upto (s : _root_.Go.ChangeSpec) : _root_.Go.OpenSpec := { _root_.Go.OpenSpec.ofChange s with cond := some uptoSmall }

/-- 'copyholdlaw20.AuditFollows', WHERE WHAT IT READS IS OF BULK AT MOST 1048576: true; the input reads as it did. -/
def auditFollowsUptoRow : OpenClaim := { program := "ytfkpcmlajdmnfaa", sum := "a522843886dc748a4d4fea34cb1ee262e8f3847990ee65f212812d714da53a86", func := "copyhold/copyholdlaw20.AuditFollows", spec := "auditFollows", unfollowed := true, recurses := true, apart := false, narrowed := true }
def AuditFollowsUptoSaid : Prop := auditFollowsUptoRow.holds Try.pinned (OpenSpec.upto auditFollowsSpec)

/-- 'copyholdlaw04.RingPlays', WHERE WHAT IT READS IS OF BULK AT MOST 1048576: true; the input reads as it did. -/
def ringPlaysUptoRow : OpenClaim := { program := "ytfkpcmlajdmnfaa", sum := "a522843886dc748a4d4fea34cb1ee262e8f3847990ee65f212812d714da53a86", func := "copyhold/copyholdlaw04.RingPlays", spec := "ringPlays", unfollowed := true, recurses := true, apart := false, narrowed := true }
def RingPlaysUptoSaid : Prop := ringPlaysUptoRow.holds Try.pinned (OpenSpec.upto ringPlaysSpec)

/-- 'copyholdlaw04.RingOrder', WHERE WHAT IT READS IS OF BULK AT MOST 1048576: true; the input reads as it did. -/
def ringOrderUptoRow : OpenClaim := { program := "ytfkpcmlajdmnfaa", sum := "a522843886dc748a4d4fea34cb1ee262e8f3847990ee65f212812d714da53a86", func := "copyhold/copyholdlaw04.RingOrder", spec := "ringOrder", unfollowed := true, recurses := true, apart := false, narrowed := true }
def RingOrderUptoSaid : Prop := ringOrderUptoRow.holds Try.pinned (OpenSpec.upto ringOrderSpec)

/-- 'copyholdlaw16.TagsPlays', WHERE WHAT IT READS IS OF BULK AT MOST 1048576: true; the input reads as it did. -/
def tagsPlaysUptoRow : OpenClaim := { program := "ytfkpcmlajdmnfaa", sum := "a522843886dc748a4d4fea34cb1ee262e8f3847990ee65f212812d714da53a86", func := "copyhold/copyholdlaw16.TagsPlays", spec := "tagsPlays", apart := false, narrowed := true }
def TagsPlaysUptoSaid : Prop := tagsPlaysUptoRow.holds Try.pinned (OpenSpec.upto tagsPlaysSpec)

/-- 'copyholdlaw16.TagsEach', WHERE WHAT IT READS IS OF BULK AT MOST 1048576: true; the input reads as it did. -/
def tagsEachUptoRow : OpenClaim := { program := "ytfkpcmlajdmnfaa", sum := "a522843886dc748a4d4fea34cb1ee262e8f3847990ee65f212812d714da53a86", func := "copyhold/copyholdlaw16.TagsEach", spec := "tagsEach", apart := false, narrowed := true }
def TagsEachUptoSaid : Prop := tagsEachUptoRow.holds Try.pinned (OpenSpec.upto tagsEachSpec)

/-- 'copyholdlaw21.WaitsPlays', WHERE WHAT IT READS IS OF BULK AT MOST 1048576: true; the input reads as it did. -/
def waitsPlaysUptoRow : OpenClaim := { program := "ytfkpcmlajdmnfaa", sum := "a522843886dc748a4d4fea34cb1ee262e8f3847990ee65f212812d714da53a86", func := "copyhold/copyholdlaw21.WaitsPlays", spec := "waitsPlays", unfollowed := true, recurses := true, apart := false, narrowed := true }
def WaitsPlaysUptoSaid : Prop := waitsPlaysUptoRow.holds Try.pinned (OpenSpec.upto waitsPlaysSpec)

/-- 'copyholdlaw21.WaitsOrder', WHERE WHAT IT READS IS OF BULK AT MOST 1048576: true; the input reads as it did. -/
def waitsOrderUptoRow : OpenClaim := { program := "ytfkpcmlajdmnfaa", sum := "a522843886dc748a4d4fea34cb1ee262e8f3847990ee65f212812d714da53a86", func := "copyhold/copyholdlaw21.WaitsOrder", spec := "waitsOrder", unfollowed := true, recurses := true, apart := false, narrowed := true }
def WaitsOrderUptoSaid : Prop := waitsOrderUptoRow.holds Try.pinned (OpenSpec.upto waitsOrderSpec)

/-- 'copyholdlaw21.WaitsAhead', WHERE WHAT IT READS IS OF BULK AT MOST 1048576: true; the input reads as it did. -/
def waitsAheadUptoRow : OpenClaim := { program := "ytfkpcmlajdmnfaa", sum := "a522843886dc748a4d4fea34cb1ee262e8f3847990ee65f212812d714da53a86", func := "copyhold/copyholdlaw21.WaitsAhead", spec := "waitsAhead", unfollowed := true, recurses := true, apart := false, narrowed := true }
def WaitsAheadUptoSaid : Prop := waitsAheadUptoRow.holds Try.pinned (OpenSpec.upto waitsAheadSpec)

/-- 'copyholdlaw20.AuditSound', WHERE WHAT IT READS IS OF BULK AT MOST 1048576: true; the input reads as it did. -/
def auditSoundUptoRow : OpenClaim := { program := "ytfkpcmlajdmnfaa", sum := "a522843886dc748a4d4fea34cb1ee262e8f3847990ee65f212812d714da53a86", func := "copyhold/copyholdlaw20.AuditSound", spec := "auditSound", unfollowed := true, recurses := true, apart := false, narrowed := true }
def AuditSoundUptoSaid : Prop := auditSoundUptoRow.holds Try.pinned (OpenSpec.upto auditSoundSpec)

/-- 'copyholdlaw20.AuditSums', WHERE WHAT IT READS IS OF BULK AT MOST 1048576: true; the input reads as it did. -/
def auditSumsUptoRow : OpenClaim := { program := "ytfkpcmlajdmnfaa", sum := "a522843886dc748a4d4fea34cb1ee262e8f3847990ee65f212812d714da53a86", func := "copyhold/copyholdlaw20.AuditSums", spec := "auditSums", unfollowed := true, recurses := true, apart := false, narrowed := true }
def AuditSumsUptoSaid : Prop := auditSumsUptoRow.holds Try.pinned (OpenSpec.upto auditSumsSpec)

/-- 'copyholdlaw06.SlotsPlays', WHERE WHAT IT READS IS OF BULK AT MOST 1048576: true; the input reads as it did. -/
def slotsPlaysUptoRow : OpenClaim := { program := "ytfkpcmlajdmnfaa", sum := "a522843886dc748a4d4fea34cb1ee262e8f3847990ee65f212812d714da53a86", func := "copyhold/copyholdlaw06.SlotsPlays", spec := "slotsPlays", unfollowed := true, recurses := true, apart := false, narrowed := true }
def SlotsPlaysUptoSaid : Prop := slotsPlaysUptoRow.holds Try.pinned (OpenSpec.upto slotsPlaysSpec)

/-- 'copyholdlaw06.SlotsOnce', WHERE WHAT IT READS IS OF BULK AT MOST 1048576: true; the input reads as it did. -/
def slotsOnceUptoRow : OpenClaim := { program := "ytfkpcmlajdmnfaa", sum := "a522843886dc748a4d4fea34cb1ee262e8f3847990ee65f212812d714da53a86", func := "copyhold/copyholdlaw06.SlotsOnce", spec := "slotsOnce", unfollowed := true, recurses := true, apart := false, narrowed := true }
def SlotsOnceUptoSaid : Prop := slotsOnceUptoRow.holds Try.pinned (OpenSpec.upto slotsOnceSpec)

/-- 'copyholdlaw16.TagsHands', WHERE WHAT IT READS IS OF BULK AT MOST 1048576: true; the input reads as it did. -/
def tagsHandsUptoRow : OpenClaim := { program := "ytfkpcmlajdmnfaa", sum := "a522843886dc748a4d4fea34cb1ee262e8f3847990ee65f212812d714da53a86", func := "copyhold/copyholdlaw16.TagsHands", spec := "tagsHands", unfollowed := true, recurses := true, apart := false, narrowed := true }
def TagsHandsUptoSaid : Prop := tagsHandsUptoRow.holds Try.pinned (OpenSpec.upto tagsHandsSpec)

end Rows
end Go.Proofs.Ytfkpcmlajdmnfaa
