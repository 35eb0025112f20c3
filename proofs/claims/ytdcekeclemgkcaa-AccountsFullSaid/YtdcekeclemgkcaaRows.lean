/-
  No cell of these rows narrows 'for every input' (looked for: loops, veiled, ifaces, maps, wideKeys, modest, calm, conditions, laid).
  DERIVED. THE GIVEN ROWS OF THIS SEAT. 12 by the template 'for every input the law returns true; each argument reads behind the call as it read before'; 0 by the template 'total and deterministic' (their statements: YtdcekeclemgkcaaTotals.lean).
  GIVEN WITH THE SEED: the statements are not yours to turn. If you find one false, say at which input.
  Laid BY PROGRAM, IN A SANDBOX (cutbox-rows.mjs): the forced cells as the released guide's own fill.sh prints them over the translation e13de66163e1c61f… (all of the seat's roots in one cut). By AI agents, Wed Nov 11 2026. No macro, syntax, notation, axiom, sorry.
-/
import Derived.Test.YtdcekeclemgkcaaChecked
import GoSem.Claim
import GoSem.ClaimJoined
import GoSem.ClaimMapViews
import Derived.JoinedTies
import Derived.KernelRfl
namespace Go.Proofs.Ytdcekeclemgkcaa
/- THE CELL 'sum', in the pinned program and in every row, IS THE sha256 OF THE DUMP (.gsa) THAT YtdcekeclemgkcaaProg.lean LOADS. Nothing in Lean hashes anything: it is a label: what it is worth is what the hold of that sum in a sandbox is worth. -/
noncomputable def Try.pinned : Pinned := { name := "ytdcekeclemgkcaa", sum := "e13de66163e1c61fd05f0277cdeea6a2b6f6ad883261fe4e9579fa33ba0cb608", checked := Try.checked }
namespace Rows
def none {H : Type} : Left H := { results := [], args := [] }

/-- 'copyholdlaw12.QuoteTells': WHATEVER THE INPUT: true; the input reads as it did. -/
def quoteTellsSpec : ChangeSpec := { name := "quoteTells", fn := fun _ => fun
  | [d1, d2] => { results := [.lit (.bool true)], args := [d1, d2] }
  | _ => none }
def quoteTellsRow : OpenClaim := { program := "ytdcekeclemgkcaa", sum := "e13de66163e1c61fd05f0277cdeea6a2b6f6ad883261fe4e9579fa33ba0cb608", func := "copyhold/copyholdlaw12.QuoteTells", spec := "quoteTells", inPlace := ["internal/abi.NoEscape", "internal/bytealg.IndexByteString"], unfollowed := true, recurses := true, apart := false }
def QuoteTellsSaid : Prop := quoteTellsRow.holds Try.pinned (OpenSpec.ofChange quoteTellsSpec)

/-- ITS FALSE NEIGHBOUR: 'it returns false'. Refute it at one input. -/
def quoteTellsWrong : ChangeSpec := { name := "quoteTells", fn := fun _ => fun
  | [d1, d2] => { results := [.lit (.bool false)], args := [d1, d2] }
  | _ => none }
def QuoteTellsWrongFalsely : Prop := quoteTellsRow.holds Try.pinned (OpenSpec.ofChange quoteTellsWrong)

/-- 'copyholdlaw12.QuoteBack': WHATEVER THE INPUT: true; the input reads as it did. -/
def quoteBackSpec : ChangeSpec := { name := "quoteBack", fn := fun _ => fun
  | [d1, d2] => { results := [.lit (.bool true)], args := [d1, d2] }
  | _ => none }
def quoteBackRow : OpenClaim := { program := "ytdcekeclemgkcaa", sum := "e13de66163e1c61fd05f0277cdeea6a2b6f6ad883261fe4e9579fa33ba0cb608", func := "copyhold/copyholdlaw12.QuoteBack", spec := "quoteBack", inPlace := ["internal/abi.NoEscape", "internal/bytealg.IndexByteString"], unfollowed := true, recurses := true, apart := false }
def QuoteBackSaid : Prop := quoteBackRow.holds Try.pinned (OpenSpec.ofChange quoteBackSpec)

/-- ITS FALSE NEIGHBOUR: 'it returns false'. Refute it at one input. -/
def quoteBackWrong : ChangeSpec := { name := "quoteBack", fn := fun _ => fun
  | [d1, d2] => { results := [.lit (.bool false)], args := [d1, d2] }
  | _ => none }
def QuoteBackWrongFalsely : Prop := quoteBackRow.holds Try.pinned (OpenSpec.ofChange quoteBackWrong)

/-- 'copyholdlaw32.TicketsOf': WHATEVER THE INPUT: true; the input reads as it did. -/
def ticketsOfSpec : ChangeSpec := { name := "ticketsOf", fn := fun _ => fun
  | [d] => { results := [.lit (.bool true)], args := [d] }
  | _ => none }
def ticketsOfRow : OpenClaim := { program := "ytdcekeclemgkcaa", sum := "e13de66163e1c61fd05f0277cdeea6a2b6f6ad883261fe4e9579fa33ba0cb608", func := "copyhold/copyholdlaw32.TicketsOf", spec := "ticketsOf", unfollowed := true, recurses := true, apart := false }
def TicketsOfSaid : Prop := ticketsOfRow.holds Try.pinned (OpenSpec.ofChange ticketsOfSpec)

/-- ITS FALSE NEIGHBOUR: 'it returns false'. Refute it at one input. -/
def ticketsOfWrong : ChangeSpec := { name := "ticketsOf", fn := fun _ => fun
  | [d] => { results := [.lit (.bool false)], args := [d] }
  | _ => none }
def TicketsOfWrongFalsely : Prop := ticketsOfRow.holds Try.pinned (OpenSpec.ofChange ticketsOfWrong)

/-- 'copyholdlaw32.TicketsPlays': WHATEVER THE INPUT: true; the input reads as it did. -/
def ticketsPlaysSpec : ChangeSpec := { name := "ticketsPlays", fn := fun _ => fun
  | [d1, d2] => { results := [.lit (.bool true)], args := [d1, d2] }
  | _ => none }
def ticketsPlaysRow : OpenClaim := { program := "ytdcekeclemgkcaa", sum := "e13de66163e1c61fd05f0277cdeea6a2b6f6ad883261fe4e9579fa33ba0cb608", func := "copyhold/copyholdlaw32.TicketsPlays", spec := "ticketsPlays", unfollowed := true, recurses := true, apart := false }
def TicketsPlaysSaid : Prop := ticketsPlaysRow.holds Try.pinned (OpenSpec.ofChange ticketsPlaysSpec)

/-- ITS FALSE NEIGHBOUR: 'it returns false'. Refute it at one input. -/
def ticketsPlaysWrong : ChangeSpec := { name := "ticketsPlays", fn := fun _ => fun
  | [d1, d2] => { results := [.lit (.bool false)], args := [d1, d2] }
  | _ => none }
def TicketsPlaysWrongFalsely : Prop := ticketsPlaysRow.holds Try.pinned (OpenSpec.ofChange ticketsPlaysWrong)

/-- 'copyholdlaw32.TicketsMost': WHATEVER THE INPUT: true; the input reads as it did. -/
def ticketsMostSpec : ChangeSpec := { name := "ticketsMost", fn := fun _ => fun
  | [d1, d2] => { results := [.lit (.bool true)], args := [d1, d2] }
  | _ => none }
def ticketsMostRow : OpenClaim := { program := "ytdcekeclemgkcaa", sum := "e13de66163e1c61fd05f0277cdeea6a2b6f6ad883261fe4e9579fa33ba0cb608", func := "copyhold/copyholdlaw32.TicketsMost", spec := "ticketsMost", unfollowed := true, recurses := true, apart := false }
def TicketsMostSaid : Prop := ticketsMostRow.holds Try.pinned (OpenSpec.ofChange ticketsMostSpec)

/-- ITS FALSE NEIGHBOUR: 'it returns false'. Refute it at one input. -/
def ticketsMostWrong : ChangeSpec := { name := "ticketsMost", fn := fun _ => fun
  | [d1, d2] => { results := [.lit (.bool false)], args := [d1, d2] }
  | _ => none }
def TicketsMostWrongFalsely : Prop := ticketsMostRow.holds Try.pinned (OpenSpec.ofChange ticketsMostWrong)

/-- 'copyholdlaw27.AccountsPlays': WHATEVER THE INPUT: true; the input reads as it did. -/
def accountsPlaysSpec : ChangeSpec := { name := "accountsPlays", fn := fun _ => fun
  | [d] => { results := [.lit (.bool true)], args := [d] }
  | _ => none }
def accountsPlaysRow : OpenClaim := { program := "ytdcekeclemgkcaa", sum := "e13de66163e1c61fd05f0277cdeea6a2b6f6ad883261fe4e9579fa33ba0cb608", func := "copyhold/copyholdlaw27.AccountsPlays", spec := "accountsPlays", unfollowed := true, recurses := true, apart := false }
def AccountsPlaysSaid : Prop := accountsPlaysRow.holds Try.pinned (OpenSpec.ofChange accountsPlaysSpec)

/-- ITS FALSE NEIGHBOUR: 'it returns false'. Refute it at one input. -/
def accountsPlaysWrong : ChangeSpec := { name := "accountsPlays", fn := fun _ => fun
  | [d] => { results := [.lit (.bool false)], args := [d] }
  | _ => none }
def AccountsPlaysWrongFalsely : Prop := accountsPlaysRow.holds Try.pinned (OpenSpec.ofChange accountsPlaysWrong)

/-- 'copyholdlaw27.AccountsFull': WHATEVER THE INPUT: true; the input reads as it did. -/
def accountsFullSpec : ChangeSpec := { name := "accountsFull", fn := fun _ => fun
  | [d1, d2] => { results := [.lit (.bool true)], args := [d1, d2] }
  | _ => none }
def accountsFullRow : OpenClaim := { program := "ytdcekeclemgkcaa", sum := "e13de66163e1c61fd05f0277cdeea6a2b6f6ad883261fe4e9579fa33ba0cb608", func := "copyhold/copyholdlaw27.AccountsFull", spec := "accountsFull", unfollowed := true, recurses := true, apart := false }
def AccountsFullSaid : Prop := accountsFullRow.holds Try.pinned (OpenSpec.ofChange accountsFullSpec)

/-- ITS FALSE NEIGHBOUR: 'it returns false'. Refute it at one input. -/
def accountsFullWrong : ChangeSpec := { name := "accountsFull", fn := fun _ => fun
  | [d1, d2] => { results := [.lit (.bool false)], args := [d1, d2] }
  | _ => none }
def AccountsFullWrongFalsely : Prop := accountsFullRow.holds Try.pinned (OpenSpec.ofChange accountsFullWrong)

/-- 'copyholdlaw41.LivePlays': WHATEVER THE INPUT: true; the input reads as it did. -/
def livePlaysSpec : ChangeSpec := { name := "livePlays", fn := fun _ => fun
  | [d1, d2] => { results := [.lit (.bool true)], args := [d1, d2] }
  | _ => none }
def livePlaysRow : OpenClaim := { program := "ytdcekeclemgkcaa", sum := "e13de66163e1c61fd05f0277cdeea6a2b6f6ad883261fe4e9579fa33ba0cb608", func := "copyhold/copyholdlaw41.LivePlays", spec := "livePlays", unfollowed := true, recurses := true, apart := false }
def LivePlaysSaid : Prop := livePlaysRow.holds Try.pinned (OpenSpec.ofChange livePlaysSpec)

/-- ITS FALSE NEIGHBOUR: 'it returns false'. Refute it at one input. -/
def livePlaysWrong : ChangeSpec := { name := "livePlays", fn := fun _ => fun
  | [d1, d2] => { results := [.lit (.bool false)], args := [d1, d2] }
  | _ => none }
def LivePlaysWrongFalsely : Prop := livePlaysRow.holds Try.pinned (OpenSpec.ofChange livePlaysWrong)

/-- 'copyholdlaw41.LiveApart': WHATEVER THE INPUT: true; the input reads as it did. -/
def liveApartSpec : ChangeSpec := { name := "liveApart", fn := fun _ => fun
  | [d] => { results := [.lit (.bool true)], args := [d] }
  | _ => none }
def liveApartRow : OpenClaim := { program := "ytdcekeclemgkcaa", sum := "e13de66163e1c61fd05f0277cdeea6a2b6f6ad883261fe4e9579fa33ba0cb608", func := "copyhold/copyholdlaw41.LiveApart", spec := "liveApart", unfollowed := true, recurses := true, apart := false }
def LiveApartSaid : Prop := liveApartRow.holds Try.pinned (OpenSpec.ofChange liveApartSpec)

/-- ITS FALSE NEIGHBOUR: 'it returns false'. Refute it at one input. -/
def liveApartWrong : ChangeSpec := { name := "liveApart", fn := fun _ => fun
  | [d] => { results := [.lit (.bool false)], args := [d] }
  | _ => none }
def LiveApartWrongFalsely : Prop := liveApartRow.holds Try.pinned (OpenSpec.ofChange liveApartWrong)

/-- 'copyholdlaw41.LiveHoles': WHATEVER THE INPUT: true; the input reads as it did. -/
def liveHolesSpec : ChangeSpec := { name := "liveHoles", fn := fun _ => fun
  | [d1, d2] => { results := [.lit (.bool true)], args := [d1, d2] }
  | _ => none }
def liveHolesRow : OpenClaim := { program := "ytdcekeclemgkcaa", sum := "e13de66163e1c61fd05f0277cdeea6a2b6f6ad883261fe4e9579fa33ba0cb608", func := "copyhold/copyholdlaw41.LiveHoles", spec := "liveHoles", unfollowed := true, recurses := true, apart := false }
def LiveHolesSaid : Prop := liveHolesRow.holds Try.pinned (OpenSpec.ofChange liveHolesSpec)

/-- ITS FALSE NEIGHBOUR: 'it returns false'. Refute it at one input. -/
def liveHolesWrong : ChangeSpec := { name := "liveHoles", fn := fun _ => fun
  | [d1, d2] => { results := [.lit (.bool false)], args := [d1, d2] }
  | _ => none }
def LiveHolesWrongFalsely : Prop := liveHolesRow.holds Try.pinned (OpenSpec.ofChange liveHolesWrong)

/-- 'copyholdlaw48.FairPassed': WHATEVER THE INPUT: true; the input reads as it did. -/
def fairPassedSpec : ChangeSpec := { name := "fairPassed", fn := fun _ => fun
  | [d] => { results := [.lit (.bool true)], args := [d] }
  | _ => none }
def fairPassedRow : OpenClaim := { program := "ytdcekeclemgkcaa", sum := "e13de66163e1c61fd05f0277cdeea6a2b6f6ad883261fe4e9579fa33ba0cb608", func := "copyhold/copyholdlaw48.FairPassed", spec := "fairPassed", unfollowed := true, recurses := true, apart := false }
def FairPassedSaid : Prop := fairPassedRow.holds Try.pinned (OpenSpec.ofChange fairPassedSpec)

/-- ITS FALSE NEIGHBOUR: 'it returns false'. Refute it at one input. -/
def fairPassedWrong : ChangeSpec := { name := "fairPassed", fn := fun _ => fun
  | [d] => { results := [.lit (.bool false)], args := [d] }
  | _ => none }
def FairPassedWrongFalsely : Prop := fairPassedRow.holds Try.pinned (OpenSpec.ofChange fairPassedWrong)

/-- 'copyholdlaw48.FairMost': WHATEVER THE INPUT: true; the input reads as it did. -/
def fairMostSpec : ChangeSpec := { name := "fairMost", fn := fun _ => fun
  | [d] => { results := [.lit (.bool true)], args := [d] }
  | _ => none }
def fairMostRow : OpenClaim := { program := "ytdcekeclemgkcaa", sum := "e13de66163e1c61fd05f0277cdeea6a2b6f6ad883261fe4e9579fa33ba0cb608", func := "copyhold/copyholdlaw48.FairMost", spec := "fairMost", unfollowed := true, recurses := true, apart := false }
def FairMostSaid : Prop := fairMostRow.holds Try.pinned (OpenSpec.ofChange fairMostSpec)

/-- ITS FALSE NEIGHBOUR: 'it returns false'. Refute it at one input. -/
def fairMostWrong : ChangeSpec := { name := "fairMost", fn := fun _ => fun
  | [d] => { results := [.lit (.bool false)], args := [d] }
  | _ => none }
def FairMostWrongFalsely : Prop := fairMostRow.holds Try.pinned (OpenSpec.ofChange fairMostWrong)

/- THE SECOND FORM. 'bulk': how many values and letters a reading holds, each counted each time it is reached (what is shared counts as often as it is met; a slice's spare places count too). A statement '..UptoSaid' is the law's where the arguments, and the package variables that the reading takes, are together of bulk at most 1048576: NARROWER than '..Said'. Prove '..Said' where nothing that the law and all that it calls make is longer than what came in: it says more and counts as full. Else prove '..UptoSaid'. A law counts once. -/
mutual
def uptoBulk {H : Type} : DataW H → Nat
  | .lit (.string bytes) => bytes.length + 1
  | .lit _ => 1
  | .nil => 1
  | .ptr d => uptoBulk d + 1
  | .slice elems spare => uptoBulkAll elems + uptoBulkAll spare + 1
  | .agg parts => uptoBulkAll parts + 1
  | .iface _ d => uptoBulk d + 1
  | .map entries => uptoBulkEntries entries + 1
  | .held _ => 1
def uptoBulkAll {H : Type} : List (DataW H) → Nat
  | [] => 0
  | d :: r => uptoBulk d + uptoBulkAll r
def uptoBulkEntries {H : Type} : List (Lit × DataW H) → Nat
  | [] => 0
  | x :: r => uptoBulkEntry x + uptoBulkEntries r
def uptoBulkEntry {H : Type} : Lit × DataW H → Nat
  | (.string bytes, d) => bytes.length + uptoBulk d + 1
  | (_, d) => uptoBulk d + 1
 end
def uptoSmall : (H : Type) → List (DataW H) → Bool := fun _ ds => decide (uptoBulkAll ds ≤ 1048576)
def OpenSpec.upto (s : _root_.Go.ChangeSpec) : _root_.Go.OpenSpec := { _root_.Go.OpenSpec.ofChange s with cond := some uptoSmall }

/-- 'copyholdlaw12.QuoteTells', WHERE WHAT IT READS IS OF BULK AT MOST 1048576: true; the input reads as it did. -/
def quoteTellsUptoRow : OpenClaim := { program := "ytdcekeclemgkcaa", sum := "e13de66163e1c61fd05f0277cdeea6a2b6f6ad883261fe4e9579fa33ba0cb608", func := "copyhold/copyholdlaw12.QuoteTells", spec := "quoteTells", inPlace := ["internal/abi.NoEscape", "internal/bytealg.IndexByteString"], unfollowed := true, recurses := true, apart := false, narrowed := true }
def QuoteTellsUptoSaid : Prop := quoteTellsUptoRow.holds Try.pinned (OpenSpec.upto quoteTellsSpec)

/-- 'copyholdlaw12.QuoteBack', WHERE WHAT IT READS IS OF BULK AT MOST 1048576: true; the input reads as it did. -/
def quoteBackUptoRow : OpenClaim := { program := "ytdcekeclemgkcaa", sum := "e13de66163e1c61fd05f0277cdeea6a2b6f6ad883261fe4e9579fa33ba0cb608", func := "copyhold/copyholdlaw12.QuoteBack", spec := "quoteBack", inPlace := ["internal/abi.NoEscape", "internal/bytealg.IndexByteString"], unfollowed := true, recurses := true, apart := false, narrowed := true }
def QuoteBackUptoSaid : Prop := quoteBackUptoRow.holds Try.pinned (OpenSpec.upto quoteBackSpec)

/-- 'copyholdlaw32.TicketsOf', WHERE WHAT IT READS IS OF BULK AT MOST 1048576: true; the input reads as it did. -/
def ticketsOfUptoRow : OpenClaim := { program := "ytdcekeclemgkcaa", sum := "e13de66163e1c61fd05f0277cdeea6a2b6f6ad883261fe4e9579fa33ba0cb608", func := "copyhold/copyholdlaw32.TicketsOf", spec := "ticketsOf", unfollowed := true, recurses := true, apart := false, narrowed := true }
def TicketsOfUptoSaid : Prop := ticketsOfUptoRow.holds Try.pinned (OpenSpec.upto ticketsOfSpec)

/-- 'copyholdlaw32.TicketsPlays', WHERE WHAT IT READS IS OF BULK AT MOST 1048576: true; the input reads as it did. -/
def ticketsPlaysUptoRow : OpenClaim := { program := "ytdcekeclemgkcaa", sum := "e13de66163e1c61fd05f0277cdeea6a2b6f6ad883261fe4e9579fa33ba0cb608", func := "copyhold/copyholdlaw32.TicketsPlays", spec := "ticketsPlays", unfollowed := true, recurses := true, apart := false, narrowed := true }
def TicketsPlaysUptoSaid : Prop := ticketsPlaysUptoRow.holds Try.pinned (OpenSpec.upto ticketsPlaysSpec)

/-- 'copyholdlaw32.TicketsMost', WHERE WHAT IT READS IS OF BULK AT MOST 1048576: true; the input reads as it did. -/
def ticketsMostUptoRow : OpenClaim := { program := "ytdcekeclemgkcaa", sum := "e13de66163e1c61fd05f0277cdeea6a2b6f6ad883261fe4e9579fa33ba0cb608", func := "copyhold/copyholdlaw32.TicketsMost", spec := "ticketsMost", unfollowed := true, recurses := true, apart := false, narrowed := true }
def TicketsMostUptoSaid : Prop := ticketsMostUptoRow.holds Try.pinned (OpenSpec.upto ticketsMostSpec)

/-- 'copyholdlaw27.AccountsPlays', WHERE WHAT IT READS IS OF BULK AT MOST 1048576: true; the input reads as it did. -/
def accountsPlaysUptoRow : OpenClaim := { program := "ytdcekeclemgkcaa", sum := "e13de66163e1c61fd05f0277cdeea6a2b6f6ad883261fe4e9579fa33ba0cb608", func := "copyhold/copyholdlaw27.AccountsPlays", spec := "accountsPlays", unfollowed := true, recurses := true, apart := false, narrowed := true }
def AccountsPlaysUptoSaid : Prop := accountsPlaysUptoRow.holds Try.pinned (OpenSpec.upto accountsPlaysSpec)

/-- 'copyholdlaw27.AccountsFull', WHERE WHAT IT READS IS OF BULK AT MOST 1048576: true; the input reads as it did. -/
def accountsFullUptoRow : OpenClaim := { program := "ytdcekeclemgkcaa", sum := "e13de66163e1c61fd05f0277cdeea6a2b6f6ad883261fe4e9579fa33ba0cb608", func := "copyhold/copyholdlaw27.AccountsFull", spec := "accountsFull", unfollowed := true, recurses := true, apart := false, narrowed := true }
def AccountsFullUptoSaid : Prop := accountsFullUptoRow.holds Try.pinned (OpenSpec.upto accountsFullSpec)

/-- 'copyholdlaw41.LivePlays', WHERE WHAT IT READS IS OF BULK AT MOST 1048576: true; the input reads as it did. -/
def livePlaysUptoRow : OpenClaim := { program := "ytdcekeclemgkcaa", sum := "e13de66163e1c61fd05f0277cdeea6a2b6f6ad883261fe4e9579fa33ba0cb608", func := "copyhold/copyholdlaw41.LivePlays", spec := "livePlays", unfollowed := true, recurses := true, apart := false, narrowed := true }
def LivePlaysUptoSaid : Prop := livePlaysUptoRow.holds Try.pinned (OpenSpec.upto livePlaysSpec)

/-- 'copyholdlaw41.LiveApart', WHERE WHAT IT READS IS OF BULK AT MOST 1048576: true; the input reads as it did. -/
def liveApartUptoRow : OpenClaim := { program := "ytdcekeclemgkcaa", sum := "e13de66163e1c61fd05f0277cdeea6a2b6f6ad883261fe4e9579fa33ba0cb608", func := "copyhold/copyholdlaw41.LiveApart", spec := "liveApart", unfollowed := true, recurses := true, apart := false, narrowed := true }
def LiveApartUptoSaid : Prop := liveApartUptoRow.holds Try.pinned (OpenSpec.upto liveApartSpec)

/-- 'copyholdlaw41.LiveHoles', WHERE WHAT IT READS IS OF BULK AT MOST 1048576: true; the input reads as it did. -/
def liveHolesUptoRow : OpenClaim := { program := "ytdcekeclemgkcaa", sum := "e13de66163e1c61fd05f0277cdeea6a2b6f6ad883261fe4e9579fa33ba0cb608", func := "copyhold/copyholdlaw41.LiveHoles", spec := "liveHoles", unfollowed := true, recurses := true, apart := false, narrowed := true }
def LiveHolesUptoSaid : Prop := liveHolesUptoRow.holds Try.pinned (OpenSpec.upto liveHolesSpec)

/-- 'copyholdlaw48.FairPassed', WHERE WHAT IT READS IS OF BULK AT MOST 1048576: true; the input reads as it did. -/
def fairPassedUptoRow : OpenClaim := { program := "ytdcekeclemgkcaa", sum := "e13de66163e1c61fd05f0277cdeea6a2b6f6ad883261fe4e9579fa33ba0cb608", func := "copyhold/copyholdlaw48.FairPassed", spec := "fairPassed", unfollowed := true, recurses := true, apart := false, narrowed := true }
def FairPassedUptoSaid : Prop := fairPassedUptoRow.holds Try.pinned (OpenSpec.upto fairPassedSpec)

/-- 'copyholdlaw48.FairMost', WHERE WHAT IT READS IS OF BULK AT MOST 1048576: true; the input reads as it did. -/
def fairMostUptoRow : OpenClaim := { program := "ytdcekeclemgkcaa", sum := "e13de66163e1c61fd05f0277cdeea6a2b6f6ad883261fe4e9579fa33ba0cb608", func := "copyhold/copyholdlaw48.FairMost", spec := "fairMost", unfollowed := true, recurses := true, apart := false, narrowed := true }
def FairMostUptoSaid : Prop := fairMostUptoRow.holds Try.pinned (OpenSpec.upto fairMostSpec)

end Rows
end Go.Proofs.Ytdcekeclemgkcaa
