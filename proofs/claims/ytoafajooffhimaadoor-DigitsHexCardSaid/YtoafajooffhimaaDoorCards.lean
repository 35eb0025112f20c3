/-
  DERIVED. GIVEN WITH THE SEED: THE CARDS: each row of YtoafajooffhimaaDoorRows.lean that lists a variable, with what it lists TIED to the program's text (the seventh form; the later family's looks); each row that meets fmt, with fmt's text TOLD by the authors' own Lean function (tested against real Go, not proved from fmt's source: count such statements apart). THE CARD IS WHAT COUNTS. Prove the row's statement (the work); the ties are given (YtoafajooffhimaaDoorTie.lean); close each card by the builder's one call (the guide's Derived/Test/ToyasCard.lean, 'card_holds'). Laid BY PROGRAM, IN A SANDBOX (cutbox-door.mjs). By AI agents, Wed Nov 11 2026. No macro, syntax, notation, axiom, sorry.
-/
import Derived.Test.YtoafajooffhimaaDoorRows
import GoSem.ClaimSeven
namespace Go.Proofs.YtoafajooffhimaaDoor
namespace Rows

/-- THE TIED CARD OF 'copyholdlaw11.DigitsWords'. -/
def digitsWordsCard : Claim7 := { stood := { row := digitsWordsRow, standIns := [], harness := (true, "b0850022515afd19f0b000d8db2f295d2df037c211d2b375812ee51ea2174d7b"), looks := true }, kinds := [], alts := [], laidByText := true, laidKinds := [.data, .data, .data, .data, .sentinel, .sentinel, .pinned], laidTests := true, laidLooks := .later }
def DigitsWordsCardSaid : Prop := Claim7.holds Tryd.pinned (.plain (OpenSpec.ofChange digitsWordsSpec)) digitsWordsCard

/-- THE TIED CARD OF 'copyholdlaw11.DigitsBack'. -/
def digitsBackCard : Claim7 := { stood := { row := digitsBackRow, standIns := [], harness := (true, "b0850022515afd19f0b000d8db2f295d2df037c211d2b375812ee51ea2174d7b"), looks := true }, kinds := [], alts := [], laidByText := true, laidKinds := [.data, .data, .data, .data, .sentinel, .sentinel, .pinned], laidTests := true, laidLooks := .later }
def DigitsBackCardSaid : Prop := Claim7.holds Tryd.pinned (.plain (OpenSpec.ofChange digitsBackSpec)) digitsBackCard

/-- THE TIED CARD OF 'copyholdlaw11.DigitsReads'. -/
def digitsReadsCard : Claim7 := { stood := { row := digitsReadsRow, standIns := [], harness := (true, "b0850022515afd19f0b000d8db2f295d2df037c211d2b375812ee51ea2174d7b"), looks := true }, kinds := [], alts := [], laidByText := true, laidKinds := [.data, .data, .data, .data, .sentinel, .sentinel, .pinned], laidTests := true, laidLooks := .later }
def DigitsReadsCardSaid : Prop := Claim7.holds Tryd.pinned (.plain (OpenSpec.ofChange digitsReadsSpec)) digitsReadsCard

/-- THE TIED CARD OF 'copyholdlaw11.DigitsHex'. -/
def digitsHexCard : Claim7 := { stood := { row := digitsHexRow, standIns := [], harness := (true, "b0850022515afd19f0b000d8db2f295d2df037c211d2b375812ee51ea2174d7b"), looks := true }, kinds := [], alts := [], laidByText := true, laidKinds := [.data, .data, .data, .data, .sentinel, .sentinel, .pinned], laidTests := true, laidLooks := .later }
def DigitsHexCardSaid : Prop := Claim7.holds Tryd.pinned (.plain (OpenSpec.ofChange digitsHexSpec)) digitsHexCard

/-- THE SECOND FORM's CARD OF 'copyholdlaw11.DigitsWords'. -/
def digitsWordsUptoCard : Claim7 := { stood := { row := digitsWordsUptoRow, standIns := [], harness := (true, "b0850022515afd19f0b000d8db2f295d2df037c211d2b375812ee51ea2174d7b"), looks := true }, kinds := [], alts := [], laidByText := true, laidKinds := [.data, .data, .data, .data, .sentinel, .sentinel, .pinned], laidTests := true, laidLooks := .later }
def DigitsWordsUptoCardSaid : Prop := Claim7.holds Tryd.pinned (.plain (OpenSpec.upto digitsWordsSpec)) digitsWordsUptoCard

/-- THE SECOND FORM's CARD OF 'copyholdlaw11.DigitsBack'. -/
def digitsBackUptoCard : Claim7 := { stood := { row := digitsBackUptoRow, standIns := [], harness := (true, "b0850022515afd19f0b000d8db2f295d2df037c211d2b375812ee51ea2174d7b"), looks := true }, kinds := [], alts := [], laidByText := true, laidKinds := [.data, .data, .data, .data, .sentinel, .sentinel, .pinned], laidTests := true, laidLooks := .later }
def DigitsBackUptoCardSaid : Prop := Claim7.holds Tryd.pinned (.plain (OpenSpec.upto digitsBackSpec)) digitsBackUptoCard

/-- THE SECOND FORM's CARD OF 'copyholdlaw11.DigitsReads'. -/
def digitsReadsUptoCard : Claim7 := { stood := { row := digitsReadsUptoRow, standIns := [], harness := (true, "b0850022515afd19f0b000d8db2f295d2df037c211d2b375812ee51ea2174d7b"), looks := true }, kinds := [], alts := [], laidByText := true, laidKinds := [.data, .data, .data, .data, .sentinel, .sentinel, .pinned], laidTests := true, laidLooks := .later }
def DigitsReadsUptoCardSaid : Prop := Claim7.holds Tryd.pinned (.plain (OpenSpec.upto digitsReadsSpec)) digitsReadsUptoCard

/-- THE SECOND FORM's CARD OF 'copyholdlaw11.DigitsHex'. -/
def digitsHexUptoCard : Claim7 := { stood := { row := digitsHexUptoRow, standIns := [], harness := (true, "b0850022515afd19f0b000d8db2f295d2df037c211d2b375812ee51ea2174d7b"), looks := true }, kinds := [], alts := [], laidByText := true, laidKinds := [.data, .data, .data, .data, .sentinel, .sentinel, .pinned], laidTests := true, laidLooks := .later }
def DigitsHexUptoCardSaid : Prop := Claim7.holds Tryd.pinned (.plain (OpenSpec.upto digitsHexSpec)) digitsHexUptoCard
end Rows
end Go.Proofs.YtoafajooffhimaaDoor
