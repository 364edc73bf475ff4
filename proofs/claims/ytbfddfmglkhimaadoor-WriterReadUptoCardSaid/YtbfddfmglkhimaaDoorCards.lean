/-
  DERIVED. GIVEN WITH THE SEED: THE CARDS: each row of YtbfddfmglkhimaaDoorRows.lean that lists a variable, with what it lists TIED to the program's text (the seventh form; the later family's looks); each row that meets fmt, with fmt's text TOLD by the authors' own Lean function (tested against real Go, not proved from fmt's source: count such statements apart). THE CARD IS WHAT COUNTS. Prove the row's statement (the work); the ties are given (YtbfddfmglkhimaaDoorTie.lean); close each card by the builder's one call (the guide's Derived/Test/ToyasCard.lean, 'card_holds'). Laid BY PROGRAM, IN A SANDBOX (cutbox-door.mjs). By AI agents, Wed Nov 11 2026. No macro, syntax, notation, axiom, sorry.
-/
import Derived.Test.YtbfddfmglkhimaaDoorRows
import GoSem.ClaimSeven
namespace Go.Proofs.YtbfddfmglkhimaaDoor
namespace Rows

/-- THE TIED CARD OF 'miradorlaw09.ReaderNumbers'. -/
def readerNumbersCard : Claim7 := { stood := { row := readerNumbersRow, standIns := [], harness := (true, "20ea481fdc9224aa0124345f70ddbcd29f91dcbb7c5e40ef0271136dd8cdeab3"), looks := true }, kinds := [], alts := [], laidByText := true, laidKinds := [.handle], laidTests := true, laidLooks := .later }
def ReaderNumbersCardSaid : Prop := Claim7.holds Tryd.pinned (.plain (OpenSpec.ofChange readerNumbersSpec)) readerNumbersCard

/-- THE TIED CARD OF 'miradorlaw09.ReaderOrder'. -/
def readerOrderCard : Claim7 := { stood := { row := readerOrderRow, standIns := [], harness := (true, "20ea481fdc9224aa0124345f70ddbcd29f91dcbb7c5e40ef0271136dd8cdeab3"), looks := true }, kinds := [], alts := [], laidByText := true, laidKinds := [.handle], laidTests := true, laidLooks := .later }
def ReaderOrderCardSaid : Prop := Claim7.holds Tryd.pinned (.plain (OpenSpec.ofChange readerOrderSpec)) readerOrderCard

/-- THE TIED CARD OF 'miradorlaw09.ReaderReads'. -/
def readerReadsCard : Claim7 := { stood := { row := readerReadsRow, standIns := [], harness := (true, "20ea481fdc9224aa0124345f70ddbcd29f91dcbb7c5e40ef0271136dd8cdeab3"), looks := true }, kinds := [], alts := [], laidByText := true, laidKinds := [.handle], laidTests := true, laidLooks := .later }
def ReaderReadsCardSaid : Prop := Claim7.holds Tryd.pinned (.plain (OpenSpec.ofChange readerReadsSpec)) readerReadsCard

/-- THE TIED CARD OF 'miradorlaw09.ReaderNil'. -/
def readerNilCard : Claim7 := { stood := { row := readerNilRow, standIns := [], harness := (true, "20ea481fdc9224aa0124345f70ddbcd29f91dcbb7c5e40ef0271136dd8cdeab3"), looks := true }, kinds := [], alts := [], laidByText := true, laidKinds := [.handle], laidTests := true, laidLooks := .later }
def ReaderNilCardSaid : Prop := Claim7.holds Tryd.pinned (.plain (OpenSpec.ofChange readerNilSpec)) readerNilCard

/-- THE TIED CARD OF 'miradorlaw10.WriterRead'. -/
def writerReadCard : Claim7 := { stood := { row := writerReadRow, standIns := [], harness := (true, "20ea481fdc9224aa0124345f70ddbcd29f91dcbb7c5e40ef0271136dd8cdeab3"), looks := true }, kinds := [], alts := [], laidByText := true, laidKinds := [.handle], laidTests := true, laidLooks := .later }
def WriterReadCardSaid : Prop := Claim7.holds Tryd.pinned (.plain (OpenSpec.ofChange writerReadSpec)) writerReadCard

/-- THE SECOND FORM's CARD OF 'miradorlaw09.ReaderNumbers'. -/
def readerNumbersUptoCard : Claim7 := { stood := { row := readerNumbersUptoRow, standIns := [], harness := (true, "20ea481fdc9224aa0124345f70ddbcd29f91dcbb7c5e40ef0271136dd8cdeab3"), looks := true }, kinds := [], alts := [], laidByText := true, laidKinds := [.handle], laidTests := true, laidLooks := .later }
def ReaderNumbersUptoCardSaid : Prop := Claim7.holds Tryd.pinned (.plain (OpenSpec.upto readerNumbersSpec)) readerNumbersUptoCard

/-- THE SECOND FORM's CARD OF 'miradorlaw09.ReaderOrder'. -/
def readerOrderUptoCard : Claim7 := { stood := { row := readerOrderUptoRow, standIns := [], harness := (true, "20ea481fdc9224aa0124345f70ddbcd29f91dcbb7c5e40ef0271136dd8cdeab3"), looks := true }, kinds := [], alts := [], laidByText := true, laidKinds := [.handle], laidTests := true, laidLooks := .later }
def ReaderOrderUptoCardSaid : Prop := Claim7.holds Tryd.pinned (.plain (OpenSpec.upto readerOrderSpec)) readerOrderUptoCard

/-- THE SECOND FORM's CARD OF 'miradorlaw09.ReaderReads'. -/
def readerReadsUptoCard : Claim7 := { stood := { row := readerReadsUptoRow, standIns := [], harness := (true, "20ea481fdc9224aa0124345f70ddbcd29f91dcbb7c5e40ef0271136dd8cdeab3"), looks := true }, kinds := [], alts := [], laidByText := true, laidKinds := [.handle], laidTests := true, laidLooks := .later }
def ReaderReadsUptoCardSaid : Prop := Claim7.holds Tryd.pinned (.plain (OpenSpec.upto readerReadsSpec)) readerReadsUptoCard

/-- THE SECOND FORM's CARD OF 'miradorlaw09.ReaderNil'. -/
def readerNilUptoCard : Claim7 := { stood := { row := readerNilUptoRow, standIns := [], harness := (true, "20ea481fdc9224aa0124345f70ddbcd29f91dcbb7c5e40ef0271136dd8cdeab3"), looks := true }, kinds := [], alts := [], laidByText := true, laidKinds := [.handle], laidTests := true, laidLooks := .later }
def ReaderNilUptoCardSaid : Prop := Claim7.holds Tryd.pinned (.plain (OpenSpec.upto readerNilSpec)) readerNilUptoCard

/-- THE SECOND FORM's CARD OF 'miradorlaw10.WriterRead'. -/
def writerReadUptoCard : Claim7 := { stood := { row := writerReadUptoRow, standIns := [], harness := (true, "20ea481fdc9224aa0124345f70ddbcd29f91dcbb7c5e40ef0271136dd8cdeab3"), looks := true }, kinds := [], alts := [], laidByText := true, laidKinds := [.handle], laidTests := true, laidLooks := .later }
def WriterReadUptoCardSaid : Prop := Claim7.holds Tryd.pinned (.plain (OpenSpec.upto writerReadSpec)) writerReadUptoCard
end Rows
end Go.Proofs.YtbfddfmglkhimaaDoor
