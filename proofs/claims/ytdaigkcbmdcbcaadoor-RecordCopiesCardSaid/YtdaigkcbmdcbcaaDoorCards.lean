/-
  DERIVED. GIVEN WITH THE SEED: THE CARDS: each row of YtdaigkcbmdcbcaaDoorRows.lean that lists a variable, with what it lists TIED to the program's text (the seventh form; the later family's looks); each row that meets fmt, with fmt's text TOLD by the authors' own Lean function (tested against real Go, not proved from fmt's source: count such statements apart). THE CARD IS WHAT COUNTS. Prove the row's statement (the work); the ties are given (YtdaigkcbmdcbcaaDoorTie.lean); close each card by the builder's one call (the guide's Derived/Test/ToyasCard.lean, 'card_holds'). Laid BY PROGRAM, IN A SANDBOX (cutbox-door.mjs). By AI agents, Wed Nov 11 2026. No macro, syntax, notation, axiom, sorry.
-/
import Derived.Test.YtdaigkcbmdcbcaaDoorRows
import GoSem.ClaimSeven
namespace Go.Proofs.YtdaigkcbmdcbcaaDoor
namespace Rows

/-- THE TIED CARD OF 'miradorlaw16.BlockBytes'. -/
def blockBytesCard : Claim7 := { stood := { row := blockBytesRow, standIns := [], harness := (true, "4e1b23c0497ea76e10ad3fcdbaff59ac31e92b7b26ba1941be382b3cea47b7c2"), looks := true }, kinds := [], alts := [], laidByText := true, laidKinds := [.handle], laidTests := true, laidLooks := .later }
def BlockBytesCardSaid : Prop := Claim7.holds Tryd.pinned (.plain (OpenSpec.ofChange blockBytesSpec)) blockBytesCard

/-- THE TIED CARD OF 'miradorlaw16.BlockReads'. -/
def blockReadsCard : Claim7 := { stood := { row := blockReadsRow, standIns := [], harness := (true, "4e1b23c0497ea76e10ad3fcdbaff59ac31e92b7b26ba1941be382b3cea47b7c2"), looks := true }, kinds := [], alts := [], laidByText := true, laidKinds := [.handle], laidTests := true, laidLooks := .later }
def BlockReadsCardSaid : Prop := Claim7.holds Tryd.pinned (.plain (OpenSpec.ofChange blockReadsSpec)) blockReadsCard

/-- THE TIED CARD OF 'miradorlaw17.RecordBytes'. -/
def recordBytesCard : Claim7 := { stood := { row := recordBytesRow, standIns := [], harness := (true, "4e1b23c0497ea76e10ad3fcdbaff59ac31e92b7b26ba1941be382b3cea47b7c2"), looks := true }, kinds := [], alts := [], laidByText := true, laidKinds := [.handle], laidTests := true, laidLooks := .later }
def RecordBytesCardSaid : Prop := Claim7.holds Tryd.pinned (.plain (OpenSpec.ofChange recordBytesSpec)) recordBytesCard

/-- THE TIED CARD OF 'miradorlaw17.RecordReads'. -/
def recordReadsCard : Claim7 := { stood := { row := recordReadsRow, standIns := [], harness := (true, "4e1b23c0497ea76e10ad3fcdbaff59ac31e92b7b26ba1941be382b3cea47b7c2"), looks := true }, kinds := [], alts := [], laidByText := true, laidKinds := [.handle], laidTests := true, laidLooks := .later }
def RecordReadsCardSaid : Prop := Claim7.holds Tryd.pinned (.plain (OpenSpec.ofChange recordReadsSpec)) recordReadsCard

/-- THE TIED CARD OF 'miradorlaw17.RecordCopies'. -/
def recordCopiesCard : Claim7 := { stood := { row := recordCopiesRow, standIns := [], harness := (true, "4e1b23c0497ea76e10ad3fcdbaff59ac31e92b7b26ba1941be382b3cea47b7c2"), looks := true }, kinds := [], alts := [], laidByText := true, laidKinds := [.handle], laidTests := true, laidLooks := .later }
def RecordCopiesCardSaid : Prop := Claim7.holds Tryd.pinned (.plain (OpenSpec.ofChange recordCopiesSpec)) recordCopiesCard

/-- THE SECOND FORM's CARD OF 'miradorlaw16.BlockBytes'. -/
def blockBytesUptoCard : Claim7 := { stood := { row := blockBytesUptoRow, standIns := [], harness := (true, "4e1b23c0497ea76e10ad3fcdbaff59ac31e92b7b26ba1941be382b3cea47b7c2"), looks := true }, kinds := [], alts := [], laidByText := true, laidKinds := [.handle], laidTests := true, laidLooks := .later }
def BlockBytesUptoCardSaid : Prop := Claim7.holds Tryd.pinned (.plain (OpenSpec.upto blockBytesSpec)) blockBytesUptoCard

/-- THE SECOND FORM's CARD OF 'miradorlaw16.BlockReads'. -/
def blockReadsUptoCard : Claim7 := { stood := { row := blockReadsUptoRow, standIns := [], harness := (true, "4e1b23c0497ea76e10ad3fcdbaff59ac31e92b7b26ba1941be382b3cea47b7c2"), looks := true }, kinds := [], alts := [], laidByText := true, laidKinds := [.handle], laidTests := true, laidLooks := .later }
def BlockReadsUptoCardSaid : Prop := Claim7.holds Tryd.pinned (.plain (OpenSpec.upto blockReadsSpec)) blockReadsUptoCard

/-- THE SECOND FORM's CARD OF 'miradorlaw17.RecordBytes'. -/
def recordBytesUptoCard : Claim7 := { stood := { row := recordBytesUptoRow, standIns := [], harness := (true, "4e1b23c0497ea76e10ad3fcdbaff59ac31e92b7b26ba1941be382b3cea47b7c2"), looks := true }, kinds := [], alts := [], laidByText := true, laidKinds := [.handle], laidTests := true, laidLooks := .later }
def RecordBytesUptoCardSaid : Prop := Claim7.holds Tryd.pinned (.plain (OpenSpec.upto recordBytesSpec)) recordBytesUptoCard

/-- THE SECOND FORM's CARD OF 'miradorlaw17.RecordReads'. -/
def recordReadsUptoCard : Claim7 := { stood := { row := recordReadsUptoRow, standIns := [], harness := (true, "4e1b23c0497ea76e10ad3fcdbaff59ac31e92b7b26ba1941be382b3cea47b7c2"), looks := true }, kinds := [], alts := [], laidByText := true, laidKinds := [.handle], laidTests := true, laidLooks := .later }
def RecordReadsUptoCardSaid : Prop := Claim7.holds Tryd.pinned (.plain (OpenSpec.upto recordReadsSpec)) recordReadsUptoCard

/-- THE SECOND FORM's CARD OF 'miradorlaw17.RecordCopies'. -/
def recordCopiesUptoCard : Claim7 := { stood := { row := recordCopiesUptoRow, standIns := [], harness := (true, "4e1b23c0497ea76e10ad3fcdbaff59ac31e92b7b26ba1941be382b3cea47b7c2"), looks := true }, kinds := [], alts := [], laidByText := true, laidKinds := [.handle], laidTests := true, laidLooks := .later }
def RecordCopiesUptoCardSaid : Prop := Claim7.holds Tryd.pinned (.plain (OpenSpec.upto recordCopiesSpec)) recordCopiesUptoCard
end Rows
end Go.Proofs.YtdaigkcbmdcbcaaDoor
