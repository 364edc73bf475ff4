/-
  DERIVED. GIVEN WITH THE SEED: THE CARDS: each row of YtmjdpfmofbbknaaDoorRows.lean that lists a variable, with what it lists TIED to the program's text (the seventh form; the later family's looks); each row that meets fmt, with fmt's text TOLD by the authors' own Lean function (tested against real Go, not proved from fmt's source: count such statements apart). THE CARD IS WHAT COUNTS. Prove the row's statement (the work); the ties are given (YtmjdpfmofbbknaaDoorTie.lean); close each card by the builder's one call (the guide's Derived/Test/ToyasCard.lean, 'card_holds'). Laid BY PROGRAM, IN A SANDBOX (cutbox-door.mjs). By AI agents, Wed Nov 11 2026. No macro, syntax, notation, axiom, sorry.
-/
import Derived.Test.YtmjdpfmofbbknaaDoorRows
import GoSem.ClaimSeven
namespace Go.Proofs.YtmjdpfmofbbknaaDoor
namespace Rows

/-- THE TIED CARD OF 'miradorlaw14.MessageBytes'. -/
def messageBytesCard : Claim7 := { stood := { row := messageBytesRow, standIns := [], harness := (true, "9703902a21a20ab6e162d526f25772e767ed6096435d7954914e8456dba3c294"), looks := true }, kinds := [], alts := [], laidByText := true, laidKinds := [.handle], laidTests := true, laidLooks := .later }
def MessageBytesCardSaid : Prop := Claim7.holds Tryd.pinned (.plain (OpenSpec.ofChange messageBytesSpec)) messageBytesCard

/-- THE TIED CARD OF 'miradorlaw14.MessageReads'. -/
def messageReadsCard : Claim7 := { stood := { row := messageReadsRow, standIns := [], harness := (true, "9703902a21a20ab6e162d526f25772e767ed6096435d7954914e8456dba3c294"), looks := true }, kinds := [], alts := [], laidByText := true, laidKinds := [.handle], laidTests := true, laidLooks := .later }
def MessageReadsCardSaid : Prop := Claim7.holds Tryd.pinned (.plain (OpenSpec.ofChange messageReadsSpec)) messageReadsCard

/-- THE TIED CARD OF 'miradorlaw14.MessageCopies'. -/
def messageCopiesCard : Claim7 := { stood := { row := messageCopiesRow, standIns := [], harness := (true, "9703902a21a20ab6e162d526f25772e767ed6096435d7954914e8456dba3c294"), looks := true }, kinds := [], alts := [], laidByText := true, laidKinds := [.handle], laidTests := true, laidLooks := .later }
def MessageCopiesCardSaid : Prop := Claim7.holds Tryd.pinned (.plain (OpenSpec.ofChange messageCopiesSpec)) messageCopiesCard

/-- THE SECOND FORM's CARD OF 'miradorlaw14.MessageBytes'. -/
def messageBytesUptoCard : Claim7 := { stood := { row := messageBytesUptoRow, standIns := [], harness := (true, "9703902a21a20ab6e162d526f25772e767ed6096435d7954914e8456dba3c294"), looks := true }, kinds := [], alts := [], laidByText := true, laidKinds := [.handle], laidTests := true, laidLooks := .later }
def MessageBytesUptoCardSaid : Prop := Claim7.holds Tryd.pinned (.plain (OpenSpec.upto messageBytesSpec)) messageBytesUptoCard

/-- THE SECOND FORM's CARD OF 'miradorlaw14.MessageReads'. -/
def messageReadsUptoCard : Claim7 := { stood := { row := messageReadsUptoRow, standIns := [], harness := (true, "9703902a21a20ab6e162d526f25772e767ed6096435d7954914e8456dba3c294"), looks := true }, kinds := [], alts := [], laidByText := true, laidKinds := [.handle], laidTests := true, laidLooks := .later }
def MessageReadsUptoCardSaid : Prop := Claim7.holds Tryd.pinned (.plain (OpenSpec.upto messageReadsSpec)) messageReadsUptoCard

/-- THE SECOND FORM's CARD OF 'miradorlaw14.MessageCopies'. -/
def messageCopiesUptoCard : Claim7 := { stood := { row := messageCopiesUptoRow, standIns := [], harness := (true, "9703902a21a20ab6e162d526f25772e767ed6096435d7954914e8456dba3c294"), looks := true }, kinds := [], alts := [], laidByText := true, laidKinds := [.handle], laidTests := true, laidLooks := .later }
def MessageCopiesUptoCardSaid : Prop := Claim7.holds Tryd.pinned (.plain (OpenSpec.upto messageCopiesSpec)) messageCopiesUptoCard
end Rows
end Go.Proofs.YtmjdpfmofbbknaaDoor
