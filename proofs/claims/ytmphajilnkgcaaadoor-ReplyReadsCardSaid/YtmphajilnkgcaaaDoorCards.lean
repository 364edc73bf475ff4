/-
  DERIVED. GIVEN WITH THE SEED: THE CARDS: each row of YtmphajilnkgcaaaDoorRows.lean that lists a variable, with what it lists TIED to the program's text (the seventh form; the later family's looks); each row that meets fmt, with fmt's text TOLD by the authors' own Lean function (tested against real Go, not proved from fmt's source: count such statements apart). THE CARD IS WHAT COUNTS. Prove the row's statement (the work); the ties are given (YtmphajilnkgcaaaDoorTie.lean); close each card by the builder's one call (the guide's Derived/Test/ToyasCard.lean, 'card_holds'). Laid BY PROGRAM, IN A SANDBOX (cutbox-door.mjs). By AI agents, Wed Nov 11 2026. No macro, syntax, notation, axiom, sorry.
-/
import Derived.Test.YtmphajilnkgcaaaDoorRows
import GoSem.ClaimSeven
namespace Go.Proofs.YtmphajilnkgcaaaDoor
namespace Rows

/-- THE TIED CARD OF 'miradorlaw15.ReplyLines'. -/
def replyLinesCard : Claim7 := { stood := { row := replyLinesRow, standIns := [], harness := (true, "8301c21ef89814d157f5c3bf5845d6afa1376dbee1e3e2b14857d5dfe9030f86"), looks := true }, kinds := [], alts := [], laidByText := true, laidKinds := [.data, .pinned], laidTests := true, laidLooks := .later }
def ReplyLinesCardSaid : Prop := Claim7.holds Tryd.pinned (.plain (OpenSpec.ofChange replyLinesSpec)) replyLinesCard

/-- THE TIED CARD OF 'miradorlaw15.ReplyNames'. -/
def replyNamesCard : Claim7 := { stood := { row := replyNamesRow, standIns := [], harness := (true, "8301c21ef89814d157f5c3bf5845d6afa1376dbee1e3e2b14857d5dfe9030f86"), looks := true }, kinds := [], alts := [], laidByText := true, laidKinds := [.data, .pinned], laidTests := true, laidLooks := .later }
def ReplyNamesCardSaid : Prop := Claim7.holds Tryd.pinned (.plain (OpenSpec.ofChange replyNamesSpec)) replyNamesCard

/-- THE TIED CARD OF 'miradorlaw15.ReplyReads'. -/
def replyReadsCard : Claim7 := { stood := { row := replyReadsRow, standIns := [], harness := (true, "8301c21ef89814d157f5c3bf5845d6afa1376dbee1e3e2b14857d5dfe9030f86"), looks := true }, kinds := [], alts := [], laidByText := true, laidKinds := [.data, .handle, .pinned], laidTests := true, laidLooks := .later }
def ReplyReadsCardSaid : Prop := Claim7.holds Tryd.pinned (.plain (OpenSpec.ofChange replyReadsSpec)) replyReadsCard

/-- THE SECOND FORM's CARD OF 'miradorlaw15.ReplyLines'. -/
def replyLinesUptoCard : Claim7 := { stood := { row := replyLinesUptoRow, standIns := [], harness := (true, "8301c21ef89814d157f5c3bf5845d6afa1376dbee1e3e2b14857d5dfe9030f86"), looks := true }, kinds := [], alts := [], laidByText := true, laidKinds := [.data, .pinned], laidTests := true, laidLooks := .later }
def ReplyLinesUptoCardSaid : Prop := Claim7.holds Tryd.pinned (.plain (OpenSpec.upto replyLinesSpec)) replyLinesUptoCard

/-- THE SECOND FORM's CARD OF 'miradorlaw15.ReplyNames'. -/
def replyNamesUptoCard : Claim7 := { stood := { row := replyNamesUptoRow, standIns := [], harness := (true, "8301c21ef89814d157f5c3bf5845d6afa1376dbee1e3e2b14857d5dfe9030f86"), looks := true }, kinds := [], alts := [], laidByText := true, laidKinds := [.data, .pinned], laidTests := true, laidLooks := .later }
def ReplyNamesUptoCardSaid : Prop := Claim7.holds Tryd.pinned (.plain (OpenSpec.upto replyNamesSpec)) replyNamesUptoCard

/-- THE SECOND FORM's CARD OF 'miradorlaw15.ReplyReads'. -/
def replyReadsUptoCard : Claim7 := { stood := { row := replyReadsUptoRow, standIns := [], harness := (true, "8301c21ef89814d157f5c3bf5845d6afa1376dbee1e3e2b14857d5dfe9030f86"), looks := true }, kinds := [], alts := [], laidByText := true, laidKinds := [.data, .handle, .pinned], laidTests := true, laidLooks := .later }
def ReplyReadsUptoCardSaid : Prop := Claim7.holds Tryd.pinned (.plain (OpenSpec.upto replyReadsSpec)) replyReadsUptoCard
end Rows
end Go.Proofs.YtmphajilnkgcaaaDoor
