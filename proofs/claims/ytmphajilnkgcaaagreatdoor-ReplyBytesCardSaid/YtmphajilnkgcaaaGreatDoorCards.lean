/-
  DERIVED. GIVEN WITH THE SEED: THE CARDS: each row of YtmphajilnkgcaaaGreatDoorRows.lean that lists a variable, with what it lists TIED to the program's text (the seventh form; the later family's looks); each row that meets fmt, with fmt's text TOLD by the authors' own Lean function (tested against real Go, not proved from fmt's source: count such statements apart). THE CARD IS WHAT COUNTS. Prove the row's statement (the work); the ties are given (YtmphajilnkgcaaaGreatDoorTie.lean); close each card by the builder's one call (the guide's Derived/Test/ToyasCard.lean, 'card_holds'). Laid BY PROGRAM, IN A SANDBOX (cutbox-door.mjs). By AI agents, Wed Nov 11 2026. No macro, syntax, notation, axiom, sorry.
-/
import Derived.Test.YtmphajilnkgcaaaGreatDoorRows
import GoSem.ClaimSeven
namespace Go.Proofs.YtmphajilnkgcaaaGreatDoor
namespace Rows

/-- THE TIED CARD OF 'miradorlaw15.ReplyBytes'. -/
def replyBytesCard : Claim7 := { stood := { row := replyBytesRow, standIns := [], harness := (true, "70221f363cac444e2b6da3fcfd01e857e15ad4305968d2200cf1e4353b2d6cd4"), looks := true }, kinds := [], alts := [], laidByText := true, laidKinds := [.data, .handle, .pinned], laidTests := true, laidLooks := .later }
def ReplyBytesCardSaid : Prop := Claim7.holds Tryz.pinned (.plain (OpenSpec.ofChange replyBytesSpec)) replyBytesCard

/-- THE SECOND FORM's CARD OF 'miradorlaw15.ReplyBytes'. -/
def replyBytesUptoCard : Claim7 := { stood := { row := replyBytesUptoRow, standIns := [], harness := (true, "70221f363cac444e2b6da3fcfd01e857e15ad4305968d2200cf1e4353b2d6cd4"), looks := true }, kinds := [], alts := [], laidByText := true, laidKinds := [.data, .handle, .pinned], laidTests := true, laidLooks := .later }
def ReplyBytesUptoCardSaid : Prop := Claim7.holds Tryz.pinned (.plain (OpenSpec.upto replyBytesSpec)) replyBytesUptoCard
end Rows
end Go.Proofs.YtmphajilnkgcaaaGreatDoor
