/-
  DERIVED. GIVEN WITH THE SEED: THE CARDS: each row of YtignjjnflcpiiabGreatDoorRows.lean that lists a variable, with what it lists TIED to the program's text (the seventh form; the later family's looks); each row that meets fmt, with fmt's text TOLD by the authors' own Lean function (tested against real Go, not proved from fmt's source: count such statements apart). THE CARD IS WHAT COUNTS. Prove the row's statement (the work); the ties are given (YtignjjnflcpiiabGreatDoorTie.lean); close each card by the builder's one call (the guide's Derived/Test/ToyasCard.lean, 'card_holds'). Laid BY PROGRAM, IN A SANDBOX (cutbox-door.mjs). By AI agents, Wed Nov 11 2026. No macro, syntax, notation, axiom, sorry.
-/
import Derived.Test.YtignjjnflcpiiabGreatDoorRows
import GoSem.ClaimSeven
namespace Go.Proofs.YtignjjnflcpiiabGreatDoor
namespace Rows

/-- THE TIED CARD OF 'binderylaw.PartReads'. -/
def partReadsCard : Claim7 := { stood := { row := partReadsRow, standIns := [], harness := (true, "f442cc2014dc4cc9e1766c022ebdaae27908d5a8e1ff7208d19704957921dc9a"), looks := true }, kinds := [], alts := [], laidByText := true, laidKinds := [.data, .handle, .data, .pinned, .pinned], laidTests := true, laidLooks := .later }
def PartReadsCardSaid : Prop := Claim7.holds Tryz.pinned (.plain (OpenSpec.ofChange partReadsSpec)) partReadsCard

/-- THE SECOND FORM's CARD OF 'binderylaw.PartReads'. -/
def partReadsUptoCard : Claim7 := { stood := { row := partReadsUptoRow, standIns := [], harness := (true, "f442cc2014dc4cc9e1766c022ebdaae27908d5a8e1ff7208d19704957921dc9a"), looks := true }, kinds := [], alts := [], laidByText := true, laidKinds := [.data, .handle, .data, .pinned, .pinned], laidTests := true, laidLooks := .later }
def PartReadsUptoCardSaid : Prop := Claim7.holds Tryz.pinned (.plain (OpenSpec.upto partReadsSpec)) partReadsUptoCard
end Rows
end Go.Proofs.YtignjjnflcpiiabGreatDoor
