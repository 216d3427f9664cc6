/-
  DERIVED. GIVEN WITH THE SEED: THE CARDS: each row of YtignjjnflcpiiaaDoorRows.lean that lists a variable, with what it lists TIED to the program's text (the seventh form; the later family's looks); each row that meets fmt, with fmt's text TOLD by the authors' own Lean function (tested against real Go, not proved from fmt's source: count such statements apart). THE CARD IS WHAT COUNTS. Prove the row's statement (the work); the ties are given (YtignjjnflcpiiaaDoorTie.lean); close each card by the builder's one call (the guide's Derived/Test/ToyasCard.lean, 'card_holds'). Laid BY PROGRAM, IN A SANDBOX (cutbox-door.mjs). By AI agents, Wed Nov 11 2026. No macro, syntax, notation, axiom, sorry.
-/
import Derived.Test.YtignjjnflcpiiaaDoorRows
import GoSem.ClaimSeven
namespace Go.Proofs.YtignjjnflcpiiaaDoor
namespace Rows

/-- THE TIED CARD OF 'binderykeep.TextBack'. -/
def textBackCard : Claim7 := { stood := { row := textBackRow, standIns := [], harness := (true, "54cfdcccd451a41612a4f1c659f92a8cfe81edd355d80349efd48fbe1c29b906"), looks := true }, kinds := [], alts := [], laidByText := true, laidKinds := [.data, .pinned], laidTests := true, laidLooks := .later }
def TextBackCardSaid : Prop := Claim7.holds Tryd.pinned (.plain (OpenSpec.ofChange textBackSpec)) textBackCard

/-- THE TIED CARD OF 'binderykeep.HeadBack'. -/
def headBackCard : Claim7 := { stood := { row := headBackRow, standIns := [], harness := (true, "54cfdcccd451a41612a4f1c659f92a8cfe81edd355d80349efd48fbe1c29b906"), looks := true }, kinds := [], alts := [], laidByText := true, laidKinds := [.data, .pinned], laidTests := true, laidLooks := .later }
def HeadBackCardSaid : Prop := Claim7.holds Tryd.pinned (.plain (OpenSpec.ofChange headBackSpec)) headBackCard

/-- THE TIED CARD OF 'binderylaw.HeadReads'. -/
def headReadsCard : Claim7 := { stood := { row := headReadsRow, standIns := [], harness := (true, "54cfdcccd451a41612a4f1c659f92a8cfe81edd355d80349efd48fbe1c29b906"), looks := true }, kinds := [], alts := [], laidByText := true, laidKinds := [.data, .handle, .pinned], laidTests := true, laidLooks := .later }
def HeadReadsCardSaid : Prop := Claim7.holds Tryd.pinned (.plain (OpenSpec.ofChange headReadsSpec)) headReadsCard

/-- THE TIED CARD OF 'binderylaw.HeadWrites'. -/
def headWritesCard : Claim7 := { stood := { row := headWritesRow, standIns := [], harness := (true, "54cfdcccd451a41612a4f1c659f92a8cfe81edd355d80349efd48fbe1c29b906"), looks := true }, kinds := [], alts := [], laidByText := true, laidKinds := [.data, .handle, .pinned], laidTests := true, laidLooks := .later }
def HeadWritesCardSaid : Prop := Claim7.holds Tryd.pinned (.plain (OpenSpec.ofChange headWritesSpec)) headWritesCard

/-- THE TIED CARD OF 'binderylaw.KindReads'. -/
def kindReadsCard : Claim7 := { stood := { row := kindReadsRow, standIns := [], harness := (true, "54cfdcccd451a41612a4f1c659f92a8cfe81edd355d80349efd48fbe1c29b906"), looks := true }, kinds := [], alts := [], laidByText := true, laidKinds := [.data, .handle, .pinned], laidTests := true, laidLooks := .later }
def KindReadsCardSaid : Prop := Claim7.holds Tryd.pinned (.plain (OpenSpec.ofChange kindReadsSpec)) kindReadsCard

/-- THE TIED CARD OF 'binderylaw.TextPacks'. -/
def textPacksCard : Claim7 := { stood := { row := textPacksRow, standIns := [], harness := (true, "54cfdcccd451a41612a4f1c659f92a8cfe81edd355d80349efd48fbe1c29b906"), looks := true }, kinds := [], alts := [], laidByText := true, laidKinds := [.data, .handle, .pinned, .pinned], laidTests := true, laidLooks := .later }
def TextPacksCardSaid : Prop := Claim7.holds Tryd.pinned (.plain (OpenSpec.ofChange textPacksSpec)) textPacksCard

/-- THE SECOND FORM's CARD OF 'binderykeep.TextBack'. -/
def textBackUptoCard : Claim7 := { stood := { row := textBackUptoRow, standIns := [], harness := (true, "54cfdcccd451a41612a4f1c659f92a8cfe81edd355d80349efd48fbe1c29b906"), looks := true }, kinds := [], alts := [], laidByText := true, laidKinds := [.data, .pinned], laidTests := true, laidLooks := .later }
def TextBackUptoCardSaid : Prop := Claim7.holds Tryd.pinned (.plain (OpenSpec.upto textBackSpec)) textBackUptoCard

/-- THE SECOND FORM's CARD OF 'binderykeep.HeadBack'. -/
def headBackUptoCard : Claim7 := { stood := { row := headBackUptoRow, standIns := [], harness := (true, "54cfdcccd451a41612a4f1c659f92a8cfe81edd355d80349efd48fbe1c29b906"), looks := true }, kinds := [], alts := [], laidByText := true, laidKinds := [.data, .pinned], laidTests := true, laidLooks := .later }
def HeadBackUptoCardSaid : Prop := Claim7.holds Tryd.pinned (.plain (OpenSpec.upto headBackSpec)) headBackUptoCard

/-- THE SECOND FORM's CARD OF 'binderylaw.HeadReads'. -/
def headReadsUptoCard : Claim7 := { stood := { row := headReadsUptoRow, standIns := [], harness := (true, "54cfdcccd451a41612a4f1c659f92a8cfe81edd355d80349efd48fbe1c29b906"), looks := true }, kinds := [], alts := [], laidByText := true, laidKinds := [.data, .handle, .pinned], laidTests := true, laidLooks := .later }
def HeadReadsUptoCardSaid : Prop := Claim7.holds Tryd.pinned (.plain (OpenSpec.upto headReadsSpec)) headReadsUptoCard

/-- THE SECOND FORM's CARD OF 'binderylaw.HeadWrites'. -/
def headWritesUptoCard : Claim7 := { stood := { row := headWritesUptoRow, standIns := [], harness := (true, "54cfdcccd451a41612a4f1c659f92a8cfe81edd355d80349efd48fbe1c29b906"), looks := true }, kinds := [], alts := [], laidByText := true, laidKinds := [.data, .handle, .pinned], laidTests := true, laidLooks := .later }
def HeadWritesUptoCardSaid : Prop := Claim7.holds Tryd.pinned (.plain (OpenSpec.upto headWritesSpec)) headWritesUptoCard

/-- THE SECOND FORM's CARD OF 'binderylaw.KindReads'. -/
def kindReadsUptoCard : Claim7 := { stood := { row := kindReadsUptoRow, standIns := [], harness := (true, "54cfdcccd451a41612a4f1c659f92a8cfe81edd355d80349efd48fbe1c29b906"), looks := true }, kinds := [], alts := [], laidByText := true, laidKinds := [.data, .handle, .pinned], laidTests := true, laidLooks := .later }
def KindReadsUptoCardSaid : Prop := Claim7.holds Tryd.pinned (.plain (OpenSpec.upto kindReadsSpec)) kindReadsUptoCard

/-- THE SECOND FORM's CARD OF 'binderylaw.TextPacks'. -/
def textPacksUptoCard : Claim7 := { stood := { row := textPacksUptoRow, standIns := [], harness := (true, "54cfdcccd451a41612a4f1c659f92a8cfe81edd355d80349efd48fbe1c29b906"), looks := true }, kinds := [], alts := [], laidByText := true, laidKinds := [.data, .handle, .pinned, .pinned], laidTests := true, laidLooks := .later }
def TextPacksUptoCardSaid : Prop := Claim7.holds Tryd.pinned (.plain (OpenSpec.upto textPacksSpec)) textPacksUptoCard
end Rows
end Go.Proofs.YtignjjnflcpiiaaDoor
