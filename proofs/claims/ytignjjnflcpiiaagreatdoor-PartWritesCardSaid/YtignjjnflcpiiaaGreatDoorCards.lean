/-
  DERIVED. GIVEN WITH THE SEED: THE CARDS: each row of YtignjjnflcpiiaaGreatDoorRows.lean that lists a variable, with what it lists TIED to the program's text (the seventh form; the later family's looks); each row that meets fmt, with fmt's text TOLD by the authors' own Lean function (tested against real Go, not proved from fmt's source: count such statements apart). THE CARD IS WHAT COUNTS. Prove the row's statement (the work); the ties are given (YtignjjnflcpiiaaGreatDoorTie.lean); close each card by the builder's one call (the guide's Derived/Test/ToyasCard.lean, 'card_holds'). Laid BY PROGRAM, IN A SANDBOX (cutbox-door.mjs). By AI agents, Wed Nov 11 2026. No macro, syntax, notation, axiom, sorry.
-/
import Derived.Test.YtignjjnflcpiiaaGreatDoorRows
import GoSem.ClaimSeven
namespace Go.Proofs.YtignjjnflcpiiaaGreatDoor
namespace Rows

/-- THE TIED CARD OF 'binderylaw.PartWrites'. -/
def partWritesCard : Claim7 := { stood := { row := partWritesRow, standIns := [], harness := (true, "9d74582415b44716604466db5f62bcf35b8d7eca912f86a2e1f6c2fe0019514c"), looks := true }, kinds := [], alts := [], laidByText := true, laidKinds := [.data, .data, .data, .data, .handle, .data, .pinned], laidTests := true, laidLooks := .later }
def PartWritesCardSaid : Prop := Claim7.holds Tryz.pinned (.plain (OpenSpec.ofChange partWritesSpec)) partWritesCard

/-- THE TIED CARD OF 'binderykeep.PartBack'. -/
def partBackCard : Claim7 := { stood := { row := partBackRow, standIns := [], harness := (true, "9d74582415b44716604466db5f62bcf35b8d7eca912f86a2e1f6c2fe0019514c"), looks := true }, kinds := [], alts := [], laidByText := true, laidKinds := [.data, .data, .data, .data, .handle, .data, .pinned, .pinned], laidTests := true, laidLooks := .later }
def PartBackCardSaid : Prop := Claim7.holds Tryz.pinned (.plain (OpenSpec.ofChange partBackSpec)) partBackCard

/-- THE TIED CARD OF 'binderykeep.PageTurns'. -/
def pageTurnsCard : Claim7 := { stood := { row := pageTurnsRow, standIns := [], harness := (true, "9d74582415b44716604466db5f62bcf35b8d7eca912f86a2e1f6c2fe0019514c"), looks := true }, kinds := [], alts := [], laidByText := true, laidKinds := [.data, .widerDeep, .pinned], laidTests := true, laidLooks := .later }
def PageTurnsCardSaid : Prop := Claim7.holds Tryz.pinned (.plain (OpenSpec.ofChange pageTurnsSpec)) pageTurnsCard

/-- THE TIED CARD OF 'binderylaw.KindWrites'. -/
def kindWritesCard : Claim7 := { stood := { row := kindWritesRow, standIns := [], harness := (true, "9d74582415b44716604466db5f62bcf35b8d7eca912f86a2e1f6c2fe0019514c"), looks := true }, kinds := [], alts := [], laidByText := true, laidKinds := [.data, .handle, .pinned], laidTests := true, laidLooks := .later }
def KindWritesCardSaid : Prop := Claim7.holds Tryz.pinned (.plain (OpenSpec.ofChange kindWritesSpec)) kindWritesCard

/-- THE TIED CARD OF 'binderykeep.KindBack'. -/
def kindBackCard : Claim7 := { stood := { row := kindBackRow, standIns := [], harness := (true, "9d74582415b44716604466db5f62bcf35b8d7eca912f86a2e1f6c2fe0019514c"), looks := true }, kinds := [], alts := [], laidByText := true, laidKinds := [.data, .pinned], laidTests := true, laidLooks := .later }
def KindBackCardSaid : Prop := Claim7.holds Tryz.pinned (.plain (OpenSpec.ofChange kindBackSpec)) kindBackCard

/-- THE TIED CARD OF 'binderylaw.PageLeads'. -/
def pageLeadsCard : Claim7 := { stood := { row := pageLeadsRow, standIns := [], harness := (true, "9d74582415b44716604466db5f62bcf35b8d7eca912f86a2e1f6c2fe0019514c"), looks := true }, kinds := [], alts := [], laidByText := true, laidKinds := [.data, .handle, .widerDeep, .pinned], laidTests := true, laidLooks := .later }
def PageLeadsCardSaid : Prop := Claim7.holds Tryz.pinned (.plain (OpenSpec.ofChange pageLeadsSpec)) pageLeadsCard

/-- THE SECOND FORM's CARD OF 'binderylaw.PartWrites'. -/
def partWritesUptoCard : Claim7 := { stood := { row := partWritesUptoRow, standIns := [], harness := (true, "9d74582415b44716604466db5f62bcf35b8d7eca912f86a2e1f6c2fe0019514c"), looks := true }, kinds := [], alts := [], laidByText := true, laidKinds := [.data, .data, .data, .data, .handle, .data, .pinned], laidTests := true, laidLooks := .later }
def PartWritesUptoCardSaid : Prop := Claim7.holds Tryz.pinned (.plain (OpenSpec.upto partWritesSpec)) partWritesUptoCard

/-- THE SECOND FORM's CARD OF 'binderykeep.PartBack'. -/
def partBackUptoCard : Claim7 := { stood := { row := partBackUptoRow, standIns := [], harness := (true, "9d74582415b44716604466db5f62bcf35b8d7eca912f86a2e1f6c2fe0019514c"), looks := true }, kinds := [], alts := [], laidByText := true, laidKinds := [.data, .data, .data, .data, .handle, .data, .pinned, .pinned], laidTests := true, laidLooks := .later }
def PartBackUptoCardSaid : Prop := Claim7.holds Tryz.pinned (.plain (OpenSpec.upto partBackSpec)) partBackUptoCard

/-- THE SECOND FORM's CARD OF 'binderykeep.PageTurns'. -/
def pageTurnsUptoCard : Claim7 := { stood := { row := pageTurnsUptoRow, standIns := [], harness := (true, "9d74582415b44716604466db5f62bcf35b8d7eca912f86a2e1f6c2fe0019514c"), looks := true }, kinds := [], alts := [], laidByText := true, laidKinds := [.data, .widerDeep, .pinned], laidTests := true, laidLooks := .later }
def PageTurnsUptoCardSaid : Prop := Claim7.holds Tryz.pinned (.plain (OpenSpec.upto pageTurnsSpec)) pageTurnsUptoCard

/-- THE SECOND FORM's CARD OF 'binderylaw.KindWrites'. -/
def kindWritesUptoCard : Claim7 := { stood := { row := kindWritesUptoRow, standIns := [], harness := (true, "9d74582415b44716604466db5f62bcf35b8d7eca912f86a2e1f6c2fe0019514c"), looks := true }, kinds := [], alts := [], laidByText := true, laidKinds := [.data, .handle, .pinned], laidTests := true, laidLooks := .later }
def KindWritesUptoCardSaid : Prop := Claim7.holds Tryz.pinned (.plain (OpenSpec.upto kindWritesSpec)) kindWritesUptoCard

/-- THE SECOND FORM's CARD OF 'binderykeep.KindBack'. -/
def kindBackUptoCard : Claim7 := { stood := { row := kindBackUptoRow, standIns := [], harness := (true, "9d74582415b44716604466db5f62bcf35b8d7eca912f86a2e1f6c2fe0019514c"), looks := true }, kinds := [], alts := [], laidByText := true, laidKinds := [.data, .pinned], laidTests := true, laidLooks := .later }
def KindBackUptoCardSaid : Prop := Claim7.holds Tryz.pinned (.plain (OpenSpec.upto kindBackSpec)) kindBackUptoCard

/-- THE SECOND FORM's CARD OF 'binderylaw.PageLeads'. -/
def pageLeadsUptoCard : Claim7 := { stood := { row := pageLeadsUptoRow, standIns := [], harness := (true, "9d74582415b44716604466db5f62bcf35b8d7eca912f86a2e1f6c2fe0019514c"), looks := true }, kinds := [], alts := [], laidByText := true, laidKinds := [.data, .handle, .widerDeep, .pinned], laidTests := true, laidLooks := .later }
def PageLeadsUptoCardSaid : Prop := Claim7.holds Tryz.pinned (.plain (OpenSpec.upto pageLeadsSpec)) pageLeadsUptoCard
end Rows
end Go.Proofs.YtignjjnflcpiiaaGreatDoor
