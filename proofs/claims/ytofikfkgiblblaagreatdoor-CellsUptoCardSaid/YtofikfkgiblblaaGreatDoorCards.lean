/-
  DERIVED. GIVEN WITH THE SEED: THE CARDS: each row of YtofikfkgiblblaaGreatDoorRows.lean that lists a variable, with what it lists TIED to the program's text (the seventh form; the later family's looks); each row that meets fmt, with fmt's text TOLD by the authors' own Lean function (tested against real Go, not proved from fmt's source: count such statements apart). THE CARD IS WHAT COUNTS. Prove the row's statement (the work); the ties are given (YtofikfkgiblblaaGreatDoorTie.lean); close each card by the builder's one call (the guide's Derived/Test/ToyasCard.lean, 'card_holds'). Laid BY PROGRAM, IN A SANDBOX (cutbox-door.mjs). By AI agents, Wed Nov 11 2026. No macro, syntax, notation, axiom, sorry.
-/
import Derived.Test.YtofikfkgiblblaaGreatDoorRows
import GoSem.ClaimSeven
namespace Go.Proofs.YtofikfkgiblblaaGreatDoor
namespace Rows

/-- THE TIED CARD OF 'tattlelaw12.Cells'. -/
def cellsCard : Claim7 := { stood := { row := cellsRow, standIns := [], harness := (true, "a3f772854c88676b6d822c9b0b2aacc5a62fd94dadced1f6112927b7cd3aa1c1"), looks := false }, kinds := [], alts := [], laidByText := true, laidKinds := [.data, .data, .data], laidTests := true, laidLooks := .later }
def CellsCardSaid : Prop := Claim7.holds Tryz.pinned (.plain (OpenSpec.ofChange cellsSpec)) cellsCard

/-- THE TIED CARD OF 'tattlelaw12.CellKeeps'. -/
def cellKeepsCard : Claim7 := { stood := { row := cellKeepsRow, standIns := [], harness := (true, "a3f772854c88676b6d822c9b0b2aacc5a62fd94dadced1f6112927b7cd3aa1c1"), looks := false }, kinds := [], alts := [], laidByText := true, laidKinds := [.data, .data, .data], laidTests := true, laidLooks := .later }
def CellKeepsCardSaid : Prop := Claim7.holds Tryz.pinned (.plain (OpenSpec.ofChange cellKeepsSpec)) cellKeepsCard

/-- THE TIED CARD OF 'tattlelaw12.CellForms'. -/
def cellFormsCard : Claim7 := { stood := { row := cellFormsRow, standIns := [], harness := (true, "a3f772854c88676b6d822c9b0b2aacc5a62fd94dadced1f6112927b7cd3aa1c1"), looks := false }, kinds := [], alts := [], laidByText := true, laidKinds := [.data, .data, .data], laidTests := true, laidLooks := .later }
def CellFormsCardSaid : Prop := Claim7.holds Tryz.pinned (.plain (OpenSpec.ofChange cellFormsSpec)) cellFormsCard

/-- THE TIED CARD OF 'tattlelaw12.CellNew'. -/
def cellNewCard : Claim7 := { stood := { row := cellNewRow, standIns := [], harness := (true, "a3f772854c88676b6d822c9b0b2aacc5a62fd94dadced1f6112927b7cd3aa1c1"), looks := false }, kinds := [], alts := [], laidByText := true, laidKinds := [.data, .data, .data], laidTests := true, laidLooks := .later }
def CellNewCardSaid : Prop := Claim7.holds Tryz.pinned (.plain (OpenSpec.ofChange cellNewSpec)) cellNewCard

/-- THE TIED CARD OF 'tattlelaw12.CellReads'. -/
def cellReadsCard : Claim7 := { stood := { row := cellReadsRow, standIns := [], harness := (true, "a3f772854c88676b6d822c9b0b2aacc5a62fd94dadced1f6112927b7cd3aa1c1"), looks := false }, kinds := [], alts := [], laidByText := true, laidKinds := [.data, .data, .data], laidTests := true, laidLooks := .later }
def CellReadsCardSaid : Prop := Claim7.holds Tryz.pinned (.plain (OpenSpec.ofChange cellReadsSpec)) cellReadsCard

/-- THE TIED CARD OF 'tattlelaw12.CellTwo'. -/
def cellTwoCard : Claim7 := { stood := { row := cellTwoRow, standIns := [], harness := (true, "a3f772854c88676b6d822c9b0b2aacc5a62fd94dadced1f6112927b7cd3aa1c1"), looks := false }, kinds := [], alts := [], laidByText := true, laidKinds := [.data, .data, .data], laidTests := true, laidLooks := .later }
def CellTwoCardSaid : Prop := Claim7.holds Tryz.pinned (.plain (OpenSpec.ofChange cellTwoSpec)) cellTwoCard

/-- THE SECOND FORM's CARD OF 'tattlelaw12.Cells'. -/
def cellsUptoCard : Claim7 := { stood := { row := cellsUptoRow, standIns := [], harness := (true, "a3f772854c88676b6d822c9b0b2aacc5a62fd94dadced1f6112927b7cd3aa1c1"), looks := false }, kinds := [], alts := [], laidByText := true, laidKinds := [.data, .data, .data], laidTests := true, laidLooks := .later }
def CellsUptoCardSaid : Prop := Claim7.holds Tryz.pinned (.plain (OpenSpec.upto cellsSpec)) cellsUptoCard

/-- THE SECOND FORM's CARD OF 'tattlelaw12.CellKeeps'. -/
def cellKeepsUptoCard : Claim7 := { stood := { row := cellKeepsUptoRow, standIns := [], harness := (true, "a3f772854c88676b6d822c9b0b2aacc5a62fd94dadced1f6112927b7cd3aa1c1"), looks := false }, kinds := [], alts := [], laidByText := true, laidKinds := [.data, .data, .data], laidTests := true, laidLooks := .later }
def CellKeepsUptoCardSaid : Prop := Claim7.holds Tryz.pinned (.plain (OpenSpec.upto cellKeepsSpec)) cellKeepsUptoCard

/-- THE SECOND FORM's CARD OF 'tattlelaw12.CellForms'. -/
def cellFormsUptoCard : Claim7 := { stood := { row := cellFormsUptoRow, standIns := [], harness := (true, "a3f772854c88676b6d822c9b0b2aacc5a62fd94dadced1f6112927b7cd3aa1c1"), looks := false }, kinds := [], alts := [], laidByText := true, laidKinds := [.data, .data, .data], laidTests := true, laidLooks := .later }
def CellFormsUptoCardSaid : Prop := Claim7.holds Tryz.pinned (.plain (OpenSpec.upto cellFormsSpec)) cellFormsUptoCard

/-- THE SECOND FORM's CARD OF 'tattlelaw12.CellNew'. -/
def cellNewUptoCard : Claim7 := { stood := { row := cellNewUptoRow, standIns := [], harness := (true, "a3f772854c88676b6d822c9b0b2aacc5a62fd94dadced1f6112927b7cd3aa1c1"), looks := false }, kinds := [], alts := [], laidByText := true, laidKinds := [.data, .data, .data], laidTests := true, laidLooks := .later }
def CellNewUptoCardSaid : Prop := Claim7.holds Tryz.pinned (.plain (OpenSpec.upto cellNewSpec)) cellNewUptoCard

/-- THE SECOND FORM's CARD OF 'tattlelaw12.CellReads'. -/
def cellReadsUptoCard : Claim7 := { stood := { row := cellReadsUptoRow, standIns := [], harness := (true, "a3f772854c88676b6d822c9b0b2aacc5a62fd94dadced1f6112927b7cd3aa1c1"), looks := false }, kinds := [], alts := [], laidByText := true, laidKinds := [.data, .data, .data], laidTests := true, laidLooks := .later }
def CellReadsUptoCardSaid : Prop := Claim7.holds Tryz.pinned (.plain (OpenSpec.upto cellReadsSpec)) cellReadsUptoCard

/-- THE SECOND FORM's CARD OF 'tattlelaw12.CellTwo'. -/
def cellTwoUptoCard : Claim7 := { stood := { row := cellTwoUptoRow, standIns := [], harness := (true, "a3f772854c88676b6d822c9b0b2aacc5a62fd94dadced1f6112927b7cd3aa1c1"), looks := false }, kinds := [], alts := [], laidByText := true, laidKinds := [.data, .data, .data], laidTests := true, laidLooks := .later }
def CellTwoUptoCardSaid : Prop := Claim7.holds Tryz.pinned (.plain (OpenSpec.upto cellTwoSpec)) cellTwoUptoCard
end Rows
end Go.Proofs.YtofikfkgiblblaaGreatDoor
