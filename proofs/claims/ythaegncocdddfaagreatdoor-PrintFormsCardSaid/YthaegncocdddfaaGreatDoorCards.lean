/-
  DERIVED. GIVEN WITH THE SEED: THE CARDS: each row of YthaegncocdddfaaGreatDoorRows.lean that lists a variable, with what it lists TIED to the program's text (the seventh form; the later family's looks); each row that meets fmt, with fmt's text TOLD by the authors' own Lean function (tested against real Go, not proved from fmt's source: count such statements apart). THE CARD IS WHAT COUNTS. Prove the row's statement (the work); the ties are given (YthaegncocdddfaaGreatDoorTie.lean); close each card by the builder's one call (the guide's Derived/Test/ToyasCard.lean, 'card_holds'). Laid BY PROGRAM, IN A SANDBOX (cutbox-door.mjs). By AI agents, Wed Nov 11 2026. No macro, syntax, notation, axiom, sorry.
-/
import Derived.Test.YthaegncocdddfaaGreatDoorRows
import GoSem.ClaimSeven
namespace Go.Proofs.YthaegncocdddfaaGreatDoor
namespace Rows

/-- THE TIED CARD OF 'tattlelaw15.Docs'. -/
def docsCard : Claim7 := { stood := { row := docsRow, standIns := [], harness := (true, "f27a822bf3ce2d178a402eff7cdb44f8b0a315cb974e2ef998a342d2c61ce856"), looks := true }, kinds := [], alts := [], laidByText := true, laidKinds := [.data, .data, .data, .sentinel, .sentinel], laidTests := true, laidLooks := .later }
def DocsCardSaid : Prop := Claim7.holds Tryz.pinned (.plain (OpenSpec.ofChange docsSpec)) docsCard

/-- THE TIED CARD OF 'tattlelaw15.DocBack'. -/
def docBackCard : Claim7 := { stood := { row := docBackRow, standIns := [], harness := (true, "f27a822bf3ce2d178a402eff7cdb44f8b0a315cb974e2ef998a342d2c61ce856"), looks := true }, kinds := [], alts := [], laidByText := true, laidKinds := [.data, .data, .data, .sentinel, .sentinel], laidTests := true, laidLooks := .later }
def DocBackCardSaid : Prop := Claim7.holds Tryz.pinned (.plain (OpenSpec.ofChange docBackSpec)) docBackCard

/-- THE TIED CARD OF 'tattlelaw15.DocForms'. -/
def docFormsCard : Claim7 := { stood := { row := docFormsRow, standIns := [], harness := (true, "f27a822bf3ce2d178a402eff7cdb44f8b0a315cb974e2ef998a342d2c61ce856"), looks := true }, kinds := [], alts := [], laidByText := true, laidKinds := [.data, .data, .data, .sentinel, .sentinel], laidTests := true, laidLooks := .later }
def DocFormsCardSaid : Prop := Claim7.holds Tryz.pinned (.plain (OpenSpec.ofChange docFormsSpec)) docFormsCard

/-- THE TIED CARD OF 'tattlelaw15.DocLimits'. -/
def docLimitsCard : Claim7 := { stood := { row := docLimitsRow, standIns := [], harness := (true, "f27a822bf3ce2d178a402eff7cdb44f8b0a315cb974e2ef998a342d2c61ce856"), looks := true }, kinds := [], alts := [], laidByText := true, laidKinds := [.data, .data, .data, .sentinel, .sentinel], laidTests := true, laidLooks := .later }
def DocLimitsCardSaid : Prop := Claim7.holds Tryz.pinned (.plain (OpenSpec.ofChange docLimitsSpec)) docLimitsCard

/-- THE TIED CARD OF 'tattlelaw15.PrintForms'. -/
def printFormsCard : Claim7 := { stood := { row := printFormsRow, standIns := [], harness := (true, "f27a822bf3ce2d178a402eff7cdb44f8b0a315cb974e2ef998a342d2c61ce856"), looks := true }, kinds := [], alts := [], laidByText := true, laidKinds := [.data, .data, .data, .sentinel, .sentinel], laidTests := true, laidLooks := .later }
def PrintFormsCardSaid : Prop := Claim7.holds Tryz.pinned (.plain (OpenSpec.ofChange printFormsSpec)) printFormsCard

/-- THE TIED CARD OF 'tattlelaw15.DocBlanks'. -/
def docBlanksCard : Claim7 := { stood := { row := docBlanksRow, standIns := [], harness := (true, "f27a822bf3ce2d178a402eff7cdb44f8b0a315cb974e2ef998a342d2c61ce856"), looks := true }, kinds := [], alts := [], laidByText := true, laidKinds := [.data, .data, .data, .sentinel, .sentinel], laidTests := true, laidLooks := .later }
def DocBlanksCardSaid : Prop := Claim7.holds Tryz.pinned (.plain (OpenSpec.ofChange docBlanksSpec)) docBlanksCard

/-- THE SECOND FORM's CARD OF 'tattlelaw15.Docs'. -/
def docsUptoCard : Claim7 := { stood := { row := docsUptoRow, standIns := [], harness := (true, "f27a822bf3ce2d178a402eff7cdb44f8b0a315cb974e2ef998a342d2c61ce856"), looks := true }, kinds := [], alts := [], laidByText := true, laidKinds := [.data, .data, .data, .sentinel, .sentinel], laidTests := true, laidLooks := .later }
def DocsUptoCardSaid : Prop := Claim7.holds Tryz.pinned (.plain (OpenSpec.upto docsSpec)) docsUptoCard

/-- THE SECOND FORM's CARD OF 'tattlelaw15.DocBack'. -/
def docBackUptoCard : Claim7 := { stood := { row := docBackUptoRow, standIns := [], harness := (true, "f27a822bf3ce2d178a402eff7cdb44f8b0a315cb974e2ef998a342d2c61ce856"), looks := true }, kinds := [], alts := [], laidByText := true, laidKinds := [.data, .data, .data, .sentinel, .sentinel], laidTests := true, laidLooks := .later }
def DocBackUptoCardSaid : Prop := Claim7.holds Tryz.pinned (.plain (OpenSpec.upto docBackSpec)) docBackUptoCard

/-- THE SECOND FORM's CARD OF 'tattlelaw15.DocForms'. -/
def docFormsUptoCard : Claim7 := { stood := { row := docFormsUptoRow, standIns := [], harness := (true, "f27a822bf3ce2d178a402eff7cdb44f8b0a315cb974e2ef998a342d2c61ce856"), looks := true }, kinds := [], alts := [], laidByText := true, laidKinds := [.data, .data, .data, .sentinel, .sentinel], laidTests := true, laidLooks := .later }
def DocFormsUptoCardSaid : Prop := Claim7.holds Tryz.pinned (.plain (OpenSpec.upto docFormsSpec)) docFormsUptoCard

/-- THE SECOND FORM's CARD OF 'tattlelaw15.DocLimits'. -/
def docLimitsUptoCard : Claim7 := { stood := { row := docLimitsUptoRow, standIns := [], harness := (true, "f27a822bf3ce2d178a402eff7cdb44f8b0a315cb974e2ef998a342d2c61ce856"), looks := true }, kinds := [], alts := [], laidByText := true, laidKinds := [.data, .data, .data, .sentinel, .sentinel], laidTests := true, laidLooks := .later }
def DocLimitsUptoCardSaid : Prop := Claim7.holds Tryz.pinned (.plain (OpenSpec.upto docLimitsSpec)) docLimitsUptoCard

/-- THE SECOND FORM's CARD OF 'tattlelaw15.PrintForms'. -/
def printFormsUptoCard : Claim7 := { stood := { row := printFormsUptoRow, standIns := [], harness := (true, "f27a822bf3ce2d178a402eff7cdb44f8b0a315cb974e2ef998a342d2c61ce856"), looks := true }, kinds := [], alts := [], laidByText := true, laidKinds := [.data, .data, .data, .sentinel, .sentinel], laidTests := true, laidLooks := .later }
def PrintFormsUptoCardSaid : Prop := Claim7.holds Tryz.pinned (.plain (OpenSpec.upto printFormsSpec)) printFormsUptoCard

/-- THE SECOND FORM's CARD OF 'tattlelaw15.DocBlanks'. -/
def docBlanksUptoCard : Claim7 := { stood := { row := docBlanksUptoRow, standIns := [], harness := (true, "f27a822bf3ce2d178a402eff7cdb44f8b0a315cb974e2ef998a342d2c61ce856"), looks := true }, kinds := [], alts := [], laidByText := true, laidKinds := [.data, .data, .data, .sentinel, .sentinel], laidTests := true, laidLooks := .later }
def DocBlanksUptoCardSaid : Prop := Claim7.holds Tryz.pinned (.plain (OpenSpec.upto docBlanksSpec)) docBlanksUptoCard
end Rows
end Go.Proofs.YthaegncocdddfaaGreatDoor
