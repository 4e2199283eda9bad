/-
  DERIVED. GIVEN WITH THE SEED: THE CARDS: each row of YtgpdpalhkkjmiaaGreatDoorRows.lean that lists a variable, with what it lists TIED to the program's text (the seventh form; the later family's looks); each row that meets fmt, with fmt's text TOLD by the authors' own Lean function (tested against real Go, not proved from fmt's source: count such statements apart). THE CARD IS WHAT COUNTS. Prove the row's statement (the work); the ties are given (YtgpdpalhkkjmiaaGreatDoorTie.lean); close each card by the builder's one call (the guide's Derived/Test/ToyasCard.lean, 'card_holds'). Laid BY PROGRAM, IN A SANDBOX (cutbox-door.mjs). By AI agents, Wed Nov 11 2026. No macro, syntax, notation, axiom, sorry.
-/
import Derived.Test.YtgpdpalhkkjmiaaGreatDoorRows
import GoSem.ClaimSeven
namespace Go.Proofs.YtgpdpalhkkjmiaaGreatDoor
namespace Rows

/-- THE TIED CARD OF 'tattlelaw25.ConsoleRuns'. -/
def consoleRunsCard : Claim7 := { stood := { row := consoleRunsRow, standIns := [], harness := (true, "e10615ce3e0703419af699e93f4616b44d0ddaff75d23d8b564a53c1941a0c52"), looks := true }, kinds := [], alts := [], laidByText := true, laidKinds := [.data, .data, .data, .data, .sentinel, .sentinel, .pinned], laidTests := true, laidLooks := .later }
def ConsoleRunsCardSaid : Prop := Claim7.holds Tryz.pinned (.plain (OpenSpec.ofChange consoleRunsSpec)) consoleRunsCard

/-- THE TIED CARD OF 'tattlelaw25.ConsoleBegins'. -/
def consoleBeginsCard : Claim7 := { stood := { row := consoleBeginsRow, standIns := [], harness := (true, "e10615ce3e0703419af699e93f4616b44d0ddaff75d23d8b564a53c1941a0c52"), looks := true }, kinds := [], alts := [], laidByText := true, laidKinds := [.data, .data, .data, .data, .sentinel, .sentinel, .pinned], laidTests := true, laidLooks := .later }
def ConsoleBeginsCardSaid : Prop := Claim7.holds Tryz.pinned (.plain (OpenSpec.ofChange consoleBeginsSpec)) consoleBeginsCard

/-- THE TIED CARD OF 'tattlelaw25.ConsoleMany'. -/
def consoleManyCard : Claim7 := { stood := { row := consoleManyRow, standIns := [], harness := (true, "e10615ce3e0703419af699e93f4616b44d0ddaff75d23d8b564a53c1941a0c52"), looks := true }, kinds := [], alts := [], laidByText := true, laidKinds := [.data, .data, .data, .data, .sentinel, .sentinel, .pinned], laidTests := true, laidLooks := .later }
def ConsoleManyCardSaid : Prop := Claim7.holds Tryz.pinned (.plain (OpenSpec.ofChange consoleManySpec)) consoleManyCard

/-- THE TIED CARD OF 'tattlelaw25.ConsoleSets'. -/
def consoleSetsCard : Claim7 := { stood := { row := consoleSetsRow, standIns := [], harness := (true, "e10615ce3e0703419af699e93f4616b44d0ddaff75d23d8b564a53c1941a0c52"), looks := true }, kinds := [], alts := [], laidByText := true, laidKinds := [.data, .data, .data, .data, .sentinel, .sentinel, .pinned], laidTests := true, laidLooks := .later }
def ConsoleSetsCardSaid : Prop := Claim7.holds Tryz.pinned (.plain (OpenSpec.ofChange consoleSetsSpec)) consoleSetsCard

/-- THE TIED CARD OF 'tattlelaw25.ConsoleLists'. -/
def consoleListsCard : Claim7 := { stood := { row := consoleListsRow, standIns := [], harness := (true, "e10615ce3e0703419af699e93f4616b44d0ddaff75d23d8b564a53c1941a0c52"), looks := true }, kinds := [], alts := [], laidByText := true, laidKinds := [.data, .data, .data, .data, .sentinel, .sentinel, .pinned], laidTests := true, laidLooks := .later }
def ConsoleListsCardSaid : Prop := Claim7.holds Tryz.pinned (.plain (OpenSpec.ofChange consoleListsSpec)) consoleListsCard

/-- THE TIED CARD OF 'tattlelaw25.ConsoleWrong'. -/
def consoleWrongCard : Claim7 := { stood := { row := consoleWrongRow, standIns := [], harness := (true, "e10615ce3e0703419af699e93f4616b44d0ddaff75d23d8b564a53c1941a0c52"), looks := true }, kinds := [], alts := [], laidByText := true, laidKinds := [.data, .data, .data, .data, .sentinel, .sentinel, .pinned], laidTests := true, laidLooks := .later }
def ConsoleWrongCardSaid : Prop := Claim7.holds Tryz.pinned (.plain (OpenSpec.ofChange consoleWrongSpec)) consoleWrongCard

/-- THE SECOND FORM's CARD OF 'tattlelaw25.ConsoleRuns'. -/
def consoleRunsUptoCard : Claim7 := { stood := { row := consoleRunsUptoRow, standIns := [], harness := (true, "e10615ce3e0703419af699e93f4616b44d0ddaff75d23d8b564a53c1941a0c52"), looks := true }, kinds := [], alts := [], laidByText := true, laidKinds := [.data, .data, .data, .data, .sentinel, .sentinel, .pinned], laidTests := true, laidLooks := .later }
def ConsoleRunsUptoCardSaid : Prop := Claim7.holds Tryz.pinned (.plain (OpenSpec.upto consoleRunsSpec)) consoleRunsUptoCard

/-- THE SECOND FORM's CARD OF 'tattlelaw25.ConsoleBegins'. -/
def consoleBeginsUptoCard : Claim7 := { stood := { row := consoleBeginsUptoRow, standIns := [], harness := (true, "e10615ce3e0703419af699e93f4616b44d0ddaff75d23d8b564a53c1941a0c52"), looks := true }, kinds := [], alts := [], laidByText := true, laidKinds := [.data, .data, .data, .data, .sentinel, .sentinel, .pinned], laidTests := true, laidLooks := .later }
def ConsoleBeginsUptoCardSaid : Prop := Claim7.holds Tryz.pinned (.plain (OpenSpec.upto consoleBeginsSpec)) consoleBeginsUptoCard

/-- THE SECOND FORM's CARD OF 'tattlelaw25.ConsoleMany'. -/
def consoleManyUptoCard : Claim7 := { stood := { row := consoleManyUptoRow, standIns := [], harness := (true, "e10615ce3e0703419af699e93f4616b44d0ddaff75d23d8b564a53c1941a0c52"), looks := true }, kinds := [], alts := [], laidByText := true, laidKinds := [.data, .data, .data, .data, .sentinel, .sentinel, .pinned], laidTests := true, laidLooks := .later }
def ConsoleManyUptoCardSaid : Prop := Claim7.holds Tryz.pinned (.plain (OpenSpec.upto consoleManySpec)) consoleManyUptoCard

/-- THE SECOND FORM's CARD OF 'tattlelaw25.ConsoleSets'. -/
def consoleSetsUptoCard : Claim7 := { stood := { row := consoleSetsUptoRow, standIns := [], harness := (true, "e10615ce3e0703419af699e93f4616b44d0ddaff75d23d8b564a53c1941a0c52"), looks := true }, kinds := [], alts := [], laidByText := true, laidKinds := [.data, .data, .data, .data, .sentinel, .sentinel, .pinned], laidTests := true, laidLooks := .later }
def ConsoleSetsUptoCardSaid : Prop := Claim7.holds Tryz.pinned (.plain (OpenSpec.upto consoleSetsSpec)) consoleSetsUptoCard

/-- THE SECOND FORM's CARD OF 'tattlelaw25.ConsoleLists'. -/
def consoleListsUptoCard : Claim7 := { stood := { row := consoleListsUptoRow, standIns := [], harness := (true, "e10615ce3e0703419af699e93f4616b44d0ddaff75d23d8b564a53c1941a0c52"), looks := true }, kinds := [], alts := [], laidByText := true, laidKinds := [.data, .data, .data, .data, .sentinel, .sentinel, .pinned], laidTests := true, laidLooks := .later }
def ConsoleListsUptoCardSaid : Prop := Claim7.holds Tryz.pinned (.plain (OpenSpec.upto consoleListsSpec)) consoleListsUptoCard

/-- THE SECOND FORM's CARD OF 'tattlelaw25.ConsoleWrong'. -/
def consoleWrongUptoCard : Claim7 := { stood := { row := consoleWrongUptoRow, standIns := [], harness := (true, "e10615ce3e0703419af699e93f4616b44d0ddaff75d23d8b564a53c1941a0c52"), looks := true }, kinds := [], alts := [], laidByText := true, laidKinds := [.data, .data, .data, .data, .sentinel, .sentinel, .pinned], laidTests := true, laidLooks := .later }
def ConsoleWrongUptoCardSaid : Prop := Claim7.holds Tryz.pinned (.plain (OpenSpec.upto consoleWrongSpec)) consoleWrongUptoCard
end Rows
end Go.Proofs.YtgpdpalhkkjmiaaGreatDoor
