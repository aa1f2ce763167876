/-
  DERIVED. GIVEN WITH THE SEED: THE CARDS: each row of YtaeehadibckcjaaDoorRows.lean that lists a variable, with what it lists TIED to the program's text (the seventh form; the later family's looks); each row that meets fmt, with fmt's text TOLD by the authors' own Lean function (tested against real Go, not proved from fmt's source: count such statements apart). THE CARD IS WHAT COUNTS. Prove the row's statement (the work); the ties are given (YtaeehadibckcjaaDoorTie.lean); close each card by the builder's one call (the guide's Derived/Test/ToyasCard.lean, 'card_holds'). Laid BY PROGRAM, IN A SANDBOX (cutbox-door.mjs). By AI agents, Wed Nov 11 2026. No macro, syntax, notation, axiom, sorry.
-/
import Derived.Test.YtaeehadibckcjaaDoorRows
import GoSem.ClaimSeven
namespace Go.Proofs.YtaeehadibckcjaaDoor
namespace Rows

/-- THE TIED CARD OF 'vouchsafelaw11.PrinterReads'. -/
def printerReadsCard : Claim7 := { stood := { row := printerReadsRow, standIns := [], harness := (true, "f37234fd77400c584e10aa3671dc226d2b52cb94022700707c3a844a9caa0d3f"), looks := false }, kinds := [], alts := [], laidByText := true, laidKinds := [.data, .data, .data], laidTests := true, laidLooks := .later }
def PrinterReadsCardSaid : Prop := Claim7.holds Tryd.pinned (.plain (OpenSpec.ofChange printerReadsSpec)) printerReadsCard

/-- THE TIED CARD OF 'vouchsafelaw11.PrinterLines'. -/
def printerLinesCard : Claim7 := { stood := { row := printerLinesRow, standIns := [], harness := (true, "f37234fd77400c584e10aa3671dc226d2b52cb94022700707c3a844a9caa0d3f"), looks := false }, kinds := [], alts := [], laidByText := true, laidKinds := [.data, .data, .data], laidTests := true, laidLooks := .later }
def PrinterLinesCardSaid : Prop := Claim7.holds Tryd.pinned (.plain (OpenSpec.ofChange printerLinesSpec)) printerLinesCard

/-- THE TIED CARD OF 'vouchsafelaw11.PrinterNames'. -/
def printerNamesCard : Claim7 := { stood := { row := printerNamesRow, standIns := [], harness := (true, "f37234fd77400c584e10aa3671dc226d2b52cb94022700707c3a844a9caa0d3f"), looks := false }, kinds := [], alts := [], laidByText := true, laidKinds := [.data, .data, .data], laidTests := true, laidLooks := .later }
def PrinterNamesCardSaid : Prop := Claim7.holds Tryd.pinned (.plain (OpenSpec.ofChange printerNamesSpec)) printerNamesCard

/-- THE TIED CARD OF 'vouchsafelaw11.PrinterCalls'. -/
def printerCallsCard : Claim7 := { stood := { row := printerCallsRow, standIns := [], harness := (true, "f37234fd77400c584e10aa3671dc226d2b52cb94022700707c3a844a9caa0d3f"), looks := false }, kinds := [], alts := [], laidByText := true, laidKinds := [.data, .data, .data], laidTests := true, laidLooks := .later }
def PrinterCallsCardSaid : Prop := Claim7.holds Tryd.pinned (.plain (OpenSpec.ofChange printerCallsSpec)) printerCallsCard

/-- THE TIED CARD OF 'vouchsafelaw11.PrinterBack'. -/
def printerBackCard : Claim7 := { stood := { row := printerBackRow, standIns := [], harness := (true, "f37234fd77400c584e10aa3671dc226d2b52cb94022700707c3a844a9caa0d3f"), looks := false }, kinds := [], alts := [], laidByText := true, laidKinds := [.data, .data, .data], laidTests := true, laidLooks := .later }
def PrinterBackCardSaid : Prop := Claim7.holds Tryd.pinned (.plain (OpenSpec.ofChange printerBackSpec)) printerBackCard

/-- THE SECOND FORM's CARD OF 'vouchsafelaw11.PrinterReads'. -/
def printerReadsUptoCard : Claim7 := { stood := { row := printerReadsUptoRow, standIns := [], harness := (true, "f37234fd77400c584e10aa3671dc226d2b52cb94022700707c3a844a9caa0d3f"), looks := false }, kinds := [], alts := [], laidByText := true, laidKinds := [.data, .data, .data], laidTests := true, laidLooks := .later }
def PrinterReadsUptoCardSaid : Prop := Claim7.holds Tryd.pinned (.plain (OpenSpec.upto printerReadsSpec)) printerReadsUptoCard

/-- THE SECOND FORM's CARD OF 'vouchsafelaw11.PrinterLines'. -/
def printerLinesUptoCard : Claim7 := { stood := { row := printerLinesUptoRow, standIns := [], harness := (true, "f37234fd77400c584e10aa3671dc226d2b52cb94022700707c3a844a9caa0d3f"), looks := false }, kinds := [], alts := [], laidByText := true, laidKinds := [.data, .data, .data], laidTests := true, laidLooks := .later }
def PrinterLinesUptoCardSaid : Prop := Claim7.holds Tryd.pinned (.plain (OpenSpec.upto printerLinesSpec)) printerLinesUptoCard

/-- THE SECOND FORM's CARD OF 'vouchsafelaw11.PrinterNames'. -/
def printerNamesUptoCard : Claim7 := { stood := { row := printerNamesUptoRow, standIns := [], harness := (true, "f37234fd77400c584e10aa3671dc226d2b52cb94022700707c3a844a9caa0d3f"), looks := false }, kinds := [], alts := [], laidByText := true, laidKinds := [.data, .data, .data], laidTests := true, laidLooks := .later }
def PrinterNamesUptoCardSaid : Prop := Claim7.holds Tryd.pinned (.plain (OpenSpec.upto printerNamesSpec)) printerNamesUptoCard

/-- THE SECOND FORM's CARD OF 'vouchsafelaw11.PrinterCalls'. -/
def printerCallsUptoCard : Claim7 := { stood := { row := printerCallsUptoRow, standIns := [], harness := (true, "f37234fd77400c584e10aa3671dc226d2b52cb94022700707c3a844a9caa0d3f"), looks := false }, kinds := [], alts := [], laidByText := true, laidKinds := [.data, .data, .data], laidTests := true, laidLooks := .later }
def PrinterCallsUptoCardSaid : Prop := Claim7.holds Tryd.pinned (.plain (OpenSpec.upto printerCallsSpec)) printerCallsUptoCard

/-- THE SECOND FORM's CARD OF 'vouchsafelaw11.PrinterBack'. -/
def printerBackUptoCard : Claim7 := { stood := { row := printerBackUptoRow, standIns := [], harness := (true, "f37234fd77400c584e10aa3671dc226d2b52cb94022700707c3a844a9caa0d3f"), looks := false }, kinds := [], alts := [], laidByText := true, laidKinds := [.data, .data, .data], laidTests := true, laidLooks := .later }
def PrinterBackUptoCardSaid : Prop := Claim7.holds Tryd.pinned (.plain (OpenSpec.upto printerBackSpec)) printerBackUptoCard
end Rows
end Go.Proofs.YtaeehadibckcjaaDoor
