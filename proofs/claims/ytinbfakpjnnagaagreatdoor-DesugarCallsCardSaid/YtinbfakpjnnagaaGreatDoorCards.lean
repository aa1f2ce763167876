/-
  DERIVED. GIVEN WITH THE SEED: THE CARDS: each row of YtinbfakpjnnagaaGreatDoorRows.lean that lists a variable, with what it lists TIED to the program's text (the seventh form; the later family's looks); each row that meets fmt, with fmt's text TOLD by the authors' own Lean function (tested against real Go, not proved from fmt's source: count such statements apart). THE CARD IS WHAT COUNTS. Prove the row's statement (the work); the ties are given (YtinbfakpjnnagaaGreatDoorTie.lean); close each card by the builder's one call (the guide's Derived/Test/ToyasCard.lean, 'card_holds'). Laid BY PROGRAM, IN A SANDBOX (cutbox-door.mjs). By AI agents, Wed Nov 11 2026. No macro, syntax, notation, axiom, sorry.
-/
import Derived.Test.YtinbfakpjnnagaaGreatDoorRows
import GoSem.ClaimSeven
namespace Go.Proofs.YtinbfakpjnnagaaGreatDoor
namespace Rows

/-- THE TIED CARD OF 'vouchsafelaw13.DesugarCalls'. -/
def desugarCallsCard : Claim7 := { stood := { row := desugarCallsRow, standIns := [], harness := (true, "b8655b5a8ff96433aed2e2b0f01d8e65fb3d436a248c3062e587e77c5195fd70"), looks := false }, kinds := [], alts := [], laidByText := true, laidKinds := [.data, .data, .data], laidTests := true, laidLooks := .later }
def DesugarCallsCardSaid : Prop := Claim7.holds Tryz.pinned (.plain (OpenSpec.ofChange desugarCallsSpec)) desugarCallsCard

/-- THE TIED CARD OF 'vouchsafelaw13.DesugarForms'. -/
def desugarFormsCard : Claim7 := { stood := { row := desugarFormsRow, standIns := [], harness := (true, "b8655b5a8ff96433aed2e2b0f01d8e65fb3d436a248c3062e587e77c5195fd70"), looks := false }, kinds := [], alts := [], laidByText := true, laidKinds := [.data, .data, .data], laidTests := true, laidLooks := .later }
def DesugarFormsCardSaid : Prop := Claim7.holds Tryz.pinned (.plain (OpenSpec.ofChange desugarFormsSpec)) desugarFormsCard

/-- THE SECOND FORM's CARD OF 'vouchsafelaw13.DesugarCalls'. -/
def desugarCallsUptoCard : Claim7 := { stood := { row := desugarCallsUptoRow, standIns := [], harness := (true, "b8655b5a8ff96433aed2e2b0f01d8e65fb3d436a248c3062e587e77c5195fd70"), looks := false }, kinds := [], alts := [], laidByText := true, laidKinds := [.data, .data, .data], laidTests := true, laidLooks := .later }
def DesugarCallsUptoCardSaid : Prop := Claim7.holds Tryz.pinned (.plain (OpenSpec.upto desugarCallsSpec)) desugarCallsUptoCard

/-- THE SECOND FORM's CARD OF 'vouchsafelaw13.DesugarForms'. -/
def desugarFormsUptoCard : Claim7 := { stood := { row := desugarFormsUptoRow, standIns := [], harness := (true, "b8655b5a8ff96433aed2e2b0f01d8e65fb3d436a248c3062e587e77c5195fd70"), looks := false }, kinds := [], alts := [], laidByText := true, laidKinds := [.data, .data, .data], laidTests := true, laidLooks := .later }
def DesugarFormsUptoCardSaid : Prop := Claim7.holds Tryz.pinned (.plain (OpenSpec.upto desugarFormsSpec)) desugarFormsUptoCard
end Rows
end Go.Proofs.YtinbfakpjnnagaaGreatDoor
