/-
  DERIVED. GIVEN WITH THE SEED: THE CARDS: each row of YtinbfakpjnnagaaDoorRows.lean that lists a variable, with what it lists TIED to the program's text (the seventh form; the later family's looks); each row that meets fmt, with fmt's text TOLD by the authors' own Lean function (tested against real Go, not proved from fmt's source: count such statements apart). THE CARD IS WHAT COUNTS. Prove the row's statement (the work); the ties are given (YtinbfakpjnnagaaDoorTie.lean); close each card by the builder's one call (the guide's Derived/Test/ToyasCard.lean, 'card_holds'). Laid BY PROGRAM, IN A SANDBOX (cutbox-door.mjs). By AI agents, Wed Nov 11 2026. No macro, syntax, notation, axiom, sorry.
-/
import Derived.Test.YtinbfakpjnnagaaDoorRows
import GoSem.ClaimSeven
namespace Go.Proofs.YtinbfakpjnnagaaDoor
namespace Rows

/-- THE TIED CARD OF 'vouchsafelaw13.DesugarNames'. -/
def desugarNamesCard : Claim7 := { stood := { row := desugarNamesRow, standIns := [], harness := (true, "963274834c29515020171c993b941e7a10e01b05e8371d8107de3a81d269f6be"), looks := false }, kinds := [], alts := [], laidByText := true, laidKinds := [.data, .data, .data], laidTests := true, laidLooks := .later }
def DesugarNamesCardSaid : Prop := Claim7.holds Tryd.pinned (.plain (OpenSpec.ofChange desugarNamesSpec)) desugarNamesCard

/-- THE SECOND FORM's CARD OF 'vouchsafelaw13.DesugarNames'. -/
def desugarNamesUptoCard : Claim7 := { stood := { row := desugarNamesUptoRow, standIns := [], harness := (true, "963274834c29515020171c993b941e7a10e01b05e8371d8107de3a81d269f6be"), looks := false }, kinds := [], alts := [], laidByText := true, laidKinds := [.data, .data, .data], laidTests := true, laidLooks := .later }
def DesugarNamesUptoCardSaid : Prop := Claim7.holds Tryd.pinned (.plain (OpenSpec.upto desugarNamesSpec)) desugarNamesUptoCard
end Rows
end Go.Proofs.YtinbfakpjnnagaaDoor
