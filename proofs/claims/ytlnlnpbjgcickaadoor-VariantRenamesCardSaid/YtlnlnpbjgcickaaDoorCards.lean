/-
  DERIVED. GIVEN WITH THE SEED: THE CARDS: each row of YtlnlnpbjgcickaaDoorRows.lean that lists a variable, with what it lists TIED to the program's text (the seventh form; the later family's looks); each row that meets fmt, with fmt's text TOLD by the authors' own Lean function (tested against real Go, not proved from fmt's source: count such statements apart). THE CARD IS WHAT COUNTS. Prove the row's statement (the work); the ties are given (YtlnlnpbjgcickaaDoorTie.lean); close each card by the builder's one call (the guide's Derived/Test/ToyasCard.lean, 'card_holds'). Laid BY PROGRAM, IN A SANDBOX (cutbox-door.mjs). By AI agents, Wed Nov 11 2026. No macro, syntax, notation, axiom, sorry.
-/
import Derived.Test.YtlnlnpbjgcickaaDoorRows
import GoSem.ClaimSeven
namespace Go.Proofs.YtlnlnpbjgcickaaDoor
namespace Rows

/-- THE TIED CARD OF 'vouchsafelaw07.VariantLists'. -/
def variantListsCard : Claim7 := { stood := { row := variantListsRow, standIns := [], harness := (true, "92ad8b57b6dc406ecb66be2793f76a5bdd5fe2f312d5d1c4b72077021b0ddc8f"), looks := false }, kinds := [], alts := [], laidByText := true, laidKinds := [.data, .data, .data], laidTests := true, laidLooks := .later }
def VariantListsCardSaid : Prop := Claim7.holds Tryd.pinned (.plain (OpenSpec.ofChange variantListsSpec)) variantListsCard

/-- THE TIED CARD OF 'vouchsafelaw07.VariantBoth'. -/
def variantBothCard : Claim7 := { stood := { row := variantBothRow, standIns := [], harness := (true, "92ad8b57b6dc406ecb66be2793f76a5bdd5fe2f312d5d1c4b72077021b0ddc8f"), looks := false }, kinds := [], alts := [], laidByText := true, laidKinds := [.data, .data, .data], laidTests := true, laidLooks := .later }
def VariantBothCardSaid : Prop := Claim7.holds Tryd.pinned (.plain (OpenSpec.ofChange variantBothSpec)) variantBothCard

/-- THE TIED CARD OF 'vouchsafelaw07.VariantRenames'. -/
def variantRenamesCard : Claim7 := { stood := { row := variantRenamesRow, standIns := [], harness := (true, "92ad8b57b6dc406ecb66be2793f76a5bdd5fe2f312d5d1c4b72077021b0ddc8f"), looks := false }, kinds := [], alts := [], laidByText := true, laidKinds := [.data, .data, .data], laidTests := true, laidLooks := .later }
def VariantRenamesCardSaid : Prop := Claim7.holds Tryd.pinned (.plain (OpenSpec.ofChange variantRenamesSpec)) variantRenamesCard

/-- THE TIED CARD OF 'vouchsafelaw07.VariantNames'. -/
def variantNamesCard : Claim7 := { stood := { row := variantNamesRow, standIns := [], harness := (true, "92ad8b57b6dc406ecb66be2793f76a5bdd5fe2f312d5d1c4b72077021b0ddc8f"), looks := false }, kinds := [], alts := [], laidByText := true, laidKinds := [.data, .data, .data], laidTests := true, laidLooks := .later }
def VariantNamesCardSaid : Prop := Claim7.holds Tryd.pinned (.plain (OpenSpec.ofChange variantNamesSpec)) variantNamesCard

/-- THE TIED CARD OF 'vouchsafelaw07.VariantCalls'. -/
def variantCallsCard : Claim7 := { stood := { row := variantCallsRow, standIns := [], harness := (true, "92ad8b57b6dc406ecb66be2793f76a5bdd5fe2f312d5d1c4b72077021b0ddc8f"), looks := false }, kinds := [], alts := [], laidByText := true, laidKinds := [.data, .data, .data], laidTests := true, laidLooks := .later }
def VariantCallsCardSaid : Prop := Claim7.holds Tryd.pinned (.plain (OpenSpec.ofChange variantCallsSpec)) variantCallsCard

/-- THE SECOND FORM's CARD OF 'vouchsafelaw07.VariantLists'. -/
def variantListsUptoCard : Claim7 := { stood := { row := variantListsUptoRow, standIns := [], harness := (true, "92ad8b57b6dc406ecb66be2793f76a5bdd5fe2f312d5d1c4b72077021b0ddc8f"), looks := false }, kinds := [], alts := [], laidByText := true, laidKinds := [.data, .data, .data], laidTests := true, laidLooks := .later }
def VariantListsUptoCardSaid : Prop := Claim7.holds Tryd.pinned (.plain (OpenSpec.upto variantListsSpec)) variantListsUptoCard

/-- THE SECOND FORM's CARD OF 'vouchsafelaw07.VariantBoth'. -/
def variantBothUptoCard : Claim7 := { stood := { row := variantBothUptoRow, standIns := [], harness := (true, "92ad8b57b6dc406ecb66be2793f76a5bdd5fe2f312d5d1c4b72077021b0ddc8f"), looks := false }, kinds := [], alts := [], laidByText := true, laidKinds := [.data, .data, .data], laidTests := true, laidLooks := .later }
def VariantBothUptoCardSaid : Prop := Claim7.holds Tryd.pinned (.plain (OpenSpec.upto variantBothSpec)) variantBothUptoCard

/-- THE SECOND FORM's CARD OF 'vouchsafelaw07.VariantRenames'. -/
def variantRenamesUptoCard : Claim7 := { stood := { row := variantRenamesUptoRow, standIns := [], harness := (true, "92ad8b57b6dc406ecb66be2793f76a5bdd5fe2f312d5d1c4b72077021b0ddc8f"), looks := false }, kinds := [], alts := [], laidByText := true, laidKinds := [.data, .data, .data], laidTests := true, laidLooks := .later }
def VariantRenamesUptoCardSaid : Prop := Claim7.holds Tryd.pinned (.plain (OpenSpec.upto variantRenamesSpec)) variantRenamesUptoCard

/-- THE SECOND FORM's CARD OF 'vouchsafelaw07.VariantNames'. -/
def variantNamesUptoCard : Claim7 := { stood := { row := variantNamesUptoRow, standIns := [], harness := (true, "92ad8b57b6dc406ecb66be2793f76a5bdd5fe2f312d5d1c4b72077021b0ddc8f"), looks := false }, kinds := [], alts := [], laidByText := true, laidKinds := [.data, .data, .data], laidTests := true, laidLooks := .later }
def VariantNamesUptoCardSaid : Prop := Claim7.holds Tryd.pinned (.plain (OpenSpec.upto variantNamesSpec)) variantNamesUptoCard

/-- THE SECOND FORM's CARD OF 'vouchsafelaw07.VariantCalls'. -/
def variantCallsUptoCard : Claim7 := { stood := { row := variantCallsUptoRow, standIns := [], harness := (true, "92ad8b57b6dc406ecb66be2793f76a5bdd5fe2f312d5d1c4b72077021b0ddc8f"), looks := false }, kinds := [], alts := [], laidByText := true, laidKinds := [.data, .data, .data], laidTests := true, laidLooks := .later }
def VariantCallsUptoCardSaid : Prop := Claim7.holds Tryd.pinned (.plain (OpenSpec.upto variantCallsSpec)) variantCallsUptoCard
end Rows
end Go.Proofs.YtlnlnpbjgcickaaDoor
