/-
  No cell of these rows narrows 'for every input' (looked for: loops, veiled, ifaces, maps, wideKeys, modest, calm, conditions, laid).
  DERIVED. THE GIVEN ROWS OF THIS SEAT. 6 by the template 'for every input the law returns true; each argument reads behind the call as it read before'; 0 by the template 'total and deterministic' (their statements: YtkkkpbnehpfkkaaTotals.lean).
  GIVEN WITH THE SEED: the statements are not yours to turn. If you find one false, say at which input.
  Laid BY PROGRAM, IN A SANDBOX (cutbox-rows.mjs): the forced cells as the released guide's own fill.sh prints them over the translation 5705878adfdc8d8f… (all of the seat's roots in one cut). By AI agents, Wed Nov 11 2026. No macro, syntax, notation, axiom, sorry.
-/
import Derived.Test.YtkkkpbnehpfkkaaChecked
import GoSem.Claim
import GoSem.ClaimJoined
import GoSem.ClaimMapViews
import Derived.JoinedTies
import Derived.KernelRfl
namespace Go.Proofs.Ytkkkpbnehpfkkaa
/- THE CELL 'sum', in the pinned program and in every row, IS THE sha256 OF THE DUMP (.gsa) THAT YtkkkpbnehpfkkaaProg.lean LOADS. Nothing in Lean hashes anything: it is a label: what it is worth is what the hold of that sum in a sandbox is worth. -/
noncomputable def Try.pinned : Pinned := { name := "ytkkkpbnehpfkkaa", sum := "5705878adfdc8d8fdd6d004e2ee90746a60f6be9907ef689e5c575b9147ed0ee", checked := Try.checked }
namespace Rows
def none {H : Type} : Left H := { results := [], args := [] }

/-- 'vouchsafelaw04.SubstParts': WHATEVER THE INPUT: true; the input reads as it did. -/
def substPartsSpec : ChangeSpec := { name := "substParts", fn := fun _ => fun
  | [d1, d2] => { results := [.lit (.bool true)], args := [d1, d2] }
  | _ => none }
def substPartsRow : OpenClaim := { program := "ytkkkpbnehpfkkaa", sum := "5705878adfdc8d8fdd6d004e2ee90746a60f6be9907ef689e5c575b9147ed0ee", func := "vouchsafe/vouchsafelaw04.SubstParts", spec := "substParts", unfollowed := true, recurses := true, apart := false }
def SubstPartsSaid : Prop := substPartsRow.holds Try.pinned (OpenSpec.ofChange substPartsSpec)

/-- ITS FALSE NEIGHBOUR: 'it returns false'. Refute it at one input. -/
def substPartsWrong : ChangeSpec := { name := "substParts", fn := fun _ => fun
  | [d1, d2] => { results := [.lit (.bool false)], args := [d1, d2] }
  | _ => none }
def SubstPartsWrongFalsely : Prop := substPartsRow.holds Try.pinned (OpenSpec.ofChange substPartsWrong)

/-- 'vouchsafelaw04.SubstBinds': WHATEVER THE INPUT: true; the input reads as it did. -/
def substBindsSpec : ChangeSpec := { name := "substBinds", fn := fun _ => fun
  | [d1, d2, d3, d4] => { results := [.lit (.bool true)], args := [d1, d2, d3, d4] }
  | _ => none }
def substBindsRow : OpenClaim := { program := "ytkkkpbnehpfkkaa", sum := "5705878adfdc8d8fdd6d004e2ee90746a60f6be9907ef689e5c575b9147ed0ee", func := "vouchsafe/vouchsafelaw04.SubstBinds", spec := "substBinds", unfollowed := true, recurses := true, apart := false }
def SubstBindsSaid : Prop := substBindsRow.holds Try.pinned (OpenSpec.ofChange substBindsSpec)

/-- ITS FALSE NEIGHBOUR: 'it returns false'. Refute it at one input. -/
def substBindsWrong : ChangeSpec := { name := "substBinds", fn := fun _ => fun
  | [d1, d2, d3, d4] => { results := [.lit (.bool false)], args := [d1, d2, d3, d4] }
  | _ => none }
def SubstBindsWrongFalsely : Prop := substBindsRow.holds Try.pinned (OpenSpec.ofChange substBindsWrong)

/-- 'vouchsafelaw04.SubstGround': WHATEVER THE INPUT: true; the input reads as it did. -/
def substGroundSpec : ChangeSpec := { name := "substGround", fn := fun _ => fun
  | [d1, d2, d3] => { results := [.lit (.bool true)], args := [d1, d2, d3] }
  | _ => none }
def substGroundRow : OpenClaim := { program := "ytkkkpbnehpfkkaa", sum := "5705878adfdc8d8fdd6d004e2ee90746a60f6be9907ef689e5c575b9147ed0ee", func := "vouchsafe/vouchsafelaw04.SubstGround", spec := "substGround", unfollowed := true, recurses := true, apart := false }
def SubstGroundSaid : Prop := substGroundRow.holds Try.pinned (OpenSpec.ofChange substGroundSpec)

/-- ITS FALSE NEIGHBOUR: 'it returns false'. Refute it at one input. -/
def substGroundWrong : ChangeSpec := { name := "substGround", fn := fun _ => fun
  | [d1, d2, d3] => { results := [.lit (.bool false)], args := [d1, d2, d3] }
  | _ => none }
def SubstGroundWrongFalsely : Prop := substGroundRow.holds Try.pinned (OpenSpec.ofChange substGroundWrong)

/-- 'vouchsafelaw04.SubstTwice': WHATEVER THE INPUT: true; the input reads as it did. -/
def substTwiceSpec : ChangeSpec := { name := "substTwice", fn := fun _ => fun
  | [d1, d2, d3] => { results := [.lit (.bool true)], args := [d1, d2, d3] }
  | _ => none }
def substTwiceRow : OpenClaim := { program := "ytkkkpbnehpfkkaa", sum := "5705878adfdc8d8fdd6d004e2ee90746a60f6be9907ef689e5c575b9147ed0ee", func := "vouchsafe/vouchsafelaw04.SubstTwice", spec := "substTwice", unfollowed := true, recurses := true, apart := false }
def SubstTwiceSaid : Prop := substTwiceRow.holds Try.pinned (OpenSpec.ofChange substTwiceSpec)

/-- ITS FALSE NEIGHBOUR: 'it returns false'. Refute it at one input. -/
def substTwiceWrong : ChangeSpec := { name := "substTwice", fn := fun _ => fun
  | [d1, d2, d3] => { results := [.lit (.bool false)], args := [d1, d2, d3] }
  | _ => none }
def SubstTwiceWrongFalsely : Prop := substTwiceRow.holds Try.pinned (OpenSpec.ofChange substTwiceWrong)

/-- 'vouchsafelaw04.SubstNames': WHATEVER THE INPUT: true; the input reads as it did. -/
def substNamesSpec : ChangeSpec := { name := "substNames", fn := fun _ => fun
  | [] => { results := [.lit (.bool true)], args := [] }
  | _ => none }
def substNamesRow : OpenClaim := { program := "ytkkkpbnehpfkkaa", sum := "5705878adfdc8d8fdd6d004e2ee90746a60f6be9907ef689e5c575b9147ed0ee", func := "vouchsafe/vouchsafelaw04.SubstNames", spec := "substNames", unfollowed := true, recurses := true, apart := false }
def SubstNamesSaid : Prop := substNamesRow.holds Try.pinned (OpenSpec.ofChange substNamesSpec)

/-- ITS FALSE NEIGHBOUR: 'it returns false'. Refute it at one input. -/
def substNamesWrong : ChangeSpec := { name := "substNames", fn := fun _ => fun
  | [] => { results := [.lit (.bool false)], args := [] }
  | _ => none }
def SubstNamesWrongFalsely : Prop := substNamesRow.holds Try.pinned (OpenSpec.ofChange substNamesWrong)

/-- 'vouchsafelaw04.SubstCalls': WHATEVER THE INPUT: true; the input reads as it did. -/
def substCallsSpec : ChangeSpec := { name := "substCalls", fn := fun _ => fun
  | [d1, d2, d3, d4, d5, d6] => { results := [.lit (.bool true)], args := [d1, d2, d3, d4, d5, d6] }
  | _ => none }
def substCallsRow : OpenClaim := { program := "ytkkkpbnehpfkkaa", sum := "5705878adfdc8d8fdd6d004e2ee90746a60f6be9907ef689e5c575b9147ed0ee", func := "vouchsafe/vouchsafelaw04.SubstCalls", spec := "substCalls", unfollowed := true, recurses := true, apart := false }
def SubstCallsSaid : Prop := substCallsRow.holds Try.pinned (OpenSpec.ofChange substCallsSpec)

/-- ITS FALSE NEIGHBOUR: 'it returns false'. Refute it at one input. -/
def substCallsWrong : ChangeSpec := { name := "substCalls", fn := fun _ => fun
  | [d1, d2, d3, d4, d5, d6] => { results := [.lit (.bool false)], args := [d1, d2, d3, d4, d5, d6] }
  | _ => none }
def SubstCallsWrongFalsely : Prop := substCallsRow.holds Try.pinned (OpenSpec.ofChange substCallsWrong)

/- THE SECOND FORM. 'bulk': how many values and letters a reading holds, each counted each time it is reached (what is shared counts as often as it is met; a slice's spare places count too). A statement '..UptoSaid' is the law's where the arguments, and the package variables that the reading takes, are together of bulk at most 1048576: NARROWER than '..Said'. Prove '..Said' where nothing that the law and all that it calls make is longer than what came in: it says more and counts as full. Else prove '..UptoSaid'. A law counts once. -/
mutual
def uptoBulk {H : Type} : DataW H → Nat
  | .lit (.string bytes) => bytes.length + 1
  | .lit _ => 1
  | .nil => 1
  | .ptr d => uptoBulk d + 1
  | .slice elems spare => uptoBulkAll elems + uptoBulkAll spare + 1
  | .agg parts => uptoBulkAll parts + 1
  | .iface _ d => uptoBulk d + 1
  | .map entries => uptoBulkEntries entries + 1
  | .held _ => 1
def uptoBulkAll {H : Type} : List (DataW H) → Nat
  | [] => 0
  | d :: r => uptoBulk d + uptoBulkAll r
def uptoBulkEntries {H : Type} : List (Lit × DataW H) → Nat
  | [] => 0
  | x :: r => uptoBulkEntry x + uptoBulkEntries r
def uptoBulkEntry {H : Type} : Lit × DataW H → Nat
  | (.string bytes, d) => bytes.length + uptoBulk d + 1
  | (_, d) => uptoBulk d + 1
 end
def uptoSmall : (H : Type) → List (DataW H) → Bool := fun _ ds => decide (uptoBulkAll ds ≤ 1048576)
def OpenSpec.upto (s : _root_.Go.ChangeSpec) : _root_.Go.OpenSpec := { _root_.Go.OpenSpec.ofChange s with cond := some uptoSmall }

/-- 'vouchsafelaw04.SubstParts', WHERE WHAT IT READS IS OF BULK AT MOST 1048576: true; the input reads as it did. -/
def substPartsUptoRow : OpenClaim := { program := "ytkkkpbnehpfkkaa", sum := "5705878adfdc8d8fdd6d004e2ee90746a60f6be9907ef689e5c575b9147ed0ee", func := "vouchsafe/vouchsafelaw04.SubstParts", spec := "substParts", unfollowed := true, recurses := true, apart := false, narrowed := true }
def SubstPartsUptoSaid : Prop := substPartsUptoRow.holds Try.pinned (OpenSpec.upto substPartsSpec)

/-- 'vouchsafelaw04.SubstBinds', WHERE WHAT IT READS IS OF BULK AT MOST 1048576: true; the input reads as it did. -/
def substBindsUptoRow : OpenClaim := { program := "ytkkkpbnehpfkkaa", sum := "5705878adfdc8d8fdd6d004e2ee90746a60f6be9907ef689e5c575b9147ed0ee", func := "vouchsafe/vouchsafelaw04.SubstBinds", spec := "substBinds", unfollowed := true, recurses := true, apart := false, narrowed := true }
def SubstBindsUptoSaid : Prop := substBindsUptoRow.holds Try.pinned (OpenSpec.upto substBindsSpec)

/-- 'vouchsafelaw04.SubstGround', WHERE WHAT IT READS IS OF BULK AT MOST 1048576: true; the input reads as it did. -/
def substGroundUptoRow : OpenClaim := { program := "ytkkkpbnehpfkkaa", sum := "5705878adfdc8d8fdd6d004e2ee90746a60f6be9907ef689e5c575b9147ed0ee", func := "vouchsafe/vouchsafelaw04.SubstGround", spec := "substGround", unfollowed := true, recurses := true, apart := false, narrowed := true }
def SubstGroundUptoSaid : Prop := substGroundUptoRow.holds Try.pinned (OpenSpec.upto substGroundSpec)

/-- 'vouchsafelaw04.SubstTwice', WHERE WHAT IT READS IS OF BULK AT MOST 1048576: true; the input reads as it did. -/
def substTwiceUptoRow : OpenClaim := { program := "ytkkkpbnehpfkkaa", sum := "5705878adfdc8d8fdd6d004e2ee90746a60f6be9907ef689e5c575b9147ed0ee", func := "vouchsafe/vouchsafelaw04.SubstTwice", spec := "substTwice", unfollowed := true, recurses := true, apart := false, narrowed := true }
def SubstTwiceUptoSaid : Prop := substTwiceUptoRow.holds Try.pinned (OpenSpec.upto substTwiceSpec)

/-- 'vouchsafelaw04.SubstNames', WHERE WHAT IT READS IS OF BULK AT MOST 1048576: true; the input reads as it did. -/
def substNamesUptoRow : OpenClaim := { program := "ytkkkpbnehpfkkaa", sum := "5705878adfdc8d8fdd6d004e2ee90746a60f6be9907ef689e5c575b9147ed0ee", func := "vouchsafe/vouchsafelaw04.SubstNames", spec := "substNames", unfollowed := true, recurses := true, apart := false, narrowed := true }
def SubstNamesUptoSaid : Prop := substNamesUptoRow.holds Try.pinned (OpenSpec.upto substNamesSpec)

/-- 'vouchsafelaw04.SubstCalls', WHERE WHAT IT READS IS OF BULK AT MOST 1048576: true; the input reads as it did. -/
def substCallsUptoRow : OpenClaim := { program := "ytkkkpbnehpfkkaa", sum := "5705878adfdc8d8fdd6d004e2ee90746a60f6be9907ef689e5c575b9147ed0ee", func := "vouchsafe/vouchsafelaw04.SubstCalls", spec := "substCalls", unfollowed := true, recurses := true, apart := false, narrowed := true }
def SubstCallsUptoSaid : Prop := substCallsUptoRow.holds Try.pinned (OpenSpec.upto substCallsSpec)

end Rows
end Go.Proofs.Ytkkkpbnehpfkkaa
