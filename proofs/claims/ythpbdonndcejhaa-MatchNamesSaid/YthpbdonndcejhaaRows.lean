/-
  No cell of these rows narrows 'for every input' (looked for: loops, veiled, ifaces, maps, wideKeys, modest, calm, conditions, laid).
  DERIVED. THE GIVEN ROWS OF THIS SEAT. 5 by the template 'for every input the law returns true; each argument reads behind the call as it read before'; 0 by the template 'total and deterministic' (their statements: YthpbdonndcejhaaTotals.lean).
  GIVEN WITH THE SEED: the statements are not yours to turn. If you find one false, say at which input.
  Laid BY PROGRAM, IN A SANDBOX (cutbox-rows.mjs): the forced cells as the released guide's own fill.sh prints them over the translation 442357705c4379a3… (all of the seat's roots in one cut). By AI agents, Wed Nov 11 2026. No macro, syntax, notation, axiom, sorry.
-/
import Derived.Test.YthpbdonndcejhaaChecked
import GoSem.Claim
import GoSem.ClaimJoined
import GoSem.ClaimMapViews
import Derived.JoinedTies
import Derived.KernelRfl
namespace Go.Proofs.Ythpbdonndcejhaa
/- THE CELL 'sum', in the pinned program and in every row, IS THE sha256 OF THE DUMP (.gsa) THAT YthpbdonndcejhaaProg.lean LOADS. Nothing in Lean hashes anything: it is a label: what it is worth is what the hold of that sum in a sandbox is worth. -/
noncomputable def Try.pinned : Pinned := { name := "ythpbdonndcejhaa", sum := "442357705c4379a317f9a778d9f106d0c73050aba7d0ed68ca87442537fc4d3a", checked := Try.checked }
namespace Rows
def none {H : Type} : Left H := { results := [], args := [] }

/-- 'vouchsafelaw05.MatchExtends': WHATEVER THE INPUT: true; the input reads as it did. -/
def matchExtendsSpec : ChangeSpec := { name := "matchExtends", fn := fun _ => fun
  | [d1, d2, d3, d4] => { results := [.lit (.bool true)], args := [d1, d2, d3, d4] }
  | _ => none }
def matchExtendsRow : OpenClaim := { program := "ythpbdonndcejhaa", sum := "442357705c4379a317f9a778d9f106d0c73050aba7d0ed68ca87442537fc4d3a", func := "vouchsafe/vouchsafelaw05.MatchExtends", spec := "matchExtends", unfollowed := true, recurses := true, apart := false }
def MatchExtendsSaid : Prop := matchExtendsRow.holds Try.pinned (OpenSpec.ofChange matchExtendsSpec)

/-- ITS FALSE NEIGHBOUR: 'it returns false'. Refute it at one input. -/
def matchExtendsWrong : ChangeSpec := { name := "matchExtends", fn := fun _ => fun
  | [d1, d2, d3, d4] => { results := [.lit (.bool false)], args := [d1, d2, d3, d4] }
  | _ => none }
def MatchExtendsWrongFalsely : Prop := matchExtendsRow.holds Try.pinned (OpenSpec.ofChange matchExtendsWrong)

/-- 'vouchsafelaw05.MatchMakes': WHATEVER THE INPUT: true; the input reads as it did. -/
def matchMakesSpec : ChangeSpec := { name := "matchMakes", fn := fun _ => fun
  | [d1, d2, d3] => { results := [.lit (.bool true)], args := [d1, d2, d3] }
  | _ => none }
def matchMakesRow : OpenClaim := { program := "ythpbdonndcejhaa", sum := "442357705c4379a317f9a778d9f106d0c73050aba7d0ed68ca87442537fc4d3a", func := "vouchsafe/vouchsafelaw05.MatchMakes", spec := "matchMakes", unfollowed := true, recurses := true, apart := false }
def MatchMakesSaid : Prop := matchMakesRow.holds Try.pinned (OpenSpec.ofChange matchMakesSpec)

/-- ITS FALSE NEIGHBOUR: 'it returns false'. Refute it at one input. -/
def matchMakesWrong : ChangeSpec := { name := "matchMakes", fn := fun _ => fun
  | [d1, d2, d3] => { results := [.lit (.bool false)], args := [d1, d2, d3] }
  | _ => none }
def MatchMakesWrongFalsely : Prop := matchMakesRow.holds Try.pinned (OpenSpec.ofChange matchMakesWrong)

/-- 'vouchsafelaw05.MatchUnder': WHATEVER THE INPUT: true; the input reads as it did. -/
def matchUnderSpec : ChangeSpec := { name := "matchUnder", fn := fun _ => fun
  | [d1, d2, d3, d4] => { results := [.lit (.bool true)], args := [d1, d2, d3, d4] }
  | _ => none }
def matchUnderRow : OpenClaim := { program := "ythpbdonndcejhaa", sum := "442357705c4379a317f9a778d9f106d0c73050aba7d0ed68ca87442537fc4d3a", func := "vouchsafe/vouchsafelaw05.MatchUnder", spec := "matchUnder", unfollowed := true, recurses := true, apart := false }
def MatchUnderSaid : Prop := matchUnderRow.holds Try.pinned (OpenSpec.ofChange matchUnderSpec)

/-- ITS FALSE NEIGHBOUR: 'it returns false'. Refute it at one input. -/
def matchUnderWrong : ChangeSpec := { name := "matchUnder", fn := fun _ => fun
  | [d1, d2, d3, d4] => { results := [.lit (.bool false)], args := [d1, d2, d3, d4] }
  | _ => none }
def MatchUnderWrongFalsely : Prop := matchUnderRow.holds Try.pinned (OpenSpec.ofChange matchUnderWrong)

/-- 'vouchsafelaw05.MatchNames': WHATEVER THE INPUT: true; the input reads as it did. -/
def matchNamesSpec : ChangeSpec := { name := "matchNames", fn := fun _ => fun
  | [] => { results := [.lit (.bool true)], args := [] }
  | _ => none }
def matchNamesRow : OpenClaim := { program := "ythpbdonndcejhaa", sum := "442357705c4379a317f9a778d9f106d0c73050aba7d0ed68ca87442537fc4d3a", func := "vouchsafe/vouchsafelaw05.MatchNames", spec := "matchNames", unfollowed := true, recurses := true, apart := false }
def MatchNamesSaid : Prop := matchNamesRow.holds Try.pinned (OpenSpec.ofChange matchNamesSpec)

/-- ITS FALSE NEIGHBOUR: 'it returns false'. Refute it at one input. -/
def matchNamesWrong : ChangeSpec := { name := "matchNames", fn := fun _ => fun
  | [] => { results := [.lit (.bool false)], args := [] }
  | _ => none }
def MatchNamesWrongFalsely : Prop := matchNamesRow.holds Try.pinned (OpenSpec.ofChange matchNamesWrong)

/-- 'vouchsafelaw05.MatchAll': WHATEVER THE INPUT: true; the input reads as it did. -/
def matchAllSpec : ChangeSpec := { name := "matchAll", fn := fun _ => fun
  | [d1, d2, d3] => { results := [.lit (.bool true)], args := [d1, d2, d3] }
  | _ => none }
def matchAllRow : OpenClaim := { program := "ythpbdonndcejhaa", sum := "442357705c4379a317f9a778d9f106d0c73050aba7d0ed68ca87442537fc4d3a", func := "vouchsafe/vouchsafelaw05.MatchAll", spec := "matchAll", unfollowed := true, recurses := true, apart := false }
def MatchAllSaid : Prop := matchAllRow.holds Try.pinned (OpenSpec.ofChange matchAllSpec)

/-- ITS FALSE NEIGHBOUR: 'it returns false'. Refute it at one input. -/
def matchAllWrong : ChangeSpec := { name := "matchAll", fn := fun _ => fun
  | [d1, d2, d3] => { results := [.lit (.bool false)], args := [d1, d2, d3] }
  | _ => none }
def MatchAllWrongFalsely : Prop := matchAllRow.holds Try.pinned (OpenSpec.ofChange matchAllWrong)

/- THE SECOND FORM. 'bulk': how many values and letters a reading holds, each counted each time it is reached (what is shared counts as often as it is met; a slice's spare places count too). A statement '..UptoSaid' is the law's where the arguments, and the package variables that the reading takes, are together of bulk at most 1048576: NARROWER than '..Said'. Prove '..Said' where nothing that the law and all that it calls make is longer than what came in: it says more and counts as full. Else prove '..UptoSaid'. A law counts once. -/
mutual
def uptoBulk {H : Type} : DataW H → Nat
  | .lit (.string bytes) => bytes.length + 1
  | .lit _ => 1
  | .nil => 1
  | .ptr d => uptoBulk d + 1
  | .slice elems spare => uptoBulkAll elems + uptoBulkAll spare + 1
  | .agg parts => uptoBulkAll parts + 1
  | .iface _ d => uptoBulk d + 1
  | .map entries => uptoBulkEntries entries + 1
  | .held _ => 1
def uptoBulkAll {H : Type} : List (DataW H) → Nat
  | [] => 0
  | d :: r => uptoBulk d + uptoBulkAll r
def uptoBulkEntries {H : Type} : List (Lit × DataW H) → Nat
  | [] => 0
  | x :: r => uptoBulkEntry x + uptoBulkEntries r
def uptoBulkEntry {H : Type} : Lit × DataW H → Nat
  | (.string bytes, d) => bytes.length + uptoBulk d + 1
  | (_, d) => uptoBulk d + 1
 end
def uptoSmall : (H : Type) → List (DataW H) → Bool := fun _ ds => decide (uptoBulkAll ds ≤ 1048576)
def OpenSpec.upto (s : _root_.Go.ChangeSpec) : _root_.Go.OpenSpec := { _root_.Go.OpenSpec.ofChange s with cond := some uptoSmall }

/-- 'vouchsafelaw05.MatchExtends', WHERE WHAT IT READS IS OF BULK AT MOST 1048576: true; the input reads as it did. -/
def matchExtendsUptoRow : OpenClaim := { program := "ythpbdonndcejhaa", sum := "442357705c4379a317f9a778d9f106d0c73050aba7d0ed68ca87442537fc4d3a", func := "vouchsafe/vouchsafelaw05.MatchExtends", spec := "matchExtends", unfollowed := true, recurses := true, apart := false, narrowed := true }
def MatchExtendsUptoSaid : Prop := matchExtendsUptoRow.holds Try.pinned (OpenSpec.upto matchExtendsSpec)

/-- 'vouchsafelaw05.MatchMakes', WHERE WHAT IT READS IS OF BULK AT MOST 1048576: true; the input reads as it did. -/
def matchMakesUptoRow : OpenClaim := { program := "ythpbdonndcejhaa", sum := "442357705c4379a317f9a778d9f106d0c73050aba7d0ed68ca87442537fc4d3a", func := "vouchsafe/vouchsafelaw05.MatchMakes", spec := "matchMakes", unfollowed := true, recurses := true, apart := false, narrowed := true }
def MatchMakesUptoSaid : Prop := matchMakesUptoRow.holds Try.pinned (OpenSpec.upto matchMakesSpec)

/-- 'vouchsafelaw05.MatchUnder', WHERE WHAT IT READS IS OF BULK AT MOST 1048576: true; the input reads as it did. -/
def matchUnderUptoRow : OpenClaim := { program := "ythpbdonndcejhaa", sum := "442357705c4379a317f9a778d9f106d0c73050aba7d0ed68ca87442537fc4d3a", func := "vouchsafe/vouchsafelaw05.MatchUnder", spec := "matchUnder", unfollowed := true, recurses := true, apart := false, narrowed := true }
def MatchUnderUptoSaid : Prop := matchUnderUptoRow.holds Try.pinned (OpenSpec.upto matchUnderSpec)

/-- 'vouchsafelaw05.MatchNames', WHERE WHAT IT READS IS OF BULK AT MOST 1048576: true; the input reads as it did. -/
def matchNamesUptoRow : OpenClaim := { program := "ythpbdonndcejhaa", sum := "442357705c4379a317f9a778d9f106d0c73050aba7d0ed68ca87442537fc4d3a", func := "vouchsafe/vouchsafelaw05.MatchNames", spec := "matchNames", unfollowed := true, recurses := true, apart := false, narrowed := true }
def MatchNamesUptoSaid : Prop := matchNamesUptoRow.holds Try.pinned (OpenSpec.upto matchNamesSpec)

/-- 'vouchsafelaw05.MatchAll', WHERE WHAT IT READS IS OF BULK AT MOST 1048576: true; the input reads as it did. -/
def matchAllUptoRow : OpenClaim := { program := "ythpbdonndcejhaa", sum := "442357705c4379a317f9a778d9f106d0c73050aba7d0ed68ca87442537fc4d3a", func := "vouchsafe/vouchsafelaw05.MatchAll", spec := "matchAll", unfollowed := true, recurses := true, apart := false, narrowed := true }
def MatchAllUptoSaid : Prop := matchAllUptoRow.holds Try.pinned (OpenSpec.upto matchAllSpec)

end Rows
end Go.Proofs.Ythpbdonndcejhaa
