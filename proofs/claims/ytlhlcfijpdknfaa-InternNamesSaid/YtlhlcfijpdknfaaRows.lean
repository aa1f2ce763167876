/-
  No cell of these rows narrows 'for every input' (looked for: loops, veiled, ifaces, maps, wideKeys, modest, calm, conditions, laid).
  DERIVED. THE GIVEN ROWS OF THIS SEAT. 4 by the template 'for every input the law returns true; each argument reads behind the call as it read before'; 0 by the template 'total and deterministic' (their statements: YtlhlcfijpdknfaaTotals.lean).
  GIVEN WITH THE SEED: the statements are not yours to turn. If you find one false, say at which input.
  Laid BY PROGRAM, IN A SANDBOX (cutbox-rows.mjs): the forced cells as the released guide's own fill.sh prints them over the translation b1827d83d9034fb6… (all of the seat's roots in one cut). By AI agents, Wed Nov 11 2026. No macro, syntax, notation, axiom, sorry.
-/
import Derived.Test.YtlhlcfijpdknfaaChecked
import GoSem.Claim
import GoSem.ClaimJoined
import GoSem.ClaimMapViews
import Derived.JoinedTies
import Derived.KernelRfl
namespace Go.Proofs.Ytlhlcfijpdknfaa
/- THE CELL 'sum', in the pinned program and in every row, IS THE sha256 OF THE DUMP (.gsa) THAT YtlhlcfijpdknfaaProg.lean LOADS. Nothing in Lean hashes anything: it is a label: what it is worth is what the hold of that sum in a sandbox is worth. -/
noncomputable def Try.pinned : Pinned := { name := "ytlhlcfijpdknfaa", sum := "b1827d83d9034fb65f8a73e4968aa8e13c07129638572e8bd573498de6179c43", checked := Try.checked }
namespace Rows
def none {H : Type} : Left H := { results := [], args := [] }

/-- 'vouchsafelaw02.InternAgain': WHATEVER THE INPUT: true; the input reads as it did. -/
def internAgainSpec : ChangeSpec := { name := "internAgain", fn := fun _ => fun
  | [d1, d2] => { results := [.lit (.bool true)], args := [d1, d2] }
  | _ => none }
def internAgainRow : OpenClaim := { program := "ytlhlcfijpdknfaa", sum := "b1827d83d9034fb65f8a73e4968aa8e13c07129638572e8bd573498de6179c43", func := "vouchsafe/vouchsafelaw02.InternAgain", spec := "internAgain", unfollowed := true, recurses := true, apart := false }
def InternAgainSaid : Prop := internAgainRow.holds Try.pinned (OpenSpec.ofChange internAgainSpec)

/-- ITS FALSE NEIGHBOUR: 'it returns false'. Refute it at one input. -/
def internAgainWrong : ChangeSpec := { name := "internAgain", fn := fun _ => fun
  | [d1, d2] => { results := [.lit (.bool false)], args := [d1, d2] }
  | _ => none }
def InternAgainWrongFalsely : Prop := internAgainRow.holds Try.pinned (OpenSpec.ofChange internAgainWrong)

/-- 'vouchsafelaw02.InternNames': WHATEVER THE INPUT: true; the input reads as it did. -/
def internNamesSpec : ChangeSpec := { name := "internNames", fn := fun _ => fun
  | [] => { results := [.lit (.bool true)], args := [] }
  | _ => none }
def internNamesRow : OpenClaim := { program := "ytlhlcfijpdknfaa", sum := "b1827d83d9034fb65f8a73e4968aa8e13c07129638572e8bd573498de6179c43", func := "vouchsafe/vouchsafelaw02.InternNames", spec := "internNames", unfollowed := true, recurses := true, apart := false }
def InternNamesSaid : Prop := internNamesRow.holds Try.pinned (OpenSpec.ofChange internNamesSpec)

/-- ITS FALSE NEIGHBOUR: 'it returns false'. Refute it at one input. -/
def internNamesWrong : ChangeSpec := { name := "internNames", fn := fun _ => fun
  | [] => { results := [.lit (.bool false)], args := [] }
  | _ => none }
def InternNamesWrongFalsely : Prop := internNamesRow.holds Try.pinned (OpenSpec.ofChange internNamesWrong)

/-- 'vouchsafelaw02.InternScript': WHATEVER THE INPUT: true; the input reads as it did. -/
def internScriptSpec : ChangeSpec := { name := "internScript", fn := fun _ => fun
  | [d] => { results := [.lit (.bool true)], args := [d] }
  | _ => none }
def internScriptRow : OpenClaim := { program := "ytlhlcfijpdknfaa", sum := "b1827d83d9034fb65f8a73e4968aa8e13c07129638572e8bd573498de6179c43", func := "vouchsafe/vouchsafelaw02.InternScript", spec := "internScript", unfollowed := true, recurses := true, apart := false }
def InternScriptSaid : Prop := internScriptRow.holds Try.pinned (OpenSpec.ofChange internScriptSpec)

/-- ITS FALSE NEIGHBOUR: 'it returns false'. Refute it at one input. -/
def internScriptWrong : ChangeSpec := { name := "internScript", fn := fun _ => fun
  | [d] => { results := [.lit (.bool false)], args := [d] }
  | _ => none }
def InternScriptWrongFalsely : Prop := internScriptRow.holds Try.pinned (OpenSpec.ofChange internScriptWrong)

/-- 'vouchsafelaw02.InternLeast': WHATEVER THE INPUT: true; the input reads as it did. -/
def internLeastSpec : ChangeSpec := { name := "internLeast", fn := fun _ => fun
  | [d1, d2] => { results := [.lit (.bool true)], args := [d1, d2] }
  | _ => none }
def internLeastRow : OpenClaim := { program := "ytlhlcfijpdknfaa", sum := "b1827d83d9034fb65f8a73e4968aa8e13c07129638572e8bd573498de6179c43", func := "vouchsafe/vouchsafelaw02.InternLeast", spec := "internLeast", unfollowed := true, recurses := true, apart := false }
def InternLeastSaid : Prop := internLeastRow.holds Try.pinned (OpenSpec.ofChange internLeastSpec)

/-- ITS FALSE NEIGHBOUR: 'it returns false'. Refute it at one input. -/
def internLeastWrong : ChangeSpec := { name := "internLeast", fn := fun _ => fun
  | [d1, d2] => { results := [.lit (.bool false)], args := [d1, d2] }
  | _ => none }
def InternLeastWrongFalsely : Prop := internLeastRow.holds Try.pinned (OpenSpec.ofChange internLeastWrong)

/- THE SECOND FORM. 'bulk': how many values and letters a reading holds, each counted each time it is reached (what is shared counts as often as it is met; a slice's spare places count too). A statement '..UptoSaid' is the law's where the arguments, and the package variables that the reading takes, are together of bulk at most 1048576: NARROWER than '..Said'. Prove '..Said' where nothing that the law and all that it calls make is longer than what came in: it says more and counts as full. Else prove '..UptoSaid'. A law counts once. -/
mutual
def uptoBulk {H : Type} : DataW H → Nat
  | .lit (.string bytes) => bytes.length + 1
  | .lit _ => 1
  | .nil => 1
  | .ptr d => uptoBulk d + 1
  | .slice elems spare => uptoBulkAll elems + uptoBulkAll spare + 1
  | .agg parts => uptoBulkAll parts + 1
  | .iface _ d => uptoBulk d + 1
  | .map entries => uptoBulkEntries entries + 1
  | .held _ => 1
def uptoBulkAll {H : Type} : List (DataW H) → Nat
  | [] => 0
  | d :: r => uptoBulk d + uptoBulkAll r
def uptoBulkEntries {H : Type} : List (Lit × DataW H) → Nat
  | [] => 0
  | x :: r => uptoBulkEntry x + uptoBulkEntries r
def uptoBulkEntry {H : Type} : Lit × DataW H → Nat
  | (.string bytes, d) => bytes.length + uptoBulk d + 1
  | (_, d) => uptoBulk d + 1
 end
def uptoSmall : (H : Type) → List (DataW H) → Bool := fun _ ds => decide (uptoBulkAll ds ≤ 1048576)
def OpenSpec.upto (s : _root_.Go.ChangeSpec) : _root_.Go.OpenSpec := { _root_.Go.OpenSpec.ofChange s with cond := some uptoSmall }

/-- 'vouchsafelaw02.InternAgain', WHERE WHAT IT READS IS OF BULK AT MOST 1048576: true; the input reads as it did. -/
def internAgainUptoRow : OpenClaim := { program := "ytlhlcfijpdknfaa", sum := "b1827d83d9034fb65f8a73e4968aa8e13c07129638572e8bd573498de6179c43", func := "vouchsafe/vouchsafelaw02.InternAgain", spec := "internAgain", unfollowed := true, recurses := true, apart := false, narrowed := true }
def InternAgainUptoSaid : Prop := internAgainUptoRow.holds Try.pinned (OpenSpec.upto internAgainSpec)

/-- 'vouchsafelaw02.InternNames', WHERE WHAT IT READS IS OF BULK AT MOST 1048576: true; the input reads as it did. -/
def internNamesUptoRow : OpenClaim := { program := "ytlhlcfijpdknfaa", sum := "b1827d83d9034fb65f8a73e4968aa8e13c07129638572e8bd573498de6179c43", func := "vouchsafe/vouchsafelaw02.InternNames", spec := "internNames", unfollowed := true, recurses := true, apart := false, narrowed := true }
def InternNamesUptoSaid : Prop := internNamesUptoRow.holds Try.pinned (OpenSpec.upto internNamesSpec)

/-- 'vouchsafelaw02.InternScript', WHERE WHAT IT READS IS OF BULK AT MOST 1048576: true; the input reads as it did. -/
def internScriptUptoRow : OpenClaim := { program := "ytlhlcfijpdknfaa", sum := "b1827d83d9034fb65f8a73e4968aa8e13c07129638572e8bd573498de6179c43", func := "vouchsafe/vouchsafelaw02.InternScript", spec := "internScript", unfollowed := true, recurses := true, apart := false, narrowed := true }
def InternScriptUptoSaid : Prop := internScriptUptoRow.holds Try.pinned (OpenSpec.upto internScriptSpec)

/-- 'vouchsafelaw02.InternLeast', WHERE WHAT IT READS IS OF BULK AT MOST 1048576: true; the input reads as it did. -/
def internLeastUptoRow : OpenClaim := { program := "ytlhlcfijpdknfaa", sum := "b1827d83d9034fb65f8a73e4968aa8e13c07129638572e8bd573498de6179c43", func := "vouchsafe/vouchsafelaw02.InternLeast", spec := "internLeast", unfollowed := true, recurses := true, apart := false, narrowed := true }
def InternLeastUptoSaid : Prop := internLeastUptoRow.holds Try.pinned (OpenSpec.upto internLeastSpec)

end Rows
end Go.Proofs.Ytlhlcfijpdknfaa
