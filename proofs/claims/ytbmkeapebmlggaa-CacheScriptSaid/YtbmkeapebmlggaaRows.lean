/-
  No cell of these rows narrows 'for every input' (looked for: loops, veiled, ifaces, maps, wideKeys, modest, calm, conditions, laid).
  DERIVED. THE GIVEN ROWS OF THIS SEAT. 5 by the template 'for every input the law returns true; each argument reads behind the call as it read before'; 0 by the template 'total and deterministic' (their statements: YtbmkeapebmlggaaTotals.lean).
  GIVEN WITH THE SEED: the statements are not yours to turn. If you find one false, say at which input.
  Laid BY PROGRAM, IN A SANDBOX (cutbox-rows.mjs): the forced cells as the released guide's own fill.sh prints them over the translation b7b2e5783f19b35c… (all of the seat's roots in one cut). By AI agents, Wed Nov 11 2026. No macro, syntax, notation, axiom, sorry.
-/
import Derived.Test.YtbmkeapebmlggaaChecked
import GoSem.Claim
import GoSem.ClaimJoined
import GoSem.ClaimMapViews
import Derived.JoinedTies
import Derived.KernelRfl
namespace Go.Proofs.Ytbmkeapebmlggaa
/- THE CELL 'sum', in the pinned program and in every row, IS THE sha256 OF THE DUMP (.gsa) THAT YtbmkeapebmlggaaProg.lean LOADS. Nothing in Lean hashes anything: it is a label: what it is worth is what the hold of that sum in a sandbox is worth. -/
noncomputable def Try.pinned : Pinned := { name := "ytbmkeapebmlggaa", sum := "b7b2e5783f19b35c0b7b511f22c316157ef1e6fff94c4a80b0b680e5d4ec5cf2", checked := Try.checked }
namespace Rows
def none {H : Type} : Left H := { results := [], args := [] }

/-- 'vouchsafelaw26.CacheKeeps': WHATEVER THE INPUT: true; the input reads as it did. -/
def cacheKeepsSpec : ChangeSpec := { name := "cacheKeeps", fn := fun _ => fun
  | [d1, d2, d3] => { results := [.lit (.bool true)], args := [d1, d2, d3] }
  | _ => none }
def cacheKeepsRow : OpenClaim := { program := "ytbmkeapebmlggaa", sum := "b7b2e5783f19b35c0b7b511f22c316157ef1e6fff94c4a80b0b680e5d4ec5cf2", func := "vouchsafe/vouchsafelaw26.CacheKeeps", spec := "cacheKeeps", apart := false }
def CacheKeepsSaid : Prop := cacheKeepsRow.holds Try.pinned (OpenSpec.ofChange cacheKeepsSpec)

/-- ITS FALSE NEIGHBOUR: 'it returns false'. Refute it at one input. -/
def cacheKeepsWrong : ChangeSpec := { name := "cacheKeeps", fn := fun _ => fun
  | [d1, d2, d3] => { results := [.lit (.bool false)], args := [d1, d2, d3] }
  | _ => none }
def CacheKeepsWrongFalsely : Prop := cacheKeepsRow.holds Try.pinned (OpenSpec.ofChange cacheKeepsWrong)

/-- 'vouchsafelaw26.CacheStamps': WHATEVER THE INPUT: true; the input reads as it did. -/
def cacheStampsSpec : ChangeSpec := { name := "cacheStamps", fn := fun _ => fun
  | [d1, d2, d3] => { results := [.lit (.bool true)], args := [d1, d2, d3] }
  | _ => none }
def cacheStampsRow : OpenClaim := { program := "ytbmkeapebmlggaa", sum := "b7b2e5783f19b35c0b7b511f22c316157ef1e6fff94c4a80b0b680e5d4ec5cf2", func := "vouchsafe/vouchsafelaw26.CacheStamps", spec := "cacheStamps", apart := false }
def CacheStampsSaid : Prop := cacheStampsRow.holds Try.pinned (OpenSpec.ofChange cacheStampsSpec)

/-- ITS FALSE NEIGHBOUR: 'it returns false'. Refute it at one input. -/
def cacheStampsWrong : ChangeSpec := { name := "cacheStamps", fn := fun _ => fun
  | [d1, d2, d3] => { results := [.lit (.bool false)], args := [d1, d2, d3] }
  | _ => none }
def CacheStampsWrongFalsely : Prop := cacheStampsRow.holds Try.pinned (OpenSpec.ofChange cacheStampsWrong)

/-- 'vouchsafelaw26.CacheLast': WHATEVER THE INPUT: true; the input reads as it did. -/
def cacheLastSpec : ChangeSpec := { name := "cacheLast", fn := fun _ => fun
  | [d1, d2] => { results := [.lit (.bool true)], args := [d1, d2] }
  | _ => none }
def cacheLastRow : OpenClaim := { program := "ytbmkeapebmlggaa", sum := "b7b2e5783f19b35c0b7b511f22c316157ef1e6fff94c4a80b0b680e5d4ec5cf2", func := "vouchsafe/vouchsafelaw26.CacheLast", spec := "cacheLast", apart := false }
def CacheLastSaid : Prop := cacheLastRow.holds Try.pinned (OpenSpec.ofChange cacheLastSpec)

/-- ITS FALSE NEIGHBOUR: 'it returns false'. Refute it at one input. -/
def cacheLastWrong : ChangeSpec := { name := "cacheLast", fn := fun _ => fun
  | [d1, d2] => { results := [.lit (.bool false)], args := [d1, d2] }
  | _ => none }
def CacheLastWrongFalsely : Prop := cacheLastRow.holds Try.pinned (OpenSpec.ofChange cacheLastWrong)

/-- 'vouchsafelaw26.CacheNames': WHATEVER THE INPUT: true; the input reads as it did. -/
def cacheNamesSpec : ChangeSpec := { name := "cacheNames", fn := fun _ => fun
  | [] => { results := [.lit (.bool true)], args := [] }
  | _ => none }
def cacheNamesRow : OpenClaim := { program := "ytbmkeapebmlggaa", sum := "b7b2e5783f19b35c0b7b511f22c316157ef1e6fff94c4a80b0b680e5d4ec5cf2", func := "vouchsafe/vouchsafelaw26.CacheNames", spec := "cacheNames", apart := false }
def CacheNamesSaid : Prop := cacheNamesRow.holds Try.pinned (OpenSpec.ofChange cacheNamesSpec)

/-- ITS FALSE NEIGHBOUR: 'it returns false'. Refute it at one input. -/
def cacheNamesWrong : ChangeSpec := { name := "cacheNames", fn := fun _ => fun
  | [] => { results := [.lit (.bool false)], args := [] }
  | _ => none }
def CacheNamesWrongFalsely : Prop := cacheNamesRow.holds Try.pinned (OpenSpec.ofChange cacheNamesWrong)

/-- 'vouchsafelaw26.CacheScript': WHATEVER THE INPUT: true; the input reads as it did. -/
def cacheScriptSpec : ChangeSpec := { name := "cacheScript", fn := fun _ => fun
  | [d1, d2] => { results := [.lit (.bool true)], args := [d1, d2] }
  | _ => none }
def cacheScriptRow : OpenClaim := { program := "ytbmkeapebmlggaa", sum := "b7b2e5783f19b35c0b7b511f22c316157ef1e6fff94c4a80b0b680e5d4ec5cf2", func := "vouchsafe/vouchsafelaw26.CacheScript", spec := "cacheScript", apart := false }
def CacheScriptSaid : Prop := cacheScriptRow.holds Try.pinned (OpenSpec.ofChange cacheScriptSpec)

/-- ITS FALSE NEIGHBOUR: 'it returns false'. Refute it at one input. -/
def cacheScriptWrong : ChangeSpec := { name := "cacheScript", fn := fun _ => fun
  | [d1, d2] => { results := [.lit (.bool false)], args := [d1, d2] }
  | _ => none }
def CacheScriptWrongFalsely : Prop := cacheScriptRow.holds Try.pinned (OpenSpec.ofChange cacheScriptWrong)

/- THE SECOND FORM. 'bulk': how many values and letters a reading holds, each counted each time it is reached (what is shared counts as often as it is met; a slice's spare places count too). A statement '..UptoSaid' is the law's where the arguments, and the package variables that the reading takes, are together of bulk at most 1048576: NARROWER than '..Said'. Prove '..Said' where nothing that the law and all that it calls make is longer than what came in: it says more and counts as full. Else prove '..UptoSaid'. A law counts once. -/
mutual
def uptoBulk {H : Type} : DataW H → Nat
  | .lit (.string bytes) => bytes.length + 1
  | .lit _ => 1
  | .nil => 1
  | .ptr d => uptoBulk d + 1
  | .slice elems spare => uptoBulkAll elems + uptoBulkAll spare + 1
  | .agg parts => uptoBulkAll parts + 1
  | .iface _ d => uptoBulk d + 1
  | .map entries => uptoBulkEntries entries + 1
  | .held _ => 1
def uptoBulkAll {H : Type} : List (DataW H) → Nat
  | [] => 0
  | d :: r => uptoBulk d + uptoBulkAll r
def uptoBulkEntries {H : Type} : List (Lit × DataW H) → Nat
  | [] => 0
  | x :: r => uptoBulkEntry x + uptoBulkEntries r
def uptoBulkEntry {H : Type} : Lit × DataW H → Nat
  | (.string bytes, d) => bytes.length + uptoBulk d + 1
  | (_, d) => uptoBulk d + 1
 end
def uptoSmall : (H : Type) → List (DataW H) → Bool := fun _ ds => decide (uptoBulkAll ds ≤ 1048576)
def OpenSpec.upto (s : _root_.Go.ChangeSpec) : _root_.Go.OpenSpec := { _root_.Go.OpenSpec.ofChange s with cond := some uptoSmall }

/-- 'vouchsafelaw26.CacheKeeps', WHERE WHAT IT READS IS OF BULK AT MOST 1048576: true; the input reads as it did. -/
def cacheKeepsUptoRow : OpenClaim := { program := "ytbmkeapebmlggaa", sum := "b7b2e5783f19b35c0b7b511f22c316157ef1e6fff94c4a80b0b680e5d4ec5cf2", func := "vouchsafe/vouchsafelaw26.CacheKeeps", spec := "cacheKeeps", apart := false, narrowed := true }
def CacheKeepsUptoSaid : Prop := cacheKeepsUptoRow.holds Try.pinned (OpenSpec.upto cacheKeepsSpec)

/-- 'vouchsafelaw26.CacheStamps', WHERE WHAT IT READS IS OF BULK AT MOST 1048576: true; the input reads as it did. -/
def cacheStampsUptoRow : OpenClaim := { program := "ytbmkeapebmlggaa", sum := "b7b2e5783f19b35c0b7b511f22c316157ef1e6fff94c4a80b0b680e5d4ec5cf2", func := "vouchsafe/vouchsafelaw26.CacheStamps", spec := "cacheStamps", apart := false, narrowed := true }
def CacheStampsUptoSaid : Prop := cacheStampsUptoRow.holds Try.pinned (OpenSpec.upto cacheStampsSpec)

/-- 'vouchsafelaw26.CacheLast', WHERE WHAT IT READS IS OF BULK AT MOST 1048576: true; the input reads as it did. -/
def cacheLastUptoRow : OpenClaim := { program := "ytbmkeapebmlggaa", sum := "b7b2e5783f19b35c0b7b511f22c316157ef1e6fff94c4a80b0b680e5d4ec5cf2", func := "vouchsafe/vouchsafelaw26.CacheLast", spec := "cacheLast", apart := false, narrowed := true }
def CacheLastUptoSaid : Prop := cacheLastUptoRow.holds Try.pinned (OpenSpec.upto cacheLastSpec)

/-- 'vouchsafelaw26.CacheNames', WHERE WHAT IT READS IS OF BULK AT MOST 1048576: true; the input reads as it did. -/
def cacheNamesUptoRow : OpenClaim := { program := "ytbmkeapebmlggaa", sum := "b7b2e5783f19b35c0b7b511f22c316157ef1e6fff94c4a80b0b680e5d4ec5cf2", func := "vouchsafe/vouchsafelaw26.CacheNames", spec := "cacheNames", apart := false, narrowed := true }
def CacheNamesUptoSaid : Prop := cacheNamesUptoRow.holds Try.pinned (OpenSpec.upto cacheNamesSpec)

/-- 'vouchsafelaw26.CacheScript', WHERE WHAT IT READS IS OF BULK AT MOST 1048576: true; the input reads as it did. -/
def cacheScriptUptoRow : OpenClaim := { program := "ytbmkeapebmlggaa", sum := "b7b2e5783f19b35c0b7b511f22c316157ef1e6fff94c4a80b0b680e5d4ec5cf2", func := "vouchsafe/vouchsafelaw26.CacheScript", spec := "cacheScript", apart := false, narrowed := true }
def CacheScriptUptoSaid : Prop := cacheScriptUptoRow.holds Try.pinned (OpenSpec.upto cacheScriptSpec)

end Rows
end Go.Proofs.Ytbmkeapebmlggaa
