/-
  Chapter 4: the contract of Get.
-/
import Derived.Test.YtinbfakpjnnagaaGreatDoorDFSb
namespace Go.Proofs.YtinbfakpjnnagaaGreatDoor
open Go.RowKit Go.Vs Go.Maps Go.ChangeMaps Go.WideMaps
def tmV (t : Tm) : Value := .agg #[.bool t.v, .string t.name]
end Go.Proofs.YtinbfakpjnnagaaGreatDoor
