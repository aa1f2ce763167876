/-
  Chapter 4: terms and atoms: C, V, Count.
-/
import Derived.Test.YtinbfakpjnnagaaGreatDoorDCSh
import Derived.Test.YtinbfakpjnnagaaGreatDoorDCAtm
namespace Go.Proofs.YtinbfakpjnnagaaGreatDoor
open Go.RowKit Go.Vs Go.Maps Go.ChangeMaps Go.WideMaps
def amV (a : Atm) : Value := .agg a.cells
end Go.Proofs.YtinbfakpjnnagaaGreatDoor
