/-
  Chapter 4: Vars.
-/
import Derived.Test.YtinbfakpjnnagaaGreatDoorDCSp
namespace Go.Proofs.YtinbfakpjnnagaaGreatDoor
open Go.RowKit Go.Vs Go.Maps Go.ChangeMaps Go.WideMaps
end Go.Proofs.YtinbfakpjnnagaaGreatDoor
