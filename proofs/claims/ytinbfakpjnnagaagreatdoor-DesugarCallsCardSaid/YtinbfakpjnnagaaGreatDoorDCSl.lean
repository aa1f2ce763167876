/-
  Chapter 4: A.
-/
import Derived.Test.YtinbfakpjnnagaaGreatDoorDCSk
namespace Go.Proofs.YtinbfakpjnnagaaGreatDoor
open Go.RowKit Go.Vs Go.Maps Go.ChangeMaps Go.WideMaps
end Go.Proofs.YtinbfakpjnnagaaGreatDoor
