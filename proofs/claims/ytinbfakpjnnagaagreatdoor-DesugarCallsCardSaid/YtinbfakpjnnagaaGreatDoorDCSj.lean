/-
  Chapter 4: Apply.
-/
import Derived.Test.YtinbfakpjnnagaaGreatDoorDCSi
namespace Go.Proofs.YtinbfakpjnnagaaGreatDoor
open Go.RowKit Go.Vs Go.Maps Go.ChangeMaps Go.WideMaps
end Go.Proofs.YtinbfakpjnnagaaGreatDoor
