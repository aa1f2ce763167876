/-
  Chapter 4: names: the walk.
-/
import Derived.Test.YtinbfakpjnnagaaGreatDoorDCSo
namespace Go.Proofs.YtinbfakpjnnagaaGreatDoor
open Go.RowKit Go.Vs Go.Maps Go.ChangeMaps Go.WideMaps
end Go.Proofs.YtinbfakpjnnagaaGreatDoor
