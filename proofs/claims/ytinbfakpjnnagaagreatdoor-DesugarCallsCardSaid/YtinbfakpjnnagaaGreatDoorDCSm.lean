/-
  Chapter 4: two, lives.
-/
import Derived.Test.YtinbfakpjnnagaaGreatDoorDCSl
namespace Go.Proofs.YtinbfakpjnnagaaGreatDoor
open Go.RowKit Go.Vs Go.Maps Go.ChangeMaps Go.WideMaps
end Go.Proofs.YtinbfakpjnnagaaGreatDoor
