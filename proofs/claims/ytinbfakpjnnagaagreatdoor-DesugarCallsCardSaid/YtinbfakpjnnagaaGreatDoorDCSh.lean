/-
  Chapter 4: Restrict.
-/
import Derived.Test.YtinbfakpjnnagaaGreatDoorDCSg
namespace Go.Proofs.YtinbfakpjnnagaaGreatDoor
open Go.RowKit Go.Vs Go.Maps Go.ChangeMaps Go.WideMaps
end Go.Proofs.YtinbfakpjnnagaaGreatDoor
