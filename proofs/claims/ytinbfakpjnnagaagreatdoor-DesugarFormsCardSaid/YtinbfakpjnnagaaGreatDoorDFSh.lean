/-
  Chapter 4: Restrict.
-/
import Derived.Test.YtinbfakpjnnagaaGreatDoorDFSg
namespace Go.Proofs.YtinbfakpjnnagaaGreatDoor
open Go.RowKit Go.Vs Go.Maps Go.ChangeMaps Go.WideMaps
end Go.Proofs.YtinbfakpjnnagaaGreatDoor
