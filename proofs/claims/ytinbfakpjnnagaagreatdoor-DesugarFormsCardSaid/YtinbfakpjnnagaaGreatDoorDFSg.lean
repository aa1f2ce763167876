/-
  Chapter 4: slices.Contains of strings, Restrict.
-/
import Derived.Test.YtinbfakpjnnagaaGreatDoorDFSf
namespace Go.Proofs.YtinbfakpjnnagaaGreatDoor
open Go.RowKit Go.Vs Go.Maps Go.ChangeMaps Go.WideMaps
end Go.Proofs.YtinbfakpjnnagaaGreatDoor
