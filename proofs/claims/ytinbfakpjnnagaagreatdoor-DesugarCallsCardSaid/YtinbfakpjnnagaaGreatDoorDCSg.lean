/-
  Chapter 4: slices.Contains of strings, Restrict.
-/
import Derived.Test.YtinbfakpjnnagaaGreatDoorDCSf
namespace Go.Proofs.YtinbfakpjnnagaaGreatDoor
open Go.RowKit Go.Vs Go.Maps Go.ChangeMaps Go.WideMaps
end Go.Proofs.YtinbfakpjnnagaaGreatDoor
