/-
  Chapter 4: the contract of Check.
-/
import Derived.Test.YtinbfakpjnnagaaGreatDoorDCSd
namespace Go.Proofs.YtinbfakpjnnagaaGreatDoor
open Go.RowKit Go.Vs Go.Maps Go.ChangeMaps Go.WideMaps
end Go.Proofs.YtinbfakpjnnagaaGreatDoor
