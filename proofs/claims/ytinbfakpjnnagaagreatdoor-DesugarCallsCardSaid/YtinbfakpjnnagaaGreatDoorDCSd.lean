/-
  Chapter 4: the contracts of Term, Check.
-/
import Derived.Test.YtinbfakpjnnagaaGreatDoorDCSc
namespace Go.Proofs.YtinbfakpjnnagaaGreatDoor
open Go.RowKit Go.Vs Go.Maps Go.ChangeMaps Go.WideMaps
end Go.Proofs.YtinbfakpjnnagaaGreatDoor
