/-
  Chapter 4: the kit's LightBindings, Own.
-/
import Derived.Test.YtinbfakpjnnagaaGreatDoorDCSe
namespace Go.Proofs.YtinbfakpjnnagaaGreatDoor
open Go.RowKit Go.Vs Go.Maps Go.ChangeMaps Go.WideMaps
end Go.Proofs.YtinbfakpjnnagaaGreatDoor
