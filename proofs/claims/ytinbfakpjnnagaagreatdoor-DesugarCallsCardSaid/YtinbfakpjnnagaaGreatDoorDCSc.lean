/-
  Chapter 4: the contract of Get.
-/
import Derived.Test.YtinbfakpjnnagaaGreatDoorDCSb
namespace Go.Proofs.YtinbfakpjnnagaaGreatDoor
open Go.RowKit Go.Vs Go.Maps Go.ChangeMaps Go.WideMaps
end Go.Proofs.YtinbfakpjnnagaaGreatDoor
