/-
  Chapter 4: the kit's LightBindings, Own.
-/
import Derived.Test.YtinbfakpjnnagaaDoorDNSe
namespace Go.Proofs.YtinbfakpjnnagaaDoor
open Go.RowKit Go.Vs Go.Maps Go.ChangeMaps Go.WideMaps
end Go.Proofs.YtinbfakpjnnagaaDoor
