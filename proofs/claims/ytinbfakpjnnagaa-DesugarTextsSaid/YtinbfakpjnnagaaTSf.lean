/-
  Chapter 4: the kit's LightBindings, Own.
-/
import Derived.Test.YtinbfakpjnnagaaTSe
namespace Go.Proofs.Ytinbfakpjnnagaa
open Go.RowKit Go.Vs Go.Maps Go.ChangeMaps Go.WideMaps
end Go.Proofs.Ytinbfakpjnnagaa
