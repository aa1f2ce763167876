/-
  Chapter 4: when terms, bindings, atoms are equal.
-/
import Derived.Test.YtinbfakpjnnagaaDoorDNSj
import Derived.DeepKeys
namespace Go.Proofs.YtinbfakpjnnagaaDoor
open Go.RowKit Go.Vs Go.Maps Go.ChangeMaps Go.WideMaps
set_option maxRecDepth 100000
end Go.Proofs.YtinbfakpjnnagaaDoor
