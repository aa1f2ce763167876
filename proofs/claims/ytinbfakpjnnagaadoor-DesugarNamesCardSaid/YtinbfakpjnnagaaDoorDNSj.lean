/-
  Chapter 4: Apply.
-/
import Derived.Test.YtinbfakpjnnagaaDoorDNSi
namespace Go.Proofs.YtinbfakpjnnagaaDoor
open Go.RowKit Go.Vs Go.Maps Go.ChangeMaps Go.WideMaps
end Go.Proofs.YtinbfakpjnnagaaDoor
