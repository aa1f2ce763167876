/-
  Chapter 4: Restrict.
-/
import Derived.Test.YtinbfakpjnnagaaDoorDNSg
namespace Go.Proofs.YtinbfakpjnnagaaDoor
open Go.RowKit Go.Vs Go.Maps Go.ChangeMaps Go.WideMaps
end Go.Proofs.YtinbfakpjnnagaaDoor
