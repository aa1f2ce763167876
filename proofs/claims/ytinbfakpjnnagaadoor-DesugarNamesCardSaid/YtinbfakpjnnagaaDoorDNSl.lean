/-
  Chapter 4: A.
-/
import Derived.Test.YtinbfakpjnnagaaDoorDNSk
namespace Go.Proofs.YtinbfakpjnnagaaDoor
open Go.RowKit Go.Vs Go.Maps Go.ChangeMaps Go.WideMaps
end Go.Proofs.YtinbfakpjnnagaaDoor
