/-
  Chapter 4: the contract of Check.
-/
import Derived.Test.YtinbfakpjnnagaaDoorDNSd
namespace Go.Proofs.YtinbfakpjnnagaaDoor
open Go.RowKit Go.Vs Go.Maps Go.ChangeMaps Go.WideMaps
end Go.Proofs.YtinbfakpjnnagaaDoor
