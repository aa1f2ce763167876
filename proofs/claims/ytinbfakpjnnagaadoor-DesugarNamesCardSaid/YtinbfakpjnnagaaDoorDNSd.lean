/-
  Chapter 4: the contracts of Term, Check.
-/
import Derived.Test.YtinbfakpjnnagaaDoorDNSc
namespace Go.Proofs.YtinbfakpjnnagaaDoor
open Go.RowKit Go.Vs Go.Maps Go.ChangeMaps Go.WideMaps
end Go.Proofs.YtinbfakpjnnagaaDoor
