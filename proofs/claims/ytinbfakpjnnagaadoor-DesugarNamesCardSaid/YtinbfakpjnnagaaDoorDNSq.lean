/-
  Chapter 4: Vars.
-/
import Derived.Test.YtinbfakpjnnagaaDoorDNSp
namespace Go.Proofs.YtinbfakpjnnagaaDoor
open Go.RowKit Go.Vs Go.Maps Go.ChangeMaps Go.WideMaps
end Go.Proofs.YtinbfakpjnnagaaDoor
