/-
  Chapter 4: names: the walk.
-/
import Derived.Test.YtinbfakpjnnagaaDoorDNSo
namespace Go.Proofs.YtinbfakpjnnagaaDoor
open Go.RowKit Go.Vs Go.Maps Go.ChangeMaps Go.WideMaps
end Go.Proofs.YtinbfakpjnnagaaDoor
