/-
  Chapter 4: two, lives.
-/
import Derived.Test.YtinbfakpjnnagaaDoorDNSl
namespace Go.Proofs.YtinbfakpjnnagaaDoor
open Go.RowKit Go.Vs Go.Maps Go.ChangeMaps Go.WideMaps
end Go.Proofs.YtinbfakpjnnagaaDoor
