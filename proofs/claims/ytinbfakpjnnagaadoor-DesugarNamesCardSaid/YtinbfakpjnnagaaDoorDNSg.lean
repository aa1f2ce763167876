/-
  Chapter 4: slices.Contains of strings, Restrict.
-/
import Derived.Test.YtinbfakpjnnagaaDoorDNSf
namespace Go.Proofs.YtinbfakpjnnagaaDoor
open Go.RowKit Go.Vs Go.Maps Go.ChangeMaps Go.WideMaps
end Go.Proofs.YtinbfakpjnnagaaDoor
