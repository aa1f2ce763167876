/-
  Chapter 4: terms and atoms: C, V, Count.
-/
import Derived.Test.YtinbfakpjnnagaaDoorDNSh
import Derived.Test.YtinbfakpjnnagaaDoorDNAtm
namespace Go.Proofs.YtinbfakpjnnagaaDoor
open Go.RowKit Go.Vs Go.Maps Go.ChangeMaps Go.WideMaps
end Go.Proofs.YtinbfakpjnnagaaDoor
