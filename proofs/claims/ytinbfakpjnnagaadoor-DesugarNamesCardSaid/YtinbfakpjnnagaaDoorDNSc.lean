/-
  Chapter 4: the contract of Get.
-/
import Derived.Test.YtinbfakpjnnagaaDoorDNSb
namespace Go.Proofs.YtinbfakpjnnagaaDoor
open Go.RowKit Go.Vs Go.Maps Go.ChangeMaps Go.WideMaps
end Go.Proofs.YtinbfakpjnnagaaDoor
