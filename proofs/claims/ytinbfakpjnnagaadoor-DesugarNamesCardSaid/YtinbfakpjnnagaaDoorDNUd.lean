/-
  Chapter 4: the predicate of the search for a place, as the program runs it.
-/
import Derived.Test.YtinbfakpjnnagaaDoorDNSb
namespace Go.Proofs.YtinbfakpjnnagaaDoor
open Go.RowKit Go.Vs Go.Maps Go.ChangeMaps Go.WideMaps
set_option maxRecDepth 100000
def place (l : List Bd) (v : ByteArray) : Nat := (l.takeWhile (fun x => !blt v x.var)).length
end Go.Proofs.YtinbfakpjnnagaaDoor
