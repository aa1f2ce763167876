/-
  Chapter 4: the contract of Check.
-/
import Derived.Test.YtinbfakpjnnagaaRSd
namespace Go.Proofs.Ytinbfakpjnnagaa
open Go.RowKit Go.Vs Go.Maps Go.ChangeMaps Go.WideMaps
end Go.Proofs.Ytinbfakpjnnagaa
