/-
  Chapter 4: the contract of Check.
-/
import Derived.Test.YtinbfakpjnnagaaTSd
namespace Go.Proofs.Ytinbfakpjnnagaa
open Go.RowKit Go.Vs Go.Maps Go.ChangeMaps Go.WideMaps
end Go.Proofs.Ytinbfakpjnnagaa
