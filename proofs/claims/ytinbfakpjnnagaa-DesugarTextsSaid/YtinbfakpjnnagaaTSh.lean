/-
  Chapter 4: Restrict.
-/
import Derived.Test.YtinbfakpjnnagaaTSg
namespace Go.Proofs.Ytinbfakpjnnagaa
open Go.RowKit Go.Vs Go.Maps Go.ChangeMaps Go.WideMaps
end Go.Proofs.Ytinbfakpjnnagaa
