/-
  Chapter 4: A.
-/
import Derived.Test.YtinbfakpjnnagaaTSk
namespace Go.Proofs.Ytinbfakpjnnagaa
open Go.RowKit Go.Vs Go.Maps Go.ChangeMaps Go.WideMaps
end Go.Proofs.Ytinbfakpjnnagaa
