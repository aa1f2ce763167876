/-
  Chapter 4: Apply.
-/
import Derived.Test.YtinbfakpjnnagaaTSi
namespace Go.Proofs.Ytinbfakpjnnagaa
open Go.RowKit Go.Vs Go.Maps Go.ChangeMaps Go.WideMaps
end Go.Proofs.Ytinbfakpjnnagaa
