/-
  Chapter 4: slices.Contains of strings, Restrict.
-/
import Derived.Test.YtinbfakpjnnagaaTSf
namespace Go.Proofs.Ytinbfakpjnnagaa
open Go.RowKit Go.Vs Go.Maps Go.ChangeMaps Go.WideMaps
end Go.Proofs.Ytinbfakpjnnagaa
