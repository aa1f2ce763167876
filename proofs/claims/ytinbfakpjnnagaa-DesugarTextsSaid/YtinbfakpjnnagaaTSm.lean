/-
  Chapter 4: two, lives.
-/
import Derived.Test.YtinbfakpjnnagaaTSl
namespace Go.Proofs.Ytinbfakpjnnagaa
open Go.RowKit Go.Vs Go.Maps Go.ChangeMaps Go.WideMaps
end Go.Proofs.Ytinbfakpjnnagaa
