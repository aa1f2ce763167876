/-
  Chapter 4: the contracts of Term, Check.
-/
import Derived.Test.YtinbfakpjnnagaaTSc
namespace Go.Proofs.Ytinbfakpjnnagaa
open Go.RowKit Go.Vs Go.Maps Go.ChangeMaps Go.WideMaps
end Go.Proofs.Ytinbfakpjnnagaa
