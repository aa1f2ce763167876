/-
  Chapter 4: terms and atoms: C, V, Count.
-/
import Derived.Test.YtaeehadibckcjaaDoorPBSh
import Derived.Test.YtaeehadibckcjaaDoorPBAtm
namespace Go.Proofs.YtaeehadibckcjaaDoor
open Go.RowKit Go.Vs Go.Maps Go.ChangeMaps Go.WideMaps
def amV (a : Atm) : Value := .agg a.cells
end Go.Proofs.YtaeehadibckcjaaDoor
