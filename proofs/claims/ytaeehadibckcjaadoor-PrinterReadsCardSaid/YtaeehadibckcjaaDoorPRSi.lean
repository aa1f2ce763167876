/-
  Chapter 4: terms and atoms: C, V, Count.
-/
import Derived.Test.YtaeehadibckcjaaDoorPRSh
import Derived.Test.YtaeehadibckcjaaDoorPRAtm
namespace Go.Proofs.YtaeehadibckcjaaDoor
open Go.RowKit Go.Vs Go.Maps Go.ChangeMaps Go.WideMaps
end Go.Proofs.YtaeehadibckcjaaDoor
