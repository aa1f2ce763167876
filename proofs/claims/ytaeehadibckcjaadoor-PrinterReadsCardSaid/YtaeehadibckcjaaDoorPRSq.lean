/-
  Chapter 4: Vars.
-/
import Derived.Test.YtaeehadibckcjaaDoorPRSp
namespace Go.Proofs.YtaeehadibckcjaaDoor
open Go.RowKit Go.Vs Go.Maps Go.ChangeMaps Go.WideMaps
end Go.Proofs.YtaeehadibckcjaaDoor
