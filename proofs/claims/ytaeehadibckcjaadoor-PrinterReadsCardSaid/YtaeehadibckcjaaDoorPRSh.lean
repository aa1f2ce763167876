/-
  Chapter 4: Restrict.
-/
import Derived.Test.YtaeehadibckcjaaDoorPRSg
namespace Go.Proofs.YtaeehadibckcjaaDoor
open Go.RowKit Go.Vs Go.Maps Go.ChangeMaps Go.WideMaps
end Go.Proofs.YtaeehadibckcjaaDoor
