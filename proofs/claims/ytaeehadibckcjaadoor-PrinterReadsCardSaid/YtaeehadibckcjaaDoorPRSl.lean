/-
  Chapter 4: A.
-/
import Derived.Test.YtaeehadibckcjaaDoorPRSk
namespace Go.Proofs.YtaeehadibckcjaaDoor
open Go.RowKit Go.Vs Go.Maps Go.ChangeMaps Go.WideMaps
end Go.Proofs.YtaeehadibckcjaaDoor
