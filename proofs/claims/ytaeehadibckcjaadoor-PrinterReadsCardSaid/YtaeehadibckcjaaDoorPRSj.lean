/-
  Chapter 4: Apply.
-/
import Derived.Test.YtaeehadibckcjaaDoorPRSi
namespace Go.Proofs.YtaeehadibckcjaaDoor
open Go.RowKit Go.Vs Go.Maps Go.ChangeMaps Go.WideMaps
end Go.Proofs.YtaeehadibckcjaaDoor
