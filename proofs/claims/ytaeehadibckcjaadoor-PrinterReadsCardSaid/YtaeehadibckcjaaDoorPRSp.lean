/-
  Chapter 4: names: the walk.
-/
import Derived.Test.YtaeehadibckcjaaDoorPRSo
namespace Go.Proofs.YtaeehadibckcjaaDoor
open Go.RowKit Go.Vs Go.Maps Go.ChangeMaps Go.WideMaps
end Go.Proofs.YtaeehadibckcjaaDoor
