/-
  Chapter 4: the contract of Check.
-/
import Derived.Test.YtaeehadibckcjaaDoorPBSd
namespace Go.Proofs.YtaeehadibckcjaaDoor
open Go.RowKit Go.Vs Go.Maps Go.ChangeMaps Go.WideMaps
end Go.Proofs.YtaeehadibckcjaaDoor
