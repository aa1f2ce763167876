/-
  Chapter 4: the contract of Check.
-/
import Derived.Test.YtaeehadibckcjaaDoorPRSd
namespace Go.Proofs.YtaeehadibckcjaaDoor
open Go.RowKit Go.Vs Go.Maps Go.ChangeMaps Go.WideMaps
end Go.Proofs.YtaeehadibckcjaaDoor
