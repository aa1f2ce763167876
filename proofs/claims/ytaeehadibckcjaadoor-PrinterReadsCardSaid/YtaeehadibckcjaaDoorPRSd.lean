/-
  Chapter 4: the contracts of Term, Check.
-/
import Derived.Test.YtaeehadibckcjaaDoorPRSc
namespace Go.Proofs.YtaeehadibckcjaaDoor
open Go.RowKit Go.Vs Go.Maps Go.ChangeMaps Go.WideMaps
end Go.Proofs.YtaeehadibckcjaaDoor
