/-
  Chapter 4: two, lives.
-/
import Derived.Test.YtaeehadibckcjaaDoorPRSl
namespace Go.Proofs.YtaeehadibckcjaaDoor
open Go.RowKit Go.Vs Go.Maps Go.ChangeMaps Go.WideMaps
end Go.Proofs.YtaeehadibckcjaaDoor
