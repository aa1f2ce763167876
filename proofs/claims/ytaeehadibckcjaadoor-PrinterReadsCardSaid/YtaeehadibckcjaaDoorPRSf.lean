/-
  Chapter 4: the kit's LightBindings, Own.
-/
import Derived.Test.YtaeehadibckcjaaDoorPRSe
namespace Go.Proofs.YtaeehadibckcjaaDoor
open Go.RowKit Go.Vs Go.Maps Go.ChangeMaps Go.WideMaps
end Go.Proofs.YtaeehadibckcjaaDoor
