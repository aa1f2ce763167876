/-
  Chapter 4: the kit's LightAtom.
-/
import Derived.Test.YtaeehadibckcjaaDoorPRSm
namespace Go.Proofs.YtaeehadibckcjaaDoor
open Go.RowKit Go.Vs Go.Maps Go.ChangeMaps Go.WideMaps
end Go.Proofs.YtaeehadibckcjaaDoor
