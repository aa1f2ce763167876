/-
  Chapter 4: the contract of Get.
-/
import Derived.Test.YtaeehadibckcjaaDoorPRSb
namespace Go.Proofs.YtaeehadibckcjaaDoor
open Go.RowKit Go.Vs Go.Maps Go.ChangeMaps Go.WideMaps
end Go.Proofs.YtaeehadibckcjaaDoor
