/-
  Chapter 4: slices.Contains of strings, Restrict.
-/
import Derived.Test.YtaeehadibckcjaaDoorPRSf
namespace Go.Proofs.YtaeehadibckcjaaDoor
open Go.RowKit Go.Vs Go.Maps Go.ChangeMaps Go.WideMaps
end Go.Proofs.YtaeehadibckcjaaDoor
