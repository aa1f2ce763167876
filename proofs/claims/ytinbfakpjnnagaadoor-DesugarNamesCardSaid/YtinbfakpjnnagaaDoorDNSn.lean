/-
  Chapter 4: the kit's LightAtom.
-/
import Derived.Test.YtinbfakpjnnagaaDoorDNSm
namespace Go.Proofs.YtinbfakpjnnagaaDoor
open Go.RowKit Go.Vs Go.Maps Go.ChangeMaps Go.WideMaps
def tmL (t : Tm) : Bool := decide (t.name.size ≤ 300)
def lightK (a : Atm) (k : Nat) : Bool := (decide (a.says.size ≤ 300) && decide (a.pred.size ≤ 300)) && (a.args.take k).all tmL
def lightA (a : Atm) : Bool := lightK a 4
end Go.Proofs.YtinbfakpjnnagaaDoor
