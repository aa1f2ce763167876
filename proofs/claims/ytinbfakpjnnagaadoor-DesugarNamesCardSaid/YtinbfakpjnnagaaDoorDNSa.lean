/-
  Chapter 4: the contracts of rises, Get, Term.
-/
import Derived.Test.YtinbfakpjnnagaaDoorChecked
import Derived.Test.YtinbfakpjnnagaaDoorRows
import Derived.WalkLawsBesides
import Derived.Lib.Hide
import Derived.Deep.LoopGhost
import Derived.Deep.QuietTactic
import Derived.BigRegion
import Derived.Test.YtinbfakpjnnagaaDoorDNSub
import Derived.Test.YtinbfakpjnnagaaDoorDNSeq
import Derived.Test.YtinbfakpjnnagaaDoorDNOpen
import Derived.BigQuiet
import Derived.IntWalk
import Derived.Deep.DeepCutAuto
namespace Go.Proofs.YtinbfakpjnnagaaDoor
open Go.RowKit Go.Vs Go.Maps Go.ChangeMaps Go.WideMaps
theorem RdB.cells {w : World} {l : List Bd} {b off : Nat} (h : ∀ j u, (l.flatMap Bd.enc)[j]? = some u → w.cell? ⟨b, off + j, none⟩ = some u) {i : Nat} (hi : i < l.length) :
    w.cell? ⟨b, off + i * 3, none⟩ = some (.string l[i].var) ∧ w.cell? ⟨b, off + i * 3 + 1, none⟩ = some (.bool l[i].t.v) ∧ w.cell? ⟨b, off + i * 3 + 2, none⟩ = some (.string l[i].t.name) := by
  have k : ∀ j u, j < 3 → (Bd.enc l[i])[j]? = some u → w.cell? ⟨b, off + i * 3 + j, none⟩ = some u := fun j u hj hu => by
    have := h (i * 3 + j) u (by rw [flat_get Bd.enc 3 (fun _ => rfl) l i j hi hj]; exact hu)
    rwa [← Nat.add_assoc] at this
  exact ⟨k 0 _ (by omega) rfl, k 1 _ (by omega) rfl, k 2 _ (by omega) rfl⟩
end Go.Proofs.YtinbfakpjnnagaaDoor
