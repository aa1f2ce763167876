/-
  Chapter 4: the contracts of rises, Get, Term.
-/
import Derived.Test.YtaeehadibckcjaaDoorChecked
import Derived.Test.YtaeehadibckcjaaDoorRows
import Derived.WalkLawsBesides
import Derived.Lib.Hide
import Derived.Deep.LoopGhost
import Derived.Deep.QuietTactic
import Derived.BigRegion
import Derived.Test.YtaeehadibckcjaaDoorSub
import Derived.Test.YtaeehadibckcjaaDoorSeq
import Derived.Test.YtaeehadibckcjaaDoorOpen
import Derived.BigQuiet
import Derived.IntWalk
import Derived.Deep.DeepCutAuto
namespace Go.Proofs.YtaeehadibckcjaaDoor
open Go.RowKit Go.Vs Go.Maps Go.ChangeMaps Go.WideMaps

theorem RdB.cells {w : World} {l : List Bd} {b off : Nat} (h : ∀ j u, (l.flatMap Bd.enc)[j]? = some u → w.cell? ⟨b, off + j, none⟩ = some u) {i : Nat} (hi : i < l.length) :
    w.cell? ⟨b, off + i * 3, none⟩ = some (.string l[i].var) ∧ w.cell? ⟨b, off + i * 3 + 1, none⟩ = some (.bool l[i].t.v) ∧ w.cell? ⟨b, off + i * 3 + 2, none⟩ = some (.string l[i].t.name) := by
  have k : ∀ j u, j < 3 → (Bd.enc l[i])[j]? = some u → w.cell? ⟨b, off + i * 3 + j, none⟩ = some u := fun j u hj hu => by
    have := h (i * 3 + j) u (by rw [flat_get Bd.enc 3 (fun _ => rfl) l i j hi hj]; exact hu)
    rwa [← Nat.add_assoc] at this
  exact ⟨k 0 _ (by omega) rfl, k 1 _ (by omega) rfl, k 2 _ (by omega) rfl⟩

theorem rises_next {l : List Bd} {k : Nat} (hk0 : 0 < k) (hlt : k < l.length) (hp : ∀ i (h : i + 1 < l.length), i + 1 < k → blt (l[i]'(by omega)).var l[i + 1].var = true) (hb : blt l[k - 1].var l[k].var = true) :
    Aside (∀ i (h : i + 1 < l.length), i + 1 < k + 1 → blt (l[i]'(by omega)).var l[i + 1].var = true) := by
  intro i h h2
  by_cases e : i + 1 < k
  · exact hp i h e
  · obtain rfl : k = i + 1 := by omega
    exact hb

theorem rises_no {l : List Bd} {k : Nat} (hk0 : 0 < k) (hlt : k < l.length) (hb : blt l[k - 1].var l[k].var = false) : prises l = false := by
  cases h : prises l with
  | false => rfl
  | true =>
    have := prises_iff.1 h (k - 1) (by omega)
    have e : l[k - 1 + 1]'(by omega) = l[k] := by congr 1; omega
    rw [e, hb] at this
    cases this

end Go.Proofs.YtaeehadibckcjaaDoor
