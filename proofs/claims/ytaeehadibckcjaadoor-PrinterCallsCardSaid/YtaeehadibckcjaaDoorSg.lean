/-
  Chapter 4: slices.Contains of strings, Restrict.
-/
import Derived.Test.YtaeehadibckcjaaDoorSf
namespace Go.Proofs.YtaeehadibckcjaaDoor
open Go.RowKit Go.Vs Go.Maps Go.ChangeMaps Go.WideMaps

theorem pin_yes {xs : List ByteArray} {s : ByteArray} {k : Nat} (hk : k < xs.length) (he : xs[k] = s) : pin xs s = true := by
  unfold pin
  rw [List.any_eq_true]
  exact ⟨xs[k], List.getElem_mem hk, by simpa using he⟩

theorem pin_no {xs : List ByteArray} {s : ByteArray} (hp : ∀ j (h : j < xs.length), xs[j] ≠ s) : pin xs s = false := by
  unfold pin
  rw [List.any_eq_false]
  intro x hx
  obtain ⟨j, hj, rfl⟩ := List.mem_iff_getElem.1 hx
  simpa using hp j hj

end Go.Proofs.YtaeehadibckcjaaDoor
