/-
  Chapter 4: the contracts of Term, Check.
-/
import Derived.Test.YtaeehadibckcjaaDoorSc
namespace Go.Proofs.YtaeehadibckcjaaDoor
open Go.RowKit Go.Vs Go.Maps Go.ChangeMaps Go.WideMaps

/-- Two cells of a result. -/
theorem res_end {W w : World} {br : Nat} {X Y y0 y1 : Value} {t : TypeId} (B : Below W.heap.size W w) (hge : W.heap.size ≤ br) (hbr : w.heap[br]? = some (.cells #[y0, y1] t (0, 0))) :
    ((w.setCell ⟨br, 0, none⟩ X).setCell ⟨br, 1, none⟩ Y).cell? ⟨br, 0, none⟩ = some X ∧ ((w.setCell ⟨br, 0, none⟩ X).setCell ⟨br, 1, none⟩ Y).cell? ⟨br, 1, none⟩ = some Y ∧
    Below W.heap.size W ((w.setCell ⟨br, 0, none⟩ X).setCell ⟨br, 1, none⟩ Y) := by
  have h1 := hset_same hbr 0 X
  have h2 := hset_same h1 1 Y
  exact ⟨cell_of_heap h2 rfl, cell_of_heap h2 rfl, (B.setCell hge _).setCell hge _⟩

end Go.Proofs.YtaeehadibckcjaaDoor
