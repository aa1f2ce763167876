/-
  Chapter 4: the kit's LightBindings, Own.
-/
import Derived.Test.YtaeehadibckcjaaDoorSe
namespace Go.Proofs.YtaeehadibckcjaaDoor
open Go.RowKit Go.Vs Go.Maps Go.ChangeMaps Go.WideMaps

def smallB (b : Bd) : Bool := decide (b.var.size ≤ 300 ∧ b.t.name.size ≤ 300)
def lightBs (l : List Bd) : Bool := decide (l.length ≤ 20) && l.all smallB

theorem lightB_no {l : List Bd} {i : Nat} (hi : i < l.length) (h : smallB l[i] = false) : lightBs l = false := by
  unfold lightBs
  rw [show l.all smallB = false from List.all_eq_false.2 ⟨l[i], List.getElem_mem _, by simp [h]⟩, Bool.and_false]

theorem lightB_next {l : List Bd} {k : Nat} (h : (l.take k).all smallB = true) (hk : k < l.length) (hs : smallB l[k] = true) : (l.take (k + 1)).all smallB = true := by
  rw [List.take_succ_eq_append_getElem hk, List.all_append, h]
  simp [hs]

theorem encB_one {l : List Bd} : ∀ u ∈ l.flatMap Bd.enc, u.oneCell' = true := by
  intro u hu
  obtain ⟨x, _, hx⟩ := List.mem_flatMap.1 hu
  simp [Bd.enc] at hx
  rcases hx with rfl | rfl | rfl <;> rfl

/-- A new slice of bindings comes back; what was there stays. -/
def NewB (l : List Bd) (w : World) (e : Ending) (w' : World) : Prop :=
  ∃ v, e = .returned v ∧ RdB w' v l ∧ Below w.heap.size w w' ∧ ∀ b, sblk v = some b → w.heap.size ≤ b

end Go.Proofs.YtaeehadibckcjaaDoor
