/-
  Chapter 4: the contract of Check.
-/
import Derived.Test.YtaeehadibckcjaaDoorSd
namespace Go.Proofs.YtaeehadibckcjaaDoor
open Go.RowKit Go.Vs Go.Maps Go.ChangeMaps Go.WideMaps

theorem check_next {l : List Bd} {k : Nat} (hk : k < l.length) (hp : ∀ j (h : j < l.length), j < k → pbad l l[j] = false) (hb : pbad l l[k] = false) : ∀ j (h : j < l.length), j < k + 1 → pbad l l[j] = false := by
  intro j h hj
  by_cases e : j = k
  · subst e; exact hb
  · exact hp j h (by omega)

theorem check_yes {l : List Bd} (hr : prises l = true) (hp : ∀ j (h : j < l.length), pbad l l[j] = false) : pcheck l = true := by
  unfold pcheck
  rw [hr, Bool.true_and, List.all_eq_true]
  intro b hb
  obtain ⟨j, hj, rfl⟩ := List.mem_iff_getElem.1 hb
  rw [hp j hj]
  rfl

theorem check_no {l : List Bd} {k : Nat} (hk : k < l.length) (hb : pbad l l[k] = true) : pcheck l = false := by
  unfold pcheck
  rw [List.all_eq_false.2 ⟨l[k], List.getElem_mem hk, by rw [hb]; simp⟩, Bool.and_false]

def errno (b : Bool) : Value := .int .i64 (if b then 0 else 15)

end Go.Proofs.YtaeehadibckcjaaDoor
