/-
  Chapter 4: terms and atoms: C, V, Count.
-/
import Derived.Test.YtaeehadibckcjaaDoorSh
import Derived.Test.YtaeehadibckcjaaDoorAtm
namespace Go.Proofs.YtaeehadibckcjaaDoor
open Go.RowKit Go.Vs Go.Maps Go.ChangeMaps Go.WideMaps

def amV (a : Atm) : Value := .agg a.cells

theorem c_any {w : World} (s : ByteArray) : Calls Tryd.prog 51 #[.string s] w fun e w' => e = .returned (tmV ⟨false, s⟩) ∧ Below w.heap.size w w' := by
  go_enter Tryd.func51, Tryd.ntmps51
  go_wp2_with (fail)
  have R : (w.alloc (.cells #[.bool false, .string s] 39)).heap[w.heap.size]? = some (.cells #[.bool false, .string s] 39 (0, 0)) := halloc_new w _
  have e0 := cell_of_heap (i := 0) R rfl
  have e1 := cell_of_heap (i := 1) R rfl
  have B6 : Below w.heap.size w (w.alloc (.cells #[.bool false, .string s] 39)) := (Below.refl _ w).alloc (Nat.le_refl _) _
  clear R
  generalize w.alloc (.cells #[.bool false, .string s] 39) = w6 at *
  exact bodyPost_ret (v := .agg #[.bool false, .string s]) (by simp [results, go_sem, e0, e1]) rfl ⟨rfl, B6⟩

theorem count_any {w : World} (a : Atm) : Calls Tryd.prog 73 #[amV a] w fun e w' => e = .returned (.int .i64 (a.count : Int)) ∧ Below w.heap.size w w' := by
  obtain ⟨s, p, n, ⟨v0, n0⟩, ⟨v1, n1⟩, ⟨v2, n2⟩, ⟨v3, n3⟩⟩ := a
  unfold amV Atm.cells
  go_enter Tryd.func73, Tryd.ntmps73
  go_wp2_with (fail)
  all_goals refine bodyPost_ret (v := .int .i64 _) ?_ rfl ⟨rfl, (Below.refl _ w).alloc (Nat.le_refl _) _⟩
  all_goals simp only [Atm.count_int]
  all_goals simp [results, go_sem]
  all_goals (split at * <;> omega)
end Go.Proofs.YtaeehadibckcjaaDoor
