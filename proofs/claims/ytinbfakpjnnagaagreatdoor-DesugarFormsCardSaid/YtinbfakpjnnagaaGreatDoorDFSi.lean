/-
  Chapter 4: terms and atoms: C, V, Count.
-/
import Derived.Test.YtinbfakpjnnagaaGreatDoorDFSh
import Derived.Test.YtinbfakpjnnagaaGreatDoorDFAtm
namespace Go.Proofs.YtinbfakpjnnagaaGreatDoor
open Go.RowKit Go.Vs Go.Maps Go.ChangeMaps Go.WideMaps
def amV (a : Atm) : Value := .agg a.cells
theorem count_any {w : World} (a : Atm) : Calls Tryz.prog 36 #[amV a] w fun e w' => e = .returned (.int .i64 (a.count : Int)) ∧ Below w.heap.size w w' := by
  obtain ⟨s, p, n, ⟨v0, n0⟩, ⟨v1, n1⟩, ⟨v2, n2⟩, ⟨v3, n3⟩⟩ := a
  unfold amV Atm.cells
  go_enter Tryz.func36, Tryz.ntmps36
  go_wp2_with (fail)
  all_goals refine bodyPost_ret (v := .int .i64 _) ?_ rfl ⟨rfl, (Below.refl _ w).alloc (Nat.le_refl _) _⟩
  all_goals simp only [Atm.count_int]
  all_goals simp [results, go_sem]
  all_goals (split at * <;> omega)
end Go.Proofs.YtinbfakpjnnagaaGreatDoor
