/-
  Chapter 4: Vars.
-/
import Derived.Test.YtinbfakpjnnagaaGreatDoorDFSp
namespace Go.Proofs.YtinbfakpjnnagaaGreatDoor
open Go.RowKit Go.Vs Go.Maps Go.ChangeMaps Go.WideMaps
set_option maxHeartbeats 2000000 in
theorem vars_any {w : World} {a : Atm} (ha : Atm.okay a) : Calls Tryz.prog 25 #[amV a] w fun e w' => ∃ v, e = .returned v ∧ ColS w (pnames a true) v w' := by
  have X0 : Hid ((w.alloc (.cells a.cells 33)).heap[w.heap.size]? = some (.cells a.cells 33 (0, 0))) := halloc_new w _
  have B0 : Hid (Below w.heap.size w (w.alloc (.cells a.cells 33))) := (Below.refl _ w).alloc (Nat.le_refl _) _
  have K := Lib.hid fun w => names_any (w := w) ha true
  clear ha
  unfold amV
  go_enter Tryz.func25, Tryz.ntmps25
  go_upto_region 1 with (fail)
  generalize w.alloc (.cells a.cells 33) = w1 at *
  have x0 : w1.cell? ⟨w.heap.size, 0, none⟩ = some (.string a.says) := cell_of_heap X0.out rfl
  have x1 : w1.cell? ⟨w.heap.size, 1, none⟩ = some (.string a.pred) := cell_of_heap X0.out rfl
  have x2 : w1.cell? ⟨w.heap.size, 2, none⟩ = some (.int .i64 a.n) := cell_of_heap X0.out rfl
  have x3 : w1.cell? ⟨w.heap.size, 3, none⟩ = some (.bool a.a0.v) := cell_of_heap X0.out rfl
  have x4 : w1.cell? ⟨w.heap.size, 4, none⟩ = some (.string a.a0.name) := cell_of_heap X0.out rfl
  have x5 : w1.cell? ⟨w.heap.size, 5, none⟩ = some (.bool a.a1.v) := cell_of_heap X0.out rfl
  have x6 : w1.cell? ⟨w.heap.size, 6, none⟩ = some (.string a.a1.name) := cell_of_heap X0.out rfl
  have x7 : w1.cell? ⟨w.heap.size, 7, none⟩ = some (.bool a.a2.v) := cell_of_heap X0.out rfl
  have x8 : w1.cell? ⟨w.heap.size, 8, none⟩ = some (.string a.a2.name) := cell_of_heap X0.out rfl
  have x9 : w1.cell? ⟨w.heap.size, 9, none⟩ = some (.bool a.a3.v) := cell_of_heap X0.out rfl
  have x10 : w1.cell? ⟨w.heap.size, 10, none⟩ = some (.string a.a3.name) := cell_of_heap X0.out rfl
  unfold amV Atm.cells at K
  go_wp2_with (fail)
  refine (K.out _).mono ?_
  rintro _ w3 ⟨v, rfl, C⟩
  have HC := Lib.hid C
  clear C
  go_wp2_with (fail)
  go_ret
  exact ⟨_, rfl, HC.out.1, B0.out.trans (HC.out.2.1.mono B0.out.size), fun k hk => Nat.le_trans B0.out.size (HC.out.2.2 k hk)⟩
end Go.Proofs.YtinbfakpjnnagaaGreatDoor
