/-
  Chapter 4: names: the walk.
-/
import Derived.Test.YtaeehadibckcjaaDoorSo
namespace Go.Proofs.YtaeehadibckcjaaDoor
open Go.RowKit Go.Vs Go.Maps Go.ChangeMaps Go.WideMaps

theorem arg_okay {a : Atm} (h : Atm.okay a) (k : Nat) : Tm.okay (a.arg k) := by
  obtain ⟨_, _, _, g0, g1, g2, g3⟩ := h
  match k with
  | 0 => exact g0
  | 1 => exact g1
  | 2 => exact g2
  | k + 3 => exact g3

theorem Tryd.infoS : (Tryd.prog.info? 9).map (fun i => (i.zero, i.size, i.bytes)) = some (some (.string ⟨#[]⟩), 1, 16) := by kernel_rfl

theorem pnames_in {a : Atm} {v : Bool} {k : Nat} (h1 : (a.arg k).v = v) (h2 : pseen a k k = false) : pnamesK a v (k + 1) = pnamesK a v k ++ [(a.arg k).name] := by
  rw [pnamesK, if_pos ⟨h1, h2⟩]
theorem pnames_out {a : Atm} {v : Bool} {k : Nat} (h : (a.arg k).v ≠ v ∨ pseen a k k = true) : pnamesK a v (k + 1) = pnamesK a v k := by
  rw [pnamesK, if_neg (by rintro ⟨h1, h2⟩; rcases h with h | h; exact h h1; rw [h2] at h; cases h), List.append_nil]

end Go.Proofs.YtaeehadibckcjaaDoor
