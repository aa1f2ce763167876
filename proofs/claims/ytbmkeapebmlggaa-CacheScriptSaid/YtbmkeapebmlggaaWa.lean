/-
  The walks of the ring's four methods.
-/
import Derived.Test.YtbmkeapebmlggaaRows
import Derived.Test.YtbmkeapebmlggaaRing
import Derived.WalkKit
import Derived.WalkSpells
import Derived.WalkLawsBesides
import Derived.RegionTactic
import Derived.BigRegion
namespace Go.Proofs.Ytbmkeapebmlggaa
open Go.RowKit Go.Vs

set_option maxHeartbeats 1000000 in
theorem close_any (w : World) (b : Nat) (v3 v4 : Value) (hc3 : w.cell? ⟨b, 3, none⟩ = some v3) (hc4 : w.cell? ⟨b, 4, none⟩ = some v4)
   (hf3 : w.frozen? ⟨b, 3, none⟩ = false) (hf4 : w.frozen? ⟨b, 4, none⟩ = false) :
    Calls Try.prog 26 #[.pointer (some ⟨b, 0, none⟩)] w fun e w' => e = .returned (.tuple #[]) ∧
      w' = ((w.setCell ⟨b, 3, none⟩ (.pointer (some ⟨b, 0, none⟩))).setCell ⟨b, 4, none⟩ (.pointer (some ⟨b, 0, none⟩))).drew := by
  go_enter Try.func26, Try.ntmps26
  go_wp2
  go_region
  go_end0
  exact ⟨rfl, rfl⟩

set_option maxHeartbeats 4000000 in
theorem cut_any (w : World) (b e p n : Nat) (v4 v3 : Value) (he3 : w.cell? ⟨e, 3, none⟩ = some (.pointer (some ⟨p, 0, none⟩)))
   (he4 : w.cell? ⟨e, 4, none⟩ = some (.pointer (some ⟨n, 0, none⟩)))
   (hp4 : w.cell? ⟨p, 4, none⟩ = some v4) (hn3 : w.cell? ⟨n, 3, none⟩ = some v3)
   (hf4 : w.frozen? ⟨p, 4, none⟩ = false) (hf3 : w.frozen? ⟨n, 3, none⟩ = false) :
    Calls Try.prog 29 #[.pointer (some ⟨b, 0, none⟩), .pointer (some ⟨e, 0, none⟩)] w fun e w' => e = .returned (.tuple #[]) ∧
      w' = ((w.setCell ⟨p, 4, none⟩ (.pointer (some ⟨n, 0, none⟩))).setCell ⟨n, 3, none⟩ (.pointer (some ⟨p, 0, none⟩))).drew := by
  go_enter Try.func29, Try.ntmps29
  go_wp2
  go_region
  go_end0
  exact ⟨rfl, rfl⟩

set_option maxHeartbeats 4000000 in
theorem end_any (w : World) (b e l : Nat) (x3 x4 y4 : Value) (hb3 : w.cell? ⟨b, 3, none⟩ = some (.pointer (some ⟨l, 0, none⟩)))
   (he3 : w.cell? ⟨e, 3, none⟩ = some x3)
   (he4 : w.cell? ⟨e, 4, none⟩ = some x4)
   (hl4 : w.cell? ⟨l, 4, none⟩ = some y4)
   (f1 : w.frozen? ⟨b, 3, none⟩ = false) (f2 : w.frozen? ⟨e, 3, none⟩ = false) (f3 : w.frozen? ⟨e, 4, none⟩ = false)
   (f4 : w.frozen? ⟨l, 4, none⟩ = false)  (hbe : b ≠ e) (hle : l ≠ e) :
    Calls Try.prog 27 #[.pointer (some ⟨b, 0, none⟩), .pointer (some ⟨e, 0, none⟩)] w fun e' w' => e' = .returned (.tuple #[]) ∧
      w' = ((((w.setCell ⟨e, 3, none⟩ (.pointer (some ⟨l, 0, none⟩))).setCell ⟨e, 4, none⟩ (.pointer (some ⟨b, 0, none⟩))).setCell ⟨l, 4, none⟩ (.pointer (some ⟨e, 0, none⟩))).setCell ⟨b, 3, none⟩ (.pointer (some ⟨e, 0, none⟩))).drew := by
  go_enter Try.func27, Try.ntmps27
  go_wp2
  go_region
  go_wp2
  go_end0
  exact ⟨rfl, rfl⟩

set_option maxHeartbeats 400000 in
theorem oldest_any (w : World) (b : Nat) (v : Value) (hc : w.cell? ⟨b, 4, none⟩ = some v) :
    Calls Try.prog 28 #[.pointer (some ⟨b, 0, none⟩)] w fun e w' => e = .returned v ∧ w = w' := by
  go_enter Try.func28, Try.ntmps28
  go_wp2
  go_ret
  exact ⟨rfl, rfl⟩

end Go.Proofs.Ytbmkeapebmlggaa
