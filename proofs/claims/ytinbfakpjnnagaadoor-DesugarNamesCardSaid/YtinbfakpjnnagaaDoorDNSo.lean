/-
  Chapter 4: names: the collection; what it collects.
-/
import Derived.Test.YtinbfakpjnnagaaDoorDNSn
namespace Go.Proofs.YtinbfakpjnnagaaDoor
open Go.RowKit Go.Vs Go.Maps Go.ChangeMaps Go.WideMaps
def ColS (w : World) (P : List ByteArray) (v : Value) (wr : World) : Prop :=
  wr.ownsRow 0 9 1 v P.length (P.map Value.string) ∧ Below w.heap.size w wr ∧ ∀ k, sblk v = some k → w.heap.size ≤ k
theorem ColS.below {w wr w' : World} {P : List ByteArray} {v : Value} (c : ColS w P v wr) (t : Below wr.heap.size wr w') : ColS w P v w' :=
  ⟨own_turns c.1 (F := fun _ => False) ⟨t.os, t.tape, t.output, t.size, fun k hk _ => t.block k hk⟩ (fun _ _ h => h), c.2.1.trans (t.mono c.2.1.size), c.2.2⟩
theorem ColS.push {w wr w1 : World} {P : List ByteArray} {v v' : Value} {b : ByteArray} {t : TypeId} (c : ColS w P v wr)
    (hown : w1.ownsRow 0 9 1 v' (P.length + 1) (P.map Value.string ++ (#[Value.string b]).toList))
    (hg : (wr.alloc (.cells #[.string b] t)).grownBy w1 (sblk v)) (hl : sblk v' = sblk v ∨ sblk v' = some (wr.alloc (.cells #[.string b] t)).heap.size) :
    ColS w (P ++ [b]) v' w1 := by
  refine ⟨by simpa using hown, (c.2.1.alloc c.2.1.size _).grown hg (by rw [hsize_alloc]; have := c.2.1.size; omega) c.2.2, fun k hk => ?_⟩
  rcases hl with h | h
  · exact c.2.2 k (h ▸ hk)
  · rw [h] at hk
    injection hk with hk
    rw [hsize_alloc] at hk
    have := c.2.1.size
    omega
def pseen (a : Atm) (i j : Nat) : Bool := (a.args.take j).any (fun t => decide (t = a.arg i))
def pnamesK (a : Atm) (v : Bool) : Nat → List ByteArray
  | 0 => []
  | k + 1 => pnamesK a v k ++ (if (a.arg k).v = v ∧ pseen a k k = false then [(a.arg k).name] else [])
def pnames (a : Atm) (v : Bool) : List ByteArray := pnamesK a v a.count
theorem pseen_next (a : Atm) (i : Nat) {j : Nat} (hj : j < 4) : pseen a i (j + 1) = (pseen a i j || decide (a.arg j = a.arg i)) := by
  unfold pseen
  generalize a.arg i = t
  obtain rfl | rfl | rfl | rfl : j = 0 ∨ j = 1 ∨ j = 2 ∨ j = 3 := by omega
  all_goals simp [Atm.args, Atm.arg, Bool.or_assoc]
end Go.Proofs.YtinbfakpjnnagaaDoor
