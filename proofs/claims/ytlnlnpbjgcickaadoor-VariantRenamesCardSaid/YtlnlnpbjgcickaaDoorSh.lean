/-
  Chapter 4: Restrict.
-/
import Derived.Test.YtlnlnpbjgcickaaDoorSg
namespace Go.Proofs.YtlnlnpbjgcickaaDoor
open Go.RowKit Go.Vs Go.Maps Go.ChangeMaps Go.WideMaps

/-- What has been collected is P, in a slice of the call's own. -/
def ColB (w : World) (P : List Bd) (v : Value) (wr : World) : Prop :=
  wr.ownsRow 0 45 3 v P.length (P.flatMap Bd.enc) ∧ Below w.heap.size w wr ∧ ∀ k, sblk v = some k → w.heap.size ≤ k

theorem ColB.below {w wr w' : World} {P : List Bd} {v : Value} (c : ColB w P v wr) (t : Below wr.heap.size wr w') : ColB w P v w' :=
  ⟨own_turns c.1 (F := fun _ => False) ⟨t.os, t.tape, t.output, t.size, fun k hk _ => t.block k hk⟩ (fun _ _ h => h), c.2.1.trans (t.mono c.2.1.size), c.2.2⟩

theorem ColB.push {w wr w1 : World} {P : List Bd} {v v' : Value} {b : Bd} {t : TypeId} (c : ColB w P v wr)
    (hown : w1.ownsRow 0 45 3 v' (P.length + 1) (P.flatMap Bd.enc ++ (#[Value.string b.var, Value.bool b.t.v, Value.string b.t.name]).toList))
    (hg : (wr.alloc (.cells #[.string b.var, .bool b.t.v, .string b.t.name] t)).grownBy w1 (sblk v)) (hl : sblk v' = sblk v ∨ sblk v' = some (wr.alloc (.cells #[.string b.var, .bool b.t.v, .string b.t.name] t)).heap.size) :
    ColB w (P ++ [b]) v' w1 := by
  refine ⟨by simpa [Bd.enc] using hown, (c.2.1.alloc c.2.1.size _).grown hg (by rw [hsize_alloc]; have := c.2.1.size; omega) c.2.2, fun k hk => ?_⟩
  rcases hl with h | h
  · exact c.2.2 k (h ▸ hk)
  · rw [h] at hk
    injection hk with hk
    rw [hsize_alloc] at hk
    have := c.2.1.size
    omega

theorem bd_one (b : Bd) : ∀ u ∈ (#[Value.string b.var, Value.bool b.t.v, Value.string b.t.name]).toList, u.oneCell' = true := by
  intro u hu
  simp at hu
  rcases hu with rfl | rfl | rfl <;> rfl

theorem restrict_in {l : List Bd} {vars : List ByteArray} {k : Nat} (hk : k < l.length) (h : pin vars l[k].var = true) : prestrict (l.take (k + 1)) vars = prestrict (l.take k) vars ++ [l[k]] := by
  unfold prestrict
  rw [List.take_succ_eq_append_getElem hk, List.filter_append]
  simp [h]

theorem restrict_out {l : List Bd} {vars : List ByteArray} {k : Nat} (hk : k < l.length) (h : pin vars l[k].var = false) : prestrict (l.take (k + 1)) vars = prestrict (l.take k) vars := by
  unfold prestrict
  rw [List.take_succ_eq_append_getElem hk, List.filter_append]
  simp [h]

end Go.Proofs.YtlnlnpbjgcickaaDoor
