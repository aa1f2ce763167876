/-
  Chapter 4: SubstParts: for every list of bindings and every atom the call yields true and leaves what is there as it is.
-/
import Derived.Test.YtkkkpbnehpfkkaaTq
import Derived.Test.YtkkkpbnehpfkkaaOpen
namespace Go.Proofs.Ytkkkpbnehpfkkaa
open Go.RowKit Go.Vs Go.Vs.Ab

theorem bd_dec {d : Nat} {w : World} {cs : List Value} (h : all2 (okc (d + 1) w) [.str, .bool, .str] cs) : ∃ x : Bd, cs = x.enc ∧ True := by
  obtain ⟨c0, r0, rfl, ⟨s0, rfl, _⟩, h1⟩ := all2_cons h
  obtain ⟨c1, r1, rfl, ⟨b1, rfl⟩, h2⟩ := all2_cons h1
  obtain ⟨c2, r2, rfl, ⟨s2, rfl, _⟩, h3⟩ := all2_cons h2
  obtain rfl := all2_nil h3
  exact ⟨⟨s0, ⟨b1, s2⟩⟩, rfl, trivial⟩
theorem at_dec {d : Nat} {w : World} {cs : List Value} (h : all2 (okc (d + 1) w) [.str, .str, .int, .bool, .str, .bool, .str, .bool, .str, .bool, .str] cs) : ∃ x : Atm, cs = x.cells.toList ∧ Atm.okay x := by
  obtain ⟨c0, r0, rfl, ⟨s0, rfl, g0⟩, h1⟩ := all2_cons h
  obtain ⟨c1, r1, rfl, ⟨s1, rfl, g1⟩, h2⟩ := all2_cons h1
  obtain ⟨c2, r2, rfl, ⟨n, rfl, g2⟩, h3⟩ := all2_cons h2
  obtain ⟨c3, r3, rfl, ⟨b3, rfl⟩, h4⟩ := all2_cons h3
  obtain ⟨c4, r4, rfl, ⟨s4, rfl, g4⟩, h5⟩ := all2_cons h4
  obtain ⟨c5, r5, rfl, ⟨b5, rfl⟩, h6⟩ := all2_cons h5
  obtain ⟨c6, r6, rfl, ⟨s6, rfl, g6⟩, h7⟩ := all2_cons h6
  obtain ⟨c7, r7, rfl, ⟨b7, rfl⟩, h8⟩ := all2_cons h7
  obtain ⟨c8, r8, rfl, ⟨s8, rfl, g8⟩, h9⟩ := all2_cons h8
  obtain ⟨c9, r9, rfl, ⟨b9, rfl⟩, h10⟩ := all2_cons h9
  obtain ⟨c10, r10, rfl, ⟨s10, rfl, g10⟩, h11⟩ := all2_cons h10
  obtain rfl := all2_nil h11
  exact ⟨⟨s0, s1, n, ⟨b3, s4⟩, ⟨b5, s6⟩, ⟨b7, s8⟩, ⟨b9, s10⟩⟩, rfl, g0, g1, g2, g4, g6, g8, g10⟩

theorem parts_walk (w : World) (v : Value) (l : List Bd) (a : Atm) (hR : RdB w v l) (ha : Atm.okay a) : Calls Try.prog 3 #[v, .agg a.cells] w fun e w' => e = .returned (.bool true) ∧ Below w.heap.size w w' :=
  (parts_does l a ha false).bool (mk_reps2 (rep_of_rd vals_bd one_bd hR) (rep_val (av_at a)))
end Go.Proofs.Ytkkkpbnehpfkkaa
