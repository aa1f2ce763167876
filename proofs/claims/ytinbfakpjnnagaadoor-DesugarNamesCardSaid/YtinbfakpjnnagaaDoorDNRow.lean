/-
  Slices whose cells are read, and the append to a slice of the call's own, whatever the source; no program in sight.
-/
import Derived.Test.YtinbfakpjnnagaaDoorDNLib
import Derived.Laws.AppendOwnNone
import Derived.Deep.Draws
namespace Go.Vs
open Go.RowKit Go.Maps
def Rd (w : World) (size : Nat) (v : Value) (n : Nat) (xs : List Value) : Prop :=
  xs.length = n * size ∧ ((v = .slice none 0 0 ∧ n = 0) ∨
    ∃ a cap, v = .slice (some a) n cap ∧ n ≤ cap ∧ cap ≤ maxLen ∧ ∀ j u, xs[j]? = some u → w.cell? (a.add j) = some u)
theorem add_none (b off j : Nat) : (⟨b, off, none⟩ : Addr).add j = ⟨b, off + j, none⟩ := by unfold Addr.add; split <;> simp_all
theorem add_block (a : Addr) (j : Nat) : (a.add j).block = a.block := by unfold Addr.add; split <;> rfl
theorem spot_of_cell {w : World} {a : Addr} {u : Value} (h : w.cell? a = some u) : a.spot = none := by
  unfold World.cell? at h
  split at h
  · split at h
    · cases h
    · rename_i hs; simpa using hs
  · cases h
theorem spot_of_add {w : World} {a : Addr} {u : Value} (h : w.cell? (a.add 0) = some u) : a.spot = none := by
  have e : a.add 0 = a := by unfold Addr.add; simp
  rw [e] at h
  exact spot_of_cell h
theorem Rd.mk' {w : World} {size n b off cap : Nat} {xs : List Value} (h1 : xs.length = n * size) (h2 : n ≤ cap) (h3 : cap ≤ maxLen) (h4 : ∀ j u, xs[j]? = some u → w.cell? ⟨b, off + j, none⟩ = some u) : Rd w size (.slice (some ⟨b, off, none⟩) n cap) n xs :=
  ⟨h1, Or.inr ⟨_, cap, rfl, h2, h3, fun j u hu => by rw [add_none]; exact h4 j u hu⟩⟩
def sblk : Value → Option Nat
  | .slice (some a) _ _ => some a.block
  | _ => none
theorem Rd.cellsOf {w w' : World} {size : Nat} {v : Value} {n : Nat} {xs : List Value} (h : Rd w size v n xs) (hc : ∀ b o u, sblk v = some b → b < w.heap.size → w.cell? ⟨b, o, none⟩ = some u → w'.cell? ⟨b, o, none⟩ = some u) : Rd w' size v n xs := by
  refine ⟨h.1, ?_⟩
  rcases h.2 with h2 | ⟨a, cap, rfl, h3, h4, h5⟩
  · exact Or.inl h2
  · refine Or.inr ⟨a, cap, rfl, h3, h4, fun j u hu => ?_⟩
    have hcell := h5 j u hu
    have hs := spot_of_cell hcell
    have hlt := World.block_lt_of_cell? w _ hcell
    have hb := add_block a j
    generalize a.add j = c at *
    obtain ⟨cb, co, cs⟩ := c
    simp only at hs hb hlt
    subst hs
    exact hc cb co u (by rw [hb]; rfl) hlt hcell
theorem Rd.below {B : Nat} {w w' : World} {size : Nat} {v : Value} {n : Nat} {xs : List Value} (h : Rd w size v n xs) (ht : Below B w w') (hb : ∀ b, sblk v = some b → b < B) : Rd w' size v n xs :=
  h.cellsOf fun b o u hs _ hc => by rw [ht.cell (p := ⟨b, o, none⟩) (hb b hs)]; exact hc
theorem Rd.kept {w w' : World} {size : Nat} {v : Value} {n : Nat} {xs : List Value} (h : Rd w size v n xs) (ht : Below w.heap.size w w') : Rd w' size v n xs :=
  h.cellsOf fun b o u _ hlt hc => by rw [ht.cell (p := ⟨b, o, none⟩) hlt]; exact hc
theorem Rd.drew {w : World} {size : Nat} {v : Value} {n : Nat} {xs : List Value} (h : Rd w size v n xs) : Rd w.drew size v n xs := h
theorem Rd.lt {w : World} {size : Nat} {v : Value} {n : Nat} {xs : List Value} (h : Rd w size v n xs) (hn : 0 < n) (hs : 0 < size) : ∀ b, sblk v = some b → b < w.heap.size := by
  intro b hb
  rcases h.2 with ⟨rfl, h2⟩ | ⟨a, cap, rfl, h3, h4, h5⟩
  · omega
  · simp [sblk] at hb
    subst hb
    have hl : 0 < xs.length := by rw [h.1]; exact Nat.mul_pos hn hs
    have := World.block_lt_of_cell? w _ (h5 0 xs[0] (by simp [hl]))
    rwa [add_block] at this
theorem own_turns {F : Nat → Prop} {w w' : World} {base : Nat} {e : TypeId} {size : Nat} {v : Value} {n : Nat} {xs : List Value} (h : w.ownsRow base e size v n xs) (ht : Turns F w w') (hb : ∀ b, sblk v = some b → ¬ F b) : w'.ownsRow base e size v n xs := by
  refine ⟨h.1, ?_⟩
  rcases h.2 with hn | ⟨g, cap, cur, rfl, hbg, hg, rest⟩
  · exact Or.inl hn
  · exact Or.inr ⟨g, cap, cur, rfl, hbg, (ht.block g (Array.getElem?_eq_some_iff.1 hg).1 (hb g rfl)).trans hg, rest⟩
section
variable {P : Program} (w : World) {ops : Array Oper} {rest : List Oper} {o : Oper} {a : Act} {Q : Exit → Act → World → Prop}
end
end Go.Vs
namespace Go.Vs
open Go.RowKit Go.Maps
theorem Rd.shape {w : World} {size : Nat} {v : Value} {n : Nat} {xs : List Value} (h : Rd w size v n xs) (hsz : 0 < size := by omega) :
    ∃ a cap, v = .slice a n cap ∧ n ≤ maxLen ∧ (0 < n → ∃ b off, a = some ⟨b, off, none⟩ ∧ n ≤ cap ∧ cap ≤ maxLen ∧ b < w.heap.size ∧ ∀ j u, xs[j]? = some u → w.cell? ⟨b, off + j, none⟩ = some u) := by
  rcases h.2 with ⟨rfl, rfl⟩ | ⟨a, cap, rfl, h3, h4, h5⟩
  · exact ⟨none, 0, rfl, Nat.zero_le _, fun h => absurd h (Nat.lt_irrefl _)⟩
  · refine ⟨_, cap, rfl, Nat.le_trans h3 h4, fun hn => ?_⟩
    have hl : 0 < xs.length := by rw [h.1]; exact Nat.mul_pos hn hsz
    have h0 := h5 0 xs[0] (by simp [hl])
    have hs := spot_of_add h0
    have hlt := World.block_lt_of_cell? w _ h0
    rw [add_block] at hlt
    obtain ⟨b, o, sp⟩ := a
    simp only at hs hlt
    subst hs
    exact ⟨b, o, rfl, h3, h4, hlt, fun j u hu => by rw [← add_none]; exact h5 j u hu⟩
def RdS (w : World) (v : Value) (xs : List ByteArray) : Prop := Rd w 1 v xs.length (xs.map Value.string)
theorem RdS.cell {w : World} {xs : List ByteArray} {b off : Nat} (h : ∀ j u, (xs.map Value.string)[j]? = some u → w.cell? ⟨b, off + j, none⟩ = some u) {i : Nat} (hi : i < xs.length) :
    w.cell? ⟨b, off + i, none⟩ = some (.string xs[i]) := h i _ (by simp [hi])
end Go.Vs
namespace Go.Vs
open Go.RowKit Go.Maps
end Go.Vs
namespace Go.Vs
open Go.RowKit Go.Maps
section
variable {P : Program} (w : World)
end
end Go.Vs
namespace Go.Vs
end Go.Vs
namespace Go.Vs
/-! ### the code from a region on -/
end Go.Vs
namespace Go.Vs
open Go.RowKit Go.Maps
/-! ### a part of a slice -/
section
variable {P : Program} (w : World)
variable {ops : Array Oper} {rest : List Oper} {o : Oper} {a : Act} {Q : Exit → Act → World → Prop}
end
end Go.Vs
namespace Go.Vs
open Go.RowKit Go.Maps
end Go.Vs
namespace Go.Vs
section
variable {P : Program} {w : World} {ops : Array Oper} {rest : List Oper} {o : Oper} {a : Act} {Q : Exit → Act → World → Prop}
end
end Go.Vs
namespace Go.Vs
open Go.RowKit Go.Maps
end Go.Vs
