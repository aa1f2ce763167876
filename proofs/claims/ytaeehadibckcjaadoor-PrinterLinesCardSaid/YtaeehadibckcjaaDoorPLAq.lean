/-
  Arguments of plain data, opened as abstract values, slices in slices too. No program in sight.
-/
import Derived.Test.YtaeehadibckcjaaDoorPLAp
import Derived.Test.YtaeehadibckcjaaDoorPLOpen
set_option linter.unusedVariables false
set_option linter.unusedSimpArgs false
namespace Go.Vs.Ab
open Go.RowKit Go.Maps Go.ChangeShapes Go.WideShapes Go.Deep
theorem Reps.nil {X : Mem} : Reps X [] [] := ⟨rfl, fun i c x h => by simp at h⟩
theorem Reps.cons {X : Mem} {c : AV} {v : Value} {cs : List AV} {vs : List Value} (h : Rep X c v) (k : Reps X cs vs) : Reps X (c :: cs) (v :: vs) :=
  ⟨by simp [k.1], fun i d x h1 h2 => by
    cases i with
    | zero => simp at h1 h2; subst h1 h2; exact h
    | succ i => exact k.2 i d x (by simpa using h1) (by simpa using h2)⟩
theorem RepCs.nil {C : Nat → Nat → Option Value} : RepCs C [] [] := ⟨rfl, fun i c x h => by simp at h⟩
theorem RepCs.cons {C : Nat → Nat → Option Value} {c : CV} {v : Value} {cs : List CV} {vs : List Value} (h : RepC C c v) (k : RepCs C cs vs) : RepCs C (c :: cs) (v :: vs) :=
  ⟨by simp [k.1], fun i d x h1 h2 => by
    cases i with
    | zero => simp at h1 h2; subst h1 h2; exact h
    | succ i => exact k.2 i d x (by simpa using h1) (by simpa using h2)⟩
theorem RepCs.append {C : Nat → Nat → Option Value} {a b : List CV} {x y : List Value} (h : RepCs C a x) (k : RepCs C b y) : RepCs C (a ++ b) (x ++ y) := repcs_append h k
theorem rowsC_of {T : Type} {C : Nat → Nat → Option Value} (enc : T → List CV) (good : T → Prop) (k : Nat) : ∀ (n : Nat) (cs : List Value), cs.length = n * k →
    (∀ i, i < n → ∃ x, RepCs C (enc x) ((cs.drop (i * k)).take k) ∧ good x) → ∃ xs : List T, xs.length = n ∧ RepCs C (xs.flatMap enc) cs ∧ ∀ x ∈ xs, good x
  | 0, cs, hl, _ => by
    have : cs = [] := by simpa using hl
    subst this
    exact ⟨[], rfl, RepCs.nil, by simp⟩
  | n + 1, cs, hl, h => by
    obtain ⟨x, hx, hg⟩ := h 0 (by omega)
    rw [Nat.zero_mul, List.drop_zero] at hx
    obtain ⟨xs, h1, h2, h3⟩ := rowsC_of enc good k n (cs.drop k) (by rw [List.length_drop, hl, Nat.add_mul]; omega) (fun i hi => by
      obtain ⟨y, hy, hgy⟩ := h (i + 1) (by omega)
      refine ⟨y, ?_, hgy⟩
      rw [List.drop_drop]
      rwa [Nat.add_mul, Nat.one_mul, Nat.add_comm] at hy)
    refine ⟨x :: xs, by simp [h1], ?_, ?_⟩
    · rw [List.flatMap_cons]
      have := hx.append h2
      rwa [List.take_append_drop] at this
    · intro y hy
      rcases List.mem_cons.1 hy with rfl | hy
      · exact hg
      · exact h3 y hy
section
variable {H : Type} {enc : TypeId × Value → H} {P : Program} {w : World} {base b0 : Nat} {spare : Nat → Bool} {held : Bool} {r : Reach} {d : Nat} {t : TypeId} {v : Value} {x : DataW H} {ps : List MemPlace}
end
def AtOk (a : Atm) : Prop := a.says.size ≤ maxLen ∧ a.pred.size ≤ maxLen ∧ (Lit.int .i64 a.n).wf = true ∧ a.a0.name.size ≤ maxLen ∧ a.a1.name.size ≤ maxLen ∧ a.a2.name.size ≤ maxLen ∧ a.a3.name.size ≤ maxLen
end Go.Vs.Ab
