/-
  What an argument of plain data looks like in memory: its cells by shape, slices of such at whatever depth; no program in sight.
-/
import Derived.Test.YtaeehadibckcjaaDoorPRRow
import Derived.Deep.Slices
import Derived.ProofKit
import Derived.OpenShut
namespace Go.Vs
open Go.RowKit Go.Maps Go.ChangeShapes Go.WideShapes Go.Deep
section
variable (P : Program)
end
section
variable {H : Type} {enc : TypeId × Value → H} {P : Program} {w : World} {base : Nat} {spare : Nat → Bool} {held : Bool}
end
/-! ### lists of plain records -/
theorem flat_get {T : Type} (enc : T → List Value) (k : Nat) (hk : ∀ x, (enc x).length = k) : ∀ (xs : List T) (i j : Nat) (hi : i < xs.length), j < k → (xs.flatMap enc)[i * k + j]? = (enc xs[i])[j]?
  | [], i, _, hi, _ => absurd hi (Nat.not_lt_zero _)
  | x :: xs, 0, j, _, hj => by
    rw [List.flatMap_cons, Nat.zero_mul, Nat.zero_add, List.getElem?_append_left (by rw [hk]; exact hj)]
    rfl
  | x :: xs, i + 1, j, hi, hj => by
    rw [List.flatMap_cons, List.getElem?_append_right (by rw [hk, Nat.add_mul]; omega), hk, show (i + 1) * k + j - k = i * k + j by rw [Nat.add_mul]; omega]
    exact flat_get enc k hk xs i j (by simpa using hi) hj
theorem flat_len {T : Type} (enc : T → List Value) (k : Nat) (hk : ∀ x, (enc x).length = k) : ∀ xs : List T, (xs.flatMap enc).length = xs.length * k
  | [] => by simp
  | x :: xs => by rw [List.flatMap_cons, List.length_append, hk, flat_len enc k hk xs, List.length_cons, Nat.add_mul]; omega
/-! ### an argument, opened -/
section
variable {H : Type} {enc : TypeId × Value → H} {P : Program} {w : World} {base b0 : Nat} {spare : Nat → Bool} {held : Bool} {r : Reach} {d : Nat} {t : TypeId} {v : Value} {x : DataW H} {ps : List MemPlace}
theorem arg_string (ht : P.underlying t = some .string) (hval : Value.okWide P w r b0 t v) (hd : DataW.Trod enc P w base spare held t v x ps) : ∃ s : ByteArray, v = .string s ∧ s.size ≤ maxLen := by
  obtain ⟨s, rfl⟩ := okWide_string ht hval
  obtain ⟨fuel, hf⟩ := hd
  obtain ⟨s', h, _, hw⟩ := DataW.trod_string ht hf
  simp [Value.cells] at h
  subst h
  exact ⟨_, rfl, hw⟩
end
end Go.Vs
