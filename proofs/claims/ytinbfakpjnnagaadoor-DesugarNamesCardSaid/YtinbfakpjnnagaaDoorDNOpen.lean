/-
  What an argument of plain data looks like in memory: its cells by shape, slices of such at whatever depth; no program in sight.
-/
import Derived.Test.YtinbfakpjnnagaaDoorDNRow
import Derived.Deep.Slices
import Derived.ProofKit
import Derived.OpenShut
namespace Go.Vs
open Go.RowKit Go.Maps Go.ChangeShapes Go.WideShapes Go.Deep
def all2 {α β : Type} (R : α → β → Prop) : List α → List β → Prop
  | [], [] => True
  | a :: as, b :: bs => R a b ∧ all2 R as bs
  | _, _ => False
theorem all2.imp {α β : Type} {R S : α → β → Prop} (hrs : ∀ a b, R a b → S a b) : ∀ {as : List α} {bs : List β}, all2 R as bs → all2 S as bs
  | [], [], _ => trivial
  | _ :: _, _ :: _, h => ⟨hrs _ _ h.1, all2.imp hrs h.2⟩
section
variable (P : Program)
end
section
variable {H : Type} {enc : TypeId × Value → H} {P : Program} {w : World} {base : Nat} {spare : Nat → Bool} {held : Bool}
end
/-! ### lists of plain records -/
theorem flat_get {T : Type} (enc : T → List Value) (k : Nat) (hk : ∀ x, (enc x).length = k) : ∀ (xs : List T) (i j : Nat) (hi : i < xs.length), j < k → (xs.flatMap enc)[i * k + j]? = (enc xs[i])[j]?
  | [], i, _, hi, _ => absurd hi (Nat.not_lt_zero _)
  | x :: xs, 0, j, _, hj => by
    rw [List.flatMap_cons, Nat.zero_mul, Nat.zero_add, List.getElem?_append_left (by rw [hk]; exact hj)]
    rfl
  | x :: xs, i + 1, j, hi, hj => by
    rw [List.flatMap_cons, List.getElem?_append_right (by rw [hk, Nat.add_mul]; omega), hk, show (i + 1) * k + j - k = i * k + j by rw [Nat.add_mul]; omega]
    exact flat_get enc k hk xs i j (by simpa using hi) hj
/-! ### an argument, opened -/
section
variable {H : Type} {enc : TypeId × Value → H} {P : Program} {w : World} {base b0 : Nat} {spare : Nat → Bool} {held : Bool} {r : Reach} {d : Nat} {t : TypeId} {v : Value} {x : DataW H} {ps : List MemPlace}
end
end Go.Vs
