/-
  What an argument of plain data looks like in memory: its cells by shape, slices of such at whatever depth; no program in sight.
-/
import Derived.Test.YtaeehadibckcjaaDoorPLRow
import Derived.Deep.Slices
import Derived.ProofKit
import Derived.OpenShut
namespace Go.Vs
open Go.RowKit Go.Maps Go.ChangeShapes Go.WideShapes Go.Deep
inductive Sh where
  | str | int | bool
  | sl (es : List Sh)
def all2 {α β : Type} (R : α → β → Prop) : List α → List β → Prop
  | [], [] => True
  | a :: as, b :: bs => R a b ∧ all2 R as bs
  | _, _ => False
theorem all2_cons {α β : Type} {R : α → β → Prop} {a : α} {as : List α} {cs : List β} (h : all2 R (a :: as) cs) : ∃ b bs, cs = b :: bs ∧ R a b ∧ all2 R as bs := by
  cases cs with
  | nil => exact h.elim
  | cons b bs => exact ⟨b, bs, rfl, h.1, h.2⟩
theorem all2_nil {α β : Type} {R : α → β → Prop} {cs : List β} (h : all2 R [] cs) : cs = [] := by
  cases cs with
  | nil => rfl
  | cons b bs => exact h.elim
theorem all2.imp {α β : Type} {R S : α → β → Prop} (hrs : ∀ a b, R a b → S a b) : ∀ {as : List α} {bs : List β}, all2 R as bs → all2 S as bs
  | [], [], _ => trivial
  | _ :: _, _ :: _, h => ⟨hrs _ _ h.1, all2.imp hrs h.2⟩
section
variable (P : Program)
def shFields (rec : TypeId → Option (List Sh)) : Nat → List Field → Option (List Sh)
  | _, [] => some []
  | off, f :: fs =>
    if f.offset = off then
      match rec f.type, shFields rec (off + P.cellsOf f.type) fs with
      | some a, some b => if a.length = P.cellsOf f.type then some (a ++ b) else none
      | _, _ => none
    else none
def shapeOf : Nat → TypeId → Option (List Sh)
  | 0, _ => none
  | d + 1, t =>
    match P.underlying t with
    | some .bool => some [.bool]
    | some (.int .i64) => some [.int]
    | some .string => some [.str]
    | some (.slice e) =>
      match shapeOf d e with
      | some es => if es.length = P.cellsOf e then some [.sl es] else none
      | none => none
    | some (.struct fs) =>
      match shFields P (shapeOf d) 0 fs.toList with
      | some ks => if ks.length = P.cellsOf t then some ks else none
      | none => none
    | some (.array n e) =>
      match shapeOf d e with
      | some es => if es.length = P.cellsOf e ∧ n * es.length = P.cellsOf t then some (List.replicate n es).flatten else none
      | none => none
    | _ => none
end
theorem forall2_append {α β : Type} {R : α → β → Prop} : ∀ {a b : List α} {c d : List β}, all2 R a c → all2 R b d → all2 R (a ++ b) (c ++ d)
  | [], _, [], _, _, h2 => h2
  | _ :: _, _, _ :: _, _, h1, h2 => ⟨h1.1, forall2_append h1.2 h2⟩
theorem forall2_length {α β : Type} {R : α → β → Prop} : ∀ {a : List α} {c : List β}, all2 R a c → a.length = c.length
  | [], [], _ => rfl
  | _ :: _, _ :: _, h => by simp [forall2_length h.2]
section
variable {H : Type} {enc : TypeId × Value → H} {P : Program} {w : World} {base : Nat} {spare : Nat → Bool} {held : Bool}
theorem cells_rows {a : Addr} {k n : Nat} {C : Nat → List Value} (hC : ∀ i, i < n → w.cells? base (a.add (i * k)) k = some (C i)) :
    ∃ xs : List Value, xs.length = n * k ∧ (∀ i, i < n → (xs.drop (i * k)).take k = C i) ∧ ∀ j u, xs[j]? = some u → w.cell? (a.add j) = some u := by
  induction n with
  | zero => exact ⟨[], by simp, fun i hi => absurd hi (Nat.not_lt_zero _), by simp⟩
  | succ n ih =>
    obtain ⟨xs, h1, h2, h3⟩ := ih (fun i hi => hC i (by omega))
    obtain ⟨_, hl, hc⟩ := World.cells?_some (hC n (by omega))
    refine ⟨xs ++ C n, by rw [List.length_append, h1, hl, Nat.add_mul]; omega, fun i hi => ?_, fun j u hu => ?_⟩
    · rcases Nat.lt_succ_iff_lt_or_eq.1 hi with h | rfl
      · have hle : i * k + k ≤ xs.length := by
          rw [h1, ← Nat.succ_mul]
          exact Nat.mul_le_mul_right k h
        rw [List.drop_append_of_le_length (by omega), List.take_append_of_le_length (by rw [List.length_drop]; omega)]
        exact h2 i h
      · rw [← h1, List.drop_left, List.take_of_length_le (by omega)]
    · rw [List.getElem?_append] at hu
      split at hu
      · exact h3 j u hu
      · rename_i hj
        have hj2 : j - xs.length < (C n).length := by
          rcases Nat.lt_or_ge (j - xs.length) (C n).length with h | h
          · exact h
          · rw [List.getElem?_eq_none h] at hu; cases hu
        have := hc (j - xs.length) (by omega)
        rw [add_add, show n * k + (j - xs.length) = j by omega] at this
        rw [this]
        exact hu
end
/-! ### lists of plain records -/
theorem flat_get {T : Type} (enc : T → List Value) (k : Nat) (hk : ∀ x, (enc x).length = k) : ∀ (xs : List T) (i j : Nat) (hi : i < xs.length), j < k → (xs.flatMap enc)[i * k + j]? = (enc xs[i])[j]?
  | [], i, _, hi, _ => absurd hi (Nat.not_lt_zero _)
  | x :: xs, 0, j, _, hj => by
    rw [List.flatMap_cons, Nat.zero_mul, Nat.zero_add, List.getElem?_append_left (by rw [hk]; exact hj)]
    rfl
  | x :: xs, i + 1, j, hi, hj => by
    rw [List.flatMap_cons, List.getElem?_append_right (by rw [hk, Nat.add_mul]; omega), hk, show (i + 1) * k + j - k = i * k + j by rw [Nat.add_mul]; omega]
    exact flat_get enc k hk xs i j (by simpa using hi) hj
/-! ### an argument, opened -/
section
variable {H : Type} {enc : TypeId × Value → H} {P : Program} {w : World} {base b0 : Nat} {spare : Nat → Bool} {held : Bool} {r : Reach} {d : Nat} {t : TypeId} {v : Value} {x : DataW H} {ps : List MemPlace}
end
end Go.Vs
