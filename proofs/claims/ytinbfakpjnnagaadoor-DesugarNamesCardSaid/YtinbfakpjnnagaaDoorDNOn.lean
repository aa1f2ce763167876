/-
  Sets of strings as maps: each key with one and the same value. No program in sight.
-/
import Derived.Test.YtinbfakpjnnagaaDoorDNm0
set_option linter.unusedVariables false
set_option linter.unusedSimpArgs false
namespace Go.Vs.Ab
open Go.RowKit
variable {P : Program}
def hasB (l : List ByteArray) (s : ByteArray) : Bool := l.any fun x => decide (x = s)
theorem hasB_iff {l : List ByteArray} {s : ByteArray} : hasB l s = true ↔ s ∈ l := by
  unfold hasB
  rw [List.any_eq_true]
  exact ⟨fun ⟨x, hx, e⟩ => of_decide_eq_true e ▸ hx, fun h => ⟨s, h, decide_eq_true rfl⟩⟩
def addS (l : List ByteArray) (s : ByteArray) : List ByteArray := if hasB l s = true then l else l ++ [s]
theorem addS_mem {l : List ByteArray} {s x : ByteArray} : x ∈ addS l s ↔ x ∈ l ∨ x = s := by
  unfold addS
  split
  · rename_i h
    rw [hasB_iff] at h
    exact ⟨Or.inl, fun h2 => h2.elim id fun e => e ▸ h⟩
  · rw [List.mem_append, List.mem_singleton]
theorem on_none {kt : TypeId} (ht : P.underlying kt = some .string) {u : Value} {l : List ByteArray} {s : ByteArray} (h : s ∉ l) (em : Bool) : mLook P kt (setEs .string u l) (.string s) em = some none := by
  unfold setEs
  rw [mLook_str ht, findE_none (by rw [setEs_keys]; exact h)]
theorem on_some {kt : TypeId} (ht : P.underlying kt = some .string) {u : Value} {l : List ByteArray} {s : ByteArray} (h : s ∈ l) (em : Bool) : mLook P kt (setEs .string u l) (.string s) em = some (some (posOf l s, u)) := by
  unfold setEs
  rw [mLook_str ht]
  obtain ⟨k, v, h1, h2, h3, h4⟩ := findE_some (es := l.map fun x => (x, u)) (i := 0) (x := s) (by rw [setEs_keys]; exact h)
  rw [setEs_keys] at h3
  rw [h4, Nat.zero_add, ← h3]
  rw [List.getElem?_map, Option.map_eq_some_iff] at h2
  obtain ⟨p, h5, h6⟩ := h2
  simp only [Prod.mk.injEq] at h6
  rw [← h6.2]
theorem on_put {kt : TypeId} (ht : P.underlying kt = some .string) {u : Value} (l : List ByteArray) (s : ByteArray) : mPut P kt (setEs .string u l) (.string s) u = some (setEs .string u (addS l s)) := by
  unfold mPut addS
  by_cases h : s ∈ l
  · rw [on_some ht h, if_pos (hasB_iff.2 h)]
    have hp := posOf_lt h
    have hg := posOf_get h
    have hget : (setEs .string u l)[posOf l s]? = some (.string s, u) := by
      simp [setEs, encE, hg]
    simp only [hget]
    rw [if_pos (by show (s == s) = true; rw [ba_beq, decide_eq_true rfl])]
    simp only [setEs, encE, List.map_map]
    congr 1
    apply List.ext_getElem?
    intro j
    rw [List.getElem?_set]
    split
    · rename_i e
      subst e
      rw [List.getElem?_map, hg]
      simp [hp]
    · rfl
  · rw [on_none ht h, if_neg (fun e => h (hasB_iff.1 e))]
    simp [setEs, encE]
theorem setEs_len {u : Value} (l : List ByteArray) : (setEs .string u l).length = l.length := by simp [setEs, encE]
end Go.Vs.Ab
