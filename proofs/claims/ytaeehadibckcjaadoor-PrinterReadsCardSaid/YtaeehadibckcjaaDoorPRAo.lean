/-
  What is known of a call in the program's own terms, in terms of abstract values. No program in sight.
-/
import Derived.Test.YtaeehadibckcjaaDoorPRAn
set_option linter.unusedVariables false
set_option linter.unusedSimpArgs false
namespace Go.Vs.Ab
open Go.RowKit
variable {P : Program} {X : Mem} {W0 w w' : World} {m : Mm}
theorem does_of_callsG {F : FuncId} {args : List AV} {r : AV} {v : Value} (hcb : Callable P F) (hr : avOf v = some r)
    (h : ∀ (X : Mem) (w : World) (vs : Array Value), Gl w → (∀ b o x, X.cell b o = some x → w.cell? ⟨b, o, none⟩ = some x) → Reps X args vs.toList → Calls P F vs w fun e w' => e = .returned v ∧ Below w.heap.size w w') : Does P F args (fun m => (r, m)) := by
  refine ⟨hcb, fun X W0 m w vs M hargs => (h X w vs (M.gl.below M.below) M.cell hargs).mono ?_⟩
  rintro _ w' ⟨rfl, B⟩
  exact ⟨v, X, rfl, Mem.Le.refl _ _, avOf_rep hr, M.grow B, fun i β hi => B.block β (M.locBlock hi).1⟩
theorem does_of_calls {F : FuncId} {args : List AV} {r : AV} {v : Value} (hcb : Callable P F) (hr : avOf v = some r)
    (h : ∀ (X : Mem) (w : World) (vs : Array Value), (∀ b o x, X.cell b o = some x → w.cell? ⟨b, o, none⟩ = some x) → Reps X args vs.toList → Calls P F vs w fun e w' => e = .returned v ∧ Below w.heap.size w w') : Does P F args (fun m => (r, m)) := by
  refine ⟨hcb, fun X W0 m w vs M hargs => (h X w vs M.cell hargs).mono ?_⟩
  rintro _ w' ⟨rfl, B⟩
  exact ⟨v, X, rfl, Mem.Le.refl _ _, avOf_rep hr, M.grow B, fun i β hi => B.block β (M.locBlock hi).1⟩
theorem vals_append {a b : List CV} {x y : List Value} (h : vals a = some x) (k : vals b = some y) : vals (a ++ b) = some (x ++ y) := by
  induction a generalizing x with
  | nil => simp [vals] at h; subst h; simpa using k
  | cons c a ih =>
    cases c with
    | v u =>
      simp only [vals, Option.map_eq_some_iff] at h
      obtain ⟨z, h1, rfl⟩ := h
      simp [vals, ih h1]
    | sl => simp [vals] at h
theorem vals_flat {T : Type} {enc : T → List CV} {encV : T → List Value} (h : ∀ x, vals (enc x) = some (encV x)) : ∀ l : List T, vals (l.flatMap enc) = some (l.flatMap encV)
  | [] => rfl
  | x :: l => by rw [List.flatMap_cons, List.flatMap_cons]; exact vals_append (h x) (vals_flat h l)
theorem vals_st (s : ByteArray) : vals (stC s) = some [Value.string s] := rfl
theorem flat_st (l : List ByteArray) : l.flatMap (fun s => [Value.string s]) = l.map Value.string := by induction l <;> simp_all
theorem reps1 {c : AV} {vs : List Value} (h : Reps X [c] vs) : ∃ v, vs = [v] ∧ Rep X c v := by
  obtain ⟨v, rfl⟩ := List.length_eq_one_iff.1 h.1.symm
  exact ⟨v, rfl, h.2 0 _ _ rfl rfl⟩
theorem reps2 {c d : AV} {vs : List Value} (h : Reps X [c, d] vs) : ∃ v u, vs = [v, u] ∧ Rep X c v ∧ Rep X d u := by
  obtain ⟨v, u, rfl⟩ : ∃ v u, vs = [v, u] := by
    have hl := h.1
    match vs, hl with
    | [v, u], _ => exact ⟨v, u, rfl⟩
    | [], h => simp at h
    | [_], h => simp at h
    | _ :: _ :: _ :: _, h => simp at h
  exact ⟨v, u, rfl, h.2 0 _ _ rfl rfl, h.2 1 _ _ rfl rfl⟩
def all (w : World) : Mem := ⟨fun b o => w.cell? ⟨b, o, none⟩, fun _ => none, fun _ => none, fun _ => 0⟩
theorem Does.bool {F : FuncId} {args : List AV} {b : Bool} (h : Does P F args (fun m => (bA b, m))) {vs : Array Value} (hargs : Reps (all w) args vs.toList) (hg : Gl w := by intro p hp; simp [tabs] at hp) : Calls P F vs w fun e w' => e = .returned (.bool b) ∧ Below w.heap.size w w' :=
  h.calls (fun _ _ _ h => h) hargs rfl hg
end Go.Vs.Ab
