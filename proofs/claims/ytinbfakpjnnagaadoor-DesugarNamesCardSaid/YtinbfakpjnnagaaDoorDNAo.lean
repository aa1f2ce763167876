/-
  What is known of a call in the program's own terms, in terms of abstract values. No program in sight.
-/
import Derived.Test.YtinbfakpjnnagaaDoorDNAn
set_option linter.unusedVariables false
set_option linter.unusedSimpArgs false
namespace Go.Vs.Ab
open Go.RowKit
variable {P : Program} {X : Mem} {W0 w w' : World} {m : Mm}
theorem does_of_callsG {F : FuncId} {args : List AV} {r : AV} {v : Value} (hcb : Callable P F) (hr : avOf v = some r)
    (h : ∀ (X : Mem) (w : World) (vs : Array Value), Gl w → (∀ b o x, X.cell b o = some x → w.cell? ⟨b, o, none⟩ = some x) → Reps X args vs.toList → Calls P F vs w fun e w' => e = .returned v ∧ Below w.heap.size w w') : Does P F args (fun m => (r, m)) := by
  refine ⟨hcb, fun X W0 m w vs M hargs => (h X w vs (M.gl.below M.below) M.cell hargs).mono ?_⟩
  rintro _ w' ⟨rfl, B⟩
  exact ⟨v, X, rfl, Mem.Le.refl _ _, avOf_rep hr, M.grow B, fun i β hi => B.block β (M.locBlock hi).1⟩
theorem does_of_calls {F : FuncId} {args : List AV} {r : AV} {v : Value} (hcb : Callable P F) (hr : avOf v = some r)
    (h : ∀ (X : Mem) (w : World) (vs : Array Value), (∀ b o x, X.cell b o = some x → w.cell? ⟨b, o, none⟩ = some x) → Reps X args vs.toList → Calls P F vs w fun e w' => e = .returned v ∧ Below w.heap.size w w') : Does P F args (fun m => (r, m)) := by
  refine ⟨hcb, fun X W0 m w vs M hargs => (h X w vs M.cell hargs).mono ?_⟩
  rintro _ w' ⟨rfl, B⟩
  exact ⟨v, X, rfl, Mem.Le.refl _ _, avOf_rep hr, M.grow B, fun i β hi => B.block β (M.locBlock hi).1⟩
theorem vals_append {a b : List CV} {x y : List Value} (h : vals a = some x) (k : vals b = some y) : vals (a ++ b) = some (x ++ y) := by
  induction a generalizing x with
  | nil => simp [vals] at h; subst h; simpa using k
  | cons c a ih =>
    cases c with
    | v u =>
      simp only [vals, Option.map_eq_some_iff] at h
      obtain ⟨z, h1, rfl⟩ := h
      simp [vals, ih h1]
    | sl => simp [vals] at h
theorem vals_flat {T : Type} {enc : T → List CV} {encV : T → List Value} (h : ∀ x, vals (enc x) = some (encV x)) : ∀ l : List T, vals (l.flatMap enc) = some (l.flatMap encV)
  | [] => rfl
  | x :: l => by rw [List.flatMap_cons, List.flatMap_cons]; exact vals_append (h x) (vals_flat h l)
theorem rd_slR {T : Type} {enc : T → List CV} {encV : T → List Value} {k : Nat} (h : ∀ x, vals (enc x) = some (encV x)) (hk : ∀ x, (enc x).length = k) (hcell : ∀ b o x, X.cell b o = some x → w.cell? ⟨b, o, none⟩ = some x) {ex : Bool} {l : List T} {v : Value} (hr : Rep X (slR enc ex l) v) (h0 : 0 < k) : Rd w k v l.length (l.flatMap encV) := by
  obtain ⟨a, cap, xs, rfl, h1, h2, h3, h4⟩ := slV_rep (len_R enc ex l) hr
  obtain rfl := vals_rep (vals_flat h l) h1
  have hl : (l.flatMap encV).length = l.length * k := by rw [← h1.1, flat_length enc k hk]
  cases a with
  | none =>
    have h5 : l = [] := by
      rcases l with _ | ⟨x, l⟩
      · rfl
      · have : 0 < ((x :: l).flatMap encV).length := by rw [hl]; exact Nat.mul_pos (by simp) h0
        obtain ⟨b, o, e⟩ := h4.some this
        cases e
    subst h5
    exact ⟨by simp, Or.inl ⟨by rw [h3.2 rfl]; rfl, rfl⟩⟩
  | some ad =>
    refine ⟨hl, Or.inr ⟨ad, cap, rfl, h2, h3.1, fun j u hu => ?_⟩⟩
    obtain ⟨b, o, e, h5⟩ := h4 j u hu
    injection e with e
    subst e
    rw [add_none]
    exact hcell _ _ _ h5
theorem vals_get : ∀ {a : List CV} {b : List Value}, vals a = some b → a.length = b.length ∧ ∀ (i : Nat) (c : CV) (x : Value), a[i]? = some c → b[i]? = some x → c = CV.v x
  | [], b, h => by simp [vals] at h; subst h; exact ⟨rfl, fun i c x h => by simp at h⟩
  | .v u :: a, b, h => by
    simp only [vals, Option.map_eq_some_iff] at h
    obtain ⟨z, hz, rfl⟩ := h
    have ih := vals_get hz
    refine ⟨by simp [ih.1], fun i c x h4 h5 => ?_⟩
    cases i with
    | zero => simp at h4 h5; subst h4 h5; rfl
    | succ i => exact ih.2 i c x (by simpa using h4) (by simpa using h5)
  | .sl .. :: _, _, h => by simp [vals] at h
theorem repcs_vals {C : Nat → Nat → Option Value} {a : List CV} {b : List Value} (h : vals a = some b) (h1 : ∀ u ∈ b, u.oneCell' = true) : RepCs C a b := by
  obtain ⟨h2, h3⟩ := vals_get h
  refine ⟨h2, fun i c x h4 h5 => ?_⟩
  rw [h3 i c x h4 h5]
  exact .v (h1 x (List.mem_of_getElem? h5))
theorem vals_st (s : ByteArray) : vals (stC s) = some [Value.string s] := rfl
theorem flat_st (l : List ByteArray) : l.flatMap (fun s => [Value.string s]) = l.map Value.string := by induction l <;> simp_all
theorem reps1 {c : AV} {vs : List Value} (h : Reps X [c] vs) : ∃ v, vs = [v] ∧ Rep X c v := by
  obtain ⟨v, rfl⟩ := List.length_eq_one_iff.1 h.1.symm
  exact ⟨v, rfl, h.2 0 _ _ rfl rfl⟩
theorem reps2 {c d : AV} {vs : List Value} (h : Reps X [c, d] vs) : ∃ v u, vs = [v, u] ∧ Rep X c v ∧ Rep X d u := by
  obtain ⟨v, u, rfl⟩ : ∃ v u, vs = [v, u] := by
    have hl := h.1
    match vs, hl with
    | [v, u], _ => exact ⟨v, u, rfl⟩
    | [], h => simp at h
    | [_], h => simp at h
    | _ :: _ :: _ :: _, h => simp at h
  exact ⟨v, u, rfl, h.2 0 _ _ rfl rfl, h.2 1 _ _ rfl rfl⟩
def all (w : World) : Mem := ⟨fun b o => w.cell? ⟨b, o, none⟩, fun _ => none, fun _ => none, fun _ => 0⟩
theorem rep_of_rd {T : Type} {enc : T → List CV} {encV : T → List Value} {k : Nat} (h : ∀ x, vals (enc x) = some (encV x)) (h1 : ∀ x, ∀ u ∈ encV x, u.oneCell' = true) {l : List T} {v : Value} (hr : Rd w k v l.length (l.flatMap encV)) : Rep (all w) (slR enc false l) v := by
  have hrep : ∀ C, RepCs C (l.flatMap enc) (l.flatMap encV) := fun C => repcs_vals (vals_flat h l) (fun u hu => by
    obtain ⟨y, _, hy⟩ := List.mem_flatMap.1 hu
    exact h1 y u hy)
  rcases hr.2 with ⟨rfl, h0⟩ | ⟨a, cap, rfl, h3, h4, h5⟩
  · have : l = [] := List.eq_nil_of_length_eq_zero h0
    subst this
    exact .c (.sl (xs := []) rfl (fun i c x h => by simp at h) (Nat.le_refl _) ⟨Nat.zero_le _, fun _ => rfl⟩ (fun e => by cases e) (fun j x hx => by simp at hx))
  · refine .c (.sl (xs := l.flatMap encV) (hrep (all w).cell).1 (hrep (all w).cell).2 h3 ⟨h4, fun e => by cases e⟩ (fun e => by cases e) (fun j x hx => ?_))
    have h6 := h5 j x hx
    have hl := (List.getElem?_eq_some_iff.1 hx).1
    have h7 := h5 0 ((l.flatMap encV)[0]'(by omega)) (by simp)
    have hsp := spot_of_add h7
    obtain ⟨g, off, sp⟩ := a
    simp only at hsp
    subst hsp
    rw [add_none] at h6
    exact ⟨g, off, rfl, h6⟩
theorem Does.bool {F : FuncId} {args : List AV} {b : Bool} (h : Does P F args (fun m => (bA b, m))) {vs : Array Value} (hargs : Reps (all w) args vs.toList) (hg : Gl w := by intro p hp; simp [tabs] at hp) : Calls P F vs w fun e w' => e = .returned (.bool b) ∧ Below w.heap.size w w' :=
  h.calls (fun _ _ _ h => h) hargs rfl hg
theorem mk_reps1 {c : AV} {v : Value} (h : Rep X c v) : Reps X [c] [v] := ⟨rfl, fun i d x h1 h2 => by cases i with | zero => simp at h1 h2; subst h1 h2; exact h | succ i => simp at h1⟩
end Go.Vs.Ab
