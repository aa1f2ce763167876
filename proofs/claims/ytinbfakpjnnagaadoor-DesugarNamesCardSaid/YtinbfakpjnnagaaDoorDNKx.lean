/-
  Laws of no program, for slices.Insert at elements of several cells: 'copy' of so many elements, an append of so many zero elements.
-/
import Derived.Laws.IdiomCopy
import Derived.Lib.AppendZerosOnto
import Derived.Lib.Overlaps
import Derived.Deep.AppendSrc
import Derived.Test.YtinbfakpjnnagaaDoorDNAo
set_option linter.unusedVariables false
set_option linter.unusedSimpArgs false
namespace Go.Vs
open Go.Lib
variable {P : Program}
theorem run_copy_k (w : World) (dT sT ty elem : TypeId) (size b o dLen dCap : Nat) (a : Addr) (sLen sCap : Nat) (cs : List Value)
    (hu : P.underlying dT = some (.slice elem)) (hs : (P.info? elem).map (·.size) = some size) (n : Nat) (hn : n = Nat.min sLen dLen) (hc0 : cs.length = n * size)
    (hsrc : ∀ j v, cs[j]? = some v → w.cell? (a.add j) = some v) (hc : ∀ j, j < cs.length → (w.cell? ⟨b, o + j, none⟩).isSome = true) (hf : ∀ j, j < cs.length → w.frozen? ⟨b, o + j, none⟩ = false) (h1 : ∀ v ∈ cs, v.oneCell' = true) :
    (Builtin.copy_ #[dT, sT] ty #[.slice (some ⟨b, o, none⟩) dLen dCap, .slice (some a) sLen sCap]).run P w = .ok (goInt n) (w.setCells b o cs) := by
  have hl := run_loadCells_list (P := P) w a cs hsrc
  have hst := run_storeCells_cells (P := P) b o cs 0 w (by simpa using hc) (by simpa using hf) h1
  rw [hc0] at hl
  cases hq : P.info? elem with
  | none => simp [hq] at hs
  | some i =>
    have hi : i.size = size := by simpa [hq] using hs
    simp [Builtin.copy_, run_underlying hu, Builtin.lenOf, Builtin.firstCells, sizeOf, typeInfo, hq, hi, ← hn, hl, hst]
end Go.Vs
namespace Go.Vs.Ab
open Go.RowKit
variable {P : Program}
theorem does_of_rdW {T : Type} {enc : T → List CV} {encV : T → List Value} {size : Nat} {l : List T} (hv : ∀ x, vals (enc x) = some (encV x)) (h1 : ∀ x, ∀ u ∈ encV x, u.oneCell' = true) (wrapA : CV → AV) (wrapV : Value → Value) (hwrap : ∀ (X : Mem) (c : CV) (v : Value), RepC X.cell c v → Rep X (wrapA c) (wrapV v)) {F : FuncId} {args : List AV} (hcb : Callable P F)
    (h : ∀ (X : Mem) (w : World) (vs : Array Value), (∀ b o x, X.cell b o = some x → w.cell? ⟨b, o, none⟩ = some x) → Reps X args vs.toList →
      Calls P F vs w fun en w' => ∃ v, en = .returned (wrapV v) ∧ Rd w' size v l.length (l.flatMap encV) ∧ Below w.heap.size w w' ∧ ∀ k, sblk v = some k → w.heap.size ≤ k) : Does P F args (fun m => (wrapA (.sl false l.length (l.flatMap enc)), m)) := by
  refine ⟨hcb, fun X W0 m w vs M hargs => (h X w vs M.cell hargs).mono ?_⟩
  rintro _ w' ⟨v, rfl, hrd, B, hb⟩
  have M' := M.grow B
  have hkeep : ∀ i β, X.loc i = some β → w'.heap[β]? = w.heap[β]? := fun i β hi => B.block β (M.locBlock hi).1
  have hrep : ∀ C, RepCs C (l.flatMap enc) (l.flatMap encV) := fun C => repcs_vals (vals_flat hv l) (fun u hu => by
    obtain ⟨y, _, hy⟩ := List.mem_flatMap.1 hu
    exact h1 y u hy)
  rcases hrd.2 with ⟨rfl, h0⟩ | ⟨a, cap, rfl, h3, h4, h5⟩
  · have : l = [] := List.eq_nil_of_length_eq_zero h0
    subst this
    exact ⟨_, X, rfl, Mem.Le.refl _ _, hwrap _ _ _ (.sl (xs := []) rfl (fun i c x h => by simp at h) (Nat.le_refl _) ⟨Nat.zero_le _, fun _ => rfl⟩ (fun e => by cases e) (fun j x hx => by simp at hx)), M', hkeep⟩
  · by_cases hl : 0 < (l.flatMap encV).length
    · have hsp := spot_of_add (h5 0 (l.flatMap encV)[0] (by simp []))
      obtain ⟨g, off, sp⟩ := a
      simp only at hsp
      subst hsp
      have hg : w.heap.size ≤ g := hb g rfl
      let X' : Mem := { X with cell := fun b o => if b = g ∧ off ≤ o then (l.flatMap encV)[o - off]? else X.cell b o }
      have hX : ∀ b o, X'.cell b o = if b = g ∧ off ≤ o then (l.flatMap encV)[o - off]? else X.cell b o := fun _ _ => rfl
      have hnone : ∀ o, X.cell g o = none := fun o => by
        cases hc : X.cell g o with
        | none => rfl
        | some x => have := M.cellBlock hc; omega
      have hle : X.Le W0.heap.size X' := by
        refine ⟨fun b o x hx => ?_, fun b o x hlt hx => ?_, fun _ _ h => h, fun k T hT => ⟨T, hT, Or.inl rfl⟩, fun _ => Nat.le_refl _⟩
        · rw [hX, if_neg]
          · exact hx
          · rintro ⟨rfl, _⟩
            rw [hnone] at hx
            cases hx
        · rw [hX, if_neg] at hx
          · exact hx
          · rintro ⟨rfl, _⟩
            have := M.below.size
            omega
      refine ⟨_, X', rfl, hle, hwrap _ _ _ (.sl (xs := l.flatMap encV) (hrep X.cell).1 (hrep _).2 h3 ⟨h4, fun e => by cases e⟩ (fun e => by cases e) (fun j x hx => ⟨g, off, rfl, ?_⟩)), ⟨M'.below, fun b o x hx => ?_, M'.ldom, fun i blk hi => ?_, M'.inj, M'.odom, fun k n hk => ?_, M'.oinj, M'.gl, M'.rm⟩, hkeep⟩
      · rw [hX, if_pos ⟨rfl, Nat.le_add_right _ _⟩, show off + j - off = j by omega]
        exact hx
      · rw [hX] at hx
        split at hx
        · rename_i hc
          obtain ⟨rfl, ho⟩ := hc
          have := h5 _ x hx
          rw [add_none, show off + (o - off) = o by omega] at this
          exact this
        · exact M'.cell b o x hx
      · obtain ⟨β, k1, k2, k3, hB⟩ := M'.locs i blk hi
        have hne : β ≠ g := fun e => by have := (M.locBlock k1).1; omega
        refine ⟨β, k1, k2, k3, hB.move hle (fun _ => rfl) fun _ h o => ?_⟩
        rw [hX, if_neg (by rintro ⟨e, _⟩; exact hne e)]
        exact h o
      · obtain ⟨T, k1, k2, k3, k4, k5, k6, k7, k8, k9⟩ := M'.toks k n hk
        have hne : T.g ≠ g := fun e => by have := (M.tokBlock k1).1; omega
        refine ⟨T, k1, k2, k3, k4, k5, k6, k7, fun o ho => ?_, k9⟩
        rw [hX, if_neg (by rintro ⟨e, _⟩; exact hne e)]
        exact k8 o ho
    · refine ⟨_, X, rfl, Mem.Le.refl _ _, hwrap _ _ _ (.sl (xs := l.flatMap encV) (hrep X.cell).1 (hrep X.cell).2 h3 ⟨h4, fun e => by cases e⟩ (fun e => by cases e) (fun j x hx => ?_)), M', hkeep⟩
      have := (List.getElem?_eq_some_iff.1 hx).1
      omega
end Go.Vs.Ab
