/-
  General lemmas for the proofs over this program: worlds that have turned only within a footprint, blocks of cells read whole, string-keyed maps as functions. No program in sight.
-/
import Derived.WalkKit
import Derived.WalkSpells
import Derived.Maps.OwnSet
import Derived.Maps.AppendAt
namespace Go.Vs
open Go.RowKit Go.Maps
structure Turns (F : Nat → Prop) (w w' : World) : Prop where
  os : w'.os = w.os
  tape : w'.tape = w.tape
  output : w'.output = w.output
  size : w.heap.size ≤ w'.heap.size
  block : ∀ k, k < w.heap.size → ¬ F k → w'.heap[k]? = w.heap[k]?
theorem Turns.refl (F : Nat → Prop) (w : World) : Turns F w w := ⟨rfl, rfl, rfl, Nat.le_refl _, fun _ _ _ => rfl⟩
theorem Turns.mono {F G : Nat → Prop} {w w' : World} (h : Turns F w w') (hFG : ∀ k, k < w.heap.size → F k → G k) : Turns G w w' :=
  ⟨h.os, h.tape, h.output, h.size, fun k hk hg => h.block k hk fun hf => hg (hFG k hk hf)⟩
theorem Turns.trans {F G : Nat → Prop} {a b c : World} (h : Turns F a b) (k : Turns G b c) (hG : ∀ k, k < a.heap.size → G k → F k) : Turns F a c :=
  ⟨k.os.trans h.os, k.tape.trans h.tape, k.output.trans h.output, Nat.le_trans h.size k.size,
    fun i hi hf => (k.block i (Nat.lt_of_lt_of_le hi h.size) fun hg => hf (hG i hi hg)).trans (h.block i hi hf)⟩
theorem Turns.drew {F : Nat → Prop} {a w : World} (h : Turns F a w) : Turns F a w.drew := ⟨h.os, h.tape, h.output, h.size, h.block⟩
theorem hsize_alloc (w : World) (o : Obj) : (w.alloc o).heap.size = w.heap.size + 1 := by simp
theorem hsize_set (w : World) (a : Addr) (v : Value) : (w.setCell a v).heap.size = w.heap.size := by simp [World.setCell]
theorem halloc_old (w : World) (o : Obj) (k : Nat) (h : k < w.heap.size) : (w.alloc o).heap[k]? = w.heap[k]? := Below.heap_alloc w o k h
theorem halloc_new (w : World) (o : Obj) : (w.alloc o).heap[w.heap.size]? = some o := by
  show (w.heap.push o)[w.heap.size]? = some o
  simp
theorem Turns.alloc {F : Nat → Prop} {a w : World} (h : Turns F a w) (o : Obj) : Turns F a (w.alloc o) :=
  ⟨h.os, h.tape, h.output, Nat.le_trans h.size (by rw [hsize_alloc]; omega),
    fun k hk hf => (halloc_old w o k (Nat.lt_of_lt_of_le hk h.size)).trans (h.block k hk hf)⟩
theorem Turns.setCell {F : Nat → Prop} {a w : World} (h : Turns F a w) {p : Addr} (hp : p.block < a.heap.size → F p.block) (u : Value) : Turns F a (w.setCell p u) :=
  ⟨h.os, h.tape, h.output, by rw [hsize_set]; exact h.size,
    fun k hk hf => (Below.heap_setCell w p u k (fun e => hf (e ▸ hp (e ▸ hk)))).trans (h.block k hk hf)⟩
theorem Turns.grown {F : Nat → Prop} {a w w' : World} {row : Option Nat} (h : Turns F a w) (hg : w.grownBy w' row) (hr : ∀ k, row = some k → k < a.heap.size → F k) : Turns F a w' :=
  h.trans (G := fun k => row = some k) ⟨hg.os, hg.tape, hg.output, hg.size, fun k hk hf => hg.block k hk (fun e => hf e.symm)⟩ (fun k hk e => hr k e hk)
theorem Turns.below {F : Nat → Prop} {w w' : World} (h : Turns F w w') {B : Nat} (hB : B ≤ w.heap.size) (hF : ∀ k, F k → B ≤ k) : Below B w w' :=
  ⟨h.os, h.tape, h.output, h.size, fun k hk => h.block k (by omega) fun hf => by have := hF k hf; omega⟩
theorem Turns.cell {F : Nat → Prop} {w w' : World} (h : Turns F w w') {p : Addr} (hp : p.block < w.heap.size) (hF : ¬ F p.block) : w'.cell? p = w.cell? p := World.cell?_of_block (w := w) (h.block p.block hp hF)
/-! ### a block of cells, read whole -/
theorem cell_of_heap {w : World} {b : Nat} {c : Array Value} {t : TypeId} {f : Nat × Nat} (h : w.heap[b]? = some (.cells c t f)) {i : Nat} {v : Value} (hc : c[i]? = some v) :
    w.cell? ⟨b, i, none⟩ = some v := by simp [World.cell?, h, hc]
theorem frozen_of_heap {w : World} {b : Nat} {c : Array Value} {t : TypeId} (h : w.heap[b]? = some (.cells c t (0, 0))) (i : Nat) : w.frozen? ⟨b, i, none⟩ = false := by
  simp [World.frozen?, h]
theorem hset_other (w : World) (b i : Nat) (v : Value) (k : Nat) (h : k ≠ b) : (w.setCell ⟨b, i, none⟩ v).heap[k]? = w.heap[k]? := Below.heap_setCell w ⟨b, i, none⟩ v k h
/-! ### string-keyed maps -/
def rawElem : Value → Option (DataW Value × List MemPlace) := fun v => some (.held v, [])
def smap (w : World) (P : Program) (k : TypeId) (b : Nat) (m : Nat) (f : List UInt8 → Option Value) : Prop :=
  ∃ D : DataW Value, w.ownsMap P k rawElem b m D ∧ Maps.size D = m ∧ (∀ s, Maps.has D (.string s) = (f s).isSome) ∧ ∀ s v, f s = some v → ∀ z, D.atKey (.string s) z = .held v
theorem smap.lt {w : World} {P : Program} {k : TypeId} {b m : Nat} {f : List UInt8 → Option Value} (h : smap w P k b m f) : b < w.heap.size := by
  obtain ⟨D, h1, _⟩ := h; exact h1.lt
theorem smap.block {w w' : World} {P : Program} {k : TypeId} {b m : Nat} {f : List UInt8 → Option Value} (h : smap w P k b m f) (hb : w'.heap[b]? = w.heap[b]?) : smap w' P k b m f := by
  obtain ⟨D, ⟨es, c, h1, h5⟩, h2, h3, h4⟩ := h
  exact ⟨D, ⟨es, c, hb.trans h1, h5⟩, h2, h3, h4⟩
theorem smap.exact {w : World} {P : Program} {k : TypeId} {b n : Nat} {D : DataW Value} (h : w.ownsMap P k rawElem b n D) : w.ownsMap P k rawElem b (Maps.size D) D := by
  obtain ⟨es, clock, hb, F, hs, rfl⟩ := h
  exact ⟨es, clock, hb, F, by simp [Maps.size, length_sorted], rfl⟩
theorem isKeyLit_string (s : List UInt8) : WideAt.IsKeyLit (.string s) := by trivial
def upd (f : List UInt8 → Option Value) (s : List UInt8) (v : Option Value) : List UInt8 → Option Value := fun t => if t = s then v else f t
section
variable {w : World} {P : Program} {k : TypeId} {b m : Nat} {f : List UInt8 → Option Value}
theorem smap.store {t e : TypeId} (h : smap w P k b m f) (K : Keyed P k) (ht : P.underlying t = some (.map k e)) (hn : m < maxLen) {key val : Value} {s : List UInt8}
    (hkey : keyOf P k key = some (.string s)) : ∃ w', (Instr.mapUpdate t (.map (some b)) key val).run P w = .ok () w' ∧
      smap w' P k b (if (f s).isSome then m else m + 1) (upd f s (some val)) ∧ w.mapTurned w' b := by
  obtain ⟨D, h1, h2, h3, h4⟩ := h
  obtain ⟨w', hr, ho, hm⟩ := h1.store (val := val) (d := .held val) (ps := []) K ht hn hkey rfl
  refine ⟨w', hr, ⟨D.put (.string s) (.held val), ?_, ?_, ?_, ?_⟩, hm⟩
  · have := smap.exact ho
    rw [size_put (h1.tidy K), h2, h3 s] at this
    exact this
  · rw [size_put (h1.tidy K), h2, h3 s]
  · intro u
    by_cases hu : u = s
    · subst hu; simp [upd, has_put_same h1.isMap (isKeyLit_string u)]
    · rw [has_put_other (by simpa using hu)]; simp [upd, hu, h3]
  · intro u v hv z
    by_cases hu : u = s
    · subst hu
      simp [upd] at hv
      rw [atKey_put_same h1.isMap (isKeyLit_string u), hv]
    · rw [atKey_put_other (by simpa using hu)]
      exact h4 u v (by simpa [upd, hu] using hv) z
theorem smap.drop {t e : TypeId} (h : smap w P k b m f) (K : Keyed P k) (ht : P.underlying t = some (.map k e)) {key : Value} {s : List UInt8}
    (hkey : keyOf P k key = some (.string s)) (ty : TypeId) : ∃ w', (Builtin.delete_ #[t, k] ty #[.map (some b), key]).run P w = .ok (.tuple #[]) w' ∧
      smap w' P k b (if (f s).isSome then m - 1 else m) (upd f s none) ∧ w.mapTurned w' b := by
  obtain ⟨D, h1, h2, h3, h4⟩ := h
  obtain ⟨w', hr, ho, hm⟩ := h1.drop K ht hkey ty
  have hs := size_del (k := .string s) (h1.tidy K)
  rw [h2, h3 s] at hs
  have hs' : Maps.size (D.del (.string s)) = if (f s).isSome then m - 1 else m := by
    cases hf : (f s).isSome <;> simp [hf] at hs ⊢ <;> omega
  refine ⟨w', hr, ⟨D.del (.string s), ?_, hs', ?_, ?_⟩, hm⟩
  · have := smap.exact ho
    rw [hs'] at this
    exact this
  · intro u
    by_cases hu : u = s
    · subst hu; simp [upd, has_del_same]
    · rw [has_del_other (by simpa using hu)]; simp [upd, hu, h3]
  · intro u v hv z
    by_cases hu : u = s
    · subst hu; simp [upd] at hv
    · rw [atKey_del_other (by simpa using hu)]
      exact h4 u v (by simpa [upd, hu] using hv) z
theorem smap.len {t e : TypeId} (h : smap w P k b m f) (ht : P.underlying t = some (.map k e)) (ty : TypeId) : (Builtin.len_ #[t] ty #[.map (some b)]).run P w = .ok (.int .i64 m) w := by
  obtain ⟨D, h1, h2, _⟩ := h
  rw [h1.len ht ty, h2]
end
/-! ### at the operation, for the walk -/
section
variable {P : Program} (w : World) {ops : Array Oper} {rest : List Oper} {o : Oper} {a : Act} {Q : Exit → Act → World → Prop}
end
/-! ### strings -/
theorem str_inj {a b : ByteArray} (h : a.data.toList = b.data.toList) : a = b := by
  cases a; cases b; simp at h; simp [h]
theorem str_toList_inj {a b : ByteArray} (h : a.toList = b.toList) : a = b := by
  rw [ByteArray.toList_eq, ByteArray.toList_eq] at h; exact str_inj h
theorem str_beq (a b : ByteArray) : (a.toList == b.toList) = decide (a = b) := by
  rw [Bool.eq_iff_iff]
  simp only [beq_iff_eq, decide_eq_true_eq]
  exact ⟨str_toList_inj, fun h => by rw [h]⟩
end Go.Vs
