/-
  What an argument of plain data looks like in memory: its cells by shape, slices of such at whatever depth; no program in sight.
-/
import Derived.Test.YtinbfakpjnnagaaGreatDoorDCRow
import Derived.Deep.Slices
import Derived.ProofKit
import Derived.OpenShut
namespace Go.Vs
open Go.RowKit Go.Maps Go.ChangeShapes Go.WideShapes Go.Deep
inductive Sh where
  | str | int | bool
  | sl (es : List Sh)
def all2 {α β : Type} (R : α → β → Prop) : List α → List β → Prop
  | [], [] => True
  | a :: as, b :: bs => R a b ∧ all2 R as bs
  | _, _ => False
theorem all2_cons {α β : Type} {R : α → β → Prop} {a : α} {as : List α} {cs : List β} (h : all2 R (a :: as) cs) : ∃ b bs, cs = b :: bs ∧ R a b ∧ all2 R as bs := by
  cases cs with
  | nil => exact h.elim
  | cons b bs => exact ⟨b, bs, rfl, h.1, h.2⟩
theorem all2_nil {α β : Type} {R : α → β → Prop} {cs : List β} (h : all2 R [] cs) : cs = [] := by
  cases cs with
  | nil => rfl
  | cons b bs => exact h.elim
theorem all2.imp {α β : Type} {R S : α → β → Prop} (hrs : ∀ a b, R a b → S a b) : ∀ {as : List α} {bs : List β}, all2 R as bs → all2 S as bs
  | [], [], _ => trivial
  | _ :: _, _ :: _, h => ⟨hrs _ _ h.1, all2.imp hrs h.2⟩
def okc : Nat → World → Sh → Value → Prop
  | 0, _, _, _ => False
  | _ + 1, _, .str, v => ∃ s : ByteArray, v = .string s ∧ s.size ≤ maxLen
  | _ + 1, _, .int, v => ∃ n : Int, v = .int .i64 n ∧ (Lit.int .i64 n).wf = true
  | _ + 1, _, .bool, v => ∃ b : Bool, v = .bool b
  | d + 1, w, .sl es, v => ∃ n xs, Rd w es.length v n xs ∧ ∀ i, i < n → all2 (okc d w) es ((xs.drop (i * es.length)).take es.length)
section
variable (P : Program)
def shFields (rec : TypeId → Option (List Sh)) : Nat → List Field → Option (List Sh)
  | _, [] => some []
  | off, f :: fs =>
    if f.offset = off then
      match rec f.type, shFields rec (off + P.cellsOf f.type) fs with
      | some a, some b => if a.length = P.cellsOf f.type then some (a ++ b) else none
      | _, _ => none
    else none
def shapeOf : Nat → TypeId → Option (List Sh)
  | 0, _ => none
  | d + 1, t =>
    match P.underlying t with
    | some .bool => some [.bool]
    | some (.int .i64) => some [.int]
    | some .string => some [.str]
    | some (.slice e) =>
      match shapeOf d e with
      | some es => if es.length = P.cellsOf e then some [.sl es] else none
      | none => none
    | some (.struct fs) =>
      match shFields P (shapeOf d) 0 fs.toList with
      | some ks => if ks.length = P.cellsOf t then some ks else none
      | none => none
    | some (.array n e) =>
      match shapeOf d e with
      | some es => if es.length = P.cellsOf e ∧ n * es.length = P.cellsOf t then some (List.replicate n es).flatten else none
      | none => none
    | _ => none
end
theorem okc_mono {w : World} : ∀ (d : Nat) (s : Sh) (v : Value), okc d w s v → okc (d + 1) w s v
  | 0, _, _, h => h.elim
  | d + 1, .str, _, h => h
  | d + 1, .int, _, h => h
  | d + 1, .bool, _, h => h
  | d + 1, .sl es, v, h => by
    obtain ⟨n, xs, h1, h2⟩ := h
    refine ⟨n, xs, h1, fun i hi => ?_⟩
    have := h2 i hi
    revert this
    generalize (xs.drop (i * es.length)).take es.length = ys
    intro this
    exact this.imp fun s v => okc_mono d s v
theorem forall2_append {α β : Type} {R : α → β → Prop} : ∀ {a b : List α} {c d : List β}, all2 R a c → all2 R b d → all2 R (a ++ b) (c ++ d)
  | [], _, [], _, _, h2 => h2
  | _ :: _, _, _ :: _, _, h1, h2 => ⟨h1.1, forall2_append h1.2 h2⟩
theorem forall2_length {α β : Type} {R : α → β → Prop} : ∀ {a : List α} {c : List β}, all2 R a c → a.length = c.length
  | [], [], _ => rfl
  | _ :: _, _ :: _, h => by simp [forall2_length h.2]
section
variable {H : Type} {enc : TypeId × Value → H} {P : Program} {w : World} {base : Nat} {spare : Nat → Bool} {held : Bool}
theorem fields_ok {rec : TypeId → Option (List Sh)} {d : Nat} {cs : List Value}
    (hrec : ∀ t ks, rec t = some ks → ∀ fuel cs x, DataW.trod enc P w base spare held fuel t cs = some x → all2 (okc d w) ks cs) :
    ∀ (fs : List Field) (off : Nat) (ks : List Sh), shFields P rec off fs = some ks →
      (∀ f ∈ fs, ∃ fuel x, DataW.trod enc P w base spare held fuel f.type ((cs.drop f.offset).take (P.cellsOf f.type)) = some x) →
      all2 (okc d w) ks ((cs.drop off).take ks.length)
  | [], off, ks, h, _ => by
    simp only [shFields, Option.some.injEq] at h
    subst h
    exact trivial
  | f :: fs, off, ks, h, hall => by
    unfold shFields at h
    split at h
    · rename_i hoff
      split at h
      · rename_i a b ha hb
        split at h
        · rename_i hlen
          simp only [Option.some.injEq] at h
          subst h
          obtain ⟨fuel, x, hx⟩ := hall f (by simp)
          have h1 := hrec _ _ ha _ _ _ hx
          have h2 := fields_ok hrec fs _ b hb (fun g hg => hall g (by simp [hg]))
          rw [hoff] at h1
          have e1 := forall2_length h1
          have e : (cs.drop off).take (a ++ b).length = (cs.drop off).take (P.cellsOf f.type) ++ (cs.drop (off + P.cellsOf f.type)).take b.length := by
            rw [List.length_append, hlen, List.take_add, List.drop_drop]
          rw [e]
          exact forall2_append h1 h2
        · cases h
      · cases h
    · cases h
theorem cells_rows {a : Addr} {k n : Nat} {C : Nat → List Value} (hC : ∀ i, i < n → w.cells? base (a.add (i * k)) k = some (C i)) :
    ∃ xs : List Value, xs.length = n * k ∧ (∀ i, i < n → (xs.drop (i * k)).take k = C i) ∧ ∀ j u, xs[j]? = some u → w.cell? (a.add j) = some u := by
  induction n with
  | zero => exact ⟨[], by simp, fun i hi => absurd hi (Nat.not_lt_zero _), by simp⟩
  | succ n ih =>
    obtain ⟨xs, h1, h2, h3⟩ := ih (fun i hi => hC i (by omega))
    obtain ⟨_, hl, hc⟩ := World.cells?_some (hC n (by omega))
    refine ⟨xs ++ C n, by rw [List.length_append, h1, hl, Nat.add_mul]; omega, fun i hi => ?_, fun j u hu => ?_⟩
    · rcases Nat.lt_succ_iff_lt_or_eq.1 hi with h | rfl
      · have hle : i * k + k ≤ xs.length := by
          rw [h1, ← Nat.succ_mul]
          exact Nat.mul_le_mul_right k h
        rw [List.drop_append_of_le_length (by omega), List.take_append_of_le_length (by rw [List.length_drop]; omega)]
        exact h2 i h
      · rw [← h1, List.drop_left, List.take_of_length_le (by omega)]
    · rw [List.getElem?_append] at hu
      split at hu
      · exact h3 j u hu
      · rename_i hj
        have hj2 : j - xs.length < (C n).length := by
          rcases Nat.lt_or_ge (j - xs.length) (C n).length with h | h
          · exact h
          · rw [List.getElem?_eq_none h] at hu; cases hu
        have := hc (j - xs.length) (by omega)
        rw [add_add, show n * k + (j - xs.length) = j by omega] at this
        rw [this]
        exact hu
theorem shape_ok : ∀ (d : Nat) (t : TypeId) (ks : List Sh), shapeOf P d t = some ks → ∀ fuel cs x, DataW.trod enc P w base spare held fuel t cs = some x → all2 (okc d w) ks cs
  | 0, _, _, h, _, _, _, _ => by cases h
  | d + 1, t, ks, h, fuel, cs, x, hx => by
    unfold shapeOf at h
    split at h
    · rename_i ht
      simp only [Option.some.injEq] at h; subst h
      obtain ⟨b, rfl, _⟩ := DataW.trod_bool ht hx
      exact ⟨⟨b, rfl⟩, trivial⟩
    · rename_i ht
      simp only [Option.some.injEq] at h; subst h
      obtain ⟨n, rfl, _, hw⟩ := DataW.trod_int ht hx
      exact ⟨⟨n, rfl, hw⟩, trivial⟩
    · rename_i ht
      simp only [Option.some.injEq] at h; subst h
      obtain ⟨s, rfl, _, hs⟩ := DataW.trod_string ht hx
      exact ⟨⟨s, rfl, hs⟩, trivial⟩
    · rename_i e ht
      split at h
      · rename_i es he
        split at h
        · rename_i hlen
          simp only [Option.some.injEq] at h; subst h
          rcases open_slice ht hx with ⟨rfl, _⟩ | ⟨a, len, cap, m, n, D, Pl, rfl, _, hl, hm, hmm, _, hel⟩
          · exact ⟨⟨0, [], rd_nil w _, fun i hi => absurd hi (Nat.not_lt_zero _)⟩, trivial⟩
          · refine ⟨?_, trivial⟩
            have hlm : len ≤ m := by rw [hmm]; split <;> omega
            have hch : ∀ i, i < len → ∃ c : List Value, w.cells? base (a.add (i * P.cellsOf e)) (P.cellsOf e) = some c ∧ all2 (okc d w) es c := fun i hi => by
              obtain ⟨c, h1, h2⟩ := hel i (by omega)
              exact ⟨c, h1, shape_ok d e es he _ _ _ h2⟩
            obtain ⟨C, hC⟩ := choose_lt hch
            obtain ⟨xs, x1, x2, x3⟩ := cells_rows (fun i hi => (hC i hi).1)
            refine ⟨len, xs, ⟨by rw [x1, hlen], Or.inr ⟨a, cap, rfl, hl, hm, x3⟩⟩, fun i hi => ?_⟩
            rw [hlen, x2 i hi]
            exact (hC i hi).2
        · cases h
      · cases h
    · rename_i fs ht
      split at h
      · rename_i ks' hk
        split at h
        · rename_i hlen
          simp only [Option.some.injEq] at h; subst h
          obtain ⟨xs, n, _, _, hcl, hxl, hf⟩ := DataW.trod_struct ht hx
          have := fields_ok (cs := cs) (shape_ok d) fs.toList 0 ks' hk (fun f hfm => by
            obtain ⟨i, hi, hif⟩ := List.mem_iff_getElem.1 hfm
            have h2 : i < fs.size := by simpa using hi
            have := hf i f (by rw [← hif]; simp [h2])
            rw [List.getElem?_eq_getElem (by omega)] at this
            exact ⟨n, _, this⟩)
          rw [List.drop_zero, List.take_of_length_le (by omega)] at this
          exact this.imp fun s v => okc_mono d s v
        · cases h
      · cases h
    · rename_i n e ht
      split at h
      · rename_i es he
        split at h
        · rename_i hlen
          simp only [Option.some.injEq] at h; subst h
          obtain ⟨xs, m, _, _, hcl, hxl, hf⟩ := DataW.trod_array ht hx
          have key : ∀ k, k ≤ n → all2 (okc (d + 1) w) (List.replicate k es).flatten (cs.take (k * P.cellsOf e)) := by
            intro k hk
            induction k with
            | zero => simp [all2]
            | succ k ih =>
              rw [List.replicate_succ', List.flatten_append, Nat.succ_mul, List.take_add]
              refine forall2_append (ih (by omega)) ?_
              have hk2 := hf k (by omega)
              rw [List.getElem?_eq_getElem (by omega)] at hk2
              have := (shape_ok d e es he _ _ _ hk2).imp fun s v => okc_mono d s v
              simpa using this
          have := key n (Nat.le_refl _)
          rwa [List.take_of_length_le (by rw [hcl, ← hlen.2, hlen.1]; omega)] at this
        · cases h
      · cases h
    · cases h
end
/-! ### lists of plain records -/
theorem flat_get {T : Type} (enc : T → List Value) (k : Nat) (hk : ∀ x, (enc x).length = k) : ∀ (xs : List T) (i j : Nat) (hi : i < xs.length), j < k → (xs.flatMap enc)[i * k + j]? = (enc xs[i])[j]?
  | [], i, _, hi, _ => absurd hi (Nat.not_lt_zero _)
  | x :: xs, 0, j, _, hj => by
    rw [List.flatMap_cons, Nat.zero_mul, Nat.zero_add, List.getElem?_append_left (by rw [hk]; exact hj)]
    rfl
  | x :: xs, i + 1, j, hi, hj => by
    rw [List.flatMap_cons, List.getElem?_append_right (by rw [hk, Nat.add_mul]; omega), hk, show (i + 1) * k + j - k = i * k + j by rw [Nat.add_mul]; omega]
    exact flat_get enc k hk xs i j (by simpa using hi) hj
/-! ### an argument, opened -/
section
variable {H : Type} {enc : TypeId × Value → H} {P : Program} {w : World} {base b0 : Nat} {spare : Nat → Bool} {held : Bool} {r : Reach} {d : Nat} {t : TypeId} {v : Value} {x : DataW H} {ps : List MemPlace}
theorem arg_struct {fs : Array Field} {ks : List Sh} (ht : P.underlying t = some (.struct fs)) (hs : shapeOf P d t = some ks) (hval : Value.okWide P w r b0 t v) (hd : DataW.Trod enc P w base spare held t v x ps) :
    ∃ cs : List Value, v = .agg cs.toArray ∧ all2 (okc d w) ks cs := by
  obtain ⟨cs, rfl, _⟩ := okWide_struct ht hval
  obtain ⟨fuel, hf⟩ := hd
  exact ⟨cs.toList, by simp, shape_ok d t ks hs _ _ _ hf⟩
end
end Go.Vs
