/-
  Chapter 4: SubstParts: the walk on abstract values, and its plain law.
-/
import Derived.Test.YtkkkpbnehpfkkaaTe
set_option linter.unusedSimpArgs false
namespace Go.Proofs.Ytkkkpbnehpfkkaa
open Go.Vs Go.Vs.Ab

-- NOT OK 7 13 10000 [5, 29, 31, 32, 41, 48, 56, 57, 58, 59, 63, 64, 65, 66, 68, 71, 72, 73, 74] [0, 1, 2, 3, 4, 5, 6, 7, 8, 9, 10, 11, 12, 13, 14, 15, 16, 17, 18, 19, 20, 21, 22, 23, 24, 25, 26, 27, 28, 29, 30, 31, 32, 33, 34, 35, 36, 37, 38, 39, 40, 41, 42, 43, 44, 45, 46, 47, 48, 49, 50, 51, 52, 53, 54, 55, 56, 57, 58, 59, 60, 61, 62, 8888, 63, 64]
def hintTab : List ((Nat × Nat) × Nat × List Nat × List Nat) := [
  ((3, 15), 10000, [], [0, 1, 2, 3, 4, 5, 6, 7, 8, 9, 10, 11, 12, 13]),
  ((3, 19), 10000, [2, 5, 10], [0, 1, 3, 4, 2, 5, 6, 7, 8, 9, 11, 10, 12, 13, 14, 15, 16, 17, 18, 19, 20, 21, 22, 23, 24]),
  ((4, 6), 10000, [1, 4], [0, 2, 3, 1, 4, 5, 6, 7, 8, 9]),
  ((4, 18), 10000, [10], [0, 1, 2, 3, 4, 5, 6, 7, 8, 9, 10, 11, 12]),
  ((4, 20), 10000, [5, 11, 15, 16, 21, 24, 25], [0, 1, 2, 3, 4, 5, 6, 7, 8, 9, 10, 12, 13, 14, 11, 15, 16, 17, 18, 19, 20, 22, 23, 21, 24, 25, 26, 27, 28]),
  ((5, 13), 10000, [6, 7], [0, 1, 2, 3, 4, 5, 6, 7, 8, 9, 10, 11, 12]),
  ((5, 23), 10000, [3, 8], [0, 1, 2, 4, 5, 6, 7, 3, 8, 9]),
  ((5, 24), 10000, [2, 4, 5, 11], [0, 1, 3, 6, 7, 8, 9, 10, 2, 4, 5, 11, 12]),
  ((6, 7), 10000, [1, 6], [0, 1, 2, 3, 4, 5, 7, 6, 8, 9]),
  ((6, 12), 10000, [1, 6, 9], [0, 1, 2, 3, 4, 5, 7, 8, 6, 9, 10, 11, 12]),
  ((8, 7), 10000, [1, 4], [0, 2, 3, 1, 4, 5, 6, 7, 8, 9]),
  ((8, 11), 10000, [11, 21, 30, 32, 38, 41, 47, 50, 55, 57, 60, 61], [0, 1, 2, 3, 4, 5, 6, 7, 8, 9, 10, 11, 12, 13, 14, 15, 16, 17, 18, 19, 20, 21, 22, 23, 24, 25, 26, 27, 28, 29, 31, 30, 32, 33, 34, 35, 36, 37, 39, 40, 38, 41, 42, 43, 44, 45, 46, 48, 49, 47, 50, 51, 52, 53, 54, 56, 58, 59, 55, 57, 60, 61, 62, 63]),
  ((16, 5), 10000, [11], [0, 1, 2, 3, 4, 5, 6, 7, 8, 9, 10, 11, 12, 13, 14, 15, 16]),
  ((17, 11), 10000, [2, 3, 5], [0, 1, 4, 2, 3, 5, 6, 7]),
  ((18, 6), 10000, [], [0, 1, 2, 3, 4, 5, 6]),
  ((30, 6), 10000, [], [0, 1, 2, 3, 4, 5, 6, 7, 8]),
  ((33, 6), 10000, [], [0, 1, 2, 3, 4, 5, 6, 7, 8]),
  ((35, 16), 10000, [12, 14, 15], [0, 1, 2, 3, 4, 5, 6, 7, 8, 9, 10, 11, 12, 13, 14, 15, 16]),
  ((36, 8), 10000, [], [0, 1, 2, 3, 4, 5, 6, 7, 8, 9, 10, 11, 12]),
  ((36, 9), 10000, [8], [0, 1, 2, 3, 4, 5, 6, 7, 8, 9]),
  ((37, 4), 10000, [], [0, 1, 2, 3, 4, 5, 6, 7, 8, 9, 10, 11, 12, 13, 14, 15, 16, 17, 18, 19, 20, 21, 22, 23, 24]),
  ((40, 9), 10000, [], [0, 1, 2, 3, 4, 5, 6, 7, 8, 9, 10, 11, 12, 13]),
  ((42, 9), 10000, [], [0, 1, 2, 3, 4, 5, 6, 7, 8, 9, 10, 11, 12]),
  ((45, 2), 10000, [5, 6, 10], [0, 1, 2, 3, 4, 7, 8, 9, 5, 6, 10, 11]),
  ((46, 5), 10000, [6, 8, 9], [0, 1, 2, 3, 4, 5, 6, 7, 8, 9, 10]),
  ((47, 4), 10000, [], [0, 1, 2, 3, 4, 5, 6, 7, 8, 9, 10, 11, 12, 13, 14, 15]),
  ((49, 1), 10000, [], [0, 1, 2, 3, 4, 5, 6, 7]),
  ((55, 6), 10000, [], [0, 1, 2, 3, 4, 5, 6, 7, 8, 9, 10, 11]),
  ((57, 1), 10000, [], [0, 1, 2, 3, 4, 5, 6, 7, 8])]
set_option maxRecDepth 100000
theorem lives_does : Does Try.prog 9 [] (fun m => (bA true, m)) :=
  does_of_ev (H := lookH hintTab) (n := 100) follows (v := .bool true) (callable Try.func9 (by kernel_rfl)) rfl (by kernel_rfl)

theorem bin_eqA' (x y : Operand) (s t : Atm) : pureVal Try.prog (do eqGuard .eql 27 x y (.agg [.string s.says, .string s.pred, .int .i64 s.n, .bool s.a0.v, .string s.a0.name, .bool s.a1.v, .string s.a1.name, .bool s.a2.v, .string s.a2.name, .bool s.a3.v, .string s.a3.name].toArray) (.agg [.string t.says, .string t.pred, .int .i64 t.n, .bool t.a0.v, .string t.a0.name, .bool t.a1.v, .string t.a1.name, .bool t.a2.v, .string t.a2.name, .bool t.a3.v, .string t.a3.name].toArray); binOp .eql 27 (.agg [.string s.says, .string s.pred, .int .i64 s.n, .bool s.a0.v, .string s.a0.name, .bool s.a1.v, .string s.a1.name, .bool s.a2.v, .string s.a2.name, .bool s.a3.v, .string s.a3.name].toArray) (.agg [.string t.says, .string t.pred, .int .i64 t.n, .bool t.a0.v, .string t.a0.name, .bool t.a1.v, .string t.a1.name, .bool t.a2.v, .string t.a2.name, .bool t.a3.v, .string t.a3.name].toArray)) = some (.bool (decide (s = t))) := bin_eqA x y s t
theorem info_s : info3 Try.prog 9 = some (1, 16) := by simp only [info3, sz9, by9, ze9]; rfl
theorem build1S {v : AV} {ds : List CV} (hc : cells v = some ds) (hd : ds.length = 1) : aBuildSlice Try.prog 31 1 [(0, v)] = some ds := build1 Try.underlying31 sz9 ze9 (by decide) (by decide) (by decide) hc hd
theorem build1S' (s : ByteArray) : aBuildSlice Try.prog 31 1 [(0, sA s)] = some [.v (.string s)] := build1S rfl rfl

/-! ### the plain law -/
def others (l : List Bd) (V : List ByteArray) : List ByteArray := (l.filter (fun b => !pin V b.var)).map Bd.var
theorem others_next {l : List Bd} {V : List ByteArray} {k : Nat} (hk : k < l.length) : others (l.take (k + 1)) V = others (l.take k) V ++ (if pin V l[k].var = true then [] else [l[k].var]) := by
  unfold others
  rw [List.take_succ_eq_append_getElem hk, List.filter_append, List.map_append]
  cases h : pin V l[k].var <;> simp [h]
theorem others_len (l : List Bd) (V : List ByteArray) : (others l V).length ≤ l.length := by
  unfold others
  rw [List.length_map]
  exact List.length_filter_le _ _
theorem pin_mem {V : List ByteArray} {s : ByteArray} : pin V s = true ↔ s ∈ V := by
  unfold pin
  rw [List.any_eq_true]
  constructor
  · rintro ⟨x, hx, he⟩
    simp at he
    subst he
    exact hx
  · intro h
    exact ⟨s, h, by simp⟩
theorem pget_filter {x : ByteArray} {p : Bd → Bool} : ∀ {l : List Bd}, (∀ b ∈ l, b.var = x → p b = true) → pget (l.filter p) x = pget l x
  | [], _ => rfl
  | b :: l, h => by
    have ih := pget_filter (l := l) (fun c hc => h c (by simp [hc]))
    unfold pget at ih ⊢
    by_cases hp : p b = true
    · rw [List.filter_cons_of_pos hp, List.find?_cons, List.find?_cons]
      split
      · rfl
      · exact ih
    · have hne : ¬ b.var = x := fun e => hp (h b (by simp) e)
      rw [List.filter_cons_of_neg hp, List.find?_cons, ih]
      simp [hne]
theorem pget_filter_none {l : List Bd} {p : Bd → Bool} {x : ByteArray} (h : ∀ b ∈ l, b.var = x → p b = false) : pget (l.filter p) x = none := by
  unfold pget
  rw [Option.map_eq_none_iff, List.find?_eq_none]
  intro b hb
  rw [List.mem_filter] at hb
  simp only [decide_eq_true_eq]
  intro e
  have := h b hb.1 e
  rw [this] at hb
  exact absurd hb.2 Bool.false_ne_true
theorem pnames_mem (a : Atm) : ∀ (k : Nat), k ≤ 4 → ∀ i, i < k → (a.arg i).v = true → (a.arg i).name ∈ pnamesK a true k
  | 0, _, i, hi, _ => absurd hi (Nat.not_lt_zero _)
  | k + 1, hk, i, hi, hv => by
    unfold pnamesK
    rw [List.mem_append]
    by_cases e : i < k
    · exact Or.inl (pnames_mem a k (by omega) i e hv)
    · obtain rfl : i = k := by omega
      by_cases hs : pseen a i i = true
      · left
        unfold pseen at hs
        rw [List.any_eq_true] at hs
        obtain ⟨t, ht, he⟩ := hs
        simp only [decide_eq_true_eq] at he
        have : ∃ j, j < i ∧ a.arg j = t := by
          obtain ⟨j, hj, h1⟩ := List.mem_iff_getElem.1 ht
          rw [List.length_take] at hj
          refine ⟨j, by omega, ?_⟩
          rw [← h1, List.getElem_take]
          have hj4 : j < 4 := by simp [Atm.args] at hj; omega
          obtain rfl | rfl | rfl | rfl : j = 0 ∨ j = 1 ∨ j = 2 ∨ j = 3 := by omega
          all_goals rfl
        obtain ⟨j, hj, hjt⟩ := this
        have := pnames_mem a i (by omega) j hj (by rw [hjt, he]; exact hv)
        rwa [hjt, he] at this
      · right
        rw [if_pos ⟨hv, by simpa using hs⟩]
        simp
theorem upto_congr {f g : Tm → Tm} {a : Atm} {k : Nat} (h : ∀ i, i < k → i < 4 → f (a.arg i) = g (a.arg i)) : a.upto f k = a.upto g k := by
  unfold Atm.upto
  have h0 := h 0
  have h1 := h 1
  have h2 := h 2
  have h3 := h 3
  simp only [Atm.arg] at h0 h1 h2 h3
  congr 1
  · split
    · exact h0 (by assumption) (by omega)
    · rfl
  · split
    · exact h1 (by assumption) (by omega)
    · rfl
  · split
    · exact h2 (by assumption) (by omega)
    · rfl
  · split
    · exact h3 (by assumption) (by omega)
    · rfl
theorem upto_id (a : Atm) (k : Nat) : a.upto id k = a := by
  unfold Atm.upto
  simp
theorem parts_same (l : List Bd) (a : Atm) : papp (prestrict l (pnames a true)) a = papp l a := by
  unfold papp
  refine upto_congr fun i hi h4 => ?_
  unfold pterm
  split
  · rename_i hv
    unfold prestrict
    rw [pget_filter]
    intro b _ he
    rw [pin_mem, he]
    exact pnames_mem a a.count a.count_le i hi hv
  · rfl
theorem parts_other (l : List Bd) (a : Atm) : papp (prestrict l (others l (pnames a true))) a = a := by
  unfold papp
  refine (upto_congr (g := id) fun i hi h4 => ?_).trans (upto_id a _)
  unfold pterm
  split
  · rename_i hv
    unfold prestrict
    rw [pget_filter_none]
    · rfl
    · intro b _ he
      rw [Bool.eq_false_iff]
      intro h
      rw [pin_mem] at h
      unfold others at h
      rw [List.mem_map] at h
      obtain ⟨c, hc, h1⟩ := h
      rw [List.mem_filter] at hc
      have h2 := hc.2
      simp only [Bool.not_eq_true'] at h2
      have : pin (pnames a true) c.var = true := by
        rw [pin_mem, h1, he]
        exact pnames_mem a a.count a.count_le i hi hv
      rw [this] at h2
      cases h2
  · rfl
theorem parts_len (l : List Bd) (V : List ByteArray) : (prestrict l V).length + (prestrict l (others l V)).length = l.length := by
  have h : prestrict l (others l V) = l.filter (fun b => !pin V b.var) := by
    unfold prestrict
    refine List.filter_congr fun b hb => ?_
    cases hp : pin V b.var with
    | true =>
      simp only [Bool.not_true]
      rw [Bool.eq_false_iff]
      intro h
      rw [pin_mem] at h
      unfold others at h
      rw [List.mem_map] at h
      obtain ⟨c, hc, h1⟩ := h
      rw [List.mem_filter] at hc
      have h2 := hc.2
      rw [h1, hp] at h2
      cases h2
    | false =>
      simp only [Bool.not_false]
      rw [pin_mem]
      unfold others
      rw [List.mem_map]
      exact ⟨b, by rw [List.mem_filter]; exact ⟨hb, by simp [hp]⟩, rfl⟩
  rw [h]
  unfold prestrict
  have key : ∀ (p : Bd → Bool) (l : List Bd), (l.filter p).length + (l.filter (fun b => !p b)).length = l.length := fun p l => by
    induction l with
    | nil => rfl
    | cons b l ih =>
      cases hp : p b
      · rw [List.filter_cons_of_neg (by rw [hp]; exact Bool.false_ne_true), List.filter_cons_of_pos (by rw [hp]; rfl), List.length_cons, List.length_cons]
        omega
      · rw [List.filter_cons_of_pos hp, List.filter_cons_of_neg (by rw [hp]; exact Bool.false_ne_true), List.length_cons, List.length_cons]
        omega
  exact key _ l
end Go.Proofs.Ytkkkpbnehpfkkaa
