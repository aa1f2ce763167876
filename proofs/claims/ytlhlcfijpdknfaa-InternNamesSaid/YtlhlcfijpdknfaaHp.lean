/-
  Heaps of numbers in a list: what container/heap does, and that it is a heap. No program in sight.
-/
set_option linter.unusedSimpArgs false
set_option linter.unusedVariables false
namespace Go.Vs.Hp
def swapL (l : List Int) (i k : Nat) : List Int := (l.set i (l.getD k 0)).set k (l.getD i 0)
theorem swapL_len (l : List Int) (i k : Nat) : (swapL l i k).length = l.length := by simp [swapL]
theorem swapL_get {l : List Int} {i k : Nat} (hi : i < l.length) (hk : k < l.length) (j : Nat) : (swapL l i k).getD j 0 = if j = k then l.getD i 0 else if j = i then l.getD k 0 else l.getD j 0 := by
  unfold swapL
  simp only [List.getD_eq_getElem?_getD, List.getElem?_set, List.length_set]
  by_cases h1 : k = j
  · subst h1
    simp [hk]
  · rw [if_neg h1, if_neg (Ne.symm h1)]
    by_cases h2 : i = j
    · subst h2
      simp [hi]
    · rw [if_neg h2, if_neg (Ne.symm h2)]
theorem swapL_perm {l : List Int} {i k : Nat} (hi : i < l.length) (hk : k < l.length) : (swapL l i k).Perm l := by
  have e : swapL l i k = (l.toArray.swap i k (by simpa using hi) (by simpa using hk)).toList := by
    simp [swapL, Array.swap, List.getD_eq_getElem?_getD, hi, hk]
  rw [e]
  have := Array.swap_perm (xs := l.toArray) (i := i) (j := k) (by simpa using hi) (by simpa using hk)
  have := this.toList
  simpa using this
theorem swapL_take {l : List Int} {i k n : Nat} (hi : i < n) (hk : k < n) (hn : n ≤ l.length) : (swapL l i k).take n = swapL (l.take n) i k := by
  unfold swapL
  have e : ∀ j, j < n → (l.take n).getD j 0 = l.getD j 0 := fun j hj => by
    simp [List.getD_eq_getElem?_getD, List.getElem?_take, hj]
  rw [e i hi, e k hk, List.take_set, List.take_set]
theorem swapL_drop {l : List Int} {i k n : Nat} (hi : i < n) (hk : k < n) : (swapL l i k).drop n = l.drop n := by
  unfold swapL
  rw [List.drop_set_of_lt hk, List.drop_set_of_lt hi]

def childF (L : List Int) (i n : Nat) : Nat := if 2 * i + 1 + 1 < n ∧ L.getD (2 * i + 1 + 1) 0 < L.getD (2 * i + 1) 0 then 2 * i + 1 + 1 else 2 * i + 1
def downF : Nat → List Int → Nat → Nat → List Int × Nat
  | 0, L, i, _ => (L, i)
  | f + 1, L, i, n => if n ≤ 2 * i + 1 then (L, i) else
    if L.getD (if 2 * i + 1 + 1 < n ∧ L.getD (2 * i + 1 + 1) 0 < L.getD (2 * i + 1) 0 then 2 * i + 1 + 1 else 2 * i + 1) 0 < L.getD i 0 then
      downF f (swapL L i (if 2 * i + 1 + 1 < n ∧ L.getD (2 * i + 1 + 1) 0 < L.getD (2 * i + 1) 0 then 2 * i + 1 + 1 else 2 * i + 1)) (if 2 * i + 1 + 1 < n ∧ L.getD (2 * i + 1 + 1) 0 < L.getD (2 * i + 1) 0 then 2 * i + 1 + 1 else 2 * i + 1) n
    else (L, i)
def upF : Nat → List Int → Nat → List Int
  | 0, L, _ => L
  | f + 1, L, j => if (j - 1) / 2 = j then L else if L.getD j 0 < L.getD ((j - 1) / 2) 0 then upF f (swapL L ((j - 1) / 2) j) ((j - 1) / 2) else L

/-- The first n are a heap. -/
def Heap (L : List Int) (n : Nat) : Prop := ∀ j, 0 < j → j < n → L.getD ((j - 1) / 2) 0 ≤ L.getD j 0
theorem Heap.least {L : List Int} {n : Nat} (h : Heap L n) : ∀ i, i < n → L.getD 0 0 ≤ L.getD i 0 := by
  intro i
  induction i using Nat.strongRecOn with
  | _ i ih =>
    intro hi
    rcases Nat.eq_zero_or_pos i with h0 | h0
    · subst h0; exact Int.le_refl _
    · exact Int.le_trans (ih ((i - 1) / 2) (by omega) (by omega)) (h i h0 hi)

theorem down_ok : ∀ (f : Nat) (L : List Int) (i n : Nat), n ≤ f + i → n ≤ L.length → i < n →
    (∀ j, 0 < j → j < n → (j - 1) / 2 ≠ i → L.getD ((j - 1) / 2) 0 ≤ L.getD j 0) →
    (∀ j, 0 < j → j < n → (j - 1) / 2 = i → 0 < i → L.getD ((i - 1) / 2) 0 ≤ L.getD j 0) →
    Heap (downF f L i n).1 n ∧ (downF f L i n).1.length = L.length ∧ ((downF f L i n).1.take n).Perm (L.take n) ∧ (downF f L i n).1.drop n = L.drop n := by
  intro f
  induction f with
  | zero => intro L i n h1 h2 h3; omega
  | succ f ih =>
    intro L i n h1 h2 h3 hA hB
    unfold downF
    split
    · rename_i h4
      exact ⟨fun j h5 h6 => hA j h5 h6 (by omega), rfl, List.Perm.refl _, rfl⟩
    · rename_i h4
      generalize hJ : (if 2 * i + 1 + 1 < n ∧ L.getD (2 * i + 1 + 1) 0 < L.getD (2 * i + 1) 0 then 2 * i + 1 + 1 else 2 * i + 1) = J
      have hJ2 : (J = 2 * i + 1 ∨ J = 2 * i + 2) ∧ J < n ∧ (∀ j, 0 < j → j < n → (j - 1) / 2 = i → L.getD J 0 ≤ L.getD j 0) := by
        have hc : ∀ j, 0 < j → (j - 1) / 2 = i → j = 2 * i + 1 ∨ j = 2 * i + 1 + 1 := fun j h5 h6 => by omega
        split at hJ
        · rename_i h5
          subst hJ
          refine ⟨by omega, h5.1, fun j h6 h7 h8 => ?_⟩
          rcases hc j h6 h8 with rfl | rfl
          · omega
          · exact Int.le_refl _
        · rename_i h5
          subst hJ
          refine ⟨by omega, by omega, fun j h6 h7 h8 => ?_⟩
          rcases hc j h6 h8 with rfl | rfl
          · exact Int.le_refl _
          · have : ¬ L.getD (2 * i + 1 + 1) 0 < L.getD (2 * i + 1) 0 := fun h => h5 ⟨h7, h⟩
            omega
      obtain ⟨hJe, hJn, hJm⟩ := hJ2
      split
      · rename_i h5
        have hg := swapL_get (l := L) (i := i) (k := J) (by omega) (by omega)
        have := ih (swapL L i J) J n (by omega) (by rw [swapL_len]; exact h2) hJn (fun j h6 h7 h8 => by
          rw [hg, hg, if_neg h8]
          by_cases h9 : (j - 1) / 2 = i
          · rw [if_pos h9]
            by_cases h10 : j = J
            · rw [if_pos h10]; omega
            · rw [if_neg h10, if_neg (by omega)]
              exact hJm j h6 h7 h9
          · rw [if_neg h9]
            have h10 : j ≠ J := by omega
            rw [if_neg h10]
            by_cases h11 : j = i
            · rw [if_pos h11]
              subst h11
              exact hB J (by omega) hJn (by omega) (by omega)
            · rw [if_neg h11]
              exact hA j h6 h7 h9) (fun j h6 h7 h8 h9 => by
          have e1 : (J - 1) / 2 = i := by omega
          rw [e1, hg, hg, if_neg (show i ≠ J by omega), if_pos rfl, if_neg (show j ≠ J by omega), if_neg (show j ≠ i by omega)]
          have := hA j h6 h7 (by omega)
          rw [h8] at this
          exact this)
        obtain ⟨g1, g2, g3, g4⟩ := this
        refine ⟨g1, by rw [g2, swapL_len], g3.trans ?_, by rw [g4, swapL_drop (by omega) (by omega)]⟩
        rw [swapL_take (by omega) (by omega) h2]
        exact swapL_perm (by rw [List.length_take]; omega) (by rw [List.length_take]; omega)
      · rename_i h5
        refine ⟨fun j h6 h7 => ?_, rfl, List.Perm.refl _, rfl⟩
        show L.getD ((j - 1) / 2) 0 ≤ L.getD j 0
        by_cases h8 : (j - 1) / 2 = i
        · rw [h8]
          have := hJm j h6 h7 h8
          omega
        · exact hA j h6 h7 h8

theorem up_ok : ∀ (f : Nat) (L : List Int) (i : Nat), i < f → i < L.length →
    (∀ j, 0 < j → j < L.length → j ≠ i → L.getD ((j - 1) / 2) 0 ≤ L.getD j 0) →
    (∀ j, 0 < j → j < L.length → (j - 1) / 2 = i → 0 < i → L.getD ((i - 1) / 2) 0 ≤ L.getD j 0) →
    Heap (upF f L i) L.length ∧ (upF f L i).Perm L := by
  intro f
  induction f with
  | zero => intro L i h1; omega
  | succ f ih =>
    intro L i h1 h2 hA hB
    unfold upF
    split
    · rename_i h3
      exact ⟨fun j h5 h6 => hA j h5 h6 (by omega), List.Perm.refl _⟩
    · rename_i h3
      split
      · rename_i h4
        generalize hp : (i - 1) / 2 = p at h3 h4
        have hg := swapL_get (l := L) (i := p) (k := i) (by omega) (by omega)
        have hlt : L.getD i 0 < L.getD p 0 := by rw [← hp]; rw [← hp] at h4; exact h4
        have := ih (swapL L p i) p (by omega) (by rw [swapL_len]; omega) (fun j h6 h7 h8 => by
          rw [swapL_len] at h7
          rw [hg, hg]
          by_cases h9 : j = i
          · subst h9
            rw [if_pos rfl, hp, if_neg h3, if_pos rfl]
            omega
          · rw [if_neg h9, if_neg h8]
            by_cases h10 : (j - 1) / 2 = i
            · rw [if_pos h10]
              have := hB j h6 h7 h10 (by omega)
              rw [hp] at this
              exact this
            · rw [if_neg h10]
              by_cases h11 : (j - 1) / 2 = p
              · rw [if_pos h11]
                have := hA j h6 h7 h9
                rw [h11] at this
                omega
              · rw [if_neg h11]
                exact hA j h6 h7 h9) (fun j h6 h7 h8 h9 => by
          rw [swapL_len] at h7
          rw [hg, hg, if_neg (show (p - 1) / 2 ≠ i by omega), if_neg (show (p - 1) / 2 ≠ p by omega)]
          have hpp := hA p h9 (by omega) (by omega)
          by_cases h10 : j = i
          · rw [if_pos h10]; exact hpp
          · rw [if_neg h10, if_neg (show j ≠ p by omega)]
            have := hA j h6 h7 h10
            rw [h8] at this
            omega)
        rw [swapL_len] at this
        exact ⟨this.1, this.2.trans (swapL_perm (by omega) h2)⟩
      · rename_i h4
        refine ⟨fun j h6 h7 => ?_, List.Perm.refl _⟩
        by_cases h8 : j = i
        · subst h8; omega
        · exact hA j h6 h7 h8

/-- heap.Push. -/
def pushF (L : List Int) (x : Int) : List Int := upF (L.length + 1) (L ++ [x]) L.length
theorem push_ok {L : List Int} (h : Heap L L.length) (x : Int) : Heap (pushF L x) (pushF L x).length ∧ (pushF L x).Perm (L ++ [x]) := by
  have hl : (L ++ [x]).length = L.length + 1 := by simp
  have hge : ∀ j, j < L.length → (L ++ [x]).getD j 0 = L.getD j 0 := fun j hj => by
    simp [List.getD_eq_getElem?_getD, List.getElem?_append_left hj]
  have := up_ok (L.length + 1) (L ++ [x]) L.length (by omega) (by omega) (fun j h1 h2 h3 => by
    rw [hge _ (by omega), hge _ (by omega)]
    exact h j h1 (by omega)) (fun j h1 h2 h3 h4 => by omega)
  have hp := this.2
  refine ⟨?_, hp⟩
  rw [show (pushF L x).length = (L ++ [x]).length from hp.length_eq]
  exact this.1
/-- What heap.Pop leaves in the row: the one taken out stands last. -/
def popN (L : List Int) (N : Nat) : List Int := (downF (N - 1) (swapL L 0 (N - 1)) 0 (N - 1)).1
theorem pop_ok {L : List Int} {n : Nat} (h : Heap L n) (h0 : 0 < n) (hn : n ≤ L.length) :
    (popN L n).length = L.length ∧ (popN L n).getD (n - 1) 0 = L.getD 0 0 ∧ Heap ((popN L n).take (n - 1)) (n - 1) ∧ (L.take n).Perm (L.getD 0 0 :: (popN L n).take (n - 1)) := by
  have hs := swapL_len L 0 (n - 1)
  have hg := swapL_get (l := L) (i := 0) (k := n - 1) (by omega) (by omega)
  have key : (popN L n).length = L.length ∧ Heap (popN L n) (n - 1) ∧ ((popN L n).take (n - 1)).Perm ((swapL L 0 (n - 1)).take (n - 1)) ∧ (popN L n).drop (n - 1) = (swapL L 0 (n - 1)).drop (n - 1) := by
    by_cases h1 : n - 1 = 0
    · have e0 : popN L n = swapL L 0 (n - 1) := by
        unfold popN
        have : ∀ A, (downF (n - 1) A 0 (n - 1)).1 = A := fun A => by
          rw [h1]
          rfl
        exact this _
      rw [e0]
      exact ⟨hs, fun j h2 h3 => by omega, List.Perm.refl _, rfl⟩
    · have := down_ok (n - 1) (swapL L 0 (n - 1)) 0 (n - 1) (by omega) (by omega) (by omega) (fun j h2 h3 h4 => by
        rw [hg, hg, if_neg (by omega), if_neg h4, if_neg (by omega), if_neg (by omega)]
        exact h j h2 (by omega)) (fun j h2 h3 h4 h5 => by omega)
      exact ⟨by rw [← hs]; exact this.2.1, this.1, this.2.2.1, this.2.2.2⟩
  obtain ⟨k1, k2, k3, k4⟩ := key
  have hd : ∀ (A : List Int), A.length = L.length → A.take n = A.take (n - 1) ++ [A.getD (n - 1) 0] := fun A hA => by
    have e : n = n - 1 + 1 := by omega
    have e2 : A.getD (n - 1) 0 = A[n - 1] := by
      rw [List.getD_eq_getElem?_getD, List.getElem?_eq_getElem (by omega)]
      rfl
    rw [e2, List.take_append_getElem]
    exact congrArg (fun k => A.take k) e
  have hh : ∀ (A : List Int), A.getD (n - 1) 0 = (A.drop (n - 1)).getD 0 0 := fun A => by
    simp [List.getD_eq_getElem?_getD]
  have hge : (popN L n).getD (n - 1) 0 = L.getD 0 0 := by
    rw [hh, k4, ← hh, hg, if_pos rfl]
  refine ⟨k1, hge, fun j h2 h3 => ?_, ?_⟩
  · have e : ∀ i, i < n - 1 → ((popN L n).take (n - 1)).getD i 0 = (popN L n).getD i 0 := fun i hi => by
      simp [List.getD_eq_getElem?_getD, List.getElem?_take, hi]
    rw [e _ (by omega), e _ h3]
    exact k2 j h2 h3
  · have e1 : ((popN L n).take n).Perm (L.take n) := by
      have p2 := swapL_perm (l := L.take n) (i := 0) (k := n - 1) (by rw [List.length_take]; omega) (by rw [List.length_take]; omega)
      rw [← swapL_take (by omega) (by omega) hn] at p2
      refine List.Perm.trans ?_ p2
      rw [hd _ k1, hd _ hs, hge, hg, if_pos rfl]
      exact List.Perm.append_right _ k3
    refine e1.symm.trans ?_
    rw [hd _ k1, hge]
    exact List.perm_append_comm (l₁ := (popN L n).take (n - 1)) (l₂ := [L.getD 0 0])
end Go.Vs.Hp
