/-
  Part 1 of the proof's own texts: general lemmas and contracts of functions, laid one behind the other.
-/
import Derived.Test.YtkkkpbnehpfkkaaSubstNamesm0
import Derived.Test.YtkkkpbnehpfkkaaAm
import Derived.Test.YtkkkpbnehpfkkaaAp
import Derived.Test.YtkkkpbnehpfkkaaAs
import Derived.Test.YtkkkpbnehpfkkaaAtm
/-
  Chapter 4: composition of bindings: the plain laws.
-/
set_option linter.unusedSimpArgs false
set_option linter.unusedVariables false
namespace Go.Proofs.Ytkkkpbnehpfkkaa
open Go.Vs Go.Vs.Ab

def pcomp0 (a b : List Bd) : List Bd := (punder a b).filter fun x => !pown x
def pcStep (a : List Bd) (acc : List Bd) (x : Bd) : List Bd := if (pget a x.var).isSome then acc else pwith acc x
def pcompK (a b : List Bd) (k : Nat) : List Bd := (b.take k).foldl (pcStep a) (pcomp0 a b)
def pcompL (a b : List Bd) : List Bd := b.foldl (pcStep a) (pcomp0 a b)
def pcE (a b : List Bd) : Bool := pcheck a && pcheck b && pcheck (pcompL a b)
def pcR (a b : List Bd) : List Bd := if pcE a b then pcompL a b else []
theorem pcompK_all (a b : List Bd) : pcompK a b b.length = pcompL a b := by
  unfold pcompK pcompL
  rw [List.take_length]
theorem pcompK_next {a b : List Bd} {k : Nat} (h : k < b.length) : pcompK a b (k + 1) = pcStep a (pcompK a b k) b[k] := by
  unfold pcompK
  rw [List.take_succ_eq_append_getElem h, List.foldl_append]
  rfl
theorem pget_pr {x : Bd} : ∀ {l : List Bd}, l.Pairwise (fun x y => blt x.var y.var = true) → x ∈ l → pget l x.var = some x.t
  | [], _, h => by simp at h
  | y :: r, hp, h => by
    rw [List.pairwise_cons] at hp
    rw [pget_cons]
    rcases List.mem_cons.1 h with rfl | h
    · rw [if_pos rfl]
    · rw [if_neg (blt_ne (hp.1 x h)), pget_pr hp.2 h]
theorem pcheck_pair {l : List Bd} (h : pcheck l = true) : l.Pairwise (fun x y => blt x.var y.var = true) := (pcheck_iff.1 h).1
theorem pair_take {b : List Bd} (hb : b.Pairwise (fun x y => blt x.var y.var = true)) {k : Nat} (h : k < b.length) : ∀ x ∈ b.take k, x.var ≠ b[k].var := fun x hx => by
  obtain ⟨j, hj, rfl⟩ := List.mem_iff_getElem.1 hx
  rw [List.getElem_take]
  have hjk : j < k := by
    rw [List.length_take] at hj
    omega
  exact blt_ne (List.pairwise_iff_getElem.1 hb j k (by omega) h hjk)
theorem pcomp0_pair {a : List Bd} (b : List Bd) (ha : pcheck a = true) : (pcomp0 a b).Pairwise (fun x y => blt x.var y.var = true) := by
  unfold pcomp0
  exact (prises_lt (prises_punder (prises_of (pcheck_pair ha)))).filter _
theorem pcK_good {a b : List Bd} (ha : pcheck a = true) (hb : pcheck b = true) : ∀ k, k ≤ b.length →
    (pcompK a b k).Pairwise (fun x y => blt x.var y.var = true) ∧ (∀ y ∈ pcompK a b k, (∃ x ∈ a, x.var = y.var) ∨ ∃ x ∈ b.take k, x.var = y.var) ∧ (pcompK a b k).length ≤ a.length + k
  | 0, _ => by
    refine ⟨pcomp0_pair b ha, fun y hy => Or.inl ?_, ?_⟩
    · have : y ∈ punder a b := (List.mem_filter.1 hy).1
      unfold punder at this
      obtain ⟨x, hx, rfl⟩ := List.mem_map.1 this
      exact ⟨x, hx, rfl⟩
    · show (pcomp0 a b).length ≤ _
      unfold pcomp0
      have := List.length_filter_le (fun x => !pown x) (punder a b)
      rw [punder_len] at this
      omega
  | k + 1, hk => by
    obtain ⟨h1, h2, h3⟩ := pcK_good ha hb k (by omega)
    have hlt : k < b.length := by omega
    rw [pcompK_next hlt]
    have ht : b.take (k + 1) = b.take k ++ [b[k]] := List.take_succ_eq_append_getElem hlt
    unfold pcStep
    split
    · refine ⟨h1, fun y hy => ?_, by omega⟩
      rcases h2 y hy with h | ⟨x, hx, e⟩
      · exact Or.inl h
      · exact Or.inr ⟨x, by rw [ht]; exact List.mem_append.2 (Or.inl hx), e⟩
    · rename_i hn
      have hn : pget a b[k].var = none := by simpa using hn
      refine ⟨with_pair h1 fun x hx => ?_, fun y hy => ?_, by rw [pwith_len]; omega⟩
      · rcases h2 x hx with ⟨z, hz, e⟩ | ⟨z, hz, e⟩
        · rw [← e]; exact pget_none_iff.1 hn z hz
        · rw [← e]; exact pair_take (pcheck_pair hb) hlt z hz
      · rcases mem_with.1 hy with rfl | hy
        · exact Or.inr ⟨b[k], by rw [ht]; exact List.mem_append.2 (Or.inr (List.mem_singleton.2 rfl)), rfl⟩
        · rcases h2 y hy with h | ⟨x, hx, e⟩
          · exact Or.inl h
          · exact Or.inr ⟨x, by rw [ht]; exact List.mem_append.2 (Or.inl hx), e⟩
def pcGet (a b l : List Bd) (v : ByteArray) : Option Tm := match pget a v with
  | some s => if pown ⟨v, pterm b s⟩ then none else some (pterm b s)
  | none => pget l v
theorem pcK_get {a b : List Bd} (ha : pcheck a = true) (hb : pcheck b = true) (v : ByteArray) : ∀ k, k ≤ b.length → pget (pcompK a b k) v = pcGet a b (b.take k) v
  | 0, _ => by
    show pget (pcomp0 a b) v = _
    have hp := prises_lt (prises_punder (m := b) (prises_of (pcheck_pair ha)))
    have hu := pget_under a b v
    unfold pcGet pcomp0
    cases hg : pget a v with
    | none =>
      rw [hg] at hu
      show _ = none
      rw [pget_none_iff]
      intro x hx
      exact pget_none_iff.1 hu x (List.mem_filter.1 hx).1
    | some s =>
      rw [hg] at hu
      have only : ∀ x ∈ punder a b, x.var = v → x = ⟨v, pterm b s⟩ := fun x hx e => by
        have := pget_pr hp hx
        rw [e, hu] at this
        injection this with this
        cases x
        simp only at e this
        rw [e, this]
      simp only
      split
      · rename_i ho
        exact pget_filter_none fun x hx e => by rw [only x hx e, ho]; rfl
      · rename_i ho
        rw [pget_filter fun x hx e => by rw [only x hx e]; simpa using ho, hu]
        rfl
  | k + 1, hk => by
    have hlt : k < b.length := by omega
    have ih := fun v => pcK_get ha hb v k (by omega)
    have ht : b.take (k + 1) = b.take k ++ [b[k]] := List.take_succ_eq_append_getElem hlt
    rw [pcompK_next hlt]
    unfold pcStep
    split
    · rename_i hs
      rw [ih]
      unfold pcGet
      cases hg : pget a v with
      | some s => rfl
      | none =>
        simp only
        have hne : b[k].var ≠ v := fun e => by rw [e, hg] at hs; cases hs
        rw [ht, pget_append, pget_cons, if_neg hne]
        cases pget (b.take k) v <;> rfl
    · rename_i hn
      have hn : pget a b[k].var = none := by simpa using hn
      have h0 : pget (b.take k) b[k].var = none := pget_none_iff.2 fun x hx => pair_take (pcheck_pair hb) hlt x hx
      have hacc : pget (pcompK a b k) b[k].var = none := by
        rw [ih]
        unfold pcGet
        rw [hn]
        exact h0
      rw [pget_with hacc, ih]
      unfold pcGet
      by_cases hv : b[k].var = v
      · rw [if_pos hv, ← hv, hn]
        simp only
        rw [ht, pget_append, h0, pget_cons, if_pos rfl]
        rfl
      · rw [if_neg hv]
        cases hg : pget a v with
        | some s => rfl
        | none =>
          simp only
          rw [ht, pget_append, pget_cons, if_neg hv]
          cases pget (b.take k) v <;> rfl
theorem comp_get {a b : List Bd} (ha : pcheck a = true) (hb : pcheck b = true) (v : ByteArray) : pget (pcompL a b) v = pcGet a b b v := by
  rw [← pcompK_all, pcK_get ha hb v b.length (Nat.le_refl _), List.take_length]
theorem comp_term {a b : List Bd} (ha : pcheck a = true) (hb : pcheck b = true) (t : Tm) : pterm (pcompL a b) t = pterm b (pterm a t) := by
  obtain ⟨v, n⟩ := t
  cases v with
  | false => rfl
  | true =>
    have e1 : pterm (pcompL a b) ⟨true, n⟩ = (pget (pcompL a b) n).getD ⟨true, n⟩ := rfl
    have e2 : pterm a ⟨true, n⟩ = (pget a n).getD ⟨true, n⟩ := rfl
    have e3 : pterm b ⟨true, n⟩ = (pget b n).getD ⟨true, n⟩ := rfl
    rw [e1, e2, comp_get ha hb]
    unfold pcGet
    cases hg : pget a n with
    | none => simp only [Option.getD_none]; rw [e3]
    | some s =>
      simp only [Option.getD_some]
      split
      · rename_i ho
        unfold pown at ho
        simp only [Bool.and_eq_true, decide_eq_true_eq] at ho
        generalize pterm b s = u at *
        obtain ⟨uv, un⟩ := u
        simp only at ho
        rw [ho.1, ho.2]
        rfl
      · rfl
theorem comp_app {a b : List Bd} (ha : pcheck a = true) (hb : pcheck b = true) (x : Atm) : papp (pcompL a b) x = papp b (papp a x) := by
  show x.upto (pterm (pcompL a b)) x.count = (x.upto (pterm a) x.count).upto (pterm b) x.count
  rw [upto_twice]
  congr 1
  funext t
  exact comp_term ha hb t
theorem term_twice {a : List Bd} (ha : pcheck a = true) (t : Tm) : pterm a (pterm a t) = pterm a t := by
  obtain ⟨v, n⟩ := t
  cases v with
  | false => rfl
  | true =>
    have e2 : pterm a ⟨true, n⟩ = (pget a n).getD ⟨true, n⟩ := rfl
    cases hg : pget a n with
    | none => rw [e2, hg, Option.getD_none, e2, hg, Option.getD_none]
    | some s =>
      rw [e2, hg, Option.getD_some]
      have hm : ∃ b ∈ a, b.var = n ∧ b.t = s := by
        unfold pget at hg
        rw [Option.map_eq_some_iff] at hg
        obtain ⟨b, h1, h2⟩ := hg
        exact ⟨b, List.mem_of_find?_eq_some h1, by simpa using List.find?_some h1, h2⟩
      obtain ⟨b, hb, _, rfl⟩ := hm
      have := (pcheck_iff.1 ha).2 b hb
      unfold pterm
      split
      · rename_i h
        rw [this.2 h]
        rfl
      · rfl
theorem app_twice {a : List Bd} (ha : pcheck a = true) (x : Atm) : papp a (papp a x) = papp a x := by
  show (x.upto (pterm a) x.count).upto (pterm a) x.count = x.upto (pterm a) x.count
  rw [upto_twice]
  congr 1
  funext t
  exact term_twice ha t

/-! ### as the reference does it -/
theorem pwith_last {y : Bd} : ∀ {l : List Bd}, (∀ x ∈ l, blt y.var x.var = false) → pwith l y = l ++ [y]
  | [], _ => rfl
  | x :: l, h => by
    have hx := h x (by simp)
    have ih := pwith_last (l := l) fun z hz => h z (by simp [hz])
    unfold pwith at ih ⊢
    simp only [List.takeWhile_cons, List.dropWhile_cons, hx, Bool.not_false, if_true, List.cons_append]
    rw [ih]
theorem pcomp0_next {a b : List Bd} (ha : pcheck a = true) {k : Nat} (hk : k < a.length) : pcomp0 (a.take (k + 1)) b = if pown ⟨a[k].var, pterm b a[k].t⟩ then pcomp0 (a.take k) b else pwith (pcomp0 (a.take k) b) ⟨a[k].var, pterm b a[k].t⟩ := by
  have hu : punder (a.take (k + 1)) b = punder (a.take k) b ++ [⟨a[k].var, pterm b a[k].t⟩] := by
    unfold punder
    rw [List.take_succ_eq_append_getElem hk, List.map_append]
    rfl
  have hlast : ∀ x ∈ pcomp0 (a.take k) b, blt a[k].var x.var = false := fun x hx => by
    have : x ∈ punder (a.take k) b := (List.mem_filter.1 hx).1
    unfold punder at this
    obtain ⟨z, hz, rfl⟩ := List.mem_map.1 this
    obtain ⟨j, hj, rfl⟩ := List.mem_iff_getElem.1 hz
    rw [List.getElem_take]
    have hjk : j < k := by rw [List.length_take] at hj; omega
    exact blt_asymm (List.pairwise_iff_getElem.1 (pcheck_pair ha) j k (by omega) hk hjk)
  split
  · rename_i ho
    unfold pcomp0
    rw [hu, List.filter_append]
    simp [ho]
  · rename_i ho
    rw [pwith_last (y := ⟨a[k].var, pterm b a[k].t⟩) hlast]
    unfold pcomp0
    rw [hu, List.filter_append]
    simp [ho]
theorem pcomp0_len (a b : List Bd) : (pcomp0 a b).length ≤ a.length := by
  unfold pcomp0
  have := List.length_filter_le (fun x => !pown x) (punder a b)
  rwa [punder_len] at this
end Go.Proofs.Ytkkkpbnehpfkkaa

/-
  A slice that was collected by a callee, as a local block of the caller's; a callee that works in the caller's memory. No program in sight.
-/
set_option linter.unusedVariables false
set_option linter.unusedSimpArgs false
namespace Go.Vs.Ab
open Go.RowKit

variable {P : Program} {X : Mem} {W0 w w' : World} {m : Mm}

theorem vals_getv : ∀ {cs : List CV} {xs : List Value}, vals cs = some xs → ∀ (i : Nat) (c : CV), cs[i]? = some c → ∃ x, c = .v x ∧ xs[i]? = some x
  | [], xs, h, i, c, hc => by simp at hc
  | .sl .. :: _, _, h, _, _, _ => by simp [vals] at h
  | .v x :: r, xs, h, i, c, hc => by
    simp only [vals, Option.map_eq_some_iff] at h
    obtain ⟨ys, h1, rfl⟩ := h
    cases i with
    | zero => simp at hc; exact ⟨x, hc.symm, rfl⟩
    | succ i =>
      obtain ⟨y, h2, h3⟩ := vals_getv h1 i c (by simpa using hc)
      exact ⟨y, h2, by simpa using h3⟩

def Mem.adopt (X : Mem) (i β R : Nat) : Mem := ⟨X.cell, fun j => if j = i then some β else X.loc j, X.own, fun γ => if γ = β then R else X.room γ⟩
/-- A block that nobody knows as yet, as a local one. -/
theorem MR.adopt (M : MR X W0 m w) {β R : Nat} {cur : Array Value} {t : TypeId} {cs : List AV} (hW : W0.heap.size ≤ β) (hcell : ∀ o, X.cell β o = none) (hloc : ∀ i, X.loc i ≠ some β) (hown : ∀ k T, X.own k = some T → T.g ≠ β)
    (hheap : w.heap[β]? = some (.cells cur t (0, 0))) (hl : cs.length ≤ cur.size) (hr : Reps X cs (cur.toList.take cs.length)) (hR : X.room β ≤ R) (hRs : R ≤ cur.size) :
    MR (X.adopt m.hp.length β R) W0 { m with hp := m.hp ++ [⟨false, cs⟩] } w ∧ X.Le W0.heap.size (X.adopt m.hp.length β R) := by
  have hle : X.Le W0.heap.size (X.adopt m.hp.length β R) := by
    refine ⟨fun _ _ _ h => h, fun _ _ _ _ h => h, fun i γ h => ?_, fun k T h => ⟨T, h, Or.inl rfl⟩, fun γ => ?_⟩
    · have := M.ldom i γ h
      simp only [Mem.adopt]
      rw [if_neg (by omega)]
      exact h
    · simp only [Mem.adopt]
      split
      · rename_i e; rw [e]; exact hR
      · exact Nat.le_refl _
  refine ⟨⟨M.below, M.cell, fun i γ h => ?_, fun i blk h => ?_, fun i j γ bi bj h1 h2 g1 g2 => ?_, M.odom, fun k n h => ?_, M.oinj, fun γ hγ => ?_⟩, hle⟩
  · simp only [Mem.adopt] at h
    simp only [List.length_append, List.length_singleton]
    split at h
    · omega
    · have := M.ldom i γ h; omega
  · by_cases hi : i < m.hp.length
    · simp only at h
      rw [List.getElem?_append_left hi] at h
      obtain ⟨γ, h1, h2, h3, hB⟩ := M.locs i blk h
      exact ⟨γ, hle.loc _ _ h1, h2, h3, hB.move hle (fun _ => rfl) (fun _ h => h)⟩
    · simp only at h
      rw [List.getElem?_append_right (by omega)] at h
      have hi2 : i = m.hp.length := by
        have := (List.getElem?_eq_some_iff.1 h).1
        simp at this
        omega
      subst hi2
      simp at h
      subst h
      exact ⟨β, by simp [Mem.adopt], hW, (Array.getElem?_eq_some_iff.1 hheap).1, .cells hheap hl (hr.mono hle) (fun hf => by cases hf) fun _ o => hcell o⟩
  · simp only [Mem.adopt] at h1 h2
    split at h1
    · split at h2
      · left; omega
      · injection h1 with h1
        subst h1
        exact absurd h2 (hloc j)
    · split at h2
      · injection h2 with h2
        subst h2
        exact absurd h1 (hloc i)
      · have hi := M.ldom i γ h1
        have hj := M.ldom j γ h2
        simp only at g1 g2
        rw [List.getElem?_append_left hi] at g1
        rw [List.getElem?_append_left hj] at g2
        exact M.inj i j γ bi bj h1 h2 g1 g2
  · obtain ⟨T, h1, h2, h3, h4, h5, h6, h7, h8, h9⟩ := M.toks k n h
    refine ⟨T, h1, h2, h3, h4, h5, h6, h7, h8, fun i hi => ?_⟩
    simp only [Mem.adopt] at hi
    split at hi
    · injection hi with hi
      exact hown k T h1 hi.symm
    · exact h9 i hi
  · simp only [Mem.adopt] at hγ ⊢
    by_cases e : γ = β
    · subst e
      rw [if_pos rfl]
      exact ⟨cur, t, hheap, hRs⟩
    · rw [if_neg e] at hγ ⊢
      exact M.rm γ hγ

/-- What a callee collected (all of it plain), as a block of the caller's. -/
theorem Does.lsl {F : FuncId} {args args' : List AV} {f : Mm → AV × Mm} (h : Does P F args' f) (hs : shuts args = some args') {k n : Nat} {e : TypeId} {size : Nat} {cs : List CV} {xs : List Value} {m1 : Mm} (hf : f ⟨[], []⟩ = (.own k n cs, m1)) (hk : m1.hw[k]? = some ⟨n, e, size⟩) (hv : vals cs = some xs) (m : Mm) :
    Gives P F args m (.lsl m.hp.length 0 n size) { m with hp := m.hp ++ [⟨false, cs.map .c⟩] } := by
  refine ⟨h.1, fun X W0 w vs M ha => ?_⟩
  refine (h.2 X.bare w ⟨[], []⟩ w vs (bare_MR M) (shuts_rep (X := X) (Y := X.bare) rfl hs ha)).mono ?_
  rintro _ w' ⟨v, X1, rfl, k1, k2, k3, _⟩
  rw [hf] at k2 k3
  have M1 := M.grow k3.below
  obtain ⟨T, t1, ⟨t2, t2e, t2s⟩, t3, t4, t5, t6, ⟨cur, t7, t8⟩, t9, t10⟩ := k3.toks k _ hk
  simp only at t2 t2e t2s
  cases k2 with
  | own hr hn1 hc hx ht =>
    rename_i ys a cap
    obtain ⟨T', u1, u2, u3⟩ := ht
    rw [t1] at u1
    injection u1 with u1
    subst u1
    obtain ⟨rfl, rfl⟩ := u3 t2.symm
    have hnew : ∀ o, X.cell T.g o = none := fun o => by
      cases hq : X.cell T.g o with
      | none => rfl
      | some x => have := M.cellBlock hq; omega
    have hroom : X.room T.g = 0 := by
      rcases Nat.eq_zero_or_pos (X.room T.g) with h0 | h0
      · exact h0
      · obtain ⟨ar, tt, q1, _⟩ := M.rm T.g h0
        have := (Array.getElem?_eq_some_iff.1 q1).1
        omega
    have hcurj : ∀ (j : Nat) (x : Value), ys[j]? = some x → cur[j]? = some x := fun j x hj => by
      obtain ⟨b, o, e1, e2⟩ := hx j x hj
      injection e1 with e1
      injection e1 with e1 e3
      subst e1 e3
      have h5 := k3.cell _ _ _ e2
      rw [Nat.zero_add] at h5
      simp only [World.cell?, t7] at h5
      simpa using h5
    have hlen : cs.length ≤ cur.size := by
      rcases Nat.eq_zero_or_pos cs.length with h0 | h0
      · omega
      · have hl : cs.length - 1 < ys.length := by rw [← hr.1]; omega
        have := hcurj _ _ (List.getElem?_eq_getElem hl)
        have := (Array.getElem?_eq_some_iff.1 this).1
        omega
    have hrp : Reps X (cs.map .c) (cur.toList.take (cs.map AV.c).length) := by
      rw [List.length_map]
      refine ⟨by rw [List.length_map, List.length_take]; simp only [Array.length_toList]; omega, fun i c x h1 h2 => ?_⟩
      rw [List.getElem?_map, Option.map_eq_some_iff] at h1
      obtain ⟨c0, h1, rfl⟩ := h1
      have hi := (List.getElem?_eq_some_iff.1 h1).1
      rw [List.getElem?_take, if_pos hi, Array.getElem?_toList] at h2
      obtain ⟨x0, rfl, _⟩ := vals_getv hv i c0 h1
      have hl : i < ys.length := by rw [← hr.1]; exact hi
      have h3 := hcurj i _ (List.getElem?_eq_getElem hl)
      rw [h2] at h3
      injection h3 with h3
      have h4 := hr.2 i _ _ h1 (List.getElem?_eq_getElem hl)
      rw [← h3] at h4
      cases h4 with
      | v h5 => exact .c (.v h5)
    obtain ⟨A, hle⟩ := M1.adopt (β := T.g) (R := T.cap * T.size) (Nat.le_trans M.below.size t3) hnew (fun i hi => by have := (M.locBlock hi).1; omega) (fun k S hS e => by have := (M.tokBlock hS).1; omega) t7 (by rw [List.length_map]; exact hlen) hrp (by rw [hroom]; exact Nat.zero_le _) (by rw [t8]; exact Nat.le_refl _)
    refine ⟨_, X.adopt m.hp.length T.g (T.cap * T.size), rfl, hle, ?_, A, fun i β hi => k3.below.block β (M.locBlock hi).1⟩
    refine .lsl (by simp [Mem.adopt]) (fun _ => by rw [Nat.zero_mul]) hn1 hc.1 ?_
    simp only [Mem.adopt, if_true]
    rw [t2s, Nat.zero_add]
    exact Nat.le_refl _

/-- A function, by its body, called in the caller's memory. -/
theorem givesW_of {F : FuncId} {fn : Func} {c : Code} (hF : P.funcs[F]? = some fn) (hb : fn.body = some c) (hcb : callableB fn = true) {args : List AV} {r : AV} {m m' : Mm} (hle : args.length ≤ fn.ntmps)
    (h : Tr fle P fn.ntmps c (initFr 0 args) m (fun e fr m1 => (∀ id, e ≠ .exit id) ∧ ∃ cs, resAll P fr m1 fn.results.toList = some cs ∧ resV cs = r ∧ m1 = m')) : GivesW P F args m r m' := by
  refine ⟨callable_of hF hcb, fun X W0 w vs M hargs => ?_⟩
  refine (calls_of_wp hF hb (R := fun e w' => ∃ v X', e = .returned v ∧ X.Le W0.heap.size X' ∧ Rep X' r v ∧ MR X' W0 m' w') (wp_mono (h X W0 w _ (FR.init hargs hle) M) ?_))
  rintro _ a' w' ⟨ex, fr', m1, X1, rfl, ⟨hne, cs, h1, rfl, rfl⟩, k1, k2, k3⟩
  obtain ⟨vs', g1, g2⟩ := resAll_ok k2 k3 h1
  have : a'.defers = [] ∧ ∃ v, (results fn a'.tmps).run P w' = .ok v w' ∧ ∃ v2 X', Ending.returned v = .returned v2 ∧ X.Le W0.heap.size X' ∧ Rep X' (resV cs) v2 ∧ MR X' W0 m1 w' :=
    ⟨k2.defers, _, results_run g2, _, X1, rfl, k1, resV_ok g1, k3⟩
  cases ex with
  | nrm => exact this
  | ret => exact this
  | exit id => exact absurd rfl (hne id)
theorem givesW_of' {F : FuncId} {fn : Func} {c : Code} {rs : List ResultVar} (hF : P.funcs[F]? = some fn) (hb : fn.body = some c) (hcb : callableB fn = true) {args : List AV} {r : AV} {m m' : Mm} {nt : Nat} (hnt : fn.ntmps = nt) (hle : Nat.ble args.length nt = true) (hrs : fn.results.toList = rs)
    (h : ∀ Q : Ex → Fr → Mm → Prop, (∀ fr m1 cs, resAll P fr m1 rs = some cs → resV cs = r → m1 = m' → Q .nrm fr m1 ∧ Q .ret fr m1) → Tr fle P nt c (initFr 0 args) m Q) : GivesW P F args m r m' := by
  subst hnt hrs
  exact givesW_of hF hb hcb (by simpa using hle) (h _ fun fr m1 cs h1 h2 h3 => ⟨⟨(fun _ h => by cases h), cs, h1, h2, h3⟩, ⟨(fun _ h => by cases h), cs, h1, h2, h3⟩⟩)
end Go.Vs.Ab

/-
  Blocks that hold a list of encoded things; slices over them, written in place, closed. No program in sight.
-/
set_option linter.unusedVariables false
set_option linter.unusedSimpArgs false
namespace Go.Vs.Ab
open Go.RowKit

variable {P : Program} {X : Mem} {W0 w w' : World} {m : Mm}

/-- The cells of a list of encoded things. -/
def blC {T : Type} (enc : T → List CV) (l : List T) : List AV := (l.flatMap enc).map .c
theorem plainB_blC {T : Type} {enc : T → List CV} {l : List T} : plainB (blC enc l) = true := by
  unfold blC
  cases l.flatMap enc <;> rfl
theorem lows_c (i j : Nat) : ∀ ds : List CV, lows i j (ds.map .c) = true
  | [] => rfl
  | d :: r => by
    show (low i j (.c d) && lows i j (r.map .c)) = true
    rw [lows_c i j r]
    rfl
theorem lows_blC {T : Type} {enc : T → List CV} {l : List T} {i j : Nat} : lows i j (blC enc l) = true := lows_c i j _
theorem len_blC {T : Type} {enc : T → List CV} {size : Nat} (hk : ∀ x, (enc x).length = size) (l : List T) : (blC enc l).length = l.length * size := by
  unfold blC
  rw [List.length_map, flat_length enc size hk]
theorem cleans_map : ∀ ds : List CV, cleans (ds.map .c) = some ds
  | [] => rfl
  | d :: r => by
    show cleans (.c d :: r.map .c) = _
    simp only [cleans, clean, cleans_map r]
theorem drop_blC {T : Type} {enc : T → List CV} {size : Nat} (hk : ∀ x, (enc x).length = size) {l : List T} {k : Nat} (h : k < l.length) : List.drop (k * size) (blC enc l) = (enc l[k]).map .c ++ blC enc (l.drop (k + 1)) := by
  unfold blC
  rw [← List.map_drop, flat_drop enc size hk l k h, List.map_append]
theorem fit_blC {T : Type} {enc : T → List CV} {size : Nat} (hk : ∀ x, (enc x).length = size) {l : List T} {k : Nat} (h : k < l.length) : k * size + size ≤ (blC enc l).length := by
  rw [len_blC hk]
  have : (k + 1) * size ≤ l.length * size := Nat.mul_le_mul_right _ h
  rwa [Nat.add_mul, Nat.one_mul] at this
theorem take_flat {T : Type} {enc : T → List CV} {size : Nat} (hk : ∀ x, (enc x).length = size) (l : List T) (k : Nat) : List.take (k * size) (l.flatMap enc) = (l.take k).flatMap enc := by
  induction k generalizing l with
  | zero => simp
  | succ k ih =>
    cases l with
    | nil => simp
    | cons x l =>
      rw [List.flatMap_cons, List.take_succ_cons, List.flatMap_cons, ← ih l]
      have : (k + 1) * size = (enc x).length + k * size := by rw [hk, Nat.add_mul, Nat.one_mul, Nat.add_comm]
      rw [this, List.take_append]
      have h1 : List.take ((enc x).length + k * size) (enc x) = enc x := List.take_of_length_le (by omega)
      rw [h1]
      congr 2
      omega
theorem drop_flat {T : Type} {enc : T → List CV} {size : Nat} (hk : ∀ x, (enc x).length = size) (l : List T) (k : Nat) : List.drop (k * size) (l.flatMap enc) = (l.drop k).flatMap enc := by
  induction k generalizing l with
  | zero => simp
  | succ k ih =>
    cases l with
    | nil => simp
    | cons x l =>
      rw [List.flatMap_cons, List.drop_succ_cons, ← ih l]
      have : (k + 1) * size = (enc x).length + k * size := by rw [hk, Nat.add_mul, Nat.one_mul, Nat.add_comm]
      rw [this, ← List.drop_drop, List.drop_left' rfl]
theorem set_blC {T : Type} {enc : T → List CV} {size : Nat} (hk : ∀ x, (enc x).length = size) {l : List T} {k : Nat} (h : k < l.length) (x : T) : List.take (k * size) (blC enc l) ++ (enc x).map AV.c ++ List.drop (k * size + size) (blC enc l) = blC enc (l.set k x) := by
  unfold blC
  have e : k * size + size = (k + 1) * size := by rw [Nat.add_mul, Nat.one_mul]
  rw [← List.map_take, ← List.map_drop, e, take_flat hk, drop_flat hk, List.set_eq_take_append_cons_drop, if_pos h, List.flatMap_append, List.flatMap_cons, List.map_append, List.map_append, List.append_assoc]

/-- A place in a slice over a local block; parts of it. -/
theorem idxL {t e : TypeId} {size : Nat} (ht : P.underlying t = some (.slice e)) (hs : tsz P e = some size) (h0 : 0 < size) {b lo n k : Nat} {ik : IntKind} (h : k < n) : aIndexL P t (.lsl b lo n size) (.c (.v (.int ik (k : Int)))) = some (.ptr b ((lo + k) * size)) := by
  have h1 : Nat.blt k n = true := by simpa using h
  have h2 : Nat.blt 0 size = true := by simpa using h0
  have hn : natI (k : Int) = some k := natI_nat k
  simp only [aIndexL, ht, lsV, intV, hs, hn, h1, h2, Nat.beq_refl, Bool.and_self, if_true]
theorem slL_from {t e : TypeId} {size : Nat} (ht : P.underlying t = some (.slice e)) (hs : tsz P e = some size) {b lo n k : Nat} (h : k ≤ n) : aSliceL P t (.lsl b lo n size) (some (k : Int)) none none = some (.lsl b (lo + k) (n - k) size) := by
  have hb : bnds n (some (k : Int)) none none = some (k, n, none) := by
    unfold bnds
    simp [natI_nat, h]
  simp only [aSliceL, ht, lsV, hs, hb, Nat.beq_refl, if_true]
theorem slL_to {t e : TypeId} {size : Nat} (ht : P.underlying t = some (.slice e)) (hs : tsz P e = some size) {b lo n k : Nat} (h : k ≤ n) : aSliceL P t (.lsl b lo n size) none (some (k : Int)) none = some (.lsl b lo k size) := by
  have hb : bnds n none (some (k : Int)) none = some (0, k, none) := by
    unfold bnds
    simp [natI_nat, h]
  simp only [aSliceL, ht, lsV, hs, hb, Nat.beq_refl, if_true, Nat.add_zero, Nat.sub_zero]
theorem zrs_rep {T : Type} {enc : T → List CV} (z : T) (n : Nat) (h : 0 < (enc z).length) : zrs n (enc z) = blC enc (List.replicate n z) := by
  have key : ∀ n, (List.range (n * (enc z).length)).map (fun i => (enc z).getD (i % (enc z).length) default) = (List.replicate n z).flatMap enc := fun n => by
    induction n with
    | zero => simp
    | succ n ih =>
      rw [List.replicate_succ', List.flatMap_append, ← ih, Nat.add_mul, Nat.one_mul, List.range_add, List.map_append]
      congr 1
      simp only [List.flatMap_cons, List.flatMap_nil, List.append_nil, List.map_map]
      apply List.ext_getElem?
      intro i
      rw [List.getElem?_map]
      by_cases hi : i < (enc z).length
      · rw [List.getElem?_range hi]
        simp only [Option.map_some, Function.comp]
        rw [Nat.add_comm, Nat.add_mul_mod_self_right, Nat.mod_eq_of_lt hi, List.getD_eq_getElem?_getD, List.getElem?_eq_getElem hi]
        rfl
      · rw [List.getElem?_eq_none (by simpa using hi), List.getElem?_eq_none (Nat.le_of_not_lt hi)]
        rfl
  unfold zrs blC
  rw [key]
theorem clear_blC {T : Type} {enc : T → List CV} {size : Nat} (hk : ∀ x, (enc x).length = size) (h0 : 0 < size) {t e : TypeId} (ht : P.underlying t = some (.slice e)) {z : T} (hz : tzero P e = some (enc z)) {l : List T} {i : Nat} (hi : i ≤ l.length) {hw : List Hw} :
    aClear P ⟨[⟨false, blC enc l⟩], hw⟩ t (.lsl 0 i (l.length - i) size) = some ⟨[⟨false, blC enc (l.take i ++ List.replicate (l.length - i) z)⟩], hw⟩ := by
  simp only [aClear, ht, lsV, hz]
  by_cases hn : l.length - i = 0
  · rw [hn]
    rw [if_pos (by rfl)]
    rw [List.take_of_length_le (by omega)]
    simp
  · have hb : Nat.beq (l.length - i) 0 = false := by
      rw [Bool.eq_false_iff]
      exact fun e => hn (Nat.eq_of_beq_eq_true e)
    have hle : Nat.ble (i * size + (l.length - i) * size) (blC enc l).length = true := by
      rw [len_blC hk, ← Nat.add_mul, Nat.ble_eq]
      exact Nat.mul_le_mul_right _ (by omega)
    simp only [hb, if_false, List.getElem?_cons_zero, hk, Nat.beq_refl, plainB_blC, hle, Bool.not_false, Bool.and_self, if_true, Bool.false_eq_true]
    rw [zrs_rep z _ (by rw [hk]; exact h0)]
    have e1 : List.drop (i * size + (l.length - i) * size) (blC enc l) = [] := by
      apply List.drop_eq_nil_of_le
      rw [len_blC hk, ← Nat.add_mul]
      exact Nat.mul_le_mul_right _ (by omega)
    rw [e1, List.append_nil]
    unfold blC
    rw [← List.map_take, take_flat hk, ← List.map_append, ← List.flatMap_append]
    rfl

/-- A slice over a local block that is written no more. -/
theorem GivesW.freeze {F : FuncId} {args : List AV} {b lo n k : Nat} {m1 : Mm} (h : GivesW P F args m (.lsl b lo n k) m1) {ds : List CV} (hb : m1.hp[b]? = some ⟨false, ds.map .c⟩) :
    GivesW P F args m (.c (.sl false n ((ds.drop (lo * k)).take (n * k)))) { m1 with hp := m1.hp.set b ⟨true, ds.map .c⟩ } := by
  refine ⟨h.1, fun X W0 w vs M hargs => (h.2 X W0 w vs M hargs).mono ?_⟩
  rintro _ w' ⟨v, X1, rfl, k1, k2, k3⟩
  have hz : aFreeze m1 b = some { m1 with hp := m1.hp.set b ⟨true, ds.map .c⟩ } := by
    simp only [aFreeze, hb, cleans_map]
    rfl
  obtain ⟨X2, l1, l2, _⟩ := aFreeze_ok k3 hz
  have hlt := (List.getElem?_eq_some_iff.1 hb).1
  refine ⟨v, X2, rfl, k1.trans l1, ?_, l2⟩
  have k4 := k2.mono l1
  cases k4 with
  | lsl hl ho hn hcap hrm =>
    rename_i β o cap
    have hf : fixedAt { m1 with hp := m1.hp.set b ⟨true, ds.map .c⟩ } (.ptr b (lo * k)) = some (ds.drop (lo * k)) := by
      simp only [fixedAt, List.getElem?_set_self hlt, if_true, cleans_map, Option.map_some]
    obtain ⟨b', o', xs, e, r1, r2⟩ := fixedAt_rep l2 hf (.ptr hl)
    injection e with e
    injection e with e
    injection e with e1 e2
    subst e1 e2
    have q1 := r1.take (n * k)
    have q2 := r2.take (n * k)
    refine .c (.sl q1.1 q1.2 hn ⟨hcap, fun e => by cases e⟩ (fun e => by cases e) ?_)
    rcases Nat.eq_zero_or_pos cap with h0 | h0
    · have : n = 0 := by omega
      subst this
      rw [Nat.zero_mul, List.take_zero]
      exact fun j x h => by cases h
    · rw [ho h0]
      exact q2
attribute [go_sem] plainB_blC
end Go.Vs.Ab

/-
  Chapter 4: slices.DeleteFunc, with own.
-/
set_option linter.unusedSimpArgs false
set_option linter.unusedVariables false
namespace Go.Proofs.Ytkkkpbnehpfkkaa
open Go.Vs Go.Vs.Ab
set_option maxRecDepth 100000
set_option maxHeartbeats 4000000

abbrev ownA : AV := .fn (.func 44) [] []
def pIx (l : List Bd) : Int := match l.findIdx? pown with
  | some k => (k : Int)
  | none => -1
theorem ixL {n k : Nat} (h : k < n) : aIndexL Try.prog 22 (.lsl 0 0 n 3) (.c (.v (.int .i64 (k : Int)))) = some (.ptr 0 (k * 3)) := by
  have := idxL (P := Try.prog) (size := 3) Try.underlying22 sz36 (by decide) (b := 0) (lo := 0) (ik := .i64) h
  rwa [Nat.zero_add] at this
theorem drL {l : List Bd} {k : Nat} (h : k < l.length) : List.drop (k * 3) (blC bdC l) = .c (.v (.string l[k].var)) :: .c (.v (.bool l[k].t.v)) :: .c (.v (.string l[k].t.name)) :: blC bdC (l.drop (k + 1)) := drop_blC (enc := bdC) (size := 3) (fun _ => rfl) h
theorem fitL {l : List Bd} {k : Nat} (h : k < l.length) : (k * 3 + 3 ≤ (blC bdC l).length) = True := eq_true (fit_blC (enc := bdC) (size := 3) (fun _ => rfl) h)
theorem setL {l : List Bd} {k : Nat} (h : k < l.length) (x : Bd) : List.take (k * 3) (blC bdC l) ++ ([.c (.v (.string x.var)), .c (.v (.bool x.t.v)), .c (.v (.string x.t.name))] : List AV) ++ List.drop (k * 3 + 3) (blC bdC l) = blC bdC (l.set k x) := set_blC (enc := bdC) (size := 3) (fun _ => rfl) h x

theorem indexf_gives (l : List Bd) (hl : l.length ≤ 10000) : GivesW Try.prog 63 [.lsl 0 0 l.length 3, ownA] ⟨[⟨false, blC bdC l⟩], []⟩ (iA (pIx l)) ⟨[⟨false, blC bdC l⟩], []⟩ := by
  refine givesW_of' Try.func63 rfl (by kernel_rfl) Try.ntmps63 rfl rfl fun Q hQ => ?_
  repeat (first
      | refine tr_seq_k fun _ _ => ?_
      | (refine tr_region ?_; simp only [go_sem, List.getElem?_toArray, str_beq, reduceCtorEq, Nat.reduceEqDiff, Nat.reduceLT, Nat.reduceLeDiff, Nat.reduceAdd, Nat.reduceMul, Nat.reduceSub, Nat.reduceBEq, ↓reduceIte, bne_self_eq_false, Bool.and_false, Bool.false_and, Bool.true_or, Bool.false_or])
      | refine k_of (by assumption) ?_
      | refine tr_block ?_
      | refine tr_scope ?_
      | (refine tr_skip ?_; try simp only [ex_seq, ex_block])
      | (refine tr_label ?_; try simp only [ex_seq, ex_block])
      | (refine tr_exit ?_; try simp only [ex_seq_exit, ex_block_exit, Nat.reduceEqDiff, if_true, if_false, ex_seq, ex_block, reduceCtorEq, ↓reduceIte])
      | (refine tr_ret ?_; try simp only [ex_seq_ret, ex_block_ret]))
  refine tr_loop_k (σ := Nat) (fun k => [(0, .lsl 0 0 l.length 3), (1, ownA), (7, iA l.length), (8, iA k)]) (fun _ => ⟨[⟨false, blC bdC l⟩], []⟩)
    (fun k => k ≤ l.length ∧ ∀ j (h : j < l.length), j < k → pown l[j] = false) (fun k => l.length - k) 0 ⟨Nat.zero_le _, fun j _ h => absurd h (Nat.not_lt_zero _)⟩ ⟨rfl, rfl, rfl, rfl, trivial⟩ rfl ?_
  rintro k ⟨hk, hp⟩ K hK
  repeat (first
      | refine tr_seq_k fun _ _ => ?_
      | (refine tr_region ?_; simp only [go_sem, List.getElem?_toArray, str_beq, reduceCtorEq, Nat.reduceEqDiff, Nat.reduceLT, Nat.reduceLeDiff, Nat.reduceAdd, Nat.reduceMul, Nat.reduceSub, Nat.reduceBEq, ↓reduceIte, bne_self_eq_false, Bool.and_false, Bool.false_and, Bool.true_or, Bool.false_or])
      | refine k_of (by assumption) ?_
      | refine tr_block ?_
      | refine tr_scope ?_
      | (refine tr_skip ?_; try simp only [ex_seq, ex_block])
      | (refine tr_label ?_; try simp only [ex_seq, ex_block])
      | (refine tr_exit ?_; try simp only [ex_seq_exit, ex_block_exit, Nat.reduceEqDiff, if_true, if_false, ex_seq, ex_block, reduceCtorEq, ↓reduceIte])
      | (refine tr_ret ?_; try simp only [ex_seq_ret, ex_block_ret]))
  refine tr_cond rfl (fun ht => ?_) (fun hf => ?_)
  · have hlt : k < l.length := by simpa using ht
    have ws := wrap_succ (show k ≤ 1000000000 by omega)
    have cO := own_does l[k]
    cases ho : pown l[k] with
    | true =>
      rw [ho] at cO
      have hr : pIx l = (k : Int) := by
        have : l.findIdx? pown = some k := List.findIdx?_eq_some_iff_getElem.2 ⟨hlt, ho, fun j hj => by rw [hp j (by omega) hj]; exact Bool.false_ne_true⟩
        unfold pIx
        rw [this]
      repeat (first
          | refine tr_seq_k fun _ _ => ?_
          | (refine tr_region ?_; simp only [go_sem, List.getElem?_toArray, str_beq, reduceCtorEq, Nat.reduceEqDiff, Nat.reduceLT, Nat.reduceLeDiff, Nat.reduceAdd, Nat.reduceMul, Nat.reduceSub, Nat.reduceBEq, ↓reduceIte, bne_self_eq_false, Bool.and_false, Bool.false_and, Bool.true_or, Bool.false_or, ixL hlt, drL hlt, fitL hlt])
          | (refine call_of (cO) ?_ ?_
             · first | rfl | simp only [go_sem, List.getElem?_toArray, str_beq, reduceCtorEq, Nat.reduceEqDiff, Nat.reduceLT, Nat.reduceLeDiff, Nat.reduceAdd, Nat.reduceMul, Nat.reduceSub, Nat.reduceBEq, ↓reduceIte, bne_self_eq_false, Bool.and_false, Bool.false_and, Bool.true_or, Bool.false_or, ixL hlt, drL hlt, fitL hlt, shut_col]
             simp only [go_sem, List.getElem?_toArray, str_beq, reduceCtorEq, Nat.reduceEqDiff, Nat.reduceLT, Nat.reduceLeDiff, Nat.reduceAdd, Nat.reduceMul, Nat.reduceSub, Nat.reduceBEq, ↓reduceIte, bne_self_eq_false, Bool.and_false, Bool.false_and, Bool.true_or, Bool.false_or, ixL hlt, drL hlt, fitL hlt])
          | refine k_of (by assumption) ?_
          | refine tr_block ?_
          | refine tr_scope ?_
          | (refine tr_skip ?_; try simp only [ex_seq, ex_block])
          | (refine tr_label ?_; try simp only [ex_seq, ex_block])
          | (refine tr_exit ?_; try simp only [ex_seq_exit, ex_block_exit, Nat.reduceEqDiff, if_true, if_false, ex_seq, ex_block, reduceCtorEq, ↓reduceIte])
          | (refine tr_ret ?_; try simp only [ex_seq_ret, ex_block_ret]))
      refine tr_cond rfl (fun ht => ?_) (fun hf => ?_)
      · repeat (first
            | refine tr_seq_k fun _ _ => ?_
            | (refine tr_region ?_; simp only [go_sem, List.getElem?_toArray, str_beq, reduceCtorEq, Nat.reduceEqDiff, Nat.reduceLT, Nat.reduceLeDiff, Nat.reduceAdd, Nat.reduceMul, Nat.reduceSub, Nat.reduceBEq, ↓reduceIte, bne_self_eq_false, Bool.and_false, Bool.false_and, Bool.true_or, Bool.false_or])
            | refine k_of (by assumption) ?_
            | refine tr_block ?_
            | refine tr_scope ?_
            | (refine tr_skip ?_; try simp only [ex_seq, ex_block])
            | (refine tr_label ?_; try simp only [ex_seq, ex_block])
            | (refine tr_exit ?_; try simp only [ex_seq_exit, ex_block_exit, Nat.reduceEqDiff, if_true, if_false, ex_seq, ex_block, reduceCtorEq, ↓reduceIte])
            | (refine tr_ret ?_; try simp only [ex_seq_ret, ex_block_ret]))
        refine (hQ _ _ [iA k] ?_ (by rw [hr]; rfl) rfl).2 <;> simp only [go_sem, List.getElem?_toArray, str_beq, reduceCtorEq, Nat.reduceEqDiff, Nat.reduceLT, Nat.reduceLeDiff, Nat.reduceAdd, Nat.reduceMul, Nat.reduceSub, Nat.reduceBEq, ↓reduceIte, bne_self_eq_false, Bool.and_false, Bool.false_and, Bool.true_or, Bool.false_or, Try.f63]
      · cases hf
    | false =>
      rw [ho] at cO
      repeat (first
          | refine tr_seq_k fun _ _ => ?_
          | (refine tr_region ?_; simp only [go_sem, List.getElem?_toArray, str_beq, reduceCtorEq, Nat.reduceEqDiff, Nat.reduceLT, Nat.reduceLeDiff, Nat.reduceAdd, Nat.reduceMul, Nat.reduceSub, Nat.reduceBEq, ↓reduceIte, bne_self_eq_false, Bool.and_false, Bool.false_and, Bool.true_or, Bool.false_or, ixL hlt, drL hlt, fitL hlt])
          | (refine call_of (cO) ?_ ?_
             · first | rfl | simp only [go_sem, List.getElem?_toArray, str_beq, reduceCtorEq, Nat.reduceEqDiff, Nat.reduceLT, Nat.reduceLeDiff, Nat.reduceAdd, Nat.reduceMul, Nat.reduceSub, Nat.reduceBEq, ↓reduceIte, bne_self_eq_false, Bool.and_false, Bool.false_and, Bool.true_or, Bool.false_or, ixL hlt, drL hlt, fitL hlt, shut_col]
             simp only [go_sem, List.getElem?_toArray, str_beq, reduceCtorEq, Nat.reduceEqDiff, Nat.reduceLT, Nat.reduceLeDiff, Nat.reduceAdd, Nat.reduceMul, Nat.reduceSub, Nat.reduceBEq, ↓reduceIte, bne_self_eq_false, Bool.and_false, Bool.false_and, Bool.true_or, Bool.false_or, ixL hlt, drL hlt, fitL hlt])
          | refine k_of (by assumption) ?_
          | refine tr_block ?_
          | refine tr_scope ?_
          | (refine tr_skip ?_; try simp only [ex_seq, ex_block])
          | (refine tr_label ?_; try simp only [ex_seq, ex_block])
          | (refine tr_exit ?_; try simp only [ex_seq_exit, ex_block_exit, Nat.reduceEqDiff, if_true, if_false, ex_seq, ex_block, reduceCtorEq, ↓reduceIte])
          | (refine tr_ret ?_; try simp only [ex_seq_ret, ex_block_ret]))
      refine tr_cond rfl (fun ht => ?_) (fun hf => ?_)
      · cases ht
      · repeat (first
            | refine tr_seq_k fun _ _ => ?_
            | (refine tr_region ?_; simp only [go_sem, List.getElem?_toArray, str_beq, reduceCtorEq, Nat.reduceEqDiff, Nat.reduceLT, Nat.reduceLeDiff, Nat.reduceAdd, Nat.reduceMul, Nat.reduceSub, Nat.reduceBEq, ↓reduceIte, bne_self_eq_false, Bool.and_false, Bool.false_and, Bool.true_or, Bool.false_or, ws])
            | refine k_of (by assumption) ?_
            | refine tr_block ?_
            | refine tr_scope ?_
            | (refine tr_skip ?_; try simp only [ex_seq, ex_block])
            | (refine tr_label ?_; try simp only [ex_seq, ex_block])
            | (refine tr_exit ?_; try simp only [ex_seq_exit, ex_block_exit, Nat.reduceEqDiff, if_true, if_false, ex_seq, ex_block, reduceCtorEq, ↓reduceIte])
            | (refine tr_ret ?_; try simp only [ex_seq_ret, ex_block_ret]))
        exact hK (k + 1) _ _ ⟨hlt, fun j h hj => by
          by_cases e : j = k
          · subst e; exact ho
          · exact hp j h (by omega)⟩ ⟨⟨rfl, rfl, rfl, rfl, trivial⟩, Keep.refl _, rfl, by simp only [lowB, lows_blC]; rfl, Nat.le_refl _, Nat.le_refl _⟩ (by omega)
  · have hkl : k = l.length := by
      have := of_decide_eq_false hf
      omega
    subst hkl
    have hr : pIx l = -1 := by
      have : l.findIdx? pown = none := List.findIdx?_eq_none_iff.2 fun x hx => by
        obtain ⟨j, hj, rfl⟩ := List.mem_iff_getElem.1 hx
        exact hp j hj hj
      unfold pIx
      rw [this]
    repeat (first
        | refine tr_seq_k fun _ _ => ?_
        | (refine tr_region ?_; simp only [go_sem, List.getElem?_toArray, str_beq, reduceCtorEq, Nat.reduceEqDiff, Nat.reduceLT, Nat.reduceLeDiff, Nat.reduceAdd, Nat.reduceMul, Nat.reduceSub, Nat.reduceBEq, ↓reduceIte, bne_self_eq_false, Bool.and_false, Bool.false_and, Bool.true_or, Bool.false_or])
        | refine k_of (by assumption) ?_
        | refine tr_block ?_
        | refine tr_scope ?_
        | (refine tr_skip ?_; try simp only [ex_seq, ex_block])
        | (refine tr_label ?_; try simp only [ex_seq, ex_block])
        | (refine tr_exit ?_; try simp only [ex_seq_exit, ex_block_exit, Nat.reduceEqDiff, if_true, if_false, ex_seq, ex_block, reduceCtorEq, ↓reduceIte])
        | (refine tr_ret ?_; try simp only [ex_seq_ret, ex_block_ret]))
    refine (hQ _ _ [iA (-1)] ?_ (by rw [hr]; rfl) rfl).2 <;> simp only [go_sem, List.getElem?_toArray, str_beq, reduceCtorEq, Nat.reduceEqDiff, Nat.reduceLT, Nat.reduceLeDiff, Nat.reduceAdd, Nat.reduceMul, Nat.reduceSub, Nat.reduceBEq, ↓reduceIte, bne_self_eq_false, Bool.and_false, Bool.false_and, Bool.true_or, Bool.false_or, Try.f63]

/-! ### what is kept -/
def flB (l : List Bd) (j : Nat) : List Bd := (l.take j).filter fun x => !pown x
def dfB (l : List Bd) (j : Nat) : List Bd := flB l j ++ l.drop (flB l j).length
theorem flB_len (l : List Bd) (j : Nat) : (flB l j).length ≤ j := by
  unfold flB
  have := List.length_filter_le (fun x => !pown x) (l.take j)
  rw [List.length_take] at this
  omega
theorem flB_le (l : List Bd) (j : Nat) : (flB l j).length ≤ l.length := by
  unfold flB
  have := List.length_filter_le (fun x => !pown x) (l.take j)
  rw [List.length_take] at this
  omega
theorem dfB_len (l : List Bd) (j : Nat) : (dfB l j).length = l.length := by
  unfold dfB
  rw [List.length_append, List.length_drop]
  have := flB_le l j
  omega
theorem dfB_at (l : List Bd) {j : Nat} (h : j < l.length) : (dfB l j)[j]'(by rw [dfB_len]; exact h) = l[j] := by
  have hl := flB_len l j
  unfold dfB
  rw [List.getElem_append_right hl, List.getElem_drop]
  congr 1
  omega
theorem flB_next (l : List Bd) {j : Nat} (h : j < l.length) : flB l (j + 1) = if pown l[j] then flB l j else flB l j ++ [l[j]] := by
  unfold flB
  rw [List.take_succ_eq_append_getElem h, List.filter_append]
  cases ho : pown l[j] <;> simp [ho]
theorem dfB_next (l : List Bd) {j : Nat} (h : j < l.length) (ho : pown l[j] = false) : (dfB l j).set (flB l j).length l[j] = dfB l (j + 1) := by
  have hl := flB_len l j
  have e : flB l (j + 1) = flB l j ++ [l[j]] := by rw [flB_next l h, ho]; rfl
  unfold dfB
  rw [e, List.set_append_right _ _ (Nat.le_refl _), Nat.sub_self, List.length_append, List.length_singleton, List.append_assoc]
  congr 1
  have hlt : (flB l j).length < l.length := by omega
  rw [List.drop_eq_getElem_cons hlt, List.set_cons_zero]
  rfl
theorem first_own {l : List Bd} {i : Nat} (h : l.findIdx? pown = some i) : ∃ hi : i < l.length, pown l[i] = true ∧ flB l (i + 1) = l.take i ∧ dfB l (i + 1) = l := by
  obtain ⟨hi, h1, h2⟩ := List.findIdx?_eq_some_iff_getElem.1 h
  have e : flB l (i + 1) = l.take i := by
    rw [flB_next l hi, h1]
    show flB l i = _
    unfold flB
    rw [List.filter_eq_self]
    intro x hx
    obtain ⟨j, hj, rfl⟩ := List.mem_iff_getElem.1 hx
    have hj' : j < i := by rw [List.length_take] at hj; omega
    rw [List.getElem_take]
    have := h2 j hj'
    simpa using this
  refine ⟨hi, h1, e, ?_⟩
  unfold dfB
  rw [e, List.length_take, Nat.min_eq_left (Nat.le_of_lt hi), List.take_append_drop]
theorem flB_all (l : List Bd) : flB l l.length = l.filter fun x => !pown x := by unfold flB; rw [List.take_length]

theorem zeB : tzero Try.prog 36 = some (bdC ⟨⟨#[]⟩, ⟨false, ⟨#[]⟩⟩⟩) := by kernel_rfl
theorem deletef_gives (l : List Bd) (hl : l.length ≤ 10000) : ∃ R, GivesW Try.prog 54 [.lsl 0 0 l.length 3, ownA] ⟨[⟨false, blC bdC l⟩], []⟩ (.lsl 0 0 (l.filter fun x => !pown x).length 3) ⟨[⟨false, blC bdC ((l.filter fun x => !pown x) ++ R)⟩], []⟩ := by
  have cI := indexf_gives l hl
  cases hfi : l.findIdx? pown with
  | none =>
    have hall : (l.filter fun x => !pown x) = l := by
      rw [List.filter_eq_self]
      intro x hx
      rw [List.findIdx?_eq_none_iff.1 hfi x hx]
      rfl
    refine ⟨[], ?_⟩
    rw [hall, List.append_nil]
    have hr : pIx l = -1 := by unfold pIx; rw [hfi]
    rw [hr] at cI
    refine givesW_of' Try.func54 rfl (by kernel_rfl) Try.ntmps54 rfl rfl fun Q hQ => ?_
    repeat (first
        | refine tr_seq_k fun _ _ => ?_
        | (refine tr_region ?_; simp only [go_sem, List.getElem?_toArray, str_beq, reduceCtorEq, Nat.reduceEqDiff, Nat.reduceLT, Nat.reduceLeDiff, Nat.reduceAdd, Nat.reduceMul, Nat.reduceSub, Nat.reduceBEq, ↓reduceIte, bne_self_eq_false, Bool.and_false, Bool.false_and, Bool.true_or, Bool.false_or])
        | (refine call_givesW (cI) ?_; (try dsimp only); (try simp only [go_sem, List.getElem?_toArray, str_beq, reduceCtorEq, Nat.reduceEqDiff, Nat.reduceLT, Nat.reduceLeDiff, Nat.reduceAdd, Nat.reduceMul, Nat.reduceSub, Nat.reduceBEq, ↓reduceIte, bne_self_eq_false, Bool.and_false, Bool.false_and, Bool.true_or, Bool.false_or]))
        | refine k_of (by assumption) ?_
        | refine tr_block ?_
        | refine tr_scope ?_
        | (refine tr_skip ?_; try simp only [ex_seq, ex_block])
        | (refine tr_label ?_; try simp only [ex_seq, ex_block])
        | (refine tr_exit ?_; try simp only [ex_seq_exit, ex_block_exit, Nat.reduceEqDiff, if_true, if_false, ex_seq, ex_block, reduceCtorEq, ↓reduceIte])
        | (refine tr_ret ?_; try simp only [ex_seq_ret, ex_block_ret]))
    refine tr_cond rfl (fun ht => ?_) (fun hf => ?_)
    · repeat (first
          | refine tr_seq_k fun _ _ => ?_
          | (refine tr_region ?_; simp only [go_sem, List.getElem?_toArray, str_beq, reduceCtorEq, Nat.reduceEqDiff, Nat.reduceLT, Nat.reduceLeDiff, Nat.reduceAdd, Nat.reduceMul, Nat.reduceSub, Nat.reduceBEq, ↓reduceIte, bne_self_eq_false, Bool.and_false, Bool.false_and, Bool.true_or, Bool.false_or])
          | refine k_of (by assumption) ?_
          | refine tr_block ?_
          | refine tr_scope ?_
          | (refine tr_skip ?_; try simp only [ex_seq, ex_block])
          | (refine tr_label ?_; try simp only [ex_seq, ex_block])
          | (refine tr_exit ?_; try simp only [ex_seq_exit, ex_block_exit, Nat.reduceEqDiff, if_true, if_false, ex_seq, ex_block, reduceCtorEq, ↓reduceIte])
          | (refine tr_ret ?_; try simp only [ex_seq_ret, ex_block_ret]))
      refine (hQ _ _ [.lsl 0 0 l.length 3] ?_ rfl rfl).2 <;> simp only [go_sem, List.getElem?_toArray, str_beq, reduceCtorEq, Nat.reduceEqDiff, Nat.reduceLT, Nat.reduceLeDiff, Nat.reduceAdd, Nat.reduceMul, Nat.reduceSub, Nat.reduceBEq, ↓reduceIte, bne_self_eq_false, Bool.and_false, Bool.false_and, Bool.true_or, Bool.false_or, Try.f54]
    · cases hf
  | some i =>
    obtain ⟨hi, ho, hf1, hd1⟩ := first_own hfi
    have hr : pIx l = (i : Int) := by unfold pIx; rw [hfi]
    rw [hr] at cI
    refine ⟨List.replicate (l.length - (flB l l.length).length) ⟨⟨#[]⟩, ⟨false, ⟨#[]⟩⟩⟩, ?_⟩
    rw [← flB_all]
    have wi := wrap_succ (show i ≤ 1000000000 by omega)
    have hne : decide ((i : Int) = -1) = false := decide_eq_false (by omega)
    have hi1 : (flB l (i + 1)).length = i := by rw [hf1, List.length_take]; omega
    refine givesW_of' Try.func54 rfl (by kernel_rfl) Try.ntmps54 rfl rfl fun Q hQ => ?_
    repeat (first
        | refine tr_seq_k fun _ _ => ?_
        | (refine tr_region ?_; simp only [go_sem, List.getElem?_toArray, str_beq, reduceCtorEq, Nat.reduceEqDiff, Nat.reduceLT, Nat.reduceLeDiff, Nat.reduceAdd, Nat.reduceMul, Nat.reduceSub, Nat.reduceBEq, ↓reduceIte, bne_self_eq_false, Bool.and_false, Bool.false_and, Bool.true_or, Bool.false_or, hne])
        | (refine call_givesW (cI) ?_; (try dsimp only); (try simp only [go_sem, List.getElem?_toArray, str_beq, reduceCtorEq, Nat.reduceEqDiff, Nat.reduceLT, Nat.reduceLeDiff, Nat.reduceAdd, Nat.reduceMul, Nat.reduceSub, Nat.reduceBEq, ↓reduceIte, bne_self_eq_false, Bool.and_false, Bool.false_and, Bool.true_or, Bool.false_or, hne]))
        | refine k_of (by assumption) ?_
        | refine tr_block ?_
        | refine tr_scope ?_
        | (refine tr_skip ?_; try simp only [ex_seq, ex_block])
        | (refine tr_label ?_; try simp only [ex_seq, ex_block])
        | (refine tr_exit ?_; try simp only [ex_seq_exit, ex_block_exit, Nat.reduceEqDiff, if_true, if_false, ex_seq, ex_block, reduceCtorEq, ↓reduceIte])
        | (refine tr_ret ?_; try simp only [ex_seq_ret, ex_block_ret]))
    refine tr_cond rfl (fun ht => ?_) (fun hf => ?_)
    · cases ht
    · repeat (first
          | refine tr_seq_k fun _ _ => ?_
          | (refine tr_region ?_; simp only [go_sem, List.getElem?_toArray, str_beq, reduceCtorEq, Nat.reduceEqDiff, Nat.reduceLT, Nat.reduceLeDiff, Nat.reduceAdd, Nat.reduceMul, Nat.reduceSub, Nat.reduceBEq, ↓reduceIte, bne_self_eq_false, Bool.and_false, Bool.false_and, Bool.true_or, Bool.false_or, wi])
          | refine k_of (by assumption) ?_
          | refine tr_block ?_
          | refine tr_scope ?_
          | (refine tr_skip ?_; try simp only [ex_seq, ex_block])
          | (refine tr_label ?_; try simp only [ex_seq, ex_block])
          | (refine tr_exit ?_; try simp only [ex_seq_exit, ex_block_exit, Nat.reduceEqDiff, if_true, if_false, ex_seq, ex_block, reduceCtorEq, ↓reduceIte])
          | (refine tr_ret ?_; try simp only [ex_seq_ret, ex_block_ret]))
      refine tr_loop_k (σ := Nat) (fun j => [(0, .lsl 0 0 l.length 3), (1, ownA), (5, iA (flB l j).length), (6, iA j)]) (fun j => ⟨[⟨false, blC bdC (dfB l j)⟩], []⟩)
        (fun j => j ≤ l.length) (fun j => l.length - j) (i + 1) hi ⟨rfl, rfl, by rw [hi1]; rfl, rfl, trivial⟩ (by rw [hd1]) ?_
      rintro j hj K hK
      repeat (first
          | refine tr_seq_k fun _ _ => ?_
          | (refine tr_region ?_; simp only [go_sem, List.getElem?_toArray, str_beq, reduceCtorEq, Nat.reduceEqDiff, Nat.reduceLT, Nat.reduceLeDiff, Nat.reduceAdd, Nat.reduceMul, Nat.reduceSub, Nat.reduceBEq, ↓reduceIte, bne_self_eq_false, Bool.and_false, Bool.false_and, Bool.true_or, Bool.false_or])
          | refine k_of (by assumption) ?_
          | refine tr_block ?_
          | refine tr_scope ?_
          | (refine tr_skip ?_; try simp only [ex_seq, ex_block])
          | (refine tr_label ?_; try simp only [ex_seq, ex_block])
          | (refine tr_exit ?_; try simp only [ex_seq_exit, ex_block_exit, Nat.reduceEqDiff, if_true, if_false, ex_seq, ex_block, reduceCtorEq, ↓reduceIte])
          | (refine tr_ret ?_; try simp only [ex_seq_ret, ex_block_ret]))
      refine tr_cond rfl (fun ht => ?_) (fun hf => ?_)
      · have hlt : j < l.length := by simpa using ht
        have ws := wrap_succ (show j ≤ 1000000000 by omega)
        have cO := own_does l[j]
        have hBl := dfB_len l j
        have hBj := dfB_at l hlt
        have hfl := flB_len l j
        have hnx := flB_next l hlt
        have hdn := dfB_next l hlt
        have wf := wrap_succ (show (flB l j).length ≤ 1000000000 by omega)
        have hj2 : j < (dfB l j).length := by omega
        have hi2 : (flB l j).length < (dfB l j).length := by omega
        have hi3 : (flB l j).length < l.length := by omega
        have dr := drL hj2
        rw [hBj] at dr
        have st := setL hi2 l[j]
        cases hoj : pown l[j] with
        | true =>
          rw [hoj] at cO hnx
          have hnx : flB l (j + 1) = flB l j := hnx
          have hdd : dfB l (j + 1) = dfB l j := by unfold dfB; rw [hnx]
          repeat (first
              | refine tr_seq_k fun _ _ => ?_
              | (refine tr_region ?_; simp only [go_sem, List.getElem?_toArray, str_beq, reduceCtorEq, Nat.reduceEqDiff, Nat.reduceLT, Nat.reduceLeDiff, Nat.reduceAdd, Nat.reduceMul, Nat.reduceSub, Nat.reduceBEq, ↓reduceIte, bne_self_eq_false, Bool.and_false, Bool.false_and, Bool.true_or, Bool.false_or, ixL hlt, dr, fitL hj2])
              | (refine call_of (cO) ?_ ?_
                 · first | rfl | simp only [go_sem, List.getElem?_toArray, str_beq, reduceCtorEq, Nat.reduceEqDiff, Nat.reduceLT, Nat.reduceLeDiff, Nat.reduceAdd, Nat.reduceMul, Nat.reduceSub, Nat.reduceBEq, ↓reduceIte, bne_self_eq_false, Bool.and_false, Bool.false_and, Bool.true_or, Bool.false_or, ixL hlt, dr, fitL hj2, shut_col]
                 simp only [go_sem, List.getElem?_toArray, str_beq, reduceCtorEq, Nat.reduceEqDiff, Nat.reduceLT, Nat.reduceLeDiff, Nat.reduceAdd, Nat.reduceMul, Nat.reduceSub, Nat.reduceBEq, ↓reduceIte, bne_self_eq_false, Bool.and_false, Bool.false_and, Bool.true_or, Bool.false_or, ixL hlt, dr, fitL hj2])
              | refine k_of (by assumption) ?_
              | refine tr_block ?_
              | refine tr_scope ?_
              | (refine tr_skip ?_; try simp only [ex_seq, ex_block])
              | (refine tr_label ?_; try simp only [ex_seq, ex_block])
              | (refine tr_exit ?_; try simp only [ex_seq_exit, ex_block_exit, Nat.reduceEqDiff, if_true, if_false, ex_seq, ex_block, reduceCtorEq, ↓reduceIte])
              | (refine tr_ret ?_; try simp only [ex_seq_ret, ex_block_ret]))
          refine tr_cond rfl (fun ht => ?_) (fun hf => ?_)
          · cases ht
          · repeat (first
                | refine tr_seq_k fun _ _ => ?_
                | (refine tr_region ?_; simp only [go_sem, List.getElem?_toArray, str_beq, reduceCtorEq, Nat.reduceEqDiff, Nat.reduceLT, Nat.reduceLeDiff, Nat.reduceAdd, Nat.reduceMul, Nat.reduceSub, Nat.reduceBEq, ↓reduceIte, bne_self_eq_false, Bool.and_false, Bool.false_and, Bool.true_or, Bool.false_or, ws])
                | refine k_of (by assumption) ?_
                | refine tr_block ?_
                | refine tr_scope ?_
                | (refine tr_skip ?_; try simp only [ex_seq, ex_block])
                | (refine tr_label ?_; try simp only [ex_seq, ex_block])
                | (refine tr_exit ?_; try simp only [ex_seq_exit, ex_block_exit, Nat.reduceEqDiff, if_true, if_false, ex_seq, ex_block, reduceCtorEq, ↓reduceIte])
                | (refine tr_ret ?_; try simp only [ex_seq_ret, ex_block_ret]))
            exact hK (j + 1) _ _ hlt ⟨⟨rfl, rfl, by rw [hnx]; rfl, rfl, trivial⟩, by rw [hdd]; exact Keep.of (eh := [_]) (ew := []) rfl rfl, rfl, by simp only [lowB, lows_blC]; rfl, Nat.le_refl _, Nat.le_refl _⟩ (by omega)
        | false =>
          rw [hoj] at cO hnx
          have hnx : flB l (j + 1) = flB l j ++ [l[j]] := hnx
          rw [hdn hoj] at st
          have hle : (flB l (j + 1)).length = (flB l j).length + 1 := by rw [hnx, List.length_append]; rfl
          repeat (first
              | refine tr_seq_k fun _ _ => ?_
              | (refine tr_region ?_; simp only [go_sem, List.getElem?_toArray, str_beq, reduceCtorEq, Nat.reduceEqDiff, Nat.reduceLT, Nat.reduceLeDiff, Nat.reduceAdd, Nat.reduceMul, Nat.reduceSub, Nat.reduceBEq, ↓reduceIte, bne_self_eq_false, Bool.and_false, Bool.false_and, Bool.true_or, Bool.false_or, ixL hlt, dr, fitL hj2])
              | (refine call_of (cO) ?_ ?_
                 · first | rfl | simp only [go_sem, List.getElem?_toArray, str_beq, reduceCtorEq, Nat.reduceEqDiff, Nat.reduceLT, Nat.reduceLeDiff, Nat.reduceAdd, Nat.reduceMul, Nat.reduceSub, Nat.reduceBEq, ↓reduceIte, bne_self_eq_false, Bool.and_false, Bool.false_and, Bool.true_or, Bool.false_or, ixL hlt, dr, fitL hj2, shut_col]
                 simp only [go_sem, List.getElem?_toArray, str_beq, reduceCtorEq, Nat.reduceEqDiff, Nat.reduceLT, Nat.reduceLeDiff, Nat.reduceAdd, Nat.reduceMul, Nat.reduceSub, Nat.reduceBEq, ↓reduceIte, bne_self_eq_false, Bool.and_false, Bool.false_and, Bool.true_or, Bool.false_or, ixL hlt, dr, fitL hj2])
              | refine k_of (by assumption) ?_
              | refine tr_block ?_
              | refine tr_scope ?_
              | (refine tr_skip ?_; try simp only [ex_seq, ex_block])
              | (refine tr_label ?_; try simp only [ex_seq, ex_block])
              | (refine tr_exit ?_; try simp only [ex_seq_exit, ex_block_exit, Nat.reduceEqDiff, if_true, if_false, ex_seq, ex_block, reduceCtorEq, ↓reduceIte])
              | (refine tr_ret ?_; try simp only [ex_seq_ret, ex_block_ret]))
          refine tr_cond rfl (fun ht => ?_) (fun hf => ?_)
          · repeat (first
                | refine tr_seq_k fun _ _ => ?_
                | (refine tr_region ?_; simp only [go_sem, List.getElem?_toArray, str_beq, reduceCtorEq, Nat.reduceEqDiff, Nat.reduceLT, Nat.reduceLeDiff, Nat.reduceAdd, Nat.reduceMul, Nat.reduceSub, Nat.reduceBEq, ↓reduceIte, bne_self_eq_false, Bool.and_false, Bool.false_and, Bool.true_or, Bool.false_or, ixL hi3, fitL hi2, st, ws, wf])
                | refine k_of (by assumption) ?_
                | refine tr_block ?_
                | refine tr_scope ?_
                | (refine tr_skip ?_; try simp only [ex_seq, ex_block])
                | (refine tr_label ?_; try simp only [ex_seq, ex_block])
                | (refine tr_exit ?_; try simp only [ex_seq_exit, ex_block_exit, Nat.reduceEqDiff, if_true, if_false, ex_seq, ex_block, reduceCtorEq, ↓reduceIte])
                | (refine tr_ret ?_; try simp only [ex_seq_ret, ex_block_ret]))
            exact hK (j + 1) _ _ hlt ⟨⟨rfl, rfl, by rw [hle]; rfl, rfl, trivial⟩, Keep.of (eh := [_]) (ew := []) rfl rfl, rfl, by simp only [lowB, lows_blC]; rfl, Nat.le_refl _, Nat.le_refl _⟩ (by omega)
          · cases hf
      · have hjl : j = l.length := by
          have := of_decide_eq_false hf
          omega
        subst hjl
        have hBl := dfB_len l l.length
        have hle := flB_le l l.length
        have s1 := slL_from (P := Try.prog) (size := 3) Try.underlying22 sz36 (b := 0) (lo := 0) hle
        rw [Nat.zero_add] at s1
        have s2 := slL_to (P := Try.prog) (size := 3) Try.underlying22 sz36 (b := 0) (lo := 0) hle
        have cl := clear_blC (P := Try.prog) (enc := bdC) (size := 3) (fun _ => rfl) (by decide) Try.underlying22 zeB (l := dfB l l.length) (i := (flB l l.length).length) (by omega) (hw := [])
        rw [hBl, show (dfB l l.length).take (flB l l.length).length = flB l l.length from List.take_left' rfl] at cl
        repeat (first
            | refine tr_seq_k fun _ _ => ?_
            | (refine tr_region ?_; simp only [go_sem, List.getElem?_toArray, str_beq, reduceCtorEq, Nat.reduceEqDiff, Nat.reduceLT, Nat.reduceLeDiff, Nat.reduceAdd, Nat.reduceMul, Nat.reduceSub, Nat.reduceBEq, ↓reduceIte, bne_self_eq_false, Bool.and_false, Bool.false_and, Bool.true_or, Bool.false_or, s1, s2, cl])
            | refine k_of (by assumption) ?_
            | refine tr_block ?_
            | refine tr_scope ?_
            | (refine tr_skip ?_; try simp only [ex_seq, ex_block])
            | (refine tr_label ?_; try simp only [ex_seq, ex_block])
            | (refine tr_exit ?_; try simp only [ex_seq_exit, ex_block_exit, Nat.reduceEqDiff, if_true, if_false, ex_seq, ex_block, reduceCtorEq, ↓reduceIte])
            | (refine tr_ret ?_; try simp only [ex_seq_ret, ex_block_ret]))
        refine (hQ _ _ [.lsl 0 0 (flB l l.length).length 3] ?_ rfl rfl).2 <;> simp only [go_sem, List.getElem?_toArray, str_beq, reduceCtorEq, Nat.reduceEqDiff, Nat.reduceLT, Nat.reduceLeDiff, Nat.reduceAdd, Nat.reduceMul, Nat.reduceSub, Nat.reduceBEq, ↓reduceIte, bne_self_eq_false, Bool.and_false, Bool.false_and, Bool.true_or, Bool.false_or, Try.f54]
theorem deletef_does (l : List Bd) (hl : l.length ≤ 10000) : ∃ R, GivesW Try.prog 54 [.lsl 0 0 l.length 3, ownA] ⟨[⟨false, blC bdC l⟩], []⟩ (slB false (l.filter fun x => !pown x)) ⟨[⟨true, blC bdC ((l.filter fun x => !pown x) ++ R)⟩], []⟩ := by
  obtain ⟨R, h⟩ := deletef_gives l hl
  refine ⟨R, ?_⟩
  have := h.freeze (ds := ((l.filter fun x => !pown x) ++ R).flatMap bdC) rfl
  rw [Nat.zero_mul, List.drop_zero, take_flat (enc := bdC) (size := 3) (fun _ => rfl), List.take_left' rfl] at this
  exact this
end Go.Proofs.Ytkkkpbnehpfkkaa

/-
  Chapter 4: contracts on abstract values: composition of bindings.
-/
set_option linter.unusedSimpArgs false
set_option linter.unusedVariables false
namespace Go.Proofs.Ytkkkpbnehpfkkaa
open Go.Vs Go.Vs.Ab
set_option maxRecDepth 100000
set_option maxHeartbeats 4000000

theorem ro_rep {X Y : Mem} {ex : Bool} {T : Type} {enc : T → List CV} {l : List T} {v : Value} (hY : Y.cell = X.cell) (h : Rep X (slR enc ex l) v) : Rep Y (slR enc false l) v := by
  cases h with
  | c h =>
    cases h with
    | sl hl h hn hc he hx =>
      rw [← hY] at h hx
      exact .c (.sl hl h hn hc (fun e => by cases e) hx)
theorem with_ro (l : List Bd) (b : Bd) (hl : l.length ≤ 10000) (hr : prises l = true) : Does Try.prog 45 [slB false l, bdA b] (fun m => (slB false (pwith l b), m)) :=
  (with_does l b false hl hr).drop (fun m => ⟨[], by simp⟩) fun m X Y v hY h => ro_rep hY h
theorem indexf_nil : Does Try.prog 63 [.c (.sl true 0 []), ownA] (fun m => (iA (-1), m)) :=
  does_of_evA (v := .int .i64 (-1)) (H := lookH []) (n := 20) follows (callable Try.func63 (by kernel_rfl)) rfl rfl (by kernel_rfl)
theorem deletef_nil : Does Try.prog 54 [.c (.sl true 0 []), ownA] (fun m => (slB false ([] : List Bd), m)) := by
  have h : Does Try.prog 54 [.c (.sl true 0 []), ownA] (fun m => (slB true ([] : List Bd), m)) := by
    have cI := indexf_nil
    refine does_of' Try.func54 rfl (by kernel_rfl) rfl Try.ntmps54 rfl rfl fun Q hQ => ?_
    repeat (first
        | refine tr_seq_k fun _ _ => ?_
        | (refine tr_region ?_; simp only [go_sem, List.getElem?_toArray, str_beq, reduceCtorEq, Nat.reduceEqDiff, Nat.reduceLT, Nat.reduceLeDiff, Nat.reduceAdd, Nat.reduceMul, Nat.reduceSub, Nat.reduceBEq, ↓reduceIte, bne_self_eq_false, Bool.and_false, Bool.false_and, Bool.true_or, Bool.false_or])
        | (refine call_of (cI) ?_ ?_
           · first | rfl | simp only [go_sem, List.getElem?_toArray, str_beq, reduceCtorEq, Nat.reduceEqDiff, Nat.reduceLT, Nat.reduceLeDiff, Nat.reduceAdd, Nat.reduceMul, Nat.reduceSub, Nat.reduceBEq, ↓reduceIte, bne_self_eq_false, Bool.and_false, Bool.false_and, Bool.true_or, Bool.false_or, shut_col]
           simp only [go_sem, List.getElem?_toArray, str_beq, reduceCtorEq, Nat.reduceEqDiff, Nat.reduceLT, Nat.reduceLeDiff, Nat.reduceAdd, Nat.reduceMul, Nat.reduceSub, Nat.reduceBEq, ↓reduceIte, bne_self_eq_false, Bool.and_false, Bool.false_and, Bool.true_or, Bool.false_or])
        | refine k_of (by assumption) ?_
        | refine tr_block ?_
        | refine tr_scope ?_
        | (refine tr_skip ?_; try simp only [ex_seq, ex_block])
        | (refine tr_label ?_; try simp only [ex_seq, ex_block])
        | (refine tr_exit ?_; try simp only [ex_seq_exit, ex_block_exit, Nat.reduceEqDiff, if_true, if_false, ex_seq, ex_block, reduceCtorEq, ↓reduceIte])
        | (refine tr_ret ?_; try simp only [ex_seq_ret, ex_block_ret]))
    refine tr_cond rfl (fun ht => ?_) (fun hf => ?_)
    · repeat (first
          | refine tr_seq_k fun _ _ => ?_
          | (refine tr_region ?_; simp only [go_sem, List.getElem?_toArray, str_beq, reduceCtorEq, Nat.reduceEqDiff, Nat.reduceLT, Nat.reduceLeDiff, Nat.reduceAdd, Nat.reduceMul, Nat.reduceSub, Nat.reduceBEq, ↓reduceIte, bne_self_eq_false, Bool.and_false, Bool.false_and, Bool.true_or, Bool.false_or])
          | refine k_of (by assumption) ?_
          | refine tr_block ?_
          | refine tr_scope ?_
          | (refine tr_skip ?_; try simp only [ex_seq, ex_block])
          | (refine tr_label ?_; try simp only [ex_seq, ex_block])
          | (refine tr_exit ?_; try simp only [ex_seq_exit, ex_block_exit, Nat.reduceEqDiff, if_true, if_false, ex_seq, ex_block, reduceCtorEq, ↓reduceIte])
          | (refine tr_ret ?_; try simp only [ex_seq_ret, ex_block_ret]))
      refine (hQ _ _ [.c (.sl true 0 [])] ?_ (fun m => rfl)).2 <;> simp only [go_sem, List.getElem?_toArray, str_beq, reduceCtorEq, Nat.reduceEqDiff, Nat.reduceLT, Nat.reduceLeDiff, Nat.reduceAdd, Nat.reduceMul, Nat.reduceSub, Nat.reduceBEq, ↓reduceIte, bne_self_eq_false, Bool.and_false, Bool.false_and, Bool.true_or, Bool.false_or, Try.f54]
    · cases hf
  exact h.drop (fun m => ⟨[], by simp⟩) fun m X Y v hY h => ro_rep hY h
theorem under_lsl (l n : List Bd) (ex en : Bool) (hl : l.length ≤ 10000) (hn : n.length ≤ 10000) (h0 : l ≠ []) : Gives Try.prog 46 [slB ex l, slB en n] ⟨[], []⟩ (.lsl 0 0 (punder l n).length 3) ⟨[⟨false, blC bdC (punder l n)⟩], []⟩ := by
  have hne : punder l n ≠ [] := fun e => h0 (by have := congrArg List.length e; rw [punder_len] at this; exact List.eq_nil_of_length_eq_zero this)
  refine (under_fresh l n ex en hl hn).lsl (k := 0) (n := (punder l n).length) (e := 36) (size := 3) (cs := (punder l n).flatMap bdC) (m1 := ⟨[], [⟨(punder l n).length, 36, 3⟩]⟩) (xs := (punder l n).flatMap fun b => [.string b.var, .bool b.t.v, .string b.t.name]) rfl ?_ rfl ?_ ⟨[], []⟩
  · show freshA _ _ _ _ _ = _
    unfold freshA
    rw [colA_ne _ _ hne, colH_ne _ _ hne]
    rfl
  · exact vals_flat (encV := fun b : Bd => [Value.string b.var, .bool b.t.v, .string b.t.name]) (fun _ => rfl) _
theorem z15 : ((15 : Int) != 0) = true := rfl
theorem z00 : ((0 : Int) != 0) = false := rfl
theorem eA_not (b : Bool) (h : b = false) : eA b = iA 15 := by rw [h]; rfl

theorem compose_does (a b : List Bd) (exa exb : Bool) (ha : a.length ≤ 5000) (hb : b.length ≤ 5000) : Does Try.prog 31 [slB exa a, slB exb b] (fun m => (.tup [slB (!pcE a b) (pcR a b), eA (pcE a b)], m)) := by
  have ka := check_does a exa (by omega)
  have kb := check_does b exb (by omega)
  cases h1 : pcheck a with
  | false =>
    rw [h1] at ka
    have hE : pcE a b = false := by unfold pcE; rw [h1]; rfl
    have hR : pcR a b = [] := by unfold pcR; rw [hE]; rfl
    refine does_of' Try.func31 rfl (by kernel_rfl) rfl Try.ntmps31 rfl rfl fun Q hQ => ?_
    repeat (first
        | refine tr_seq_k fun _ _ => ?_
        | (refine tr_region ?_; simp only [go_sem, List.getElem?_toArray, str_beq, reduceCtorEq, Nat.reduceEqDiff, Nat.reduceLT, Nat.reduceLeDiff, Nat.reduceAdd, Nat.reduceMul, Nat.reduceSub, Nat.reduceBEq, ↓reduceIte, bne_self_eq_false, Bool.and_false, Bool.false_and, Bool.true_or, Bool.false_or, z15, z00])
        | (refine call_of (ka) ?_ ?_
           · first | rfl | simp only [go_sem, List.getElem?_toArray, str_beq, reduceCtorEq, Nat.reduceEqDiff, Nat.reduceLT, Nat.reduceLeDiff, Nat.reduceAdd, Nat.reduceMul, Nat.reduceSub, Nat.reduceBEq, ↓reduceIte, bne_self_eq_false, Bool.and_false, Bool.false_and, Bool.true_or, Bool.false_or, z15, z00, shut_col]
           simp only [go_sem, List.getElem?_toArray, str_beq, reduceCtorEq, Nat.reduceEqDiff, Nat.reduceLT, Nat.reduceLeDiff, Nat.reduceAdd, Nat.reduceMul, Nat.reduceSub, Nat.reduceBEq, ↓reduceIte, bne_self_eq_false, Bool.and_false, Bool.false_and, Bool.true_or, Bool.false_or, z15, z00])
        | refine k_of (by assumption) ?_
        | refine tr_block ?_
        | refine tr_scope ?_
        | (refine tr_skip ?_; try simp only [ex_seq, ex_block])
        | (refine tr_label ?_; try simp only [ex_seq, ex_block])
        | (refine tr_exit ?_; try simp only [ex_seq_exit, ex_block_exit, Nat.reduceEqDiff, if_true, if_false, ex_seq, ex_block, reduceCtorEq, ↓reduceIte])
        | (refine tr_ret ?_; try simp only [ex_seq_ret, ex_block_ret]))
    refine tr_cond rfl (fun ht => ?_) (fun hf => ?_)
    · repeat (first
          | refine tr_seq_k fun _ _ => ?_
          | (refine tr_region ?_; simp only [go_sem, List.getElem?_toArray, str_beq, reduceCtorEq, Nat.reduceEqDiff, Nat.reduceLT, Nat.reduceLeDiff, Nat.reduceAdd, Nat.reduceMul, Nat.reduceSub, Nat.reduceBEq, ↓reduceIte, bne_self_eq_false, Bool.and_false, Bool.false_and, Bool.true_or, Bool.false_or])
          | refine k_of (by assumption) ?_
          | refine tr_block ?_
          | refine tr_scope ?_
          | (refine tr_skip ?_; try simp only [ex_seq, ex_block])
          | (refine tr_label ?_; try simp only [ex_seq, ex_block])
          | (refine tr_exit ?_; try simp only [ex_seq_exit, ex_block_exit, Nat.reduceEqDiff, if_true, if_false, ex_seq, ex_block, reduceCtorEq, ↓reduceIte])
          | (refine tr_ret ?_; try simp only [ex_seq_ret, ex_block_ret]))
      refine (hQ _ _ [.c (.sl true 0 []), iA 15] ?_ (fun m => by rw [hE, hR]; rfl)).2 <;> simp only [go_sem, List.getElem?_toArray, str_beq, reduceCtorEq, Nat.reduceEqDiff, Nat.reduceLT, Nat.reduceLeDiff, Nat.reduceAdd, Nat.reduceMul, Nat.reduceSub, Nat.reduceBEq, ↓reduceIte, bne_self_eq_false, Bool.and_false, Bool.false_and, Bool.true_or, Bool.false_or, Try.f31]
    · cases hf
  | true =>
    rw [h1] at ka
    cases h2 : pcheck b with
    | false =>
      rw [h2] at kb
      have hE : pcE a b = false := by unfold pcE; rw [h1, h2]; rfl
      have hR : pcR a b = [] := by unfold pcR; rw [hE]; rfl
      refine does_of' Try.func31 rfl (by kernel_rfl) rfl Try.ntmps31 rfl rfl fun Q hQ => ?_
      repeat (first
          | refine tr_seq_k fun _ _ => ?_
          | (refine tr_region ?_; simp only [go_sem, List.getElem?_toArray, str_beq, reduceCtorEq, Nat.reduceEqDiff, Nat.reduceLT, Nat.reduceLeDiff, Nat.reduceAdd, Nat.reduceMul, Nat.reduceSub, Nat.reduceBEq, ↓reduceIte, bne_self_eq_false, Bool.and_false, Bool.false_and, Bool.true_or, Bool.false_or, z15, z00])
          | (refine call_of (ka) ?_ ?_
             · first | rfl | simp only [go_sem, List.getElem?_toArray, str_beq, reduceCtorEq, Nat.reduceEqDiff, Nat.reduceLT, Nat.reduceLeDiff, Nat.reduceAdd, Nat.reduceMul, Nat.reduceSub, Nat.reduceBEq, ↓reduceIte, bne_self_eq_false, Bool.and_false, Bool.false_and, Bool.true_or, Bool.false_or, z15, z00, shut_col]
             simp only [go_sem, List.getElem?_toArray, str_beq, reduceCtorEq, Nat.reduceEqDiff, Nat.reduceLT, Nat.reduceLeDiff, Nat.reduceAdd, Nat.reduceMul, Nat.reduceSub, Nat.reduceBEq, ↓reduceIte, bne_self_eq_false, Bool.and_false, Bool.false_and, Bool.true_or, Bool.false_or, z15, z00])
          | (refine call_of (kb) ?_ ?_
             · first | rfl | simp only [go_sem, List.getElem?_toArray, str_beq, reduceCtorEq, Nat.reduceEqDiff, Nat.reduceLT, Nat.reduceLeDiff, Nat.reduceAdd, Nat.reduceMul, Nat.reduceSub, Nat.reduceBEq, ↓reduceIte, bne_self_eq_false, Bool.and_false, Bool.false_and, Bool.true_or, Bool.false_or, z15, z00, shut_col]
             simp only [go_sem, List.getElem?_toArray, str_beq, reduceCtorEq, Nat.reduceEqDiff, Nat.reduceLT, Nat.reduceLeDiff, Nat.reduceAdd, Nat.reduceMul, Nat.reduceSub, Nat.reduceBEq, ↓reduceIte, bne_self_eq_false, Bool.and_false, Bool.false_and, Bool.true_or, Bool.false_or, z15, z00])
          | refine k_of (by assumption) ?_
          | refine tr_block ?_
          | refine tr_scope ?_
          | (refine tr_skip ?_; try simp only [ex_seq, ex_block])
          | (refine tr_label ?_; try simp only [ex_seq, ex_block])
          | (refine tr_exit ?_; try simp only [ex_seq_exit, ex_block_exit, Nat.reduceEqDiff, if_true, if_false, ex_seq, ex_block, reduceCtorEq, ↓reduceIte])
          | (refine tr_ret ?_; try simp only [ex_seq_ret, ex_block_ret]))
      refine tr_cond rfl (fun ht => ?_) (fun hf => ?_)
      · repeat (first
            | refine tr_seq_k fun _ _ => ?_
            | (refine tr_region ?_; simp only [go_sem, List.getElem?_toArray, str_beq, reduceCtorEq, Nat.reduceEqDiff, Nat.reduceLT, Nat.reduceLeDiff, Nat.reduceAdd, Nat.reduceMul, Nat.reduceSub, Nat.reduceBEq, ↓reduceIte, bne_self_eq_false, Bool.and_false, Bool.false_and, Bool.true_or, Bool.false_or])
            | refine k_of (by assumption) ?_
            | refine tr_block ?_
            | refine tr_scope ?_
            | (refine tr_skip ?_; try simp only [ex_seq, ex_block])
            | (refine tr_label ?_; try simp only [ex_seq, ex_block])
            | (refine tr_exit ?_; try simp only [ex_seq_exit, ex_block_exit, Nat.reduceEqDiff, if_true, if_false, ex_seq, ex_block, reduceCtorEq, ↓reduceIte])
            | (refine tr_ret ?_; try simp only [ex_seq_ret, ex_block_ret]))
        refine (hQ _ _ [.c (.sl true 0 []), iA 15] ?_ (fun m => by rw [hE, hR]; rfl)).2 <;> simp only [go_sem, List.getElem?_toArray, str_beq, reduceCtorEq, Nat.reduceEqDiff, Nat.reduceLT, Nat.reduceLeDiff, Nat.reduceAdd, Nat.reduceMul, Nat.reduceSub, Nat.reduceBEq, ↓reduceIte, bne_self_eq_false, Bool.and_false, Bool.false_and, Bool.true_or, Bool.false_or, Try.f31]
      · cases hf
    | true =>
      rw [h2] at kb
      by_cases h0 : a = []
      · have cU := under_does a b exa exb (by omega) (by omega)
        have hu : punder a b = [] := by rw [h0]; rfl
        rw [hu] at cU
        have cD := deletef_nil
        have hk0 : pcompK a b 0 = [] := by
          show (punder a b).filter _ = _
          rw [hu]; rfl
        rw [← hk0] at cD
        refine does_of' Try.func31 rfl (by kernel_rfl) rfl Try.ntmps31 rfl rfl fun Q hQ => ?_
        repeat (first
            | refine tr_seq_k fun _ _ => ?_
            | (refine tr_region ?_; simp only [go_sem, List.getElem?_toArray, str_beq, reduceCtorEq, Nat.reduceEqDiff, Nat.reduceLT, Nat.reduceLeDiff, Nat.reduceAdd, Nat.reduceMul, Nat.reduceSub, Nat.reduceBEq, ↓reduceIte, bne_self_eq_false, Bool.and_false, Bool.false_and, Bool.true_or, Bool.false_or, z15, z00])
            | (refine call_of (ka) ?_ ?_
               · first | rfl | simp only [go_sem, List.getElem?_toArray, str_beq, reduceCtorEq, Nat.reduceEqDiff, Nat.reduceLT, Nat.reduceLeDiff, Nat.reduceAdd, Nat.reduceMul, Nat.reduceSub, Nat.reduceBEq, ↓reduceIte, bne_self_eq_false, Bool.and_false, Bool.false_and, Bool.true_or, Bool.false_or, z15, z00, shut_col]
               simp only [go_sem, List.getElem?_toArray, str_beq, reduceCtorEq, Nat.reduceEqDiff, Nat.reduceLT, Nat.reduceLeDiff, Nat.reduceAdd, Nat.reduceMul, Nat.reduceSub, Nat.reduceBEq, ↓reduceIte, bne_self_eq_false, Bool.and_false, Bool.false_and, Bool.true_or, Bool.false_or, z15, z00])
            | (refine call_of (kb) ?_ ?_
               · first | rfl | simp only [go_sem, List.getElem?_toArray, str_beq, reduceCtorEq, Nat.reduceEqDiff, Nat.reduceLT, Nat.reduceLeDiff, Nat.reduceAdd, Nat.reduceMul, Nat.reduceSub, Nat.reduceBEq, ↓reduceIte, bne_self_eq_false, Bool.and_false, Bool.false_and, Bool.true_or, Bool.false_or, z15, z00, shut_col]
               simp only [go_sem, List.getElem?_toArray, str_beq, reduceCtorEq, Nat.reduceEqDiff, Nat.reduceLT, Nat.reduceLeDiff, Nat.reduceAdd, Nat.reduceMul, Nat.reduceSub, Nat.reduceBEq, ↓reduceIte, bne_self_eq_false, Bool.and_false, Bool.false_and, Bool.true_or, Bool.false_or, z15, z00])
            | refine k_of (by assumption) ?_
            | refine tr_block ?_
            | refine tr_scope ?_
            | (refine tr_skip ?_; try simp only [ex_seq, ex_block])
            | (refine tr_label ?_; try simp only [ex_seq, ex_block])
            | (refine tr_exit ?_; try simp only [ex_seq_exit, ex_block_exit, Nat.reduceEqDiff, if_true, if_false, ex_seq, ex_block, reduceCtorEq, ↓reduceIte])
            | (refine tr_ret ?_; try simp only [ex_seq_ret, ex_block_ret]))
        refine tr_cond rfl (fun ht => ?_) (fun hf => ?_)
        · cases ht
        · repeat (first
              | refine tr_seq_k fun _ _ => ?_
              | (refine tr_region ?_; simp only [go_sem, List.getElem?_toArray, str_beq, reduceCtorEq, Nat.reduceEqDiff, Nat.reduceLT, Nat.reduceLeDiff, Nat.reduceAdd, Nat.reduceMul, Nat.reduceSub, Nat.reduceBEq, ↓reduceIte, bne_self_eq_false, Bool.and_false, Bool.false_and, Bool.true_or, Bool.false_or])
              | (refine call_of (cU) ?_ ?_
                 · first | rfl | simp only [go_sem, List.getElem?_toArray, str_beq, reduceCtorEq, Nat.reduceEqDiff, Nat.reduceLT, Nat.reduceLeDiff, Nat.reduceAdd, Nat.reduceMul, Nat.reduceSub, Nat.reduceBEq, ↓reduceIte, bne_self_eq_false, Bool.and_false, Bool.false_and, Bool.true_or, Bool.false_or, shut_col]
                 simp only [go_sem, List.getElem?_toArray, str_beq, reduceCtorEq, Nat.reduceEqDiff, Nat.reduceLT, Nat.reduceLeDiff, Nat.reduceAdd, Nat.reduceMul, Nat.reduceSub, Nat.reduceBEq, ↓reduceIte, bne_self_eq_false, Bool.and_false, Bool.false_and, Bool.true_or, Bool.false_or])
              | (refine call_of (cD) ?_ ?_
                 · first | rfl | simp only [go_sem, List.getElem?_toArray, str_beq, reduceCtorEq, Nat.reduceEqDiff, Nat.reduceLT, Nat.reduceLeDiff, Nat.reduceAdd, Nat.reduceMul, Nat.reduceSub, Nat.reduceBEq, ↓reduceIte, bne_self_eq_false, Bool.and_false, Bool.false_and, Bool.true_or, Bool.false_or, shut_col]
                 simp only [go_sem, List.getElem?_toArray, str_beq, reduceCtorEq, Nat.reduceEqDiff, Nat.reduceLT, Nat.reduceLeDiff, Nat.reduceAdd, Nat.reduceMul, Nat.reduceSub, Nat.reduceBEq, ↓reduceIte, bne_self_eq_false, Bool.and_false, Bool.false_and, Bool.true_or, Bool.false_or])
              | refine k_of (by assumption) ?_
              | refine tr_block ?_
              | refine tr_scope ?_
              | (refine tr_skip ?_; try simp only [ex_seq, ex_block])
              | (refine tr_label ?_; try simp only [ex_seq, ex_block])
              | (refine tr_exit ?_; try simp only [ex_seq_exit, ex_block_exit, Nat.reduceEqDiff, if_true, if_false, ex_seq, ex_block, reduceCtorEq, ↓reduceIte])
              | (refine tr_ret ?_; try simp only [ex_seq_ret, ex_block_ret]))
          refine tr_loop_k (σ := Nat) (fun k => [(0, slB exa a), (4, .c (.sl true 0 [])), (5, iA 0), (6, slB false (pcompK a b k)), (23, slB exb b), (24, iA b.length), (25, iA k)]) (fun _ => ⟨[], []⟩)
            (fun k => k ≤ b.length) (fun k => b.length - k) 0 (Nat.zero_le _) ⟨rfl, rfl, rfl, rfl, rfl, rfl, rfl, trivial⟩ rfl ?_
          rintro k hk K hK
          have hg := pcK_good h1 h2 k hk
          repeat (first
              | refine tr_seq_k fun _ _ => ?_
              | (refine tr_region ?_; simp only [go_sem, List.getElem?_toArray, str_beq, reduceCtorEq, Nat.reduceEqDiff, Nat.reduceLT, Nat.reduceLeDiff, Nat.reduceAdd, Nat.reduceMul, Nat.reduceSub, Nat.reduceBEq, ↓reduceIte, bne_self_eq_false, Bool.and_false, Bool.false_and, Bool.true_or, Bool.false_or])
              | refine k_of (by assumption) ?_
              | refine tr_block ?_
              | refine tr_scope ?_
              | (refine tr_skip ?_; try simp only [ex_seq, ex_block])
              | (refine tr_label ?_; try simp only [ex_seq, ex_block])
              | (refine tr_exit ?_; try simp only [ex_seq_exit, ex_block_exit, Nat.reduceEqDiff, if_true, if_false, ex_seq, ex_block, reduceCtorEq, ↓reduceIte])
              | (refine tr_ret ?_; try simp only [ex_seq_ret, ex_block_ret]))
          refine tr_cond rfl (fun ht => ?_) (fun hf => ?_)
          · have hlt : k < b.length := by simpa using ht
            have ws := wrap_succ (show k ≤ 1000000000 by omega)
            have cG := get_does a b[k].var exa (by omega)
            have hnx := pcompK_next (a := a) hlt
            unfold pcStep at hnx
            cases hs : (pget a b[k].var).isSome with
            | true =>
              rw [hs] at hnx cG
              have hnx : pcompK a b (k + 1) = pcompK a b k := hnx
              repeat (first
                  | refine tr_seq_k fun _ _ => ?_
                  | (refine tr_region ?_; simp only [go_sem, List.getElem?_toArray, str_beq, reduceCtorEq, Nat.reduceEqDiff, Nat.reduceLT, Nat.reduceLeDiff, Nat.reduceAdd, Nat.reduceMul, Nat.reduceSub, Nat.reduceBEq, ↓reduceIte, bne_self_eq_false, Bool.and_false, Bool.false_and, Bool.true_or, Bool.false_or, idxB hlt])
                  | (refine call_of (cG) ?_ ?_
                     · first | rfl | simp only [go_sem, List.getElem?_toArray, str_beq, reduceCtorEq, Nat.reduceEqDiff, Nat.reduceLT, Nat.reduceLeDiff, Nat.reduceAdd, Nat.reduceMul, Nat.reduceSub, Nat.reduceBEq, ↓reduceIte, bne_self_eq_false, Bool.and_false, Bool.false_and, Bool.true_or, Bool.false_or, idxB hlt, shut_col]
                     simp only [go_sem, List.getElem?_toArray, str_beq, reduceCtorEq, Nat.reduceEqDiff, Nat.reduceLT, Nat.reduceLeDiff, Nat.reduceAdd, Nat.reduceMul, Nat.reduceSub, Nat.reduceBEq, ↓reduceIte, bne_self_eq_false, Bool.and_false, Bool.false_and, Bool.true_or, Bool.false_or, idxB hlt])
                  | refine k_of (by assumption) ?_
                  | refine tr_block ?_
                  | refine tr_scope ?_
                  | (refine tr_skip ?_; try simp only [ex_seq, ex_block])
                  | (refine tr_label ?_; try simp only [ex_seq, ex_block])
                  | (refine tr_exit ?_; try simp only [ex_seq_exit, ex_block_exit, Nat.reduceEqDiff, if_true, if_false, ex_seq, ex_block, reduceCtorEq, ↓reduceIte])
                  | (refine tr_ret ?_; try simp only [ex_seq_ret, ex_block_ret]))
              refine tr_cond rfl (fun ht => ?_) (fun hf => ?_)
              · cases ht
              · repeat (first
                    | refine tr_seq_k fun _ _ => ?_
                    | (refine tr_region ?_; simp only [go_sem, List.getElem?_toArray, str_beq, reduceCtorEq, Nat.reduceEqDiff, Nat.reduceLT, Nat.reduceLeDiff, Nat.reduceAdd, Nat.reduceMul, Nat.reduceSub, Nat.reduceBEq, ↓reduceIte, bne_self_eq_false, Bool.and_false, Bool.false_and, Bool.true_or, Bool.false_or, ws])
                    | refine k_of (by assumption) ?_
                    | refine tr_block ?_
                    | refine tr_scope ?_
                    | (refine tr_skip ?_; try simp only [ex_seq, ex_block])
                    | (refine tr_label ?_; try simp only [ex_seq, ex_block])
                    | (refine tr_exit ?_; try simp only [ex_seq_exit, ex_block_exit, Nat.reduceEqDiff, if_true, if_false, ex_seq, ex_block, reduceCtorEq, ↓reduceIte])
                    | (refine tr_ret ?_; try simp only [ex_seq_ret, ex_block_ret]))
                exact hK (k + 1) _ _ hlt ⟨⟨rfl, rfl, rfl, by rw [hnx]; rfl, rfl, rfl, rfl, trivial⟩, Keep.of (eh := [_, _]) (ew := []) rfl rfl, rfl, rfl, Nat.le_refl _, Nat.le_refl _⟩ (by omega)
            | false =>
              rw [hs] at hnx cG
              have hnx : pcompK a b (k + 1) = pwith (pcompK a b k) b[k] := hnx
              have cW := with_ro (pcompK a b k) b[k] (by have := hg.2.2; omega) (prises_of hg.1)
              rw [← hnx] at cW
              repeat (first
                  | refine tr_seq_k fun _ _ => ?_
                  | (refine tr_region ?_; simp only [go_sem, List.getElem?_toArray, str_beq, reduceCtorEq, Nat.reduceEqDiff, Nat.reduceLT, Nat.reduceLeDiff, Nat.reduceAdd, Nat.reduceMul, Nat.reduceSub, Nat.reduceBEq, ↓reduceIte, bne_self_eq_false, Bool.and_false, Bool.false_and, Bool.true_or, Bool.false_or, idxB hlt])
                  | (refine call_of (cG) ?_ ?_
                     · first | rfl | simp only [go_sem, List.getElem?_toArray, str_beq, reduceCtorEq, Nat.reduceEqDiff, Nat.reduceLT, Nat.reduceLeDiff, Nat.reduceAdd, Nat.reduceMul, Nat.reduceSub, Nat.reduceBEq, ↓reduceIte, bne_self_eq_false, Bool.and_false, Bool.false_and, Bool.true_or, Bool.false_or, idxB hlt, shut_col]
                     simp only [go_sem, List.getElem?_toArray, str_beq, reduceCtorEq, Nat.reduceEqDiff, Nat.reduceLT, Nat.reduceLeDiff, Nat.reduceAdd, Nat.reduceMul, Nat.reduceSub, Nat.reduceBEq, ↓reduceIte, bne_self_eq_false, Bool.and_false, Bool.false_and, Bool.true_or, Bool.false_or, idxB hlt])
                  | refine k_of (by assumption) ?_
                  | refine tr_block ?_
                  | refine tr_scope ?_
                  | (refine tr_skip ?_; try simp only [ex_seq, ex_block])
                  | (refine tr_label ?_; try simp only [ex_seq, ex_block])
                  | (refine tr_exit ?_; try simp only [ex_seq_exit, ex_block_exit, Nat.reduceEqDiff, if_true, if_false, ex_seq, ex_block, reduceCtorEq, ↓reduceIte])
                  | (refine tr_ret ?_; try simp only [ex_seq_ret, ex_block_ret]))
              refine tr_cond rfl (fun ht => ?_) (fun hf => ?_)
              · repeat (first
                    | refine tr_seq_k fun _ _ => ?_
                    | (refine tr_region ?_; simp only [go_sem, List.getElem?_toArray, str_beq, reduceCtorEq, Nat.reduceEqDiff, Nat.reduceLT, Nat.reduceLeDiff, Nat.reduceAdd, Nat.reduceMul, Nat.reduceSub, Nat.reduceBEq, ↓reduceIte, bne_self_eq_false, Bool.and_false, Bool.false_and, Bool.true_or, Bool.false_or, ws])
                    | (refine call_of (cW) ?_ ?_
                       · first | rfl | simp only [go_sem, List.getElem?_toArray, str_beq, reduceCtorEq, Nat.reduceEqDiff, Nat.reduceLT, Nat.reduceLeDiff, Nat.reduceAdd, Nat.reduceMul, Nat.reduceSub, Nat.reduceBEq, ↓reduceIte, bne_self_eq_false, Bool.and_false, Bool.false_and, Bool.true_or, Bool.false_or, ws, shut_col]
                       simp only [go_sem, List.getElem?_toArray, str_beq, reduceCtorEq, Nat.reduceEqDiff, Nat.reduceLT, Nat.reduceLeDiff, Nat.reduceAdd, Nat.reduceMul, Nat.reduceSub, Nat.reduceBEq, ↓reduceIte, bne_self_eq_false, Bool.and_false, Bool.false_and, Bool.true_or, Bool.false_or, ws])
                    | refine k_of (by assumption) ?_
                    | refine tr_block ?_
                    | refine tr_scope ?_
                    | (refine tr_skip ?_; try simp only [ex_seq, ex_block])
                    | (refine tr_label ?_; try simp only [ex_seq, ex_block])
                    | (refine tr_exit ?_; try simp only [ex_seq_exit, ex_block_exit, Nat.reduceEqDiff, if_true, if_false, ex_seq, ex_block, reduceCtorEq, ↓reduceIte])
                    | (refine tr_ret ?_; try simp only [ex_seq_ret, ex_block_ret]))
                exact hK (k + 1) _ _ hlt ⟨⟨rfl, rfl, rfl, rfl, rfl, rfl, rfl, trivial⟩, Keep.of (eh := [_, _]) (ew := []) rfl rfl, rfl, rfl, Nat.le_refl _, Nat.le_refl _⟩ (by omega)
              · cases hf
          · have hkl : k = b.length := by
              have := of_decide_eq_false hf
              omega
            subst hkl
            rw [pcompK_all] at hg ⊢
            have cF := check_does (pcompL a b) false (by have := hg.2.2; omega)
            cases h3 : pcheck (pcompL a b) with
            | true =>
              rw [h3] at cF
              have hE : pcE a b = true := by unfold pcE; rw [h1, h2, h3]; rfl
              have hR : pcR a b = pcompL a b := by unfold pcR; rw [hE]; rfl
              repeat (first
                  | refine tr_seq_k fun _ _ => ?_
                  | (refine tr_region ?_; simp only [go_sem, List.getElem?_toArray, str_beq, reduceCtorEq, Nat.reduceEqDiff, Nat.reduceLT, Nat.reduceLeDiff, Nat.reduceAdd, Nat.reduceMul, Nat.reduceSub, Nat.reduceBEq, ↓reduceIte, bne_self_eq_false, Bool.and_false, Bool.false_and, Bool.true_or, Bool.false_or])
                  | (refine call_of (cF) ?_ ?_
                     · first | rfl | simp only [go_sem, List.getElem?_toArray, str_beq, reduceCtorEq, Nat.reduceEqDiff, Nat.reduceLT, Nat.reduceLeDiff, Nat.reduceAdd, Nat.reduceMul, Nat.reduceSub, Nat.reduceBEq, ↓reduceIte, bne_self_eq_false, Bool.and_false, Bool.false_and, Bool.true_or, Bool.false_or, shut_col]
                     simp only [go_sem, List.getElem?_toArray, str_beq, reduceCtorEq, Nat.reduceEqDiff, Nat.reduceLT, Nat.reduceLeDiff, Nat.reduceAdd, Nat.reduceMul, Nat.reduceSub, Nat.reduceBEq, ↓reduceIte, bne_self_eq_false, Bool.and_false, Bool.false_and, Bool.true_or, Bool.false_or])
                  | refine k_of (by assumption) ?_
                  | refine tr_block ?_
                  | refine tr_scope ?_
                  | (refine tr_skip ?_; try simp only [ex_seq, ex_block])
                  | (refine tr_label ?_; try simp only [ex_seq, ex_block])
                  | (refine tr_exit ?_; try simp only [ex_seq_exit, ex_block_exit, Nat.reduceEqDiff, if_true, if_false, ex_seq, ex_block, reduceCtorEq, ↓reduceIte])
                  | (refine tr_ret ?_; try simp only [ex_seq_ret, ex_block_ret]))
              refine tr_cond rfl (fun ht => ?_) (fun hf => ?_)
              · cases ht
              · repeat (first
                    | refine tr_seq_k fun _ _ => ?_
                    | (refine tr_region ?_; simp only [go_sem, List.getElem?_toArray, str_beq, reduceCtorEq, Nat.reduceEqDiff, Nat.reduceLT, Nat.reduceLeDiff, Nat.reduceAdd, Nat.reduceMul, Nat.reduceSub, Nat.reduceBEq, ↓reduceIte, bne_self_eq_false, Bool.and_false, Bool.false_and, Bool.true_or, Bool.false_or])
                    | refine k_of (by assumption) ?_
                    | refine tr_block ?_
                    | refine tr_scope ?_
                    | (refine tr_skip ?_; try simp only [ex_seq, ex_block])
                    | (refine tr_label ?_; try simp only [ex_seq, ex_block])
                    | (refine tr_exit ?_; try simp only [ex_seq_exit, ex_block_exit, Nat.reduceEqDiff, if_true, if_false, ex_seq, ex_block, reduceCtorEq, ↓reduceIte])
                    | (refine tr_ret ?_; try simp only [ex_seq_ret, ex_block_ret]))
                refine (hQ _ _ [slB false (pcompL a b), iA 0] ?_ (fun m => by rw [hE, hR]; rfl)).2 <;> simp only [go_sem, List.getElem?_toArray, str_beq, reduceCtorEq, Nat.reduceEqDiff, Nat.reduceLT, Nat.reduceLeDiff, Nat.reduceAdd, Nat.reduceMul, Nat.reduceSub, Nat.reduceBEq, ↓reduceIte, bne_self_eq_false, Bool.and_false, Bool.false_and, Bool.true_or, Bool.false_or, Try.f31]
            | false =>
              rw [h3] at cF
              have hE : pcE a b = false := by unfold pcE; rw [h1, h2, h3]; rfl
              have hR : pcR a b = [] := by unfold pcR; rw [hE]; rfl
              repeat (first
                  | refine tr_seq_k fun _ _ => ?_
                  | (refine tr_region ?_; simp only [go_sem, List.getElem?_toArray, str_beq, reduceCtorEq, Nat.reduceEqDiff, Nat.reduceLT, Nat.reduceLeDiff, Nat.reduceAdd, Nat.reduceMul, Nat.reduceSub, Nat.reduceBEq, ↓reduceIte, bne_self_eq_false, Bool.and_false, Bool.false_and, Bool.true_or, Bool.false_or])
                  | (refine call_of (cF) ?_ ?_
                     · first | rfl | simp only [go_sem, List.getElem?_toArray, str_beq, reduceCtorEq, Nat.reduceEqDiff, Nat.reduceLT, Nat.reduceLeDiff, Nat.reduceAdd, Nat.reduceMul, Nat.reduceSub, Nat.reduceBEq, ↓reduceIte, bne_self_eq_false, Bool.and_false, Bool.false_and, Bool.true_or, Bool.false_or, shut_col]
                     simp only [go_sem, List.getElem?_toArray, str_beq, reduceCtorEq, Nat.reduceEqDiff, Nat.reduceLT, Nat.reduceLeDiff, Nat.reduceAdd, Nat.reduceMul, Nat.reduceSub, Nat.reduceBEq, ↓reduceIte, bne_self_eq_false, Bool.and_false, Bool.false_and, Bool.true_or, Bool.false_or])
                  | refine k_of (by assumption) ?_
                  | refine tr_block ?_
                  | refine tr_scope ?_
                  | (refine tr_skip ?_; try simp only [ex_seq, ex_block])
                  | (refine tr_label ?_; try simp only [ex_seq, ex_block])
                  | (refine tr_exit ?_; try simp only [ex_seq_exit, ex_block_exit, Nat.reduceEqDiff, if_true, if_false, ex_seq, ex_block, reduceCtorEq, ↓reduceIte])
                  | (refine tr_ret ?_; try simp only [ex_seq_ret, ex_block_ret]))
              refine tr_cond rfl (fun ht => ?_) (fun hf => ?_)
              · repeat (first
                    | refine tr_seq_k fun _ _ => ?_
                    | (refine tr_region ?_; simp only [go_sem, List.getElem?_toArray, str_beq, reduceCtorEq, Nat.reduceEqDiff, Nat.reduceLT, Nat.reduceLeDiff, Nat.reduceAdd, Nat.reduceMul, Nat.reduceSub, Nat.reduceBEq, ↓reduceIte, bne_self_eq_false, Bool.and_false, Bool.false_and, Bool.true_or, Bool.false_or])
                    | refine k_of (by assumption) ?_
                    | refine tr_block ?_
                    | refine tr_scope ?_
                    | (refine tr_skip ?_; try simp only [ex_seq, ex_block])
                    | (refine tr_label ?_; try simp only [ex_seq, ex_block])
                    | (refine tr_exit ?_; try simp only [ex_seq_exit, ex_block_exit, Nat.reduceEqDiff, if_true, if_false, ex_seq, ex_block, reduceCtorEq, ↓reduceIte])
                    | (refine tr_ret ?_; try simp only [ex_seq_ret, ex_block_ret]))
                refine (hQ _ _ [.c (.sl true 0 []), iA 15] ?_ (fun m => by rw [hE, hR]; rfl)).2 <;> simp only [go_sem, List.getElem?_toArray, str_beq, reduceCtorEq, Nat.reduceEqDiff, Nat.reduceLT, Nat.reduceLeDiff, Nat.reduceAdd, Nat.reduceMul, Nat.reduceSub, Nat.reduceBEq, ↓reduceIte, bne_self_eq_false, Bool.and_false, Bool.false_and, Bool.true_or, Bool.false_or, Try.f31]
              · cases hf
      · have cU := under_lsl a b exa exb (by omega) (by omega) h0
        obtain ⟨R, cD⟩ := deletef_does (punder a b) (by rw [punder_len]; omega)
        have hk0 : (punder a b).filter (fun x => !pown x) = pcompK a b 0 := rfl
        rw [hk0] at cD
        generalize hD : blC bdC (pcompK a b 0 ++ R) = D at cD
        have hlow : ∀ i j, lows i j D = true := fun i j => by rw [← hD]; exact lows_blC
        refine does_of' Try.func31 rfl (by kernel_rfl) rfl Try.ntmps31 rfl rfl fun Q hQ => ?_
        repeat (first
            | refine tr_seq_k fun _ _ => ?_
            | (refine tr_region ?_; simp only [go_sem, List.getElem?_toArray, str_beq, reduceCtorEq, Nat.reduceEqDiff, Nat.reduceLT, Nat.reduceLeDiff, Nat.reduceAdd, Nat.reduceMul, Nat.reduceSub, Nat.reduceBEq, ↓reduceIte, bne_self_eq_false, Bool.and_false, Bool.false_and, Bool.true_or, Bool.false_or, z15, z00])
            | (refine call_of (ka) ?_ ?_
               · first | rfl | simp only [go_sem, List.getElem?_toArray, str_beq, reduceCtorEq, Nat.reduceEqDiff, Nat.reduceLT, Nat.reduceLeDiff, Nat.reduceAdd, Nat.reduceMul, Nat.reduceSub, Nat.reduceBEq, ↓reduceIte, bne_self_eq_false, Bool.and_false, Bool.false_and, Bool.true_or, Bool.false_or, z15, z00, shut_col]
               simp only [go_sem, List.getElem?_toArray, str_beq, reduceCtorEq, Nat.reduceEqDiff, Nat.reduceLT, Nat.reduceLeDiff, Nat.reduceAdd, Nat.reduceMul, Nat.reduceSub, Nat.reduceBEq, ↓reduceIte, bne_self_eq_false, Bool.and_false, Bool.false_and, Bool.true_or, Bool.false_or, z15, z00])
            | (refine call_of (kb) ?_ ?_
               · first | rfl | simp only [go_sem, List.getElem?_toArray, str_beq, reduceCtorEq, Nat.reduceEqDiff, Nat.reduceLT, Nat.reduceLeDiff, Nat.reduceAdd, Nat.reduceMul, Nat.reduceSub, Nat.reduceBEq, ↓reduceIte, bne_self_eq_false, Bool.and_false, Bool.false_and, Bool.true_or, Bool.false_or, z15, z00, shut_col]
               simp only [go_sem, List.getElem?_toArray, str_beq, reduceCtorEq, Nat.reduceEqDiff, Nat.reduceLT, Nat.reduceLeDiff, Nat.reduceAdd, Nat.reduceMul, Nat.reduceSub, Nat.reduceBEq, ↓reduceIte, bne_self_eq_false, Bool.and_false, Bool.false_and, Bool.true_or, Bool.false_or, z15, z00])
            | refine k_of (by assumption) ?_
            | refine tr_block ?_
            | refine tr_scope ?_
            | (refine tr_skip ?_; try simp only [ex_seq, ex_block])
            | (refine tr_label ?_; try simp only [ex_seq, ex_block])
            | (refine tr_exit ?_; try simp only [ex_seq_exit, ex_block_exit, Nat.reduceEqDiff, if_true, if_false, ex_seq, ex_block, reduceCtorEq, ↓reduceIte])
            | (refine tr_ret ?_; try simp only [ex_seq_ret, ex_block_ret]))
        refine tr_cond rfl (fun ht => ?_) (fun hf => ?_)
        · cases ht
        · repeat (first
              | refine tr_seq_k fun _ _ => ?_
              | (refine tr_region ?_; simp only [go_sem, List.getElem?_toArray, str_beq, reduceCtorEq, Nat.reduceEqDiff, Nat.reduceLT, Nat.reduceLeDiff, Nat.reduceAdd, Nat.reduceMul, Nat.reduceSub, Nat.reduceBEq, ↓reduceIte, bne_self_eq_false, Bool.and_false, Bool.false_and, Bool.true_or, Bool.false_or])
              | (refine call_gives (cU) ?_; (try dsimp only); (try simp only [go_sem, List.getElem?_toArray, str_beq, reduceCtorEq, Nat.reduceEqDiff, Nat.reduceLT, Nat.reduceLeDiff, Nat.reduceAdd, Nat.reduceMul, Nat.reduceSub, Nat.reduceBEq, ↓reduceIte, bne_self_eq_false, Bool.and_false, Bool.false_and, Bool.true_or, Bool.false_or]))
              | (refine call_givesW (cD) ?_; (try dsimp only); (try simp only [go_sem, List.getElem?_toArray, str_beq, reduceCtorEq, Nat.reduceEqDiff, Nat.reduceLT, Nat.reduceLeDiff, Nat.reduceAdd, Nat.reduceMul, Nat.reduceSub, Nat.reduceBEq, ↓reduceIte, bne_self_eq_false, Bool.and_false, Bool.false_and, Bool.true_or, Bool.false_or]))
              | refine k_of (by assumption) ?_
              | refine tr_block ?_
              | refine tr_scope ?_
              | (refine tr_skip ?_; try simp only [ex_seq, ex_block])
              | (refine tr_label ?_; try simp only [ex_seq, ex_block])
              | (refine tr_exit ?_; try simp only [ex_seq_exit, ex_block_exit, Nat.reduceEqDiff, if_true, if_false, ex_seq, ex_block, reduceCtorEq, ↓reduceIte])
              | (refine tr_ret ?_; try simp only [ex_seq_ret, ex_block_ret]))
          refine tr_loop_k (σ := Nat) (fun k => [(0, slB exa a), (4, .c (.sl true 0 [])), (5, iA 0), (6, slB false (pcompK a b k)), (23, slB exb b), (24, iA b.length), (25, iA k)]) (fun _ => ⟨[⟨true, D⟩], []⟩)
            (fun k => k ≤ b.length) (fun k => b.length - k) 0 (Nat.zero_le _) ⟨rfl, rfl, rfl, rfl, rfl, rfl, rfl, trivial⟩ rfl ?_
          rintro k hk K hK
          have hg := pcK_good h1 h2 k hk
          repeat (first
              | refine tr_seq_k fun _ _ => ?_
              | (refine tr_region ?_; simp only [go_sem, List.getElem?_toArray, str_beq, reduceCtorEq, Nat.reduceEqDiff, Nat.reduceLT, Nat.reduceLeDiff, Nat.reduceAdd, Nat.reduceMul, Nat.reduceSub, Nat.reduceBEq, ↓reduceIte, bne_self_eq_false, Bool.and_false, Bool.false_and, Bool.true_or, Bool.false_or])
              | refine k_of (by assumption) ?_
              | refine tr_block ?_
              | refine tr_scope ?_
              | (refine tr_skip ?_; try simp only [ex_seq, ex_block])
              | (refine tr_label ?_; try simp only [ex_seq, ex_block])
              | (refine tr_exit ?_; try simp only [ex_seq_exit, ex_block_exit, Nat.reduceEqDiff, if_true, if_false, ex_seq, ex_block, reduceCtorEq, ↓reduceIte])
              | (refine tr_ret ?_; try simp only [ex_seq_ret, ex_block_ret]))
          refine tr_cond rfl (fun ht => ?_) (fun hf => ?_)
          · have hlt : k < b.length := by simpa using ht
            have ws := wrap_succ (show k ≤ 1000000000 by omega)
            have cG := get_does a b[k].var exa (by omega)
            have hnx := pcompK_next (a := a) hlt
            unfold pcStep at hnx
            cases hs : (pget a b[k].var).isSome with
            | true =>
              rw [hs] at hnx cG
              have hnx : pcompK a b (k + 1) = pcompK a b k := hnx
              repeat (first
                  | refine tr_seq_k fun _ _ => ?_
                  | (refine tr_region ?_; simp only [go_sem, List.getElem?_toArray, str_beq, reduceCtorEq, Nat.reduceEqDiff, Nat.reduceLT, Nat.reduceLeDiff, Nat.reduceAdd, Nat.reduceMul, Nat.reduceSub, Nat.reduceBEq, ↓reduceIte, bne_self_eq_false, Bool.and_false, Bool.false_and, Bool.true_or, Bool.false_or, idxB hlt])
                  | (refine call_of (cG) ?_ ?_
                     · first | rfl | simp only [go_sem, List.getElem?_toArray, str_beq, reduceCtorEq, Nat.reduceEqDiff, Nat.reduceLT, Nat.reduceLeDiff, Nat.reduceAdd, Nat.reduceMul, Nat.reduceSub, Nat.reduceBEq, ↓reduceIte, bne_self_eq_false, Bool.and_false, Bool.false_and, Bool.true_or, Bool.false_or, idxB hlt, shut_col]
                     simp only [go_sem, List.getElem?_toArray, str_beq, reduceCtorEq, Nat.reduceEqDiff, Nat.reduceLT, Nat.reduceLeDiff, Nat.reduceAdd, Nat.reduceMul, Nat.reduceSub, Nat.reduceBEq, ↓reduceIte, bne_self_eq_false, Bool.and_false, Bool.false_and, Bool.true_or, Bool.false_or, idxB hlt])
                  | refine k_of (by assumption) ?_
                  | refine tr_block ?_
                  | refine tr_scope ?_
                  | (refine tr_skip ?_; try simp only [ex_seq, ex_block])
                  | (refine tr_label ?_; try simp only [ex_seq, ex_block])
                  | (refine tr_exit ?_; try simp only [ex_seq_exit, ex_block_exit, Nat.reduceEqDiff, if_true, if_false, ex_seq, ex_block, reduceCtorEq, ↓reduceIte])
                  | (refine tr_ret ?_; try simp only [ex_seq_ret, ex_block_ret]))
              refine tr_cond rfl (fun ht => ?_) (fun hf => ?_)
              · cases ht
              · repeat (first
                    | refine tr_seq_k fun _ _ => ?_
                    | (refine tr_region ?_; simp only [go_sem, List.getElem?_toArray, str_beq, reduceCtorEq, Nat.reduceEqDiff, Nat.reduceLT, Nat.reduceLeDiff, Nat.reduceAdd, Nat.reduceMul, Nat.reduceSub, Nat.reduceBEq, ↓reduceIte, bne_self_eq_false, Bool.and_false, Bool.false_and, Bool.true_or, Bool.false_or, ws])
                    | refine k_of (by assumption) ?_
                    | refine tr_block ?_
                    | refine tr_scope ?_
                    | (refine tr_skip ?_; try simp only [ex_seq, ex_block])
                    | (refine tr_label ?_; try simp only [ex_seq, ex_block])
                    | (refine tr_exit ?_; try simp only [ex_seq_exit, ex_block_exit, Nat.reduceEqDiff, if_true, if_false, ex_seq, ex_block, reduceCtorEq, ↓reduceIte])
                    | (refine tr_ret ?_; try simp only [ex_seq_ret, ex_block_ret]))
                exact hK (k + 1) _ _ hlt ⟨⟨rfl, rfl, rfl, by rw [hnx]; rfl, rfl, rfl, rfl, trivial⟩, Keep.of (eh := [_, _]) (ew := []) rfl rfl, rfl, by simp only [lowB, hlow]; rfl, Nat.le_refl _, Nat.le_refl _⟩ (by omega)
            | false =>
              rw [hs] at hnx cG
              have hnx : pcompK a b (k + 1) = pwith (pcompK a b k) b[k] := hnx
              have cW := with_ro (pcompK a b k) b[k] (by have := hg.2.2; omega) (prises_of hg.1)
              rw [← hnx] at cW
              repeat (first
                  | refine tr_seq_k fun _ _ => ?_
                  | (refine tr_region ?_; simp only [go_sem, List.getElem?_toArray, str_beq, reduceCtorEq, Nat.reduceEqDiff, Nat.reduceLT, Nat.reduceLeDiff, Nat.reduceAdd, Nat.reduceMul, Nat.reduceSub, Nat.reduceBEq, ↓reduceIte, bne_self_eq_false, Bool.and_false, Bool.false_and, Bool.true_or, Bool.false_or, idxB hlt])
                  | (refine call_of (cG) ?_ ?_
                     · first | rfl | simp only [go_sem, List.getElem?_toArray, str_beq, reduceCtorEq, Nat.reduceEqDiff, Nat.reduceLT, Nat.reduceLeDiff, Nat.reduceAdd, Nat.reduceMul, Nat.reduceSub, Nat.reduceBEq, ↓reduceIte, bne_self_eq_false, Bool.and_false, Bool.false_and, Bool.true_or, Bool.false_or, idxB hlt, shut_col]
                     simp only [go_sem, List.getElem?_toArray, str_beq, reduceCtorEq, Nat.reduceEqDiff, Nat.reduceLT, Nat.reduceLeDiff, Nat.reduceAdd, Nat.reduceMul, Nat.reduceSub, Nat.reduceBEq, ↓reduceIte, bne_self_eq_false, Bool.and_false, Bool.false_and, Bool.true_or, Bool.false_or, idxB hlt])
                  | refine k_of (by assumption) ?_
                  | refine tr_block ?_
                  | refine tr_scope ?_
                  | (refine tr_skip ?_; try simp only [ex_seq, ex_block])
                  | (refine tr_label ?_; try simp only [ex_seq, ex_block])
                  | (refine tr_exit ?_; try simp only [ex_seq_exit, ex_block_exit, Nat.reduceEqDiff, if_true, if_false, ex_seq, ex_block, reduceCtorEq, ↓reduceIte])
                  | (refine tr_ret ?_; try simp only [ex_seq_ret, ex_block_ret]))
              refine tr_cond rfl (fun ht => ?_) (fun hf => ?_)
              · repeat (first
                    | refine tr_seq_k fun _ _ => ?_
                    | (refine tr_region ?_; simp only [go_sem, List.getElem?_toArray, str_beq, reduceCtorEq, Nat.reduceEqDiff, Nat.reduceLT, Nat.reduceLeDiff, Nat.reduceAdd, Nat.reduceMul, Nat.reduceSub, Nat.reduceBEq, ↓reduceIte, bne_self_eq_false, Bool.and_false, Bool.false_and, Bool.true_or, Bool.false_or, ws])
                    | (refine call_of (cW) ?_ ?_
                       · first | rfl | simp only [go_sem, List.getElem?_toArray, str_beq, reduceCtorEq, Nat.reduceEqDiff, Nat.reduceLT, Nat.reduceLeDiff, Nat.reduceAdd, Nat.reduceMul, Nat.reduceSub, Nat.reduceBEq, ↓reduceIte, bne_self_eq_false, Bool.and_false, Bool.false_and, Bool.true_or, Bool.false_or, ws, shut_col]
                       simp only [go_sem, List.getElem?_toArray, str_beq, reduceCtorEq, Nat.reduceEqDiff, Nat.reduceLT, Nat.reduceLeDiff, Nat.reduceAdd, Nat.reduceMul, Nat.reduceSub, Nat.reduceBEq, ↓reduceIte, bne_self_eq_false, Bool.and_false, Bool.false_and, Bool.true_or, Bool.false_or, ws])
                    | refine k_of (by assumption) ?_
                    | refine tr_block ?_
                    | refine tr_scope ?_
                    | (refine tr_skip ?_; try simp only [ex_seq, ex_block])
                    | (refine tr_label ?_; try simp only [ex_seq, ex_block])
                    | (refine tr_exit ?_; try simp only [ex_seq_exit, ex_block_exit, Nat.reduceEqDiff, if_true, if_false, ex_seq, ex_block, reduceCtorEq, ↓reduceIte])
                    | (refine tr_ret ?_; try simp only [ex_seq_ret, ex_block_ret]))
                exact hK (k + 1) _ _ hlt ⟨⟨rfl, rfl, rfl, rfl, rfl, rfl, rfl, trivial⟩, Keep.of (eh := [_, _]) (ew := []) rfl rfl, rfl, by simp only [lowB, hlow]; rfl, Nat.le_refl _, Nat.le_refl _⟩ (by omega)
              · cases hf
          · have hkl : k = b.length := by
              have := of_decide_eq_false hf
              omega
            subst hkl
            rw [pcompK_all] at hg ⊢
            have cF := check_does (pcompL a b) false (by have := hg.2.2; omega)
            cases h3 : pcheck (pcompL a b) with
            | true =>
              rw [h3] at cF
              have hE : pcE a b = true := by unfold pcE; rw [h1, h2, h3]; rfl
              have hR : pcR a b = pcompL a b := by unfold pcR; rw [hE]; rfl
              repeat (first
                  | refine tr_seq_k fun _ _ => ?_
                  | (refine tr_region ?_; simp only [go_sem, List.getElem?_toArray, str_beq, reduceCtorEq, Nat.reduceEqDiff, Nat.reduceLT, Nat.reduceLeDiff, Nat.reduceAdd, Nat.reduceMul, Nat.reduceSub, Nat.reduceBEq, ↓reduceIte, bne_self_eq_false, Bool.and_false, Bool.false_and, Bool.true_or, Bool.false_or])
                  | (refine call_of (cF) ?_ ?_
                     · first | rfl | simp only [go_sem, List.getElem?_toArray, str_beq, reduceCtorEq, Nat.reduceEqDiff, Nat.reduceLT, Nat.reduceLeDiff, Nat.reduceAdd, Nat.reduceMul, Nat.reduceSub, Nat.reduceBEq, ↓reduceIte, bne_self_eq_false, Bool.and_false, Bool.false_and, Bool.true_or, Bool.false_or, shut_col]
                     simp only [go_sem, List.getElem?_toArray, str_beq, reduceCtorEq, Nat.reduceEqDiff, Nat.reduceLT, Nat.reduceLeDiff, Nat.reduceAdd, Nat.reduceMul, Nat.reduceSub, Nat.reduceBEq, ↓reduceIte, bne_self_eq_false, Bool.and_false, Bool.false_and, Bool.true_or, Bool.false_or])
                  | refine k_of (by assumption) ?_
                  | refine tr_block ?_
                  | refine tr_scope ?_
                  | (refine tr_skip ?_; try simp only [ex_seq, ex_block])
                  | (refine tr_label ?_; try simp only [ex_seq, ex_block])
                  | (refine tr_exit ?_; try simp only [ex_seq_exit, ex_block_exit, Nat.reduceEqDiff, if_true, if_false, ex_seq, ex_block, reduceCtorEq, ↓reduceIte])
                  | (refine tr_ret ?_; try simp only [ex_seq_ret, ex_block_ret]))
              refine tr_cond rfl (fun ht => ?_) (fun hf => ?_)
              · cases ht
              · repeat (first
                    | refine tr_seq_k fun _ _ => ?_
                    | (refine tr_region ?_; simp only [go_sem, List.getElem?_toArray, str_beq, reduceCtorEq, Nat.reduceEqDiff, Nat.reduceLT, Nat.reduceLeDiff, Nat.reduceAdd, Nat.reduceMul, Nat.reduceSub, Nat.reduceBEq, ↓reduceIte, bne_self_eq_false, Bool.and_false, Bool.false_and, Bool.true_or, Bool.false_or])
                    | refine k_of (by assumption) ?_
                    | refine tr_block ?_
                    | refine tr_scope ?_
                    | (refine tr_skip ?_; try simp only [ex_seq, ex_block])
                    | (refine tr_label ?_; try simp only [ex_seq, ex_block])
                    | (refine tr_exit ?_; try simp only [ex_seq_exit, ex_block_exit, Nat.reduceEqDiff, if_true, if_false, ex_seq, ex_block, reduceCtorEq, ↓reduceIte])
                    | (refine tr_ret ?_; try simp only [ex_seq_ret, ex_block_ret]))
                refine (hQ _ _ [slB false (pcompL a b), iA 0] ?_ (fun m => by rw [hE, hR]; rfl)).2 <;> simp only [go_sem, List.getElem?_toArray, str_beq, reduceCtorEq, Nat.reduceEqDiff, Nat.reduceLT, Nat.reduceLeDiff, Nat.reduceAdd, Nat.reduceMul, Nat.reduceSub, Nat.reduceBEq, ↓reduceIte, bne_self_eq_false, Bool.and_false, Bool.false_and, Bool.true_or, Bool.false_or, Try.f31]
            | false =>
              rw [h3] at cF
              have hE : pcE a b = false := by unfold pcE; rw [h1, h2, h3]; rfl
              have hR : pcR a b = [] := by unfold pcR; rw [hE]; rfl
              repeat (first
                  | refine tr_seq_k fun _ _ => ?_
                  | (refine tr_region ?_; simp only [go_sem, List.getElem?_toArray, str_beq, reduceCtorEq, Nat.reduceEqDiff, Nat.reduceLT, Nat.reduceLeDiff, Nat.reduceAdd, Nat.reduceMul, Nat.reduceSub, Nat.reduceBEq, ↓reduceIte, bne_self_eq_false, Bool.and_false, Bool.false_and, Bool.true_or, Bool.false_or])
                  | (refine call_of (cF) ?_ ?_
                     · first | rfl | simp only [go_sem, List.getElem?_toArray, str_beq, reduceCtorEq, Nat.reduceEqDiff, Nat.reduceLT, Nat.reduceLeDiff, Nat.reduceAdd, Nat.reduceMul, Nat.reduceSub, Nat.reduceBEq, ↓reduceIte, bne_self_eq_false, Bool.and_false, Bool.false_and, Bool.true_or, Bool.false_or, shut_col]
                     simp only [go_sem, List.getElem?_toArray, str_beq, reduceCtorEq, Nat.reduceEqDiff, Nat.reduceLT, Nat.reduceLeDiff, Nat.reduceAdd, Nat.reduceMul, Nat.reduceSub, Nat.reduceBEq, ↓reduceIte, bne_self_eq_false, Bool.and_false, Bool.false_and, Bool.true_or, Bool.false_or])
                  | refine k_of (by assumption) ?_
                  | refine tr_block ?_
                  | refine tr_scope ?_
                  | (refine tr_skip ?_; try simp only [ex_seq, ex_block])
                  | (refine tr_label ?_; try simp only [ex_seq, ex_block])
                  | (refine tr_exit ?_; try simp only [ex_seq_exit, ex_block_exit, Nat.reduceEqDiff, if_true, if_false, ex_seq, ex_block, reduceCtorEq, ↓reduceIte])
                  | (refine tr_ret ?_; try simp only [ex_seq_ret, ex_block_ret]))
              refine tr_cond rfl (fun ht => ?_) (fun hf => ?_)
              · repeat (first
                    | refine tr_seq_k fun _ _ => ?_
                    | (refine tr_region ?_; simp only [go_sem, List.getElem?_toArray, str_beq, reduceCtorEq, Nat.reduceEqDiff, Nat.reduceLT, Nat.reduceLeDiff, Nat.reduceAdd, Nat.reduceMul, Nat.reduceSub, Nat.reduceBEq, ↓reduceIte, bne_self_eq_false, Bool.and_false, Bool.false_and, Bool.true_or, Bool.false_or])
                    | refine k_of (by assumption) ?_
                    | refine tr_block ?_
                    | refine tr_scope ?_
                    | (refine tr_skip ?_; try simp only [ex_seq, ex_block])
                    | (refine tr_label ?_; try simp only [ex_seq, ex_block])
                    | (refine tr_exit ?_; try simp only [ex_seq_exit, ex_block_exit, Nat.reduceEqDiff, if_true, if_false, ex_seq, ex_block, reduceCtorEq, ↓reduceIte])
                    | (refine tr_ret ?_; try simp only [ex_seq_ret, ex_block_ret]))
                refine (hQ _ _ [.c (.sl true 0 []), iA 15] ?_ (fun m => by rw [hE, hR]; rfl)).2 <;> simp only [go_sem, List.getElem?_toArray, str_beq, reduceCtorEq, Nat.reduceEqDiff, Nat.reduceLT, Nat.reduceLeDiff, Nat.reduceAdd, Nat.reduceMul, Nat.reduceSub, Nat.reduceBEq, ↓reduceIte, bne_self_eq_false, Bool.and_false, Bool.false_and, Bool.true_or, Bool.false_or, Try.f31]
              · cases hf

theorem r4compose_does (a b : List Bd) (exa exb : Bool) (ha : a.length ≤ 5000) (hb : b.length ≤ 5000) : Does Try.prog 36 [slB exa a, slB exb b] (fun m => (.tup [slB (pcR a b).isEmpty (pcR a b), eA (pcE a b)], m)) := by
  have ka := r4check_does a exa (by omega)
  have kb := r4check_does b exb (by omega)
  cases h1 : pcheck a with
  | false =>
    rw [h1] at ka
    have hE : pcE a b = false := by unfold pcE; rw [h1]; rfl
    have hR : pcR a b = [] := by unfold pcR; rw [hE]; rfl
    refine does_of' Try.func36 rfl (by kernel_rfl) rfl Try.ntmps36 rfl rfl fun Q hQ => ?_
    repeat (first
        | refine tr_seq_k fun _ _ => ?_
        | (refine tr_region ?_; simp only [go_sem, List.getElem?_toArray, str_beq, reduceCtorEq, Nat.reduceEqDiff, Nat.reduceLT, Nat.reduceLeDiff, Nat.reduceAdd, Nat.reduceMul, Nat.reduceSub, Nat.reduceBEq, ↓reduceIte, bne_self_eq_false, Bool.and_false, Bool.false_and, Bool.true_or, Bool.false_or, z15, z00])
        | (refine tr_drawC (id := 8) follows 10000 (by kernel_rfl) ?_; simp only [go_sem, List.getElem?_toArray, str_beq, reduceCtorEq, Nat.reduceEqDiff, Nat.reduceLT, Nat.reduceLeDiff, Nat.reduceAdd, Nat.reduceMul, Nat.reduceSub, Nat.reduceBEq, ↓reduceIte, bne_self_eq_false, Bool.and_false, Bool.false_and, Bool.true_or, Bool.false_or, z15, z00])
        | (refine tr_draw (id := 9) follows 10000 [8] [0, 1, 2, 3, 4, 5, 6, 7, 8, 9] (by kernel_rfl) ?_; simp only [go_sem, List.getElem?_toArray, str_beq, reduceCtorEq, Nat.reduceEqDiff, Nat.reduceLT, Nat.reduceLeDiff, Nat.reduceAdd, Nat.reduceMul, Nat.reduceSub, Nat.reduceBEq, ↓reduceIte, bne_self_eq_false, Bool.and_false, Bool.false_and, Bool.true_or, Bool.false_or, z15, z00])
        | (refine call_of (ka) ?_ ?_
           · first | rfl | simp only [go_sem, List.getElem?_toArray, str_beq, reduceCtorEq, Nat.reduceEqDiff, Nat.reduceLT, Nat.reduceLeDiff, Nat.reduceAdd, Nat.reduceMul, Nat.reduceSub, Nat.reduceBEq, ↓reduceIte, bne_self_eq_false, Bool.and_false, Bool.false_and, Bool.true_or, Bool.false_or, z15, z00, shut_col]
           simp only [go_sem, List.getElem?_toArray, str_beq, reduceCtorEq, Nat.reduceEqDiff, Nat.reduceLT, Nat.reduceLeDiff, Nat.reduceAdd, Nat.reduceMul, Nat.reduceSub, Nat.reduceBEq, ↓reduceIte, bne_self_eq_false, Bool.and_false, Bool.false_and, Bool.true_or, Bool.false_or, z15, z00])
        | refine k_of (by assumption) ?_
        | refine tr_block ?_
        | refine tr_scope ?_
        | (refine tr_skip ?_; try simp only [ex_seq, ex_block])
        | (refine tr_label ?_; try simp only [ex_seq, ex_block])
        | (refine tr_exit ?_; try simp only [ex_seq_exit, ex_block_exit, Nat.reduceEqDiff, if_true, if_false, ex_seq, ex_block, reduceCtorEq, ↓reduceIte])
        | (refine tr_ret ?_; try simp only [ex_seq_ret, ex_block_ret]))
    refine tr_cond rfl (fun ht => ?_) (fun hf => ?_)
    · repeat (first
          | refine tr_seq_k fun _ _ => ?_
          | (refine tr_region ?_; simp only [go_sem, List.getElem?_toArray, str_beq, reduceCtorEq, Nat.reduceEqDiff, Nat.reduceLT, Nat.reduceLeDiff, Nat.reduceAdd, Nat.reduceMul, Nat.reduceSub, Nat.reduceBEq, ↓reduceIte, bne_self_eq_false, Bool.and_false, Bool.false_and, Bool.true_or, Bool.false_or])
          | (refine tr_drawC (id := 8) follows 10000 (by kernel_rfl) ?_; simp only [go_sem, List.getElem?_toArray, str_beq, reduceCtorEq, Nat.reduceEqDiff, Nat.reduceLT, Nat.reduceLeDiff, Nat.reduceAdd, Nat.reduceMul, Nat.reduceSub, Nat.reduceBEq, ↓reduceIte, bne_self_eq_false, Bool.and_false, Bool.false_and, Bool.true_or, Bool.false_or])
          | (refine tr_draw (id := 9) follows 10000 [8] [0, 1, 2, 3, 4, 5, 6, 7, 8, 9] (by kernel_rfl) ?_; simp only [go_sem, List.getElem?_toArray, str_beq, reduceCtorEq, Nat.reduceEqDiff, Nat.reduceLT, Nat.reduceLeDiff, Nat.reduceAdd, Nat.reduceMul, Nat.reduceSub, Nat.reduceBEq, ↓reduceIte, bne_self_eq_false, Bool.and_false, Bool.false_and, Bool.true_or, Bool.false_or])
          | refine k_of (by assumption) ?_
          | refine tr_block ?_
          | refine tr_scope ?_
          | (refine tr_skip ?_; try simp only [ex_seq, ex_block])
          | (refine tr_label ?_; try simp only [ex_seq, ex_block])
          | (refine tr_exit ?_; try simp only [ex_seq_exit, ex_block_exit, Nat.reduceEqDiff, if_true, if_false, ex_seq, ex_block, reduceCtorEq, ↓reduceIte])
          | (refine tr_ret ?_; try simp only [ex_seq_ret, ex_block_ret]))
      refine (hQ _ _ [.c (.sl true 0 []), iA 15] ?_ (fun m => by rw [hE, hR]; rfl)).2 <;> simp only [go_sem, List.getElem?_toArray, str_beq, reduceCtorEq, Nat.reduceEqDiff, Nat.reduceLT, Nat.reduceLeDiff, Nat.reduceAdd, Nat.reduceMul, Nat.reduceSub, Nat.reduceBEq, ↓reduceIte, bne_self_eq_false, Bool.and_false, Bool.false_and, Bool.true_or, Bool.false_or, Try.f36]
    · cases hf
  | true =>
    rw [h1] at ka
    cases h2 : pcheck b with
    | false =>
      rw [h2] at kb
      have hE : pcE a b = false := by unfold pcE; rw [h1, h2]; rfl
      have hR : pcR a b = [] := by unfold pcR; rw [hE]; rfl
      refine does_of' Try.func36 rfl (by kernel_rfl) rfl Try.ntmps36 rfl rfl fun Q hQ => ?_
      repeat (first
          | refine tr_seq_k fun _ _ => ?_
          | (refine tr_region ?_; simp only [go_sem, List.getElem?_toArray, str_beq, reduceCtorEq, Nat.reduceEqDiff, Nat.reduceLT, Nat.reduceLeDiff, Nat.reduceAdd, Nat.reduceMul, Nat.reduceSub, Nat.reduceBEq, ↓reduceIte, bne_self_eq_false, Bool.and_false, Bool.false_and, Bool.true_or, Bool.false_or, z15, z00])
          | (refine tr_drawC (id := 8) follows 10000 (by kernel_rfl) ?_; simp only [go_sem, List.getElem?_toArray, str_beq, reduceCtorEq, Nat.reduceEqDiff, Nat.reduceLT, Nat.reduceLeDiff, Nat.reduceAdd, Nat.reduceMul, Nat.reduceSub, Nat.reduceBEq, ↓reduceIte, bne_self_eq_false, Bool.and_false, Bool.false_and, Bool.true_or, Bool.false_or, z15, z00])
          | (refine tr_draw (id := 9) follows 10000 [8] [0, 1, 2, 3, 4, 5, 6, 7, 8, 9] (by kernel_rfl) ?_; simp only [go_sem, List.getElem?_toArray, str_beq, reduceCtorEq, Nat.reduceEqDiff, Nat.reduceLT, Nat.reduceLeDiff, Nat.reduceAdd, Nat.reduceMul, Nat.reduceSub, Nat.reduceBEq, ↓reduceIte, bne_self_eq_false, Bool.and_false, Bool.false_and, Bool.true_or, Bool.false_or, z15, z00])
          | (refine call_of (ka) ?_ ?_
             · first | rfl | simp only [go_sem, List.getElem?_toArray, str_beq, reduceCtorEq, Nat.reduceEqDiff, Nat.reduceLT, Nat.reduceLeDiff, Nat.reduceAdd, Nat.reduceMul, Nat.reduceSub, Nat.reduceBEq, ↓reduceIte, bne_self_eq_false, Bool.and_false, Bool.false_and, Bool.true_or, Bool.false_or, z15, z00, shut_col]
             simp only [go_sem, List.getElem?_toArray, str_beq, reduceCtorEq, Nat.reduceEqDiff, Nat.reduceLT, Nat.reduceLeDiff, Nat.reduceAdd, Nat.reduceMul, Nat.reduceSub, Nat.reduceBEq, ↓reduceIte, bne_self_eq_false, Bool.and_false, Bool.false_and, Bool.true_or, Bool.false_or, z15, z00])
          | (refine call_of (kb) ?_ ?_
             · first | rfl | simp only [go_sem, List.getElem?_toArray, str_beq, reduceCtorEq, Nat.reduceEqDiff, Nat.reduceLT, Nat.reduceLeDiff, Nat.reduceAdd, Nat.reduceMul, Nat.reduceSub, Nat.reduceBEq, ↓reduceIte, bne_self_eq_false, Bool.and_false, Bool.false_and, Bool.true_or, Bool.false_or, z15, z00, shut_col]
             simp only [go_sem, List.getElem?_toArray, str_beq, reduceCtorEq, Nat.reduceEqDiff, Nat.reduceLT, Nat.reduceLeDiff, Nat.reduceAdd, Nat.reduceMul, Nat.reduceSub, Nat.reduceBEq, ↓reduceIte, bne_self_eq_false, Bool.and_false, Bool.false_and, Bool.true_or, Bool.false_or, z15, z00])
          | refine k_of (by assumption) ?_
          | refine tr_block ?_
          | refine tr_scope ?_
          | (refine tr_skip ?_; try simp only [ex_seq, ex_block])
          | (refine tr_label ?_; try simp only [ex_seq, ex_block])
          | (refine tr_exit ?_; try simp only [ex_seq_exit, ex_block_exit, Nat.reduceEqDiff, if_true, if_false, ex_seq, ex_block, reduceCtorEq, ↓reduceIte])
          | (refine tr_ret ?_; try simp only [ex_seq_ret, ex_block_ret]))
      refine tr_cond rfl (fun ht => ?_) (fun hf => ?_)
      · repeat (first
            | refine tr_seq_k fun _ _ => ?_
            | (refine tr_region ?_; simp only [go_sem, List.getElem?_toArray, str_beq, reduceCtorEq, Nat.reduceEqDiff, Nat.reduceLT, Nat.reduceLeDiff, Nat.reduceAdd, Nat.reduceMul, Nat.reduceSub, Nat.reduceBEq, ↓reduceIte, bne_self_eq_false, Bool.and_false, Bool.false_and, Bool.true_or, Bool.false_or])
            | (refine tr_drawC (id := 8) follows 10000 (by kernel_rfl) ?_; simp only [go_sem, List.getElem?_toArray, str_beq, reduceCtorEq, Nat.reduceEqDiff, Nat.reduceLT, Nat.reduceLeDiff, Nat.reduceAdd, Nat.reduceMul, Nat.reduceSub, Nat.reduceBEq, ↓reduceIte, bne_self_eq_false, Bool.and_false, Bool.false_and, Bool.true_or, Bool.false_or])
            | (refine tr_draw (id := 9) follows 10000 [8] [0, 1, 2, 3, 4, 5, 6, 7, 8, 9] (by kernel_rfl) ?_; simp only [go_sem, List.getElem?_toArray, str_beq, reduceCtorEq, Nat.reduceEqDiff, Nat.reduceLT, Nat.reduceLeDiff, Nat.reduceAdd, Nat.reduceMul, Nat.reduceSub, Nat.reduceBEq, ↓reduceIte, bne_self_eq_false, Bool.and_false, Bool.false_and, Bool.true_or, Bool.false_or])
            | refine k_of (by assumption) ?_
            | refine tr_block ?_
            | refine tr_scope ?_
            | (refine tr_skip ?_; try simp only [ex_seq, ex_block])
            | (refine tr_label ?_; try simp only [ex_seq, ex_block])
            | (refine tr_exit ?_; try simp only [ex_seq_exit, ex_block_exit, Nat.reduceEqDiff, if_true, if_false, ex_seq, ex_block, reduceCtorEq, ↓reduceIte])
            | (refine tr_ret ?_; try simp only [ex_seq_ret, ex_block_ret]))
        refine (hQ _ _ [.c (.sl true 0 []), iA 15] ?_ (fun m => by rw [hE, hR]; rfl)).2 <;> simp only [go_sem, List.getElem?_toArray, str_beq, reduceCtorEq, Nat.reduceEqDiff, Nat.reduceLT, Nat.reduceLeDiff, Nat.reduceAdd, Nat.reduceMul, Nat.reduceSub, Nat.reduceBEq, ↓reduceIte, bne_self_eq_false, Bool.and_false, Bool.false_and, Bool.true_or, Bool.false_or, Try.f36]
      · cases hf
    | true =>
      rw [h2] at kb
      refine does_of' Try.func36 rfl (by kernel_rfl) rfl Try.ntmps36 rfl rfl fun Q hQ => ?_
      repeat (first
          | refine tr_seq_k fun _ _ => ?_
          | (refine tr_region ?_; simp only [go_sem, List.getElem?_toArray, str_beq, reduceCtorEq, Nat.reduceEqDiff, Nat.reduceLT, Nat.reduceLeDiff, Nat.reduceAdd, Nat.reduceMul, Nat.reduceSub, Nat.reduceBEq, ↓reduceIte, bne_self_eq_false, Bool.and_false, Bool.false_and, Bool.true_or, Bool.false_or, z15, z00])
          | (refine tr_drawC (id := 8) follows 10000 (by kernel_rfl) ?_; simp only [go_sem, List.getElem?_toArray, str_beq, reduceCtorEq, Nat.reduceEqDiff, Nat.reduceLT, Nat.reduceLeDiff, Nat.reduceAdd, Nat.reduceMul, Nat.reduceSub, Nat.reduceBEq, ↓reduceIte, bne_self_eq_false, Bool.and_false, Bool.false_and, Bool.true_or, Bool.false_or, z15, z00])
          | (refine tr_draw (id := 9) follows 10000 [8] [0, 1, 2, 3, 4, 5, 6, 7, 8, 9] (by kernel_rfl) ?_; simp only [go_sem, List.getElem?_toArray, str_beq, reduceCtorEq, Nat.reduceEqDiff, Nat.reduceLT, Nat.reduceLeDiff, Nat.reduceAdd, Nat.reduceMul, Nat.reduceSub, Nat.reduceBEq, ↓reduceIte, bne_self_eq_false, Bool.and_false, Bool.false_and, Bool.true_or, Bool.false_or, z15, z00])
          | (refine call_of (ka) ?_ ?_
             · first | rfl | simp only [go_sem, List.getElem?_toArray, str_beq, reduceCtorEq, Nat.reduceEqDiff, Nat.reduceLT, Nat.reduceLeDiff, Nat.reduceAdd, Nat.reduceMul, Nat.reduceSub, Nat.reduceBEq, ↓reduceIte, bne_self_eq_false, Bool.and_false, Bool.false_and, Bool.true_or, Bool.false_or, z15, z00, shut_col]
             simp only [go_sem, List.getElem?_toArray, str_beq, reduceCtorEq, Nat.reduceEqDiff, Nat.reduceLT, Nat.reduceLeDiff, Nat.reduceAdd, Nat.reduceMul, Nat.reduceSub, Nat.reduceBEq, ↓reduceIte, bne_self_eq_false, Bool.and_false, Bool.false_and, Bool.true_or, Bool.false_or, z15, z00])
          | (refine call_of (kb) ?_ ?_
             · first | rfl | simp only [go_sem, List.getElem?_toArray, str_beq, reduceCtorEq, Nat.reduceEqDiff, Nat.reduceLT, Nat.reduceLeDiff, Nat.reduceAdd, Nat.reduceMul, Nat.reduceSub, Nat.reduceBEq, ↓reduceIte, bne_self_eq_false, Bool.and_false, Bool.false_and, Bool.true_or, Bool.false_or, z15, z00, shut_col]
             simp only [go_sem, List.getElem?_toArray, str_beq, reduceCtorEq, Nat.reduceEqDiff, Nat.reduceLT, Nat.reduceLeDiff, Nat.reduceAdd, Nat.reduceMul, Nat.reduceSub, Nat.reduceBEq, ↓reduceIte, bne_self_eq_false, Bool.and_false, Bool.false_and, Bool.true_or, Bool.false_or, z15, z00])
          | refine k_of (by assumption) ?_
          | refine tr_block ?_
          | refine tr_scope ?_
          | (refine tr_skip ?_; try simp only [ex_seq, ex_block])
          | (refine tr_label ?_; try simp only [ex_seq, ex_block])
          | (refine tr_exit ?_; try simp only [ex_seq_exit, ex_block_exit, Nat.reduceEqDiff, if_true, if_false, ex_seq, ex_block, reduceCtorEq, ↓reduceIte])
          | (refine tr_ret ?_; try simp only [ex_seq_ret, ex_block_ret]))
      refine tr_cond rfl (fun ht => ?_) (fun hf => ?_)
      · cases ht
      · repeat (first
            | refine tr_seq_k fun _ _ => ?_
            | (refine tr_region ?_; simp only [go_sem, List.getElem?_toArray, str_beq, reduceCtorEq, Nat.reduceEqDiff, Nat.reduceLT, Nat.reduceLeDiff, Nat.reduceAdd, Nat.reduceMul, Nat.reduceSub, Nat.reduceBEq, ↓reduceIte, bne_self_eq_false, Bool.and_false, Bool.false_and, Bool.true_or, Bool.false_or])
            | (refine tr_drawC (id := 8) follows 10000 (by kernel_rfl) ?_; simp only [go_sem, List.getElem?_toArray, str_beq, reduceCtorEq, Nat.reduceEqDiff, Nat.reduceLT, Nat.reduceLeDiff, Nat.reduceAdd, Nat.reduceMul, Nat.reduceSub, Nat.reduceBEq, ↓reduceIte, bne_self_eq_false, Bool.and_false, Bool.false_and, Bool.true_or, Bool.false_or])
            | (refine tr_draw (id := 9) follows 10000 [8] [0, 1, 2, 3, 4, 5, 6, 7, 8, 9] (by kernel_rfl) ?_; simp only [go_sem, List.getElem?_toArray, str_beq, reduceCtorEq, Nat.reduceEqDiff, Nat.reduceLT, Nat.reduceLeDiff, Nat.reduceAdd, Nat.reduceMul, Nat.reduceSub, Nat.reduceBEq, ↓reduceIte, bne_self_eq_false, Bool.and_false, Bool.false_and, Bool.true_or, Bool.false_or])
            | refine k_of (by assumption) ?_
            | refine tr_block ?_
            | refine tr_scope ?_
            | (refine tr_skip ?_; try simp only [ex_seq, ex_block])
            | (refine tr_label ?_; try simp only [ex_seq, ex_block])
            | (refine tr_exit ?_; try simp only [ex_seq_exit, ex_block_exit, Nat.reduceEqDiff, if_true, if_false, ex_seq, ex_block, reduceCtorEq, ↓reduceIte])
            | (refine tr_ret ?_; try simp only [ex_seq_ret, ex_block_ret]))
        refine tr_loop_k (σ := Nat) (fun k => [(0, slB exa a), (1, slB exb b), (6, slB (pcomp0 (a.take k) b).isEmpty (pcomp0 (a.take k) b)), (7, iA k)]) (fun _ => ⟨[], []⟩)
          (fun k => k ≤ a.length) (fun k => a.length - k) 0 (Nat.zero_le _) ⟨rfl, rfl, rfl, rfl, trivial⟩ rfl ?_
        rintro k hk K hK
        repeat (first
            | refine tr_seq_k fun _ _ => ?_
            | (refine tr_region ?_; simp only [go_sem, List.getElem?_toArray, str_beq, reduceCtorEq, Nat.reduceEqDiff, Nat.reduceLT, Nat.reduceLeDiff, Nat.reduceAdd, Nat.reduceMul, Nat.reduceSub, Nat.reduceBEq, ↓reduceIte, bne_self_eq_false, Bool.and_false, Bool.false_and, Bool.true_or, Bool.false_or])
            | (refine tr_drawC (id := 8) follows 10000 (by kernel_rfl) ?_; simp only [go_sem, List.getElem?_toArray, str_beq, reduceCtorEq, Nat.reduceEqDiff, Nat.reduceLT, Nat.reduceLeDiff, Nat.reduceAdd, Nat.reduceMul, Nat.reduceSub, Nat.reduceBEq, ↓reduceIte, bne_self_eq_false, Bool.and_false, Bool.false_and, Bool.true_or, Bool.false_or])
            | (refine tr_draw (id := 9) follows 10000 [8] [0, 1, 2, 3, 4, 5, 6, 7, 8, 9] (by kernel_rfl) ?_; simp only [go_sem, List.getElem?_toArray, str_beq, reduceCtorEq, Nat.reduceEqDiff, Nat.reduceLT, Nat.reduceLeDiff, Nat.reduceAdd, Nat.reduceMul, Nat.reduceSub, Nat.reduceBEq, ↓reduceIte, bne_self_eq_false, Bool.and_false, Bool.false_and, Bool.true_or, Bool.false_or])
            | refine k_of (by assumption) ?_
            | refine tr_block ?_
            | refine tr_scope ?_
            | (refine tr_skip ?_; try simp only [ex_seq, ex_block])
            | (refine tr_label ?_; try simp only [ex_seq, ex_block])
            | (refine tr_exit ?_; try simp only [ex_seq_exit, ex_block_exit, Nat.reduceEqDiff, if_true, if_false, ex_seq, ex_block, reduceCtorEq, ↓reduceIte])
            | (refine tr_ret ?_; try simp only [ex_seq_ret, ex_block_ret]))
        refine tr_cond rfl (fun ht => ?_) (fun hf => ?_)
        · have hlt : k < a.length := by simpa using ht
          have ws := wrap_succ (show k ≤ 1000000000 by omega)
          have cT := r4term_does b a[k].t exb (by omega)
          have hnx := pcomp0_next (b := b) h1 hlt
          have hle := pcomp0_len (a.take k) b
          rw [List.length_take] at hle
          have cP := put_does (pcomp0 (a.take k) b) ⟨a[k].var, pterm b a[k].t⟩ (pcomp0 (a.take k) b).isEmpty (by omega)
          have hown : pown ⟨a[k].var, pterm b a[k].t⟩ = ((pterm b a[k].t).v && decide ((pterm b a[k].t).name = a[k].var)) := rfl
          rw [hown] at hnx
          cases hv : (pterm b a[k].t).v with
          | false =>
            rw [hv, Bool.false_and] at hnx
            have hnx : pcomp0 (a.take (k + 1)) b = pwith (pcomp0 (a.take k) b) ⟨a[k].var, pterm b a[k].t⟩ := hnx
            rw [← hnx] at cP
            simp only [bdA, bdC, hv] at cP
            repeat (first
                | refine tr_seq_k fun _ _ => ?_
                | (refine tr_region ?_; simp only [go_sem, List.getElem?_toArray, str_beq, reduceCtorEq, Nat.reduceEqDiff, Nat.reduceLT, Nat.reduceLeDiff, Nat.reduceAdd, Nat.reduceMul, Nat.reduceSub, Nat.reduceBEq, ↓reduceIte, bne_self_eq_false, Bool.and_false, Bool.false_and, Bool.true_or, Bool.false_or, idxB hlt, hv])
                | (refine tr_drawC (id := 8) follows 10000 (by kernel_rfl) ?_; simp only [go_sem, List.getElem?_toArray, str_beq, reduceCtorEq, Nat.reduceEqDiff, Nat.reduceLT, Nat.reduceLeDiff, Nat.reduceAdd, Nat.reduceMul, Nat.reduceSub, Nat.reduceBEq, ↓reduceIte, bne_self_eq_false, Bool.and_false, Bool.false_and, Bool.true_or, Bool.false_or, idxB hlt, hv])
                | (refine tr_draw (id := 9) follows 10000 [8] [0, 1, 2, 3, 4, 5, 6, 7, 8, 9] (by kernel_rfl) ?_; simp only [go_sem, List.getElem?_toArray, str_beq, reduceCtorEq, Nat.reduceEqDiff, Nat.reduceLT, Nat.reduceLeDiff, Nat.reduceAdd, Nat.reduceMul, Nat.reduceSub, Nat.reduceBEq, ↓reduceIte, bne_self_eq_false, Bool.and_false, Bool.false_and, Bool.true_or, Bool.false_or, idxB hlt, hv])
                | (refine call_of (cT) ?_ ?_
                   · first | rfl | simp only [go_sem, List.getElem?_toArray, str_beq, reduceCtorEq, Nat.reduceEqDiff, Nat.reduceLT, Nat.reduceLeDiff, Nat.reduceAdd, Nat.reduceMul, Nat.reduceSub, Nat.reduceBEq, ↓reduceIte, bne_self_eq_false, Bool.and_false, Bool.false_and, Bool.true_or, Bool.false_or, idxB hlt, hv, shut_col]
                   simp only [go_sem, List.getElem?_toArray, str_beq, reduceCtorEq, Nat.reduceEqDiff, Nat.reduceLT, Nat.reduceLeDiff, Nat.reduceAdd, Nat.reduceMul, Nat.reduceSub, Nat.reduceBEq, ↓reduceIte, bne_self_eq_false, Bool.and_false, Bool.false_and, Bool.true_or, Bool.false_or, idxB hlt, hv])
                | refine k_of (by assumption) ?_
                | refine tr_block ?_
                | refine tr_scope ?_
                | (refine tr_skip ?_; try simp only [ex_seq, ex_block])
                | (refine tr_label ?_; try simp only [ex_seq, ex_block])
                | (refine tr_exit ?_; try simp only [ex_seq_exit, ex_block_exit, Nat.reduceEqDiff, if_true, if_false, ex_seq, ex_block, reduceCtorEq, ↓reduceIte])
                | (refine tr_ret ?_; try simp only [ex_seq_ret, ex_block_ret]))
            refine tr_cond rfl (fun ht => ?_) (fun hf => ?_)
            · repeat (first
                  | refine tr_seq_k fun _ _ => ?_
                  | (refine tr_region ?_; simp only [go_sem, List.getElem?_toArray, str_beq, reduceCtorEq, Nat.reduceEqDiff, Nat.reduceLT, Nat.reduceLeDiff, Nat.reduceAdd, Nat.reduceMul, Nat.reduceSub, Nat.reduceBEq, ↓reduceIte, bne_self_eq_false, Bool.and_false, Bool.false_and, Bool.true_or, Bool.false_or, idxB hlt, hv, ws])
                  | (refine tr_drawC (id := 8) follows 10000 (by kernel_rfl) ?_; simp only [go_sem, List.getElem?_toArray, str_beq, reduceCtorEq, Nat.reduceEqDiff, Nat.reduceLT, Nat.reduceLeDiff, Nat.reduceAdd, Nat.reduceMul, Nat.reduceSub, Nat.reduceBEq, ↓reduceIte, bne_self_eq_false, Bool.and_false, Bool.false_and, Bool.true_or, Bool.false_or, idxB hlt, hv, ws])
                  | (refine tr_draw (id := 9) follows 10000 [8] [0, 1, 2, 3, 4, 5, 6, 7, 8, 9] (by kernel_rfl) ?_; simp only [go_sem, List.getElem?_toArray, str_beq, reduceCtorEq, Nat.reduceEqDiff, Nat.reduceLT, Nat.reduceLeDiff, Nat.reduceAdd, Nat.reduceMul, Nat.reduceSub, Nat.reduceBEq, ↓reduceIte, bne_self_eq_false, Bool.and_false, Bool.false_and, Bool.true_or, Bool.false_or, idxB hlt, hv, ws])
                  | (refine call_of (cP) ?_ ?_
                     · first | rfl | simp only [go_sem, List.getElem?_toArray, str_beq, reduceCtorEq, Nat.reduceEqDiff, Nat.reduceLT, Nat.reduceLeDiff, Nat.reduceAdd, Nat.reduceMul, Nat.reduceSub, Nat.reduceBEq, ↓reduceIte, bne_self_eq_false, Bool.and_false, Bool.false_and, Bool.true_or, Bool.false_or, idxB hlt, hv, ws, shut_col]
                     simp only [go_sem, List.getElem?_toArray, str_beq, reduceCtorEq, Nat.reduceEqDiff, Nat.reduceLT, Nat.reduceLeDiff, Nat.reduceAdd, Nat.reduceMul, Nat.reduceSub, Nat.reduceBEq, ↓reduceIte, bne_self_eq_false, Bool.and_false, Bool.false_and, Bool.true_or, Bool.false_or, idxB hlt, hv, ws])
                  | refine k_of (by assumption) ?_
                  | refine tr_block ?_
                  | refine tr_scope ?_
                  | (refine tr_skip ?_; try simp only [ex_seq, ex_block])
                  | (refine tr_label ?_; try simp only [ex_seq, ex_block])
                  | (refine tr_exit ?_; try simp only [ex_seq_exit, ex_block_exit, Nat.reduceEqDiff, if_true, if_false, ex_seq, ex_block, reduceCtorEq, ↓reduceIte])
                  | (refine tr_ret ?_; try simp only [ex_seq_ret, ex_block_ret]))
              exact hK (k + 1) _ _ hlt ⟨⟨rfl, rfl, rfl, rfl, trivial⟩, Keep.of (eh := [_]) (ew := []) rfl rfl, rfl, rfl, Nat.le_refl _, Nat.le_refl _⟩ (by omega)
            · cases hf
          | true =>
            rw [hv, Bool.true_and] at hnx
            simp only [bdA, bdC, hv] at cP
            cases hn : decide ((pterm b a[k].t).name = a[k].var) with
            | true =>
              rw [hn] at hnx
              have hnx : pcomp0 (a.take (k + 1)) b = pcomp0 (a.take k) b := hnx
              repeat (first
                  | refine tr_seq_k fun _ _ => ?_
                  | (refine tr_region ?_; simp only [go_sem, List.getElem?_toArray, str_beq, reduceCtorEq, Nat.reduceEqDiff, Nat.reduceLT, Nat.reduceLeDiff, Nat.reduceAdd, Nat.reduceMul, Nat.reduceSub, Nat.reduceBEq, ↓reduceIte, bne_self_eq_false, Bool.and_false, Bool.false_and, Bool.true_or, Bool.false_or, idxB hlt, hv, hn])
                  | (refine tr_drawC (id := 8) follows 10000 (by kernel_rfl) ?_; simp only [go_sem, List.getElem?_toArray, str_beq, reduceCtorEq, Nat.reduceEqDiff, Nat.reduceLT, Nat.reduceLeDiff, Nat.reduceAdd, Nat.reduceMul, Nat.reduceSub, Nat.reduceBEq, ↓reduceIte, bne_self_eq_false, Bool.and_false, Bool.false_and, Bool.true_or, Bool.false_or, idxB hlt, hv, hn])
                  | (refine tr_draw (id := 9) follows 10000 [8] [0, 1, 2, 3, 4, 5, 6, 7, 8, 9] (by kernel_rfl) ?_; simp only [go_sem, List.getElem?_toArray, str_beq, reduceCtorEq, Nat.reduceEqDiff, Nat.reduceLT, Nat.reduceLeDiff, Nat.reduceAdd, Nat.reduceMul, Nat.reduceSub, Nat.reduceBEq, ↓reduceIte, bne_self_eq_false, Bool.and_false, Bool.false_and, Bool.true_or, Bool.false_or, idxB hlt, hv, hn])
                  | (refine call_of (cT) ?_ ?_
                     · first | rfl | simp only [go_sem, List.getElem?_toArray, str_beq, reduceCtorEq, Nat.reduceEqDiff, Nat.reduceLT, Nat.reduceLeDiff, Nat.reduceAdd, Nat.reduceMul, Nat.reduceSub, Nat.reduceBEq, ↓reduceIte, bne_self_eq_false, Bool.and_false, Bool.false_and, Bool.true_or, Bool.false_or, idxB hlt, hv, hn, shut_col]
                     simp only [go_sem, List.getElem?_toArray, str_beq, reduceCtorEq, Nat.reduceEqDiff, Nat.reduceLT, Nat.reduceLeDiff, Nat.reduceAdd, Nat.reduceMul, Nat.reduceSub, Nat.reduceBEq, ↓reduceIte, bne_self_eq_false, Bool.and_false, Bool.false_and, Bool.true_or, Bool.false_or, idxB hlt, hv, hn])
                  | refine k_of (by assumption) ?_
                  | refine tr_block ?_
                  | refine tr_scope ?_
                  | (refine tr_skip ?_; try simp only [ex_seq, ex_block])
                  | (refine tr_label ?_; try simp only [ex_seq, ex_block])
                  | (refine tr_exit ?_; try simp only [ex_seq_exit, ex_block_exit, Nat.reduceEqDiff, if_true, if_false, ex_seq, ex_block, reduceCtorEq, ↓reduceIte])
                  | (refine tr_ret ?_; try simp only [ex_seq_ret, ex_block_ret]))
              refine tr_cond rfl (fun ht => ?_) (fun hf => ?_)
              · cases ht
              · repeat (first
                    | refine tr_seq_k fun _ _ => ?_
                    | (refine tr_region ?_; simp only [go_sem, List.getElem?_toArray, str_beq, reduceCtorEq, Nat.reduceEqDiff, Nat.reduceLT, Nat.reduceLeDiff, Nat.reduceAdd, Nat.reduceMul, Nat.reduceSub, Nat.reduceBEq, ↓reduceIte, bne_self_eq_false, Bool.and_false, Bool.false_and, Bool.true_or, Bool.false_or, ws])
                    | (refine tr_drawC (id := 8) follows 10000 (by kernel_rfl) ?_; simp only [go_sem, List.getElem?_toArray, str_beq, reduceCtorEq, Nat.reduceEqDiff, Nat.reduceLT, Nat.reduceLeDiff, Nat.reduceAdd, Nat.reduceMul, Nat.reduceSub, Nat.reduceBEq, ↓reduceIte, bne_self_eq_false, Bool.and_false, Bool.false_and, Bool.true_or, Bool.false_or, ws])
                    | (refine tr_draw (id := 9) follows 10000 [8] [0, 1, 2, 3, 4, 5, 6, 7, 8, 9] (by kernel_rfl) ?_; simp only [go_sem, List.getElem?_toArray, str_beq, reduceCtorEq, Nat.reduceEqDiff, Nat.reduceLT, Nat.reduceLeDiff, Nat.reduceAdd, Nat.reduceMul, Nat.reduceSub, Nat.reduceBEq, ↓reduceIte, bne_self_eq_false, Bool.and_false, Bool.false_and, Bool.true_or, Bool.false_or, ws])
                    | refine k_of (by assumption) ?_
                    | refine tr_block ?_
                    | refine tr_scope ?_
                    | (refine tr_skip ?_; try simp only [ex_seq, ex_block])
                    | (refine tr_label ?_; try simp only [ex_seq, ex_block])
                    | (refine tr_exit ?_; try simp only [ex_seq_exit, ex_block_exit, Nat.reduceEqDiff, if_true, if_false, ex_seq, ex_block, reduceCtorEq, ↓reduceIte])
                    | (refine tr_ret ?_; try simp only [ex_seq_ret, ex_block_ret]))
                exact hK (k + 1) _ _ hlt ⟨⟨rfl, rfl, by rw [hnx]; rfl, rfl, trivial⟩, Keep.of (eh := [_]) (ew := []) rfl rfl, rfl, rfl, Nat.le_refl _, Nat.le_refl _⟩ (by omega)
            | false =>
              rw [hn] at hnx
              have hnx : pcomp0 (a.take (k + 1)) b = pwith (pcomp0 (a.take k) b) ⟨a[k].var, pterm b a[k].t⟩ := hnx
              rw [← hnx] at cP
              repeat (first
                  | refine tr_seq_k fun _ _ => ?_
                  | (refine tr_region ?_; simp only [go_sem, List.getElem?_toArray, str_beq, reduceCtorEq, Nat.reduceEqDiff, Nat.reduceLT, Nat.reduceLeDiff, Nat.reduceAdd, Nat.reduceMul, Nat.reduceSub, Nat.reduceBEq, ↓reduceIte, bne_self_eq_false, Bool.and_false, Bool.false_and, Bool.true_or, Bool.false_or, idxB hlt, hv, hn])
                  | (refine tr_drawC (id := 8) follows 10000 (by kernel_rfl) ?_; simp only [go_sem, List.getElem?_toArray, str_beq, reduceCtorEq, Nat.reduceEqDiff, Nat.reduceLT, Nat.reduceLeDiff, Nat.reduceAdd, Nat.reduceMul, Nat.reduceSub, Nat.reduceBEq, ↓reduceIte, bne_self_eq_false, Bool.and_false, Bool.false_and, Bool.true_or, Bool.false_or, idxB hlt, hv, hn])
                  | (refine tr_draw (id := 9) follows 10000 [8] [0, 1, 2, 3, 4, 5, 6, 7, 8, 9] (by kernel_rfl) ?_; simp only [go_sem, List.getElem?_toArray, str_beq, reduceCtorEq, Nat.reduceEqDiff, Nat.reduceLT, Nat.reduceLeDiff, Nat.reduceAdd, Nat.reduceMul, Nat.reduceSub, Nat.reduceBEq, ↓reduceIte, bne_self_eq_false, Bool.and_false, Bool.false_and, Bool.true_or, Bool.false_or, idxB hlt, hv, hn])
                  | (refine call_of (cT) ?_ ?_
                     · first | rfl | simp only [go_sem, List.getElem?_toArray, str_beq, reduceCtorEq, Nat.reduceEqDiff, Nat.reduceLT, Nat.reduceLeDiff, Nat.reduceAdd, Nat.reduceMul, Nat.reduceSub, Nat.reduceBEq, ↓reduceIte, bne_self_eq_false, Bool.and_false, Bool.false_and, Bool.true_or, Bool.false_or, idxB hlt, hv, hn, shut_col]
                     simp only [go_sem, List.getElem?_toArray, str_beq, reduceCtorEq, Nat.reduceEqDiff, Nat.reduceLT, Nat.reduceLeDiff, Nat.reduceAdd, Nat.reduceMul, Nat.reduceSub, Nat.reduceBEq, ↓reduceIte, bne_self_eq_false, Bool.and_false, Bool.false_and, Bool.true_or, Bool.false_or, idxB hlt, hv, hn])
                  | refine k_of (by assumption) ?_
                  | refine tr_block ?_
                  | refine tr_scope ?_
                  | (refine tr_skip ?_; try simp only [ex_seq, ex_block])
                  | (refine tr_label ?_; try simp only [ex_seq, ex_block])
                  | (refine tr_exit ?_; try simp only [ex_seq_exit, ex_block_exit, Nat.reduceEqDiff, if_true, if_false, ex_seq, ex_block, reduceCtorEq, ↓reduceIte])
                  | (refine tr_ret ?_; try simp only [ex_seq_ret, ex_block_ret]))
              refine tr_cond rfl (fun ht => ?_) (fun hf => ?_)
              · repeat (first
                    | refine tr_seq_k fun _ _ => ?_
                    | (refine tr_region ?_; simp only [go_sem, List.getElem?_toArray, str_beq, reduceCtorEq, Nat.reduceEqDiff, Nat.reduceLT, Nat.reduceLeDiff, Nat.reduceAdd, Nat.reduceMul, Nat.reduceSub, Nat.reduceBEq, ↓reduceIte, bne_self_eq_false, Bool.and_false, Bool.false_and, Bool.true_or, Bool.false_or, idxB hlt, hv, ws])
                    | (refine tr_drawC (id := 8) follows 10000 (by kernel_rfl) ?_; simp only [go_sem, List.getElem?_toArray, str_beq, reduceCtorEq, Nat.reduceEqDiff, Nat.reduceLT, Nat.reduceLeDiff, Nat.reduceAdd, Nat.reduceMul, Nat.reduceSub, Nat.reduceBEq, ↓reduceIte, bne_self_eq_false, Bool.and_false, Bool.false_and, Bool.true_or, Bool.false_or, idxB hlt, hv, ws])
                    | (refine tr_draw (id := 9) follows 10000 [8] [0, 1, 2, 3, 4, 5, 6, 7, 8, 9] (by kernel_rfl) ?_; simp only [go_sem, List.getElem?_toArray, str_beq, reduceCtorEq, Nat.reduceEqDiff, Nat.reduceLT, Nat.reduceLeDiff, Nat.reduceAdd, Nat.reduceMul, Nat.reduceSub, Nat.reduceBEq, ↓reduceIte, bne_self_eq_false, Bool.and_false, Bool.false_and, Bool.true_or, Bool.false_or, idxB hlt, hv, ws])
                    | (refine call_of (cP) ?_ ?_
                       · first | rfl | simp only [go_sem, List.getElem?_toArray, str_beq, reduceCtorEq, Nat.reduceEqDiff, Nat.reduceLT, Nat.reduceLeDiff, Nat.reduceAdd, Nat.reduceMul, Nat.reduceSub, Nat.reduceBEq, ↓reduceIte, bne_self_eq_false, Bool.and_false, Bool.false_and, Bool.true_or, Bool.false_or, idxB hlt, hv, ws, shut_col]
                       simp only [go_sem, List.getElem?_toArray, str_beq, reduceCtorEq, Nat.reduceEqDiff, Nat.reduceLT, Nat.reduceLeDiff, Nat.reduceAdd, Nat.reduceMul, Nat.reduceSub, Nat.reduceBEq, ↓reduceIte, bne_self_eq_false, Bool.and_false, Bool.false_and, Bool.true_or, Bool.false_or, idxB hlt, hv, ws])
                    | refine k_of (by assumption) ?_
                    | refine tr_block ?_
                    | refine tr_scope ?_
                    | (refine tr_skip ?_; try simp only [ex_seq, ex_block])
                    | (refine tr_label ?_; try simp only [ex_seq, ex_block])
                    | (refine tr_exit ?_; try simp only [ex_seq_exit, ex_block_exit, Nat.reduceEqDiff, if_true, if_false, ex_seq, ex_block, reduceCtorEq, ↓reduceIte])
                    | (refine tr_ret ?_; try simp only [ex_seq_ret, ex_block_ret]))
                exact hK (k + 1) _ _ hlt ⟨⟨rfl, rfl, rfl, rfl, trivial⟩, Keep.of (eh := [_]) (ew := []) rfl rfl, rfl, rfl, Nat.le_refl _, Nat.le_refl _⟩ (by omega)
              · cases hf
        · have hkl : k = a.length := by
            have := of_decide_eq_false hf
            omega
          subst hkl
          rw [List.take_length]
          have hk0 : pcomp0 a b = pcompK a b 0 := rfl
          rw [hk0]
          repeat (first
              | refine tr_seq_k fun _ _ => ?_
              | (refine tr_region ?_; simp only [go_sem, List.getElem?_toArray, str_beq, reduceCtorEq, Nat.reduceEqDiff, Nat.reduceLT, Nat.reduceLeDiff, Nat.reduceAdd, Nat.reduceMul, Nat.reduceSub, Nat.reduceBEq, ↓reduceIte, bne_self_eq_false, Bool.and_false, Bool.false_and, Bool.true_or, Bool.false_or])
              | (refine tr_drawC (id := 8) follows 10000 (by kernel_rfl) ?_; simp only [go_sem, List.getElem?_toArray, str_beq, reduceCtorEq, Nat.reduceEqDiff, Nat.reduceLT, Nat.reduceLeDiff, Nat.reduceAdd, Nat.reduceMul, Nat.reduceSub, Nat.reduceBEq, ↓reduceIte, bne_self_eq_false, Bool.and_false, Bool.false_and, Bool.true_or, Bool.false_or])
              | (refine tr_draw (id := 9) follows 10000 [8] [0, 1, 2, 3, 4, 5, 6, 7, 8, 9] (by kernel_rfl) ?_; simp only [go_sem, List.getElem?_toArray, str_beq, reduceCtorEq, Nat.reduceEqDiff, Nat.reduceLT, Nat.reduceLeDiff, Nat.reduceAdd, Nat.reduceMul, Nat.reduceSub, Nat.reduceBEq, ↓reduceIte, bne_self_eq_false, Bool.and_false, Bool.false_and, Bool.true_or, Bool.false_or])
              | refine k_of (by assumption) ?_
              | refine tr_block ?_
              | refine tr_scope ?_
              | (refine tr_skip ?_; try simp only [ex_seq, ex_block])
              | (refine tr_label ?_; try simp only [ex_seq, ex_block])
              | (refine tr_exit ?_; try simp only [ex_seq_exit, ex_block_exit, Nat.reduceEqDiff, if_true, if_false, ex_seq, ex_block, reduceCtorEq, ↓reduceIte])
              | (refine tr_ret ?_; try simp only [ex_seq_ret, ex_block_ret]))
          refine tr_loop_k (σ := Nat) (fun k => [(0, slB exa a), (1, slB exb b), (6, slB (pcompK a b k).isEmpty (pcompK a b k)), (9, iA k)]) (fun _ => ⟨[], []⟩)
            (fun k => k ≤ b.length) (fun k => b.length - k) 0 (Nat.zero_le _) ⟨rfl, rfl, rfl, rfl, trivial⟩ rfl ?_
          rintro k hk K hK
          have hg := pcK_good h1 h2 k hk
          repeat (first
              | refine tr_seq_k fun _ _ => ?_
              | (refine tr_region ?_; simp only [go_sem, List.getElem?_toArray, str_beq, reduceCtorEq, Nat.reduceEqDiff, Nat.reduceLT, Nat.reduceLeDiff, Nat.reduceAdd, Nat.reduceMul, Nat.reduceSub, Nat.reduceBEq, ↓reduceIte, bne_self_eq_false, Bool.and_false, Bool.false_and, Bool.true_or, Bool.false_or])
              | (refine tr_drawC (id := 8) follows 10000 (by kernel_rfl) ?_; simp only [go_sem, List.getElem?_toArray, str_beq, reduceCtorEq, Nat.reduceEqDiff, Nat.reduceLT, Nat.reduceLeDiff, Nat.reduceAdd, Nat.reduceMul, Nat.reduceSub, Nat.reduceBEq, ↓reduceIte, bne_self_eq_false, Bool.and_false, Bool.false_and, Bool.true_or, Bool.false_or])
              | (refine tr_draw (id := 9) follows 10000 [8] [0, 1, 2, 3, 4, 5, 6, 7, 8, 9] (by kernel_rfl) ?_; simp only [go_sem, List.getElem?_toArray, str_beq, reduceCtorEq, Nat.reduceEqDiff, Nat.reduceLT, Nat.reduceLeDiff, Nat.reduceAdd, Nat.reduceMul, Nat.reduceSub, Nat.reduceBEq, ↓reduceIte, bne_self_eq_false, Bool.and_false, Bool.false_and, Bool.true_or, Bool.false_or])
              | refine k_of (by assumption) ?_
              | refine tr_block ?_
              | refine tr_scope ?_
              | (refine tr_skip ?_; try simp only [ex_seq, ex_block])
              | (refine tr_label ?_; try simp only [ex_seq, ex_block])
              | (refine tr_exit ?_; try simp only [ex_seq_exit, ex_block_exit, Nat.reduceEqDiff, if_true, if_false, ex_seq, ex_block, reduceCtorEq, ↓reduceIte])
              | (refine tr_ret ?_; try simp only [ex_seq_ret, ex_block_ret]))
          refine tr_cond rfl (fun ht => ?_) (fun hf => ?_)
          · have hlt : k < b.length := by simpa using ht
            have ws := wrap_succ (show k ≤ 1000000000 by omega)
            have cG := r4get_does a b[k].var exa (by omega)
            have hnx := pcompK_next (a := a) hlt
            unfold pcStep at hnx
            cases hs : (pget a b[k].var).isSome with
            | true =>
              rw [hs] at hnx cG
              have hnx : pcompK a b (k + 1) = pcompK a b k := hnx
              repeat (first
                  | refine tr_seq_k fun _ _ => ?_
                  | (refine tr_region ?_; simp only [go_sem, List.getElem?_toArray, str_beq, reduceCtorEq, Nat.reduceEqDiff, Nat.reduceLT, Nat.reduceLeDiff, Nat.reduceAdd, Nat.reduceMul, Nat.reduceSub, Nat.reduceBEq, ↓reduceIte, bne_self_eq_false, Bool.and_false, Bool.false_and, Bool.true_or, Bool.false_or, idxB hlt])
                  | (refine tr_drawC (id := 8) follows 10000 (by kernel_rfl) ?_; simp only [go_sem, List.getElem?_toArray, str_beq, reduceCtorEq, Nat.reduceEqDiff, Nat.reduceLT, Nat.reduceLeDiff, Nat.reduceAdd, Nat.reduceMul, Nat.reduceSub, Nat.reduceBEq, ↓reduceIte, bne_self_eq_false, Bool.and_false, Bool.false_and, Bool.true_or, Bool.false_or, idxB hlt])
                  | (refine tr_draw (id := 9) follows 10000 [8] [0, 1, 2, 3, 4, 5, 6, 7, 8, 9] (by kernel_rfl) ?_; simp only [go_sem, List.getElem?_toArray, str_beq, reduceCtorEq, Nat.reduceEqDiff, Nat.reduceLT, Nat.reduceLeDiff, Nat.reduceAdd, Nat.reduceMul, Nat.reduceSub, Nat.reduceBEq, ↓reduceIte, bne_self_eq_false, Bool.and_false, Bool.false_and, Bool.true_or, Bool.false_or, idxB hlt])
                  | (refine call_of (cG) ?_ ?_
                     · first | rfl | simp only [go_sem, List.getElem?_toArray, str_beq, reduceCtorEq, Nat.reduceEqDiff, Nat.reduceLT, Nat.reduceLeDiff, Nat.reduceAdd, Nat.reduceMul, Nat.reduceSub, Nat.reduceBEq, ↓reduceIte, bne_self_eq_false, Bool.and_false, Bool.false_and, Bool.true_or, Bool.false_or, idxB hlt, shut_col]
                     simp only [go_sem, List.getElem?_toArray, str_beq, reduceCtorEq, Nat.reduceEqDiff, Nat.reduceLT, Nat.reduceLeDiff, Nat.reduceAdd, Nat.reduceMul, Nat.reduceSub, Nat.reduceBEq, ↓reduceIte, bne_self_eq_false, Bool.and_false, Bool.false_and, Bool.true_or, Bool.false_or, idxB hlt])
                  | refine k_of (by assumption) ?_
                  | refine tr_block ?_
                  | refine tr_scope ?_
                  | (refine tr_skip ?_; try simp only [ex_seq, ex_block])
                  | (refine tr_label ?_; try simp only [ex_seq, ex_block])
                  | (refine tr_exit ?_; try simp only [ex_seq_exit, ex_block_exit, Nat.reduceEqDiff, if_true, if_false, ex_seq, ex_block, reduceCtorEq, ↓reduceIte])
                  | (refine tr_ret ?_; try simp only [ex_seq_ret, ex_block_ret]))
              refine tr_cond rfl (fun ht => ?_) (fun hf => ?_)
              · cases ht
              · repeat (first
                    | refine tr_seq_k fun _ _ => ?_
                    | (refine tr_region ?_; simp only [go_sem, List.getElem?_toArray, str_beq, reduceCtorEq, Nat.reduceEqDiff, Nat.reduceLT, Nat.reduceLeDiff, Nat.reduceAdd, Nat.reduceMul, Nat.reduceSub, Nat.reduceBEq, ↓reduceIte, bne_self_eq_false, Bool.and_false, Bool.false_and, Bool.true_or, Bool.false_or, ws])
                    | (refine tr_drawC (id := 8) follows 10000 (by kernel_rfl) ?_; simp only [go_sem, List.getElem?_toArray, str_beq, reduceCtorEq, Nat.reduceEqDiff, Nat.reduceLT, Nat.reduceLeDiff, Nat.reduceAdd, Nat.reduceMul, Nat.reduceSub, Nat.reduceBEq, ↓reduceIte, bne_self_eq_false, Bool.and_false, Bool.false_and, Bool.true_or, Bool.false_or, ws])
                    | (refine tr_draw (id := 9) follows 10000 [8] [0, 1, 2, 3, 4, 5, 6, 7, 8, 9] (by kernel_rfl) ?_; simp only [go_sem, List.getElem?_toArray, str_beq, reduceCtorEq, Nat.reduceEqDiff, Nat.reduceLT, Nat.reduceLeDiff, Nat.reduceAdd, Nat.reduceMul, Nat.reduceSub, Nat.reduceBEq, ↓reduceIte, bne_self_eq_false, Bool.and_false, Bool.false_and, Bool.true_or, Bool.false_or, ws])
                    | refine k_of (by assumption) ?_
                    | refine tr_block ?_
                    | refine tr_scope ?_
                    | (refine tr_skip ?_; try simp only [ex_seq, ex_block])
                    | (refine tr_label ?_; try simp only [ex_seq, ex_block])
                    | (refine tr_exit ?_; try simp only [ex_seq_exit, ex_block_exit, Nat.reduceEqDiff, if_true, if_false, ex_seq, ex_block, reduceCtorEq, ↓reduceIte])
                    | (refine tr_ret ?_; try simp only [ex_seq_ret, ex_block_ret]))
                exact hK (k + 1) _ _ hlt ⟨⟨rfl, rfl, by rw [hnx]; rfl, rfl, trivial⟩, Keep.of (eh := [_]) (ew := []) rfl rfl, rfl, rfl, Nat.le_refl _, Nat.le_refl _⟩ (by omega)
            | false =>
              rw [hs] at hnx cG
              have hnx : pcompK a b (k + 1) = pwith (pcompK a b k) b[k] := hnx
              have cP := put_does (pcompK a b k) b[k] (pcompK a b k).isEmpty (by have := hg.2.2; omega)
              rw [← hnx] at cP
              repeat (first
                  | refine tr_seq_k fun _ _ => ?_
                  | (refine tr_region ?_; simp only [go_sem, List.getElem?_toArray, str_beq, reduceCtorEq, Nat.reduceEqDiff, Nat.reduceLT, Nat.reduceLeDiff, Nat.reduceAdd, Nat.reduceMul, Nat.reduceSub, Nat.reduceBEq, ↓reduceIte, bne_self_eq_false, Bool.and_false, Bool.false_and, Bool.true_or, Bool.false_or, idxB hlt])
                  | (refine tr_drawC (id := 8) follows 10000 (by kernel_rfl) ?_; simp only [go_sem, List.getElem?_toArray, str_beq, reduceCtorEq, Nat.reduceEqDiff, Nat.reduceLT, Nat.reduceLeDiff, Nat.reduceAdd, Nat.reduceMul, Nat.reduceSub, Nat.reduceBEq, ↓reduceIte, bne_self_eq_false, Bool.and_false, Bool.false_and, Bool.true_or, Bool.false_or, idxB hlt])
                  | (refine tr_draw (id := 9) follows 10000 [8] [0, 1, 2, 3, 4, 5, 6, 7, 8, 9] (by kernel_rfl) ?_; simp only [go_sem, List.getElem?_toArray, str_beq, reduceCtorEq, Nat.reduceEqDiff, Nat.reduceLT, Nat.reduceLeDiff, Nat.reduceAdd, Nat.reduceMul, Nat.reduceSub, Nat.reduceBEq, ↓reduceIte, bne_self_eq_false, Bool.and_false, Bool.false_and, Bool.true_or, Bool.false_or, idxB hlt])
                  | (refine call_of (cG) ?_ ?_
                     · first | rfl | simp only [go_sem, List.getElem?_toArray, str_beq, reduceCtorEq, Nat.reduceEqDiff, Nat.reduceLT, Nat.reduceLeDiff, Nat.reduceAdd, Nat.reduceMul, Nat.reduceSub, Nat.reduceBEq, ↓reduceIte, bne_self_eq_false, Bool.and_false, Bool.false_and, Bool.true_or, Bool.false_or, idxB hlt, shut_col]
                     simp only [go_sem, List.getElem?_toArray, str_beq, reduceCtorEq, Nat.reduceEqDiff, Nat.reduceLT, Nat.reduceLeDiff, Nat.reduceAdd, Nat.reduceMul, Nat.reduceSub, Nat.reduceBEq, ↓reduceIte, bne_self_eq_false, Bool.and_false, Bool.false_and, Bool.true_or, Bool.false_or, idxB hlt])
                  | refine k_of (by assumption) ?_
                  | refine tr_block ?_
                  | refine tr_scope ?_
                  | (refine tr_skip ?_; try simp only [ex_seq, ex_block])
                  | (refine tr_label ?_; try simp only [ex_seq, ex_block])
                  | (refine tr_exit ?_; try simp only [ex_seq_exit, ex_block_exit, Nat.reduceEqDiff, if_true, if_false, ex_seq, ex_block, reduceCtorEq, ↓reduceIte])
                  | (refine tr_ret ?_; try simp only [ex_seq_ret, ex_block_ret]))
              refine tr_cond rfl (fun ht => ?_) (fun hf => ?_)
              · repeat (first
                    | refine tr_seq_k fun _ _ => ?_
                    | (refine tr_region ?_; simp only [go_sem, List.getElem?_toArray, str_beq, reduceCtorEq, Nat.reduceEqDiff, Nat.reduceLT, Nat.reduceLeDiff, Nat.reduceAdd, Nat.reduceMul, Nat.reduceSub, Nat.reduceBEq, ↓reduceIte, bne_self_eq_false, Bool.and_false, Bool.false_and, Bool.true_or, Bool.false_or, idxB hlt, ws])
                    | (refine tr_drawC (id := 8) follows 10000 (by kernel_rfl) ?_; simp only [go_sem, List.getElem?_toArray, str_beq, reduceCtorEq, Nat.reduceEqDiff, Nat.reduceLT, Nat.reduceLeDiff, Nat.reduceAdd, Nat.reduceMul, Nat.reduceSub, Nat.reduceBEq, ↓reduceIte, bne_self_eq_false, Bool.and_false, Bool.false_and, Bool.true_or, Bool.false_or, idxB hlt, ws])
                    | (refine tr_draw (id := 9) follows 10000 [8] [0, 1, 2, 3, 4, 5, 6, 7, 8, 9] (by kernel_rfl) ?_; simp only [go_sem, List.getElem?_toArray, str_beq, reduceCtorEq, Nat.reduceEqDiff, Nat.reduceLT, Nat.reduceLeDiff, Nat.reduceAdd, Nat.reduceMul, Nat.reduceSub, Nat.reduceBEq, ↓reduceIte, bne_self_eq_false, Bool.and_false, Bool.false_and, Bool.true_or, Bool.false_or, idxB hlt, ws])
                    | (refine call_of (cP) ?_ ?_
                       · first | rfl | simp only [go_sem, List.getElem?_toArray, str_beq, reduceCtorEq, Nat.reduceEqDiff, Nat.reduceLT, Nat.reduceLeDiff, Nat.reduceAdd, Nat.reduceMul, Nat.reduceSub, Nat.reduceBEq, ↓reduceIte, bne_self_eq_false, Bool.and_false, Bool.false_and, Bool.true_or, Bool.false_or, idxB hlt, ws, shut_col]
                       simp only [go_sem, List.getElem?_toArray, str_beq, reduceCtorEq, Nat.reduceEqDiff, Nat.reduceLT, Nat.reduceLeDiff, Nat.reduceAdd, Nat.reduceMul, Nat.reduceSub, Nat.reduceBEq, ↓reduceIte, bne_self_eq_false, Bool.and_false, Bool.false_and, Bool.true_or, Bool.false_or, idxB hlt, ws])
                    | refine k_of (by assumption) ?_
                    | refine tr_block ?_
                    | refine tr_scope ?_
                    | (refine tr_skip ?_; try simp only [ex_seq, ex_block])
                    | (refine tr_label ?_; try simp only [ex_seq, ex_block])
                    | (refine tr_exit ?_; try simp only [ex_seq_exit, ex_block_exit, Nat.reduceEqDiff, if_true, if_false, ex_seq, ex_block, reduceCtorEq, ↓reduceIte])
                    | (refine tr_ret ?_; try simp only [ex_seq_ret, ex_block_ret]))
                exact hK (k + 1) _ _ hlt ⟨⟨rfl, rfl, rfl, rfl, trivial⟩, Keep.of (eh := [_]) (ew := []) rfl rfl, rfl, rfl, Nat.le_refl _, Nat.le_refl _⟩ (by omega)
              · cases hf
          · have hkl : k = b.length := by
              have := of_decide_eq_false hf
              omega
            subst hkl
            rw [pcompK_all] at hg ⊢
            have cF := r4check_does (pcompL a b) (pcompL a b).isEmpty (by have := hg.2.2; omega)
            cases h3 : pcheck (pcompL a b) with
            | true =>
              rw [h3] at cF
              have hE : pcE a b = true := by unfold pcE; rw [h1, h2, h3]; rfl
              have hR : pcR a b = pcompL a b := by unfold pcR; rw [hE]; rfl
              repeat (first
                  | refine tr_seq_k fun _ _ => ?_
                  | (refine tr_region ?_; simp only [go_sem, List.getElem?_toArray, str_beq, reduceCtorEq, Nat.reduceEqDiff, Nat.reduceLT, Nat.reduceLeDiff, Nat.reduceAdd, Nat.reduceMul, Nat.reduceSub, Nat.reduceBEq, ↓reduceIte, bne_self_eq_false, Bool.and_false, Bool.false_and, Bool.true_or, Bool.false_or])
                  | (refine tr_drawC (id := 8) follows 10000 (by kernel_rfl) ?_; simp only [go_sem, List.getElem?_toArray, str_beq, reduceCtorEq, Nat.reduceEqDiff, Nat.reduceLT, Nat.reduceLeDiff, Nat.reduceAdd, Nat.reduceMul, Nat.reduceSub, Nat.reduceBEq, ↓reduceIte, bne_self_eq_false, Bool.and_false, Bool.false_and, Bool.true_or, Bool.false_or])
                  | (refine tr_draw (id := 9) follows 10000 [8] [0, 1, 2, 3, 4, 5, 6, 7, 8, 9] (by kernel_rfl) ?_; simp only [go_sem, List.getElem?_toArray, str_beq, reduceCtorEq, Nat.reduceEqDiff, Nat.reduceLT, Nat.reduceLeDiff, Nat.reduceAdd, Nat.reduceMul, Nat.reduceSub, Nat.reduceBEq, ↓reduceIte, bne_self_eq_false, Bool.and_false, Bool.false_and, Bool.true_or, Bool.false_or])
                  | (refine call_of (cF) ?_ ?_
                     · first | rfl | simp only [go_sem, List.getElem?_toArray, str_beq, reduceCtorEq, Nat.reduceEqDiff, Nat.reduceLT, Nat.reduceLeDiff, Nat.reduceAdd, Nat.reduceMul, Nat.reduceSub, Nat.reduceBEq, ↓reduceIte, bne_self_eq_false, Bool.and_false, Bool.false_and, Bool.true_or, Bool.false_or, shut_col]
                     simp only [go_sem, List.getElem?_toArray, str_beq, reduceCtorEq, Nat.reduceEqDiff, Nat.reduceLT, Nat.reduceLeDiff, Nat.reduceAdd, Nat.reduceMul, Nat.reduceSub, Nat.reduceBEq, ↓reduceIte, bne_self_eq_false, Bool.and_false, Bool.false_and, Bool.true_or, Bool.false_or])
                  | refine k_of (by assumption) ?_
                  | refine tr_block ?_
                  | refine tr_scope ?_
                  | (refine tr_skip ?_; try simp only [ex_seq, ex_block])
                  | (refine tr_label ?_; try simp only [ex_seq, ex_block])
                  | (refine tr_exit ?_; try simp only [ex_seq_exit, ex_block_exit, Nat.reduceEqDiff, if_true, if_false, ex_seq, ex_block, reduceCtorEq, ↓reduceIte])
                  | (refine tr_ret ?_; try simp only [ex_seq_ret, ex_block_ret]))
              refine tr_cond rfl (fun ht => ?_) (fun hf => ?_)
              · cases ht
              · repeat (first
                    | refine tr_seq_k fun _ _ => ?_
                    | (refine tr_region ?_; simp only [go_sem, List.getElem?_toArray, str_beq, reduceCtorEq, Nat.reduceEqDiff, Nat.reduceLT, Nat.reduceLeDiff, Nat.reduceAdd, Nat.reduceMul, Nat.reduceSub, Nat.reduceBEq, ↓reduceIte, bne_self_eq_false, Bool.and_false, Bool.false_and, Bool.true_or, Bool.false_or])
                    | (refine tr_drawC (id := 8) follows 10000 (by kernel_rfl) ?_; simp only [go_sem, List.getElem?_toArray, str_beq, reduceCtorEq, Nat.reduceEqDiff, Nat.reduceLT, Nat.reduceLeDiff, Nat.reduceAdd, Nat.reduceMul, Nat.reduceSub, Nat.reduceBEq, ↓reduceIte, bne_self_eq_false, Bool.and_false, Bool.false_and, Bool.true_or, Bool.false_or])
                    | (refine tr_draw (id := 9) follows 10000 [8] [0, 1, 2, 3, 4, 5, 6, 7, 8, 9] (by kernel_rfl) ?_; simp only [go_sem, List.getElem?_toArray, str_beq, reduceCtorEq, Nat.reduceEqDiff, Nat.reduceLT, Nat.reduceLeDiff, Nat.reduceAdd, Nat.reduceMul, Nat.reduceSub, Nat.reduceBEq, ↓reduceIte, bne_self_eq_false, Bool.and_false, Bool.false_and, Bool.true_or, Bool.false_or])
                    | refine k_of (by assumption) ?_
                    | refine tr_block ?_
                    | refine tr_scope ?_
                    | (refine tr_skip ?_; try simp only [ex_seq, ex_block])
                    | (refine tr_label ?_; try simp only [ex_seq, ex_block])
                    | (refine tr_exit ?_; try simp only [ex_seq_exit, ex_block_exit, Nat.reduceEqDiff, if_true, if_false, ex_seq, ex_block, reduceCtorEq, ↓reduceIte])
                    | (refine tr_ret ?_; try simp only [ex_seq_ret, ex_block_ret]))
                refine (hQ _ _ [slB (pcompL a b).isEmpty (pcompL a b), iA 0] ?_ (fun m => by rw [hE, hR]; rfl)).2 <;> simp only [go_sem, List.getElem?_toArray, str_beq, reduceCtorEq, Nat.reduceEqDiff, Nat.reduceLT, Nat.reduceLeDiff, Nat.reduceAdd, Nat.reduceMul, Nat.reduceSub, Nat.reduceBEq, ↓reduceIte, bne_self_eq_false, Bool.and_false, Bool.false_and, Bool.true_or, Bool.false_or, Try.f36]
            | false =>
              rw [h3] at cF
              have hE : pcE a b = false := by unfold pcE; rw [h1, h2, h3]; rfl
              have hR : pcR a b = [] := by unfold pcR; rw [hE]; rfl
              repeat (first
                  | refine tr_seq_k fun _ _ => ?_
                  | (refine tr_region ?_; simp only [go_sem, List.getElem?_toArray, str_beq, reduceCtorEq, Nat.reduceEqDiff, Nat.reduceLT, Nat.reduceLeDiff, Nat.reduceAdd, Nat.reduceMul, Nat.reduceSub, Nat.reduceBEq, ↓reduceIte, bne_self_eq_false, Bool.and_false, Bool.false_and, Bool.true_or, Bool.false_or])
                  | (refine tr_drawC (id := 8) follows 10000 (by kernel_rfl) ?_; simp only [go_sem, List.getElem?_toArray, str_beq, reduceCtorEq, Nat.reduceEqDiff, Nat.reduceLT, Nat.reduceLeDiff, Nat.reduceAdd, Nat.reduceMul, Nat.reduceSub, Nat.reduceBEq, ↓reduceIte, bne_self_eq_false, Bool.and_false, Bool.false_and, Bool.true_or, Bool.false_or])
                  | (refine tr_draw (id := 9) follows 10000 [8] [0, 1, 2, 3, 4, 5, 6, 7, 8, 9] (by kernel_rfl) ?_; simp only [go_sem, List.getElem?_toArray, str_beq, reduceCtorEq, Nat.reduceEqDiff, Nat.reduceLT, Nat.reduceLeDiff, Nat.reduceAdd, Nat.reduceMul, Nat.reduceSub, Nat.reduceBEq, ↓reduceIte, bne_self_eq_false, Bool.and_false, Bool.false_and, Bool.true_or, Bool.false_or])
                  | (refine call_of (cF) ?_ ?_
                     · first | rfl | simp only [go_sem, List.getElem?_toArray, str_beq, reduceCtorEq, Nat.reduceEqDiff, Nat.reduceLT, Nat.reduceLeDiff, Nat.reduceAdd, Nat.reduceMul, Nat.reduceSub, Nat.reduceBEq, ↓reduceIte, bne_self_eq_false, Bool.and_false, Bool.false_and, Bool.true_or, Bool.false_or, shut_col]
                     simp only [go_sem, List.getElem?_toArray, str_beq, reduceCtorEq, Nat.reduceEqDiff, Nat.reduceLT, Nat.reduceLeDiff, Nat.reduceAdd, Nat.reduceMul, Nat.reduceSub, Nat.reduceBEq, ↓reduceIte, bne_self_eq_false, Bool.and_false, Bool.false_and, Bool.true_or, Bool.false_or])
                  | refine k_of (by assumption) ?_
                  | refine tr_block ?_
                  | refine tr_scope ?_
                  | (refine tr_skip ?_; try simp only [ex_seq, ex_block])
                  | (refine tr_label ?_; try simp only [ex_seq, ex_block])
                  | (refine tr_exit ?_; try simp only [ex_seq_exit, ex_block_exit, Nat.reduceEqDiff, if_true, if_false, ex_seq, ex_block, reduceCtorEq, ↓reduceIte])
                  | (refine tr_ret ?_; try simp only [ex_seq_ret, ex_block_ret]))
              refine tr_cond rfl (fun ht => ?_) (fun hf => ?_)
              · repeat (first
                    | refine tr_seq_k fun _ _ => ?_
                    | (refine tr_region ?_; simp only [go_sem, List.getElem?_toArray, str_beq, reduceCtorEq, Nat.reduceEqDiff, Nat.reduceLT, Nat.reduceLeDiff, Nat.reduceAdd, Nat.reduceMul, Nat.reduceSub, Nat.reduceBEq, ↓reduceIte, bne_self_eq_false, Bool.and_false, Bool.false_and, Bool.true_or, Bool.false_or])
                    | (refine tr_drawC (id := 8) follows 10000 (by kernel_rfl) ?_; simp only [go_sem, List.getElem?_toArray, str_beq, reduceCtorEq, Nat.reduceEqDiff, Nat.reduceLT, Nat.reduceLeDiff, Nat.reduceAdd, Nat.reduceMul, Nat.reduceSub, Nat.reduceBEq, ↓reduceIte, bne_self_eq_false, Bool.and_false, Bool.false_and, Bool.true_or, Bool.false_or])
                    | (refine tr_draw (id := 9) follows 10000 [8] [0, 1, 2, 3, 4, 5, 6, 7, 8, 9] (by kernel_rfl) ?_; simp only [go_sem, List.getElem?_toArray, str_beq, reduceCtorEq, Nat.reduceEqDiff, Nat.reduceLT, Nat.reduceLeDiff, Nat.reduceAdd, Nat.reduceMul, Nat.reduceSub, Nat.reduceBEq, ↓reduceIte, bne_self_eq_false, Bool.and_false, Bool.false_and, Bool.true_or, Bool.false_or])
                    | refine k_of (by assumption) ?_
                    | refine tr_block ?_
                    | refine tr_scope ?_
                    | (refine tr_skip ?_; try simp only [ex_seq, ex_block])
                    | (refine tr_label ?_; try simp only [ex_seq, ex_block])
                    | (refine tr_exit ?_; try simp only [ex_seq_exit, ex_block_exit, Nat.reduceEqDiff, if_true, if_false, ex_seq, ex_block, reduceCtorEq, ↓reduceIte])
                    | (refine tr_ret ?_; try simp only [ex_seq_ret, ex_block_ret]))
                refine (hQ _ _ [.c (.sl true 0 []), iA 15] ?_ (fun m => by rw [hE, hR]; rfl)).2 <;> simp only [go_sem, List.getElem?_toArray, str_beq, reduceCtorEq, Nat.reduceEqDiff, Nat.reduceLT, Nat.reduceLeDiff, Nat.reduceAdd, Nat.reduceMul, Nat.reduceSub, Nat.reduceBEq, ↓reduceIte, bne_self_eq_false, Bool.and_false, Bool.false_and, Bool.true_or, Bool.false_or, Try.f36]
              · cases hf
end Go.Proofs.Ytkkkpbnehpfkkaa

/-
  Chapter 4: SubstTwice: the walk on abstract values.
-/
set_option linter.unusedSimpArgs false
set_option linter.unusedVariables false
namespace Go.Proofs.Ytkkkpbnehpfkkaa
open Go.Vs Go.Vs.Ab
set_option maxRecDepth 100000
set_option maxHeartbeats 4000000

theorem bin_neA4' (x y : Operand) (s t : Atm) : pureVal Try.prog (do eqGuard .neq 27 x y (.agg s.cells) (.agg t.cells); binOp .neq 27 (.agg s.cells) (.agg t.cells)) = some (.bool (!decide (s = t))) := by
  have hg : Try.prog.eqGuardType Try.prog.depth 27 = false := by kernel_rfl
  have h := pv_eq_at (d := 9996) s t
  have g : pureVal Try.prog (eqGuard .neq 27 x y (.agg s.cells) (.agg t.cells)) = some () := by
    simp [eqGuard, pv_bind, pv_prog, pv_pure, hg]
  rw [pv_bind, g, Option.bind_some]
  have e : binOp .neq 27 (.agg s.cells) (.agg t.cells) = (do pure (Value.bool (!(← Op.equal 27 (.agg s.cells) (.agg t.cells))))) := rfl
  rw [e, pv_bind]
  have h' : pureVal Try.prog (Op.equal 27 (.agg s.cells) (.agg t.cells)) = some (decide (s = t)) := h
  rw [h']
  rfl
theorem bin_neA4 (x y : Operand) (s t : Atm) : pureVal Try.prog (do eqGuard .neq 27 x y (.agg [.string s.says, .string s.pred, .int .i64 s.n, .bool s.a0.v, .string s.a0.name, .bool s.a1.v, .string s.a1.name, .bool s.a2.v, .string s.a2.name, .bool s.a3.v, .string s.a3.name].toArray) (.agg [.string t.says, .string t.pred, .int .i64 t.n, .bool t.a0.v, .string t.a0.name, .bool t.a1.v, .string t.a1.name, .bool t.a2.v, .string t.a2.name, .bool t.a3.v, .string t.a3.name].toArray); binOp .neq 27 (.agg [.string s.says, .string s.pred, .int .i64 s.n, .bool s.a0.v, .string s.a0.name, .bool s.a1.v, .string s.a1.name, .bool s.a2.v, .string s.a2.name, .bool s.a3.v, .string s.a3.name].toArray) (.agg [.string t.says, .string t.pred, .int .i64 t.n, .bool t.a0.v, .string t.a0.name, .bool t.a1.v, .string t.a1.name, .bool t.a2.v, .string t.a2.name, .bool t.a3.v, .string t.a3.name].toArray)) = some (.bool (!decide (s = t))) := bin_neA4' x y s t
theorem lightBs_20 {l : List Bd} (h : lightBs l = true) : l.length ≤ 20 := by
  unfold lightBs at h
  simp only [Bool.and_eq_true, decide_eq_true_eq] at h
  exact h.1
theorem twice_does (a b : List Bd) (x : Atm) (exa exb : Bool) : Does Try.prog 6 [slB exa a, slB exb b, atA x] (fun m => (bA true, m)) := by
  have hA := lightA_does x
  have la := lightBs_does a exa
  have lb := lightBs_does b exb
  cases h1 : lightBs a with
  | false =>
    rw [h1] at la
    refine does_of' Try.func6 rfl (by kernel_rfl) rfl Try.ntmps6 rfl rfl fun Q hQ => ?_
    repeat (first
        | refine tr_seq_k fun _ _ => ?_
        | (refine tr_region ?_; simp only [go_sem, List.getElem?_toArray, str_beq, reduceCtorEq, Nat.reduceEqDiff, Nat.reduceLT, Nat.reduceLeDiff, Nat.reduceAdd, Nat.reduceMul, Nat.reduceSub, Nat.reduceBEq, ↓reduceIte, bne_self_eq_false, Bool.and_false, Bool.false_and, Bool.true_or, Bool.false_or])
        | (refine tr_draw (id := 7) follows 10000 [1, 6] [0, 1, 2, 3, 4, 5, 7, 6, 8, 9] (by kernel_rfl) ?_; simp only [go_sem, List.getElem?_toArray, str_beq, reduceCtorEq, Nat.reduceEqDiff, Nat.reduceLT, Nat.reduceLeDiff, Nat.reduceAdd, Nat.reduceMul, Nat.reduceSub, Nat.reduceBEq, ↓reduceIte, bne_self_eq_false, Bool.and_false, Bool.false_and, Bool.true_or, Bool.false_or])
        | (refine tr_draw (id := 12) follows 10000 [1, 6, 9] [0, 1, 2, 3, 4, 5, 7, 8, 6, 9, 10, 11, 12] (by kernel_rfl) ?_; simp only [go_sem, List.getElem?_toArray, str_beq, reduceCtorEq, Nat.reduceEqDiff, Nat.reduceLT, Nat.reduceLeDiff, Nat.reduceAdd, Nat.reduceMul, Nat.reduceSub, Nat.reduceBEq, ↓reduceIte, bne_self_eq_false, Bool.and_false, Bool.false_and, Bool.true_or, Bool.false_or])
        | (refine call_of (lives_does) ?_ ?_
           · first | rfl | simp only [go_sem, List.getElem?_toArray, str_beq, reduceCtorEq, Nat.reduceEqDiff, Nat.reduceLT, Nat.reduceLeDiff, Nat.reduceAdd, Nat.reduceMul, Nat.reduceSub, Nat.reduceBEq, ↓reduceIte, bne_self_eq_false, Bool.and_false, Bool.false_and, Bool.true_or, Bool.false_or, shut_col]
           simp only [go_sem, List.getElem?_toArray, str_beq, reduceCtorEq, Nat.reduceEqDiff, Nat.reduceLT, Nat.reduceLeDiff, Nat.reduceAdd, Nat.reduceMul, Nat.reduceSub, Nat.reduceBEq, ↓reduceIte, bne_self_eq_false, Bool.and_false, Bool.false_and, Bool.true_or, Bool.false_or])
        | refine k_of (by assumption) ?_
        | refine tr_block ?_
        | refine tr_scope ?_
        | (refine tr_skip ?_; try simp only [ex_seq, ex_block])
        | (refine tr_label ?_; try simp only [ex_seq, ex_block])
        | (refine tr_exit ?_; try simp only [ex_seq_exit, ex_block_exit, Nat.reduceEqDiff, if_true, if_false, ex_seq, ex_block, reduceCtorEq, ↓reduceIte])
        | (refine tr_ret ?_; try simp only [ex_seq_ret, ex_block_ret]))
    refine tr_cond rfl (fun ht => ?_) (fun hf => ?_)
    · cases ht
    · repeat (first
          | refine tr_seq_k fun _ _ => ?_
          | (refine tr_region ?_; simp only [go_sem, List.getElem?_toArray, str_beq, reduceCtorEq, Nat.reduceEqDiff, Nat.reduceLT, Nat.reduceLeDiff, Nat.reduceAdd, Nat.reduceMul, Nat.reduceSub, Nat.reduceBEq, ↓reduceIte, bne_self_eq_false, Bool.and_false, Bool.false_and, Bool.true_or, Bool.false_or])
          | (refine tr_draw (id := 7) follows 10000 [1, 6] [0, 1, 2, 3, 4, 5, 7, 6, 8, 9] (by kernel_rfl) ?_; simp only [go_sem, List.getElem?_toArray, str_beq, reduceCtorEq, Nat.reduceEqDiff, Nat.reduceLT, Nat.reduceLeDiff, Nat.reduceAdd, Nat.reduceMul, Nat.reduceSub, Nat.reduceBEq, ↓reduceIte, bne_self_eq_false, Bool.and_false, Bool.false_and, Bool.true_or, Bool.false_or])
          | (refine tr_draw (id := 12) follows 10000 [1, 6, 9] [0, 1, 2, 3, 4, 5, 7, 8, 6, 9, 10, 11, 12] (by kernel_rfl) ?_; simp only [go_sem, List.getElem?_toArray, str_beq, reduceCtorEq, Nat.reduceEqDiff, Nat.reduceLT, Nat.reduceLeDiff, Nat.reduceAdd, Nat.reduceMul, Nat.reduceSub, Nat.reduceBEq, ↓reduceIte, bne_self_eq_false, Bool.and_false, Bool.false_and, Bool.true_or, Bool.false_or])
          | (refine call_of (la) ?_ ?_
             · first | rfl | simp only [go_sem, List.getElem?_toArray, str_beq, reduceCtorEq, Nat.reduceEqDiff, Nat.reduceLT, Nat.reduceLeDiff, Nat.reduceAdd, Nat.reduceMul, Nat.reduceSub, Nat.reduceBEq, ↓reduceIte, bne_self_eq_false, Bool.and_false, Bool.false_and, Bool.true_or, Bool.false_or, shut_col]
             simp only [go_sem, List.getElem?_toArray, str_beq, reduceCtorEq, Nat.reduceEqDiff, Nat.reduceLT, Nat.reduceLeDiff, Nat.reduceAdd, Nat.reduceMul, Nat.reduceSub, Nat.reduceBEq, ↓reduceIte, bne_self_eq_false, Bool.and_false, Bool.false_and, Bool.true_or, Bool.false_or])
          | refine k_of (by assumption) ?_
          | refine tr_block ?_
          | refine tr_scope ?_
          | (refine tr_skip ?_; try simp only [ex_seq, ex_block])
          | (refine tr_label ?_; try simp only [ex_seq, ex_block])
          | (refine tr_exit ?_; try simp only [ex_seq_exit, ex_block_exit, Nat.reduceEqDiff, if_true, if_false, ex_seq, ex_block, reduceCtorEq, ↓reduceIte])
          | (refine tr_ret ?_; try simp only [ex_seq_ret, ex_block_ret]))
      refine tr_cond rfl (fun ht => ?_) (fun hf => ?_)
      · repeat (first
            | refine tr_seq_k fun _ _ => ?_
            | (refine tr_region ?_; simp only [go_sem, List.getElem?_toArray, str_beq, reduceCtorEq, Nat.reduceEqDiff, Nat.reduceLT, Nat.reduceLeDiff, Nat.reduceAdd, Nat.reduceMul, Nat.reduceSub, Nat.reduceBEq, ↓reduceIte, bne_self_eq_false, Bool.and_false, Bool.false_and, Bool.true_or, Bool.false_or])
            | (refine tr_draw (id := 7) follows 10000 [1, 6] [0, 1, 2, 3, 4, 5, 7, 6, 8, 9] (by kernel_rfl) ?_; simp only [go_sem, List.getElem?_toArray, str_beq, reduceCtorEq, Nat.reduceEqDiff, Nat.reduceLT, Nat.reduceLeDiff, Nat.reduceAdd, Nat.reduceMul, Nat.reduceSub, Nat.reduceBEq, ↓reduceIte, bne_self_eq_false, Bool.and_false, Bool.false_and, Bool.true_or, Bool.false_or])
            | (refine tr_draw (id := 12) follows 10000 [1, 6, 9] [0, 1, 2, 3, 4, 5, 7, 8, 6, 9, 10, 11, 12] (by kernel_rfl) ?_; simp only [go_sem, List.getElem?_toArray, str_beq, reduceCtorEq, Nat.reduceEqDiff, Nat.reduceLT, Nat.reduceLeDiff, Nat.reduceAdd, Nat.reduceMul, Nat.reduceSub, Nat.reduceBEq, ↓reduceIte, bne_self_eq_false, Bool.and_false, Bool.false_and, Bool.true_or, Bool.false_or])
            | refine k_of (by assumption) ?_
            | refine tr_block ?_
            | refine tr_scope ?_
            | (refine tr_skip ?_; try simp only [ex_seq, ex_block])
            | (refine tr_label ?_; try simp only [ex_seq, ex_block])
            | (refine tr_exit ?_; try simp only [ex_seq_exit, ex_block_exit, Nat.reduceEqDiff, if_true, if_false, ex_seq, ex_block, reduceCtorEq, ↓reduceIte])
            | (refine tr_ret ?_; try simp only [ex_seq_ret, ex_block_ret]))
        refine (hQ _ _ [bA true] ?_ (fun m => ?_)).2 <;> simp only [go_sem, List.getElem?_toArray, str_beq, reduceCtorEq, Nat.reduceEqDiff, Nat.reduceLT, Nat.reduceLeDiff, Nat.reduceAdd, Nat.reduceMul, Nat.reduceSub, Nat.reduceBEq, ↓reduceIte, bne_self_eq_false, Bool.and_false, Bool.false_and, Bool.true_or, Bool.false_or, Try.f6,]
      · cases hf
  | true =>
    rw [h1] at la
    cases h2 : lightBs b with
    | false =>
      rw [h2] at lb
      refine does_of' Try.func6 rfl (by kernel_rfl) rfl Try.ntmps6 rfl rfl fun Q hQ => ?_
      repeat (first
          | refine tr_seq_k fun _ _ => ?_
          | (refine tr_region ?_; simp only [go_sem, List.getElem?_toArray, str_beq, reduceCtorEq, Nat.reduceEqDiff, Nat.reduceLT, Nat.reduceLeDiff, Nat.reduceAdd, Nat.reduceMul, Nat.reduceSub, Nat.reduceBEq, ↓reduceIte, bne_self_eq_false, Bool.and_false, Bool.false_and, Bool.true_or, Bool.false_or])
          | (refine tr_draw (id := 7) follows 10000 [1, 6] [0, 1, 2, 3, 4, 5, 7, 6, 8, 9] (by kernel_rfl) ?_; simp only [go_sem, List.getElem?_toArray, str_beq, reduceCtorEq, Nat.reduceEqDiff, Nat.reduceLT, Nat.reduceLeDiff, Nat.reduceAdd, Nat.reduceMul, Nat.reduceSub, Nat.reduceBEq, ↓reduceIte, bne_self_eq_false, Bool.and_false, Bool.false_and, Bool.true_or, Bool.false_or])
          | (refine tr_draw (id := 12) follows 10000 [1, 6, 9] [0, 1, 2, 3, 4, 5, 7, 8, 6, 9, 10, 11, 12] (by kernel_rfl) ?_; simp only [go_sem, List.getElem?_toArray, str_beq, reduceCtorEq, Nat.reduceEqDiff, Nat.reduceLT, Nat.reduceLeDiff, Nat.reduceAdd, Nat.reduceMul, Nat.reduceSub, Nat.reduceBEq, ↓reduceIte, bne_self_eq_false, Bool.and_false, Bool.false_and, Bool.true_or, Bool.false_or])
          | (refine call_of (lives_does) ?_ ?_
             · first | rfl | simp only [go_sem, List.getElem?_toArray, str_beq, reduceCtorEq, Nat.reduceEqDiff, Nat.reduceLT, Nat.reduceLeDiff, Nat.reduceAdd, Nat.reduceMul, Nat.reduceSub, Nat.reduceBEq, ↓reduceIte, bne_self_eq_false, Bool.and_false, Bool.false_and, Bool.true_or, Bool.false_or, shut_col]
             simp only [go_sem, List.getElem?_toArray, str_beq, reduceCtorEq, Nat.reduceEqDiff, Nat.reduceLT, Nat.reduceLeDiff, Nat.reduceAdd, Nat.reduceMul, Nat.reduceSub, Nat.reduceBEq, ↓reduceIte, bne_self_eq_false, Bool.and_false, Bool.false_and, Bool.true_or, Bool.false_or])
          | refine k_of (by assumption) ?_
          | refine tr_block ?_
          | refine tr_scope ?_
          | (refine tr_skip ?_; try simp only [ex_seq, ex_block])
          | (refine tr_label ?_; try simp only [ex_seq, ex_block])
          | (refine tr_exit ?_; try simp only [ex_seq_exit, ex_block_exit, Nat.reduceEqDiff, if_true, if_false, ex_seq, ex_block, reduceCtorEq, ↓reduceIte])
          | (refine tr_ret ?_; try simp only [ex_seq_ret, ex_block_ret]))
      refine tr_cond rfl (fun ht => ?_) (fun hf => ?_)
      · cases ht
      · repeat (first
            | refine tr_seq_k fun _ _ => ?_
            | (refine tr_region ?_; simp only [go_sem, List.getElem?_toArray, str_beq, reduceCtorEq, Nat.reduceEqDiff, Nat.reduceLT, Nat.reduceLeDiff, Nat.reduceAdd, Nat.reduceMul, Nat.reduceSub, Nat.reduceBEq, ↓reduceIte, bne_self_eq_false, Bool.and_false, Bool.false_and, Bool.true_or, Bool.false_or])
            | (refine tr_draw (id := 7) follows 10000 [1, 6] [0, 1, 2, 3, 4, 5, 7, 6, 8, 9] (by kernel_rfl) ?_; simp only [go_sem, List.getElem?_toArray, str_beq, reduceCtorEq, Nat.reduceEqDiff, Nat.reduceLT, Nat.reduceLeDiff, Nat.reduceAdd, Nat.reduceMul, Nat.reduceSub, Nat.reduceBEq, ↓reduceIte, bne_self_eq_false, Bool.and_false, Bool.false_and, Bool.true_or, Bool.false_or])
            | (refine tr_draw (id := 12) follows 10000 [1, 6, 9] [0, 1, 2, 3, 4, 5, 7, 8, 6, 9, 10, 11, 12] (by kernel_rfl) ?_; simp only [go_sem, List.getElem?_toArray, str_beq, reduceCtorEq, Nat.reduceEqDiff, Nat.reduceLT, Nat.reduceLeDiff, Nat.reduceAdd, Nat.reduceMul, Nat.reduceSub, Nat.reduceBEq, ↓reduceIte, bne_self_eq_false, Bool.and_false, Bool.false_and, Bool.true_or, Bool.false_or])
            | (refine call_of (la) ?_ ?_
               · first | rfl | simp only [go_sem, List.getElem?_toArray, str_beq, reduceCtorEq, Nat.reduceEqDiff, Nat.reduceLT, Nat.reduceLeDiff, Nat.reduceAdd, Nat.reduceMul, Nat.reduceSub, Nat.reduceBEq, ↓reduceIte, bne_self_eq_false, Bool.and_false, Bool.false_and, Bool.true_or, Bool.false_or, shut_col]
               simp only [go_sem, List.getElem?_toArray, str_beq, reduceCtorEq, Nat.reduceEqDiff, Nat.reduceLT, Nat.reduceLeDiff, Nat.reduceAdd, Nat.reduceMul, Nat.reduceSub, Nat.reduceBEq, ↓reduceIte, bne_self_eq_false, Bool.and_false, Bool.false_and, Bool.true_or, Bool.false_or])
            | (refine call_of (lb) ?_ ?_
               · first | rfl | simp only [go_sem, List.getElem?_toArray, str_beq, reduceCtorEq, Nat.reduceEqDiff, Nat.reduceLT, Nat.reduceLeDiff, Nat.reduceAdd, Nat.reduceMul, Nat.reduceSub, Nat.reduceBEq, ↓reduceIte, bne_self_eq_false, Bool.and_false, Bool.false_and, Bool.true_or, Bool.false_or, shut_col]
               simp only [go_sem, List.getElem?_toArray, str_beq, reduceCtorEq, Nat.reduceEqDiff, Nat.reduceLT, Nat.reduceLeDiff, Nat.reduceAdd, Nat.reduceMul, Nat.reduceSub, Nat.reduceBEq, ↓reduceIte, bne_self_eq_false, Bool.and_false, Bool.false_and, Bool.true_or, Bool.false_or])
            | refine k_of (by assumption) ?_
            | refine tr_block ?_
            | refine tr_scope ?_
            | (refine tr_skip ?_; try simp only [ex_seq, ex_block])
            | (refine tr_label ?_; try simp only [ex_seq, ex_block])
            | (refine tr_exit ?_; try simp only [ex_seq_exit, ex_block_exit, Nat.reduceEqDiff, if_true, if_false, ex_seq, ex_block, reduceCtorEq, ↓reduceIte])
            | (refine tr_ret ?_; try simp only [ex_seq_ret, ex_block_ret]))
        refine tr_cond rfl (fun ht => ?_) (fun hf => ?_)
        · repeat (first
              | refine tr_seq_k fun _ _ => ?_
              | (refine tr_region ?_; simp only [go_sem, List.getElem?_toArray, str_beq, reduceCtorEq, Nat.reduceEqDiff, Nat.reduceLT, Nat.reduceLeDiff, Nat.reduceAdd, Nat.reduceMul, Nat.reduceSub, Nat.reduceBEq, ↓reduceIte, bne_self_eq_false, Bool.and_false, Bool.false_and, Bool.true_or, Bool.false_or])
              | (refine tr_draw (id := 7) follows 10000 [1, 6] [0, 1, 2, 3, 4, 5, 7, 6, 8, 9] (by kernel_rfl) ?_; simp only [go_sem, List.getElem?_toArray, str_beq, reduceCtorEq, Nat.reduceEqDiff, Nat.reduceLT, Nat.reduceLeDiff, Nat.reduceAdd, Nat.reduceMul, Nat.reduceSub, Nat.reduceBEq, ↓reduceIte, bne_self_eq_false, Bool.and_false, Bool.false_and, Bool.true_or, Bool.false_or])
              | (refine tr_draw (id := 12) follows 10000 [1, 6, 9] [0, 1, 2, 3, 4, 5, 7, 8, 6, 9, 10, 11, 12] (by kernel_rfl) ?_; simp only [go_sem, List.getElem?_toArray, str_beq, reduceCtorEq, Nat.reduceEqDiff, Nat.reduceLT, Nat.reduceLeDiff, Nat.reduceAdd, Nat.reduceMul, Nat.reduceSub, Nat.reduceBEq, ↓reduceIte, bne_self_eq_false, Bool.and_false, Bool.false_and, Bool.true_or, Bool.false_or])
              | refine k_of (by assumption) ?_
              | refine tr_block ?_
              | refine tr_scope ?_
              | (refine tr_skip ?_; try simp only [ex_seq, ex_block])
              | (refine tr_label ?_; try simp only [ex_seq, ex_block])
              | (refine tr_exit ?_; try simp only [ex_seq_exit, ex_block_exit, Nat.reduceEqDiff, if_true, if_false, ex_seq, ex_block, reduceCtorEq, ↓reduceIte])
              | (refine tr_ret ?_; try simp only [ex_seq_ret, ex_block_ret]))
          refine (hQ _ _ [bA true] ?_ (fun m => ?_)).2 <;> simp only [go_sem, List.getElem?_toArray, str_beq, reduceCtorEq, Nat.reduceEqDiff, Nat.reduceLT, Nat.reduceLeDiff, Nat.reduceAdd, Nat.reduceMul, Nat.reduceSub, Nat.reduceBEq, ↓reduceIte, bne_self_eq_false, Bool.and_false, Bool.false_and, Bool.true_or, Bool.false_or, Try.f6,]
        · cases hf
    | true =>
      rw [h2] at lb
      cases h3 : lightA x with
      | false =>
        rw [h3] at hA
        refine does_of' Try.func6 rfl (by kernel_rfl) rfl Try.ntmps6 rfl rfl fun Q hQ => ?_
        repeat (first
            | refine tr_seq_k fun _ _ => ?_
            | (refine tr_region ?_; simp only [go_sem, List.getElem?_toArray, str_beq, reduceCtorEq, Nat.reduceEqDiff, Nat.reduceLT, Nat.reduceLeDiff, Nat.reduceAdd, Nat.reduceMul, Nat.reduceSub, Nat.reduceBEq, ↓reduceIte, bne_self_eq_false, Bool.and_false, Bool.false_and, Bool.true_or, Bool.false_or])
            | (refine tr_draw (id := 7) follows 10000 [1, 6] [0, 1, 2, 3, 4, 5, 7, 6, 8, 9] (by kernel_rfl) ?_; simp only [go_sem, List.getElem?_toArray, str_beq, reduceCtorEq, Nat.reduceEqDiff, Nat.reduceLT, Nat.reduceLeDiff, Nat.reduceAdd, Nat.reduceMul, Nat.reduceSub, Nat.reduceBEq, ↓reduceIte, bne_self_eq_false, Bool.and_false, Bool.false_and, Bool.true_or, Bool.false_or])
            | (refine tr_draw (id := 12) follows 10000 [1, 6, 9] [0, 1, 2, 3, 4, 5, 7, 8, 6, 9, 10, 11, 12] (by kernel_rfl) ?_; simp only [go_sem, List.getElem?_toArray, str_beq, reduceCtorEq, Nat.reduceEqDiff, Nat.reduceLT, Nat.reduceLeDiff, Nat.reduceAdd, Nat.reduceMul, Nat.reduceSub, Nat.reduceBEq, ↓reduceIte, bne_self_eq_false, Bool.and_false, Bool.false_and, Bool.true_or, Bool.false_or])
            | (refine call_of (lives_does) ?_ ?_
               · first | rfl | simp only [go_sem, List.getElem?_toArray, str_beq, reduceCtorEq, Nat.reduceEqDiff, Nat.reduceLT, Nat.reduceLeDiff, Nat.reduceAdd, Nat.reduceMul, Nat.reduceSub, Nat.reduceBEq, ↓reduceIte, bne_self_eq_false, Bool.and_false, Bool.false_and, Bool.true_or, Bool.false_or, shut_col]
               simp only [go_sem, List.getElem?_toArray, str_beq, reduceCtorEq, Nat.reduceEqDiff, Nat.reduceLT, Nat.reduceLeDiff, Nat.reduceAdd, Nat.reduceMul, Nat.reduceSub, Nat.reduceBEq, ↓reduceIte, bne_self_eq_false, Bool.and_false, Bool.false_and, Bool.true_or, Bool.false_or])
            | refine k_of (by assumption) ?_
            | refine tr_block ?_
            | refine tr_scope ?_
            | (refine tr_skip ?_; try simp only [ex_seq, ex_block])
            | (refine tr_label ?_; try simp only [ex_seq, ex_block])
            | (refine tr_exit ?_; try simp only [ex_seq_exit, ex_block_exit, Nat.reduceEqDiff, if_true, if_false, ex_seq, ex_block, reduceCtorEq, ↓reduceIte])
            | (refine tr_ret ?_; try simp only [ex_seq_ret, ex_block_ret]))
        refine tr_cond rfl (fun ht => ?_) (fun hf => ?_)
        · cases ht
        · repeat (first
              | refine tr_seq_k fun _ _ => ?_
              | (refine tr_region ?_; simp only [go_sem, List.getElem?_toArray, str_beq, reduceCtorEq, Nat.reduceEqDiff, Nat.reduceLT, Nat.reduceLeDiff, Nat.reduceAdd, Nat.reduceMul, Nat.reduceSub, Nat.reduceBEq, ↓reduceIte, bne_self_eq_false, Bool.and_false, Bool.false_and, Bool.true_or, Bool.false_or])
              | (refine tr_draw (id := 7) follows 10000 [1, 6] [0, 1, 2, 3, 4, 5, 7, 6, 8, 9] (by kernel_rfl) ?_; simp only [go_sem, List.getElem?_toArray, str_beq, reduceCtorEq, Nat.reduceEqDiff, Nat.reduceLT, Nat.reduceLeDiff, Nat.reduceAdd, Nat.reduceMul, Nat.reduceSub, Nat.reduceBEq, ↓reduceIte, bne_self_eq_false, Bool.and_false, Bool.false_and, Bool.true_or, Bool.false_or])
              | (refine tr_draw (id := 12) follows 10000 [1, 6, 9] [0, 1, 2, 3, 4, 5, 7, 8, 6, 9, 10, 11, 12] (by kernel_rfl) ?_; simp only [go_sem, List.getElem?_toArray, str_beq, reduceCtorEq, Nat.reduceEqDiff, Nat.reduceLT, Nat.reduceLeDiff, Nat.reduceAdd, Nat.reduceMul, Nat.reduceSub, Nat.reduceBEq, ↓reduceIte, bne_self_eq_false, Bool.and_false, Bool.false_and, Bool.true_or, Bool.false_or])
              | (refine call_of (la) ?_ ?_
                 · first | rfl | simp only [go_sem, List.getElem?_toArray, str_beq, reduceCtorEq, Nat.reduceEqDiff, Nat.reduceLT, Nat.reduceLeDiff, Nat.reduceAdd, Nat.reduceMul, Nat.reduceSub, Nat.reduceBEq, ↓reduceIte, bne_self_eq_false, Bool.and_false, Bool.false_and, Bool.true_or, Bool.false_or, shut_col]
                 simp only [go_sem, List.getElem?_toArray, str_beq, reduceCtorEq, Nat.reduceEqDiff, Nat.reduceLT, Nat.reduceLeDiff, Nat.reduceAdd, Nat.reduceMul, Nat.reduceSub, Nat.reduceBEq, ↓reduceIte, bne_self_eq_false, Bool.and_false, Bool.false_and, Bool.true_or, Bool.false_or])
              | (refine call_of (lb) ?_ ?_
                 · first | rfl | simp only [go_sem, List.getElem?_toArray, str_beq, reduceCtorEq, Nat.reduceEqDiff, Nat.reduceLT, Nat.reduceLeDiff, Nat.reduceAdd, Nat.reduceMul, Nat.reduceSub, Nat.reduceBEq, ↓reduceIte, bne_self_eq_false, Bool.and_false, Bool.false_and, Bool.true_or, Bool.false_or, shut_col]
                 simp only [go_sem, List.getElem?_toArray, str_beq, reduceCtorEq, Nat.reduceEqDiff, Nat.reduceLT, Nat.reduceLeDiff, Nat.reduceAdd, Nat.reduceMul, Nat.reduceSub, Nat.reduceBEq, ↓reduceIte, bne_self_eq_false, Bool.and_false, Bool.false_and, Bool.true_or, Bool.false_or])
              | (refine call_of (hA) ?_ ?_
                 · first | rfl | simp only [go_sem, List.getElem?_toArray, str_beq, reduceCtorEq, Nat.reduceEqDiff, Nat.reduceLT, Nat.reduceLeDiff, Nat.reduceAdd, Nat.reduceMul, Nat.reduceSub, Nat.reduceBEq, ↓reduceIte, bne_self_eq_false, Bool.and_false, Bool.false_and, Bool.true_or, Bool.false_or, shut_col]
                 simp only [go_sem, List.getElem?_toArray, str_beq, reduceCtorEq, Nat.reduceEqDiff, Nat.reduceLT, Nat.reduceLeDiff, Nat.reduceAdd, Nat.reduceMul, Nat.reduceSub, Nat.reduceBEq, ↓reduceIte, bne_self_eq_false, Bool.and_false, Bool.false_and, Bool.true_or, Bool.false_or])
              | refine k_of (by assumption) ?_
              | refine tr_block ?_
              | refine tr_scope ?_
              | (refine tr_skip ?_; try simp only [ex_seq, ex_block])
              | (refine tr_label ?_; try simp only [ex_seq, ex_block])
              | (refine tr_exit ?_; try simp only [ex_seq_exit, ex_block_exit, Nat.reduceEqDiff, if_true, if_false, ex_seq, ex_block, reduceCtorEq, ↓reduceIte])
              | (refine tr_ret ?_; try simp only [ex_seq_ret, ex_block_ret]))
          refine tr_cond rfl (fun ht => ?_) (fun hf => ?_)
          · repeat (first
                | refine tr_seq_k fun _ _ => ?_
                | (refine tr_region ?_; simp only [go_sem, List.getElem?_toArray, str_beq, reduceCtorEq, Nat.reduceEqDiff, Nat.reduceLT, Nat.reduceLeDiff, Nat.reduceAdd, Nat.reduceMul, Nat.reduceSub, Nat.reduceBEq, ↓reduceIte, bne_self_eq_false, Bool.and_false, Bool.false_and, Bool.true_or, Bool.false_or])
                | (refine tr_draw (id := 7) follows 10000 [1, 6] [0, 1, 2, 3, 4, 5, 7, 6, 8, 9] (by kernel_rfl) ?_; simp only [go_sem, List.getElem?_toArray, str_beq, reduceCtorEq, Nat.reduceEqDiff, Nat.reduceLT, Nat.reduceLeDiff, Nat.reduceAdd, Nat.reduceMul, Nat.reduceSub, Nat.reduceBEq, ↓reduceIte, bne_self_eq_false, Bool.and_false, Bool.false_and, Bool.true_or, Bool.false_or])
                | (refine tr_draw (id := 12) follows 10000 [1, 6, 9] [0, 1, 2, 3, 4, 5, 7, 8, 6, 9, 10, 11, 12] (by kernel_rfl) ?_; simp only [go_sem, List.getElem?_toArray, str_beq, reduceCtorEq, Nat.reduceEqDiff, Nat.reduceLT, Nat.reduceLeDiff, Nat.reduceAdd, Nat.reduceMul, Nat.reduceSub, Nat.reduceBEq, ↓reduceIte, bne_self_eq_false, Bool.and_false, Bool.false_and, Bool.true_or, Bool.false_or])
                | refine k_of (by assumption) ?_
                | refine tr_block ?_
                | refine tr_scope ?_
                | (refine tr_skip ?_; try simp only [ex_seq, ex_block])
                | (refine tr_label ?_; try simp only [ex_seq, ex_block])
                | (refine tr_exit ?_; try simp only [ex_seq_exit, ex_block_exit, Nat.reduceEqDiff, if_true, if_false, ex_seq, ex_block, reduceCtorEq, ↓reduceIte])
                | (refine tr_ret ?_; try simp only [ex_seq_ret, ex_block_ret]))
            refine (hQ _ _ [bA true] ?_ (fun m => ?_)).2 <;> simp only [go_sem, List.getElem?_toArray, str_beq, reduceCtorEq, Nat.reduceEqDiff, Nat.reduceLT, Nat.reduceLeDiff, Nat.reduceAdd, Nat.reduceMul, Nat.reduceSub, Nat.reduceBEq, ↓reduceIte, bne_self_eq_false, Bool.and_false, Bool.false_and, Bool.true_or, Bool.false_or, Try.f6,]
          · cases hf
      | true =>
        rw [h3] at hA
        have ha20 := lightBs_20 h1
        have hb20 := lightBs_20 h2
        have ma := made_does a exa (by omega)
        have mb := made_does b exb (by omega)
        have na := pmade_len a
        have nb := pmade_len b
        have ka := made_check a
        have kb := made_check b
        generalize pmade a = A at *
        generalize pmade b = B at *
        have aA := apply_does A x A.isEmpty (by omega)
        have cA := check_does A A.isEmpty (by omega)
        rw [ka] at cA
        have aY := apply_does A (papp A x) A.isEmpty (by omega)
        rw [app_twice ka] at aY
        have oA := ownB_does A A.isEmpty (by omega)
        have oB := ownB_does B B.isEmpty (by omega)
        have cC := compose_does A B false false (by omega) (by omega)
        have n1 := fun x' y' => bin_neA4 x' y' (papp A x) (papp A x)
        rw [decide_eq_true rfl, Bool.not_true] at n1
        simp only [pv_bind] at n1
        cases hE : pcE A B with
        | false =>
          have hR : pcR A B = [] := by unfold pcR; rw [hE]; rfl
          rw [hE, hR] at cC
          refine does_of' Try.func6 rfl (by kernel_rfl) rfl Try.ntmps6 rfl rfl fun Q hQ => ?_
          repeat (first
              | refine tr_seq_k fun _ _ => ?_
              | (refine tr_region ?_; simp only [go_sem, List.getElem?_toArray, str_beq, reduceCtorEq, Nat.reduceEqDiff, Nat.reduceLT, Nat.reduceLeDiff, Nat.reduceAdd, Nat.reduceMul, Nat.reduceSub, Nat.reduceBEq, ↓reduceIte, bne_self_eq_false, Bool.and_false, Bool.false_and, Bool.true_or, Bool.false_or])
              | (refine tr_draw (id := 7) follows 10000 [1, 6] [0, 1, 2, 3, 4, 5, 7, 6, 8, 9] (by kernel_rfl) ?_; simp only [go_sem, List.getElem?_toArray, str_beq, reduceCtorEq, Nat.reduceEqDiff, Nat.reduceLT, Nat.reduceLeDiff, Nat.reduceAdd, Nat.reduceMul, Nat.reduceSub, Nat.reduceBEq, ↓reduceIte, bne_self_eq_false, Bool.and_false, Bool.false_and, Bool.true_or, Bool.false_or])
              | (refine tr_draw (id := 12) follows 10000 [1, 6, 9] [0, 1, 2, 3, 4, 5, 7, 8, 6, 9, 10, 11, 12] (by kernel_rfl) ?_; simp only [go_sem, List.getElem?_toArray, str_beq, reduceCtorEq, Nat.reduceEqDiff, Nat.reduceLT, Nat.reduceLeDiff, Nat.reduceAdd, Nat.reduceMul, Nat.reduceSub, Nat.reduceBEq, ↓reduceIte, bne_self_eq_false, Bool.and_false, Bool.false_and, Bool.true_or, Bool.false_or])
              | (refine call_of (lives_does) ?_ ?_
                 · first | rfl | simp only [go_sem, List.getElem?_toArray, str_beq, reduceCtorEq, Nat.reduceEqDiff, Nat.reduceLT, Nat.reduceLeDiff, Nat.reduceAdd, Nat.reduceMul, Nat.reduceSub, Nat.reduceBEq, ↓reduceIte, bne_self_eq_false, Bool.and_false, Bool.false_and, Bool.true_or, Bool.false_or, shut_col]
                 simp only [go_sem, List.getElem?_toArray, str_beq, reduceCtorEq, Nat.reduceEqDiff, Nat.reduceLT, Nat.reduceLeDiff, Nat.reduceAdd, Nat.reduceMul, Nat.reduceSub, Nat.reduceBEq, ↓reduceIte, bne_self_eq_false, Bool.and_false, Bool.false_and, Bool.true_or, Bool.false_or])
              | refine k_of (by assumption) ?_
              | refine tr_block ?_
              | refine tr_scope ?_
              | (refine tr_skip ?_; try simp only [ex_seq, ex_block])
              | (refine tr_label ?_; try simp only [ex_seq, ex_block])
              | (refine tr_exit ?_; try simp only [ex_seq_exit, ex_block_exit, Nat.reduceEqDiff, if_true, if_false, ex_seq, ex_block, reduceCtorEq, ↓reduceIte])
              | (refine tr_ret ?_; try simp only [ex_seq_ret, ex_block_ret]))
          refine tr_cond rfl (fun ht => ?_) (fun hf => ?_)
          · cases ht
          · repeat (first
                | refine tr_seq_k fun _ _ => ?_
                | (refine tr_region ?_; simp only [go_sem, List.getElem?_toArray, str_beq, reduceCtorEq, Nat.reduceEqDiff, Nat.reduceLT, Nat.reduceLeDiff, Nat.reduceAdd, Nat.reduceMul, Nat.reduceSub, Nat.reduceBEq, ↓reduceIte, bne_self_eq_false, Bool.and_false, Bool.false_and, Bool.true_or, Bool.false_or])
                | (refine tr_draw (id := 7) follows 10000 [1, 6] [0, 1, 2, 3, 4, 5, 7, 6, 8, 9] (by kernel_rfl) ?_; simp only [go_sem, List.getElem?_toArray, str_beq, reduceCtorEq, Nat.reduceEqDiff, Nat.reduceLT, Nat.reduceLeDiff, Nat.reduceAdd, Nat.reduceMul, Nat.reduceSub, Nat.reduceBEq, ↓reduceIte, bne_self_eq_false, Bool.and_false, Bool.false_and, Bool.true_or, Bool.false_or])
                | (refine tr_draw (id := 12) follows 10000 [1, 6, 9] [0, 1, 2, 3, 4, 5, 7, 8, 6, 9, 10, 11, 12] (by kernel_rfl) ?_; simp only [go_sem, List.getElem?_toArray, str_beq, reduceCtorEq, Nat.reduceEqDiff, Nat.reduceLT, Nat.reduceLeDiff, Nat.reduceAdd, Nat.reduceMul, Nat.reduceSub, Nat.reduceBEq, ↓reduceIte, bne_self_eq_false, Bool.and_false, Bool.false_and, Bool.true_or, Bool.false_or])
                | (refine call_of (la) ?_ ?_
                   · first | rfl | simp only [go_sem, List.getElem?_toArray, str_beq, reduceCtorEq, Nat.reduceEqDiff, Nat.reduceLT, Nat.reduceLeDiff, Nat.reduceAdd, Nat.reduceMul, Nat.reduceSub, Nat.reduceBEq, ↓reduceIte, bne_self_eq_false, Bool.and_false, Bool.false_and, Bool.true_or, Bool.false_or, shut_col]
                   simp only [go_sem, List.getElem?_toArray, str_beq, reduceCtorEq, Nat.reduceEqDiff, Nat.reduceLT, Nat.reduceLeDiff, Nat.reduceAdd, Nat.reduceMul, Nat.reduceSub, Nat.reduceBEq, ↓reduceIte, bne_self_eq_false, Bool.and_false, Bool.false_and, Bool.true_or, Bool.false_or])
                | (refine call_of (lb) ?_ ?_
                   · first | rfl | simp only [go_sem, List.getElem?_toArray, str_beq, reduceCtorEq, Nat.reduceEqDiff, Nat.reduceLT, Nat.reduceLeDiff, Nat.reduceAdd, Nat.reduceMul, Nat.reduceSub, Nat.reduceBEq, ↓reduceIte, bne_self_eq_false, Bool.and_false, Bool.false_and, Bool.true_or, Bool.false_or, shut_col]
                   simp only [go_sem, List.getElem?_toArray, str_beq, reduceCtorEq, Nat.reduceEqDiff, Nat.reduceLT, Nat.reduceLeDiff, Nat.reduceAdd, Nat.reduceMul, Nat.reduceSub, Nat.reduceBEq, ↓reduceIte, bne_self_eq_false, Bool.and_false, Bool.false_and, Bool.true_or, Bool.false_or])
                | (refine call_of (hA) ?_ ?_
                   · first | rfl | simp only [go_sem, List.getElem?_toArray, str_beq, reduceCtorEq, Nat.reduceEqDiff, Nat.reduceLT, Nat.reduceLeDiff, Nat.reduceAdd, Nat.reduceMul, Nat.reduceSub, Nat.reduceBEq, ↓reduceIte, bne_self_eq_false, Bool.and_false, Bool.false_and, Bool.true_or, Bool.false_or, shut_col]
                   simp only [go_sem, List.getElem?_toArray, str_beq, reduceCtorEq, Nat.reduceEqDiff, Nat.reduceLT, Nat.reduceLeDiff, Nat.reduceAdd, Nat.reduceMul, Nat.reduceSub, Nat.reduceBEq, ↓reduceIte, bne_self_eq_false, Bool.and_false, Bool.false_and, Bool.true_or, Bool.false_or])
                | refine k_of (by assumption) ?_
                | refine tr_block ?_
                | refine tr_scope ?_
                | (refine tr_skip ?_; try simp only [ex_seq, ex_block])
                | (refine tr_label ?_; try simp only [ex_seq, ex_block])
                | (refine tr_exit ?_; try simp only [ex_seq_exit, ex_block_exit, Nat.reduceEqDiff, if_true, if_false, ex_seq, ex_block, reduceCtorEq, ↓reduceIte])
                | (refine tr_ret ?_; try simp only [ex_seq_ret, ex_block_ret]))
            refine tr_cond rfl (fun ht => ?_) (fun hf => ?_)
            · cases ht
            · repeat (first
                  | refine tr_seq_k fun _ _ => ?_
                  | (refine tr_region ?_; simp only [go_sem, List.getElem?_toArray, str_beq, reduceCtorEq, Nat.reduceEqDiff, Nat.reduceLT, Nat.reduceLeDiff, Nat.reduceAdd, Nat.reduceMul, Nat.reduceSub, Nat.reduceBEq, ↓reduceIte, bne_self_eq_false, Bool.and_false, Bool.false_and, Bool.true_or, Bool.false_or, z15, z00, n1])
                  | (refine tr_draw (id := 7) follows 10000 [1, 6] [0, 1, 2, 3, 4, 5, 7, 6, 8, 9] (by kernel_rfl) ?_; simp only [go_sem, List.getElem?_toArray, str_beq, reduceCtorEq, Nat.reduceEqDiff, Nat.reduceLT, Nat.reduceLeDiff, Nat.reduceAdd, Nat.reduceMul, Nat.reduceSub, Nat.reduceBEq, ↓reduceIte, bne_self_eq_false, Bool.and_false, Bool.false_and, Bool.true_or, Bool.false_or, z15, z00, n1])
                  | (refine tr_draw (id := 12) follows 10000 [1, 6, 9] [0, 1, 2, 3, 4, 5, 7, 8, 6, 9, 10, 11, 12] (by kernel_rfl) ?_; simp only [go_sem, List.getElem?_toArray, str_beq, reduceCtorEq, Nat.reduceEqDiff, Nat.reduceLT, Nat.reduceLeDiff, Nat.reduceAdd, Nat.reduceMul, Nat.reduceSub, Nat.reduceBEq, ↓reduceIte, bne_self_eq_false, Bool.and_false, Bool.false_and, Bool.true_or, Bool.false_or, z15, z00, n1])
                  | (refine call_of (ma) ?_ ?_
                     · first | rfl | simp only [go_sem, List.getElem?_toArray, str_beq, reduceCtorEq, Nat.reduceEqDiff, Nat.reduceLT, Nat.reduceLeDiff, Nat.reduceAdd, Nat.reduceMul, Nat.reduceSub, Nat.reduceBEq, ↓reduceIte, bne_self_eq_false, Bool.and_false, Bool.false_and, Bool.true_or, Bool.false_or, z15, z00, n1, shut_col]
                     simp only [go_sem, List.getElem?_toArray, str_beq, reduceCtorEq, Nat.reduceEqDiff, Nat.reduceLT, Nat.reduceLeDiff, Nat.reduceAdd, Nat.reduceMul, Nat.reduceSub, Nat.reduceBEq, ↓reduceIte, bne_self_eq_false, Bool.and_false, Bool.false_and, Bool.true_or, Bool.false_or, z15, z00, n1])
                  | (refine call_of (mb) ?_ ?_
                     · first | rfl | simp only [go_sem, List.getElem?_toArray, str_beq, reduceCtorEq, Nat.reduceEqDiff, Nat.reduceLT, Nat.reduceLeDiff, Nat.reduceAdd, Nat.reduceMul, Nat.reduceSub, Nat.reduceBEq, ↓reduceIte, bne_self_eq_false, Bool.and_false, Bool.false_and, Bool.true_or, Bool.false_or, z15, z00, n1, shut_col]
                     simp only [go_sem, List.getElem?_toArray, str_beq, reduceCtorEq, Nat.reduceEqDiff, Nat.reduceLT, Nat.reduceLeDiff, Nat.reduceAdd, Nat.reduceMul, Nat.reduceSub, Nat.reduceBEq, ↓reduceIte, bne_self_eq_false, Bool.and_false, Bool.false_and, Bool.true_or, Bool.false_or, z15, z00, n1])
                  | (refine call_of (aA) ?_ ?_
                     · first | rfl | simp only [go_sem, List.getElem?_toArray, str_beq, reduceCtorEq, Nat.reduceEqDiff, Nat.reduceLT, Nat.reduceLeDiff, Nat.reduceAdd, Nat.reduceMul, Nat.reduceSub, Nat.reduceBEq, ↓reduceIte, bne_self_eq_false, Bool.and_false, Bool.false_and, Bool.true_or, Bool.false_or, z15, z00, n1, shut_col]
                     simp only [go_sem, List.getElem?_toArray, str_beq, reduceCtorEq, Nat.reduceEqDiff, Nat.reduceLT, Nat.reduceLeDiff, Nat.reduceAdd, Nat.reduceMul, Nat.reduceSub, Nat.reduceBEq, ↓reduceIte, bne_self_eq_false, Bool.and_false, Bool.false_and, Bool.true_or, Bool.false_or, z15, z00, n1])
                  | (refine call_of (cA) ?_ ?_
                     · first | rfl | simp only [go_sem, List.getElem?_toArray, str_beq, reduceCtorEq, Nat.reduceEqDiff, Nat.reduceLT, Nat.reduceLeDiff, Nat.reduceAdd, Nat.reduceMul, Nat.reduceSub, Nat.reduceBEq, ↓reduceIte, bne_self_eq_false, Bool.and_false, Bool.false_and, Bool.true_or, Bool.false_or, z15, z00, n1, shut_col]
                     simp only [go_sem, List.getElem?_toArray, str_beq, reduceCtorEq, Nat.reduceEqDiff, Nat.reduceLT, Nat.reduceLeDiff, Nat.reduceAdd, Nat.reduceMul, Nat.reduceSub, Nat.reduceBEq, ↓reduceIte, bne_self_eq_false, Bool.and_false, Bool.false_and, Bool.true_or, Bool.false_or, z15, z00, n1])
                  | (refine call_of (aY) ?_ ?_
                     · first | rfl | simp only [go_sem, List.getElem?_toArray, str_beq, reduceCtorEq, Nat.reduceEqDiff, Nat.reduceLT, Nat.reduceLeDiff, Nat.reduceAdd, Nat.reduceMul, Nat.reduceSub, Nat.reduceBEq, ↓reduceIte, bne_self_eq_false, Bool.and_false, Bool.false_and, Bool.true_or, Bool.false_or, z15, z00, n1, shut_col]
                     simp only [go_sem, List.getElem?_toArray, str_beq, reduceCtorEq, Nat.reduceEqDiff, Nat.reduceLT, Nat.reduceLeDiff, Nat.reduceAdd, Nat.reduceMul, Nat.reduceSub, Nat.reduceBEq, ↓reduceIte, bne_self_eq_false, Bool.and_false, Bool.false_and, Bool.true_or, Bool.false_or, z15, z00, n1])
                  | refine k_of (by assumption) ?_
                  | refine tr_block ?_
                  | refine tr_scope ?_
                  | (refine tr_skip ?_; try simp only [ex_seq, ex_block])
                  | (refine tr_label ?_; try simp only [ex_seq, ex_block])
                  | (refine tr_exit ?_; try simp only [ex_seq_exit, ex_block_exit, Nat.reduceEqDiff, if_true, if_false, ex_seq, ex_block, reduceCtorEq, ↓reduceIte])
                  | (refine tr_ret ?_; try simp only [ex_seq_ret, ex_block_ret]))
              refine tr_cond rfl (fun ht => ?_) (fun hf => ?_)
              · cases ht
              · repeat (first
                    | refine tr_seq_k fun _ _ => ?_
                    | (refine tr_region ?_; simp only [go_sem, List.getElem?_toArray, str_beq, reduceCtorEq, Nat.reduceEqDiff, Nat.reduceLT, Nat.reduceLeDiff, Nat.reduceAdd, Nat.reduceMul, Nat.reduceSub, Nat.reduceBEq, ↓reduceIte, bne_self_eq_false, Bool.and_false, Bool.false_and, Bool.true_or, Bool.false_or, z15, z00, show ((15 : Int) == 15) = true from rfl, show (((0 : Nat) : Int) == 0) = true from rfl, Int.natCast_zero, Int.ofNat_zero])
                    | (refine tr_draw (id := 7) follows 10000 [1, 6] [0, 1, 2, 3, 4, 5, 7, 6, 8, 9] (by kernel_rfl) ?_; simp only [go_sem, List.getElem?_toArray, str_beq, reduceCtorEq, Nat.reduceEqDiff, Nat.reduceLT, Nat.reduceLeDiff, Nat.reduceAdd, Nat.reduceMul, Nat.reduceSub, Nat.reduceBEq, ↓reduceIte, bne_self_eq_false, Bool.and_false, Bool.false_and, Bool.true_or, Bool.false_or, z15, z00, show ((15 : Int) == 15) = true from rfl, show (((0 : Nat) : Int) == 0) = true from rfl, Int.natCast_zero, Int.ofNat_zero])
                    | (refine tr_draw (id := 12) follows 10000 [1, 6, 9] [0, 1, 2, 3, 4, 5, 7, 8, 6, 9, 10, 11, 12] (by kernel_rfl) ?_; simp only [go_sem, List.getElem?_toArray, str_beq, reduceCtorEq, Nat.reduceEqDiff, Nat.reduceLT, Nat.reduceLeDiff, Nat.reduceAdd, Nat.reduceMul, Nat.reduceSub, Nat.reduceBEq, ↓reduceIte, bne_self_eq_false, Bool.and_false, Bool.false_and, Bool.true_or, Bool.false_or, z15, z00, show ((15 : Int) == 15) = true from rfl, show (((0 : Nat) : Int) == 0) = true from rfl, Int.natCast_zero, Int.ofNat_zero])
                    | (refine call_of (oA) ?_ ?_
                       · first | rfl | simp only [go_sem, List.getElem?_toArray, str_beq, reduceCtorEq, Nat.reduceEqDiff, Nat.reduceLT, Nat.reduceLeDiff, Nat.reduceAdd, Nat.reduceMul, Nat.reduceSub, Nat.reduceBEq, ↓reduceIte, bne_self_eq_false, Bool.and_false, Bool.false_and, Bool.true_or, Bool.false_or, z15, z00, show ((15 : Int) == 15) = true from rfl, show (((0 : Nat) : Int) == 0) = true from rfl, Int.natCast_zero, Int.ofNat_zero, shut_col]
                       simp only [go_sem, List.getElem?_toArray, str_beq, reduceCtorEq, Nat.reduceEqDiff, Nat.reduceLT, Nat.reduceLeDiff, Nat.reduceAdd, Nat.reduceMul, Nat.reduceSub, Nat.reduceBEq, ↓reduceIte, bne_self_eq_false, Bool.and_false, Bool.false_and, Bool.true_or, Bool.false_or, z15, z00, show ((15 : Int) == 15) = true from rfl, show (((0 : Nat) : Int) == 0) = true from rfl, Int.natCast_zero, Int.ofNat_zero])
                    | (refine call_of (oB) ?_ ?_
                       · first | rfl | simp only [go_sem, List.getElem?_toArray, str_beq, reduceCtorEq, Nat.reduceEqDiff, Nat.reduceLT, Nat.reduceLeDiff, Nat.reduceAdd, Nat.reduceMul, Nat.reduceSub, Nat.reduceBEq, ↓reduceIte, bne_self_eq_false, Bool.and_false, Bool.false_and, Bool.true_or, Bool.false_or, z15, z00, show ((15 : Int) == 15) = true from rfl, show (((0 : Nat) : Int) == 0) = true from rfl, Int.natCast_zero, Int.ofNat_zero, shut_col]
                       simp only [go_sem, List.getElem?_toArray, str_beq, reduceCtorEq, Nat.reduceEqDiff, Nat.reduceLT, Nat.reduceLeDiff, Nat.reduceAdd, Nat.reduceMul, Nat.reduceSub, Nat.reduceBEq, ↓reduceIte, bne_self_eq_false, Bool.and_false, Bool.false_and, Bool.true_or, Bool.false_or, z15, z00, show ((15 : Int) == 15) = true from rfl, show (((0 : Nat) : Int) == 0) = true from rfl, Int.natCast_zero, Int.ofNat_zero])
                    | (refine call_of (cC) ?_ ?_
                       · first | rfl | simp only [go_sem, List.getElem?_toArray, str_beq, reduceCtorEq, Nat.reduceEqDiff, Nat.reduceLT, Nat.reduceLeDiff, Nat.reduceAdd, Nat.reduceMul, Nat.reduceSub, Nat.reduceBEq, ↓reduceIte, bne_self_eq_false, Bool.and_false, Bool.false_and, Bool.true_or, Bool.false_or, z15, z00, show ((15 : Int) == 15) = true from rfl, show (((0 : Nat) : Int) == 0) = true from rfl, Int.natCast_zero, Int.ofNat_zero, shut_col]
                       simp only [go_sem, List.getElem?_toArray, str_beq, reduceCtorEq, Nat.reduceEqDiff, Nat.reduceLT, Nat.reduceLeDiff, Nat.reduceAdd, Nat.reduceMul, Nat.reduceSub, Nat.reduceBEq, ↓reduceIte, bne_self_eq_false, Bool.and_false, Bool.false_and, Bool.true_or, Bool.false_or, z15, z00, show ((15 : Int) == 15) = true from rfl, show (((0 : Nat) : Int) == 0) = true from rfl, Int.natCast_zero, Int.ofNat_zero])
                    | refine k_of (by assumption) ?_
                    | refine tr_block ?_
                    | refine tr_scope ?_
                    | (refine tr_skip ?_; try simp only [ex_seq, ex_block])
                    | (refine tr_label ?_; try simp only [ex_seq, ex_block])
                    | (refine tr_exit ?_; try simp only [ex_seq_exit, ex_block_exit, Nat.reduceEqDiff, if_true, if_false, ex_seq, ex_block, reduceCtorEq, ↓reduceIte])
                    | (refine tr_ret ?_; try simp only [ex_seq_ret, ex_block_ret]))
                refine tr_cond rfl (fun ht => ?_) (fun hf => ?_)
                · repeat (first
                      | refine tr_seq_k fun _ _ => ?_
                      | (refine tr_region ?_; simp only [go_sem, List.getElem?_toArray, str_beq, reduceCtorEq, Nat.reduceEqDiff, Nat.reduceLT, Nat.reduceLeDiff, Nat.reduceAdd, Nat.reduceMul, Nat.reduceSub, Nat.reduceBEq, ↓reduceIte, bne_self_eq_false, Bool.and_false, Bool.false_and, Bool.true_or, Bool.false_or, show ((15 : Int) == 15) = true from rfl, show decide ((15 : Int) = 15) = true from rfl, show decide (((0 : Nat) : Int) = 0) = true from rfl, Int.natCast_zero, Int.ofNat_zero, show ((0 : Int) == 0) = true from rfl])
                      | (refine tr_draw (id := 7) follows 10000 [1, 6] [0, 1, 2, 3, 4, 5, 7, 6, 8, 9] (by kernel_rfl) ?_; simp only [go_sem, List.getElem?_toArray, str_beq, reduceCtorEq, Nat.reduceEqDiff, Nat.reduceLT, Nat.reduceLeDiff, Nat.reduceAdd, Nat.reduceMul, Nat.reduceSub, Nat.reduceBEq, ↓reduceIte, bne_self_eq_false, Bool.and_false, Bool.false_and, Bool.true_or, Bool.false_or, show ((15 : Int) == 15) = true from rfl, show decide ((15 : Int) = 15) = true from rfl, show decide (((0 : Nat) : Int) = 0) = true from rfl, Int.natCast_zero, Int.ofNat_zero, show ((0 : Int) == 0) = true from rfl])
                      | (refine tr_draw (id := 12) follows 10000 [1, 6, 9] [0, 1, 2, 3, 4, 5, 7, 8, 6, 9, 10, 11, 12] (by kernel_rfl) ?_; simp only [go_sem, List.getElem?_toArray, str_beq, reduceCtorEq, Nat.reduceEqDiff, Nat.reduceLT, Nat.reduceLeDiff, Nat.reduceAdd, Nat.reduceMul, Nat.reduceSub, Nat.reduceBEq, ↓reduceIte, bne_self_eq_false, Bool.and_false, Bool.false_and, Bool.true_or, Bool.false_or, show ((15 : Int) == 15) = true from rfl, show decide ((15 : Int) = 15) = true from rfl, show decide (((0 : Nat) : Int) = 0) = true from rfl, Int.natCast_zero, Int.ofNat_zero, show ((0 : Int) == 0) = true from rfl])
                      | refine k_of (by assumption) ?_
                      | refine tr_block ?_
                      | refine tr_scope ?_
                      | (refine tr_skip ?_; try simp only [ex_seq, ex_block])
                      | (refine tr_label ?_; try simp only [ex_seq, ex_block])
                      | (refine tr_exit ?_; try simp only [ex_seq_exit, ex_block_exit, Nat.reduceEqDiff, if_true, if_false, ex_seq, ex_block, reduceCtorEq, ↓reduceIte])
                      | (refine tr_ret ?_; try simp only [ex_seq_ret, ex_block_ret]))
                  refine (hQ _ _ [bA true] ?_ (fun m => rfl)).2 <;> simp only [go_sem, List.getElem?_toArray, str_beq, reduceCtorEq, Nat.reduceEqDiff, Nat.reduceLT, Nat.reduceLeDiff, Nat.reduceAdd, Nat.reduceMul, Nat.reduceSub, Nat.reduceBEq, ↓reduceIte, bne_self_eq_false, Bool.and_false, Bool.false_and, Bool.true_or, Bool.false_or, Try.f6]
                · cases hf
        | true =>
          have hR : pcR A B = pcompL A B := by unfold pcR; rw [hE]; rfl
          have kC : pcheck (pcompL A B) = true := by
            unfold pcE at hE
            simp only [Bool.and_eq_true] at hE
            exact hE.2
          rw [hE, hR] at cC
          have lC := (pcK_good ka kb B.length (Nat.le_refl _)).2.2
          rw [pcompK_all] at lC
          have cD := check_does (pcompL A B) false (by omega)
          rw [kC] at cD
          have aC := apply_does (pcompL A B) x false (by omega)
          rw [comp_app ka kb] at aC
          have aB := apply_does B (papp A x) B.isEmpty (by omega)
          have e1 := fun x' y' => bin_eqA' x' y' (papp B (papp A x)) (papp B (papp A x))
          rw [decide_eq_true rfl] at e1
          simp only [pv_bind] at e1
          refine does_of' Try.func6 rfl (by kernel_rfl) rfl Try.ntmps6 rfl rfl fun Q hQ => ?_
          repeat (first
              | refine tr_seq_k fun _ _ => ?_
              | (refine tr_region ?_; simp only [go_sem, List.getElem?_toArray, str_beq, reduceCtorEq, Nat.reduceEqDiff, Nat.reduceLT, Nat.reduceLeDiff, Nat.reduceAdd, Nat.reduceMul, Nat.reduceSub, Nat.reduceBEq, ↓reduceIte, bne_self_eq_false, Bool.and_false, Bool.false_and, Bool.true_or, Bool.false_or])
              | (refine tr_draw (id := 7) follows 10000 [1, 6] [0, 1, 2, 3, 4, 5, 7, 6, 8, 9] (by kernel_rfl) ?_; simp only [go_sem, List.getElem?_toArray, str_beq, reduceCtorEq, Nat.reduceEqDiff, Nat.reduceLT, Nat.reduceLeDiff, Nat.reduceAdd, Nat.reduceMul, Nat.reduceSub, Nat.reduceBEq, ↓reduceIte, bne_self_eq_false, Bool.and_false, Bool.false_and, Bool.true_or, Bool.false_or])
              | (refine tr_draw (id := 12) follows 10000 [1, 6, 9] [0, 1, 2, 3, 4, 5, 7, 8, 6, 9, 10, 11, 12] (by kernel_rfl) ?_; simp only [go_sem, List.getElem?_toArray, str_beq, reduceCtorEq, Nat.reduceEqDiff, Nat.reduceLT, Nat.reduceLeDiff, Nat.reduceAdd, Nat.reduceMul, Nat.reduceSub, Nat.reduceBEq, ↓reduceIte, bne_self_eq_false, Bool.and_false, Bool.false_and, Bool.true_or, Bool.false_or])
              | (refine call_of (lives_does) ?_ ?_
                 · first | rfl | simp only [go_sem, List.getElem?_toArray, str_beq, reduceCtorEq, Nat.reduceEqDiff, Nat.reduceLT, Nat.reduceLeDiff, Nat.reduceAdd, Nat.reduceMul, Nat.reduceSub, Nat.reduceBEq, ↓reduceIte, bne_self_eq_false, Bool.and_false, Bool.false_and, Bool.true_or, Bool.false_or, shut_col]
                 simp only [go_sem, List.getElem?_toArray, str_beq, reduceCtorEq, Nat.reduceEqDiff, Nat.reduceLT, Nat.reduceLeDiff, Nat.reduceAdd, Nat.reduceMul, Nat.reduceSub, Nat.reduceBEq, ↓reduceIte, bne_self_eq_false, Bool.and_false, Bool.false_and, Bool.true_or, Bool.false_or])
              | refine k_of (by assumption) ?_
              | refine tr_block ?_
              | refine tr_scope ?_
              | (refine tr_skip ?_; try simp only [ex_seq, ex_block])
              | (refine tr_label ?_; try simp only [ex_seq, ex_block])
              | (refine tr_exit ?_; try simp only [ex_seq_exit, ex_block_exit, Nat.reduceEqDiff, if_true, if_false, ex_seq, ex_block, reduceCtorEq, ↓reduceIte])
              | (refine tr_ret ?_; try simp only [ex_seq_ret, ex_block_ret]))
          refine tr_cond rfl (fun ht => ?_) (fun hf => ?_)
          · cases ht
          · repeat (first
                | refine tr_seq_k fun _ _ => ?_
                | (refine tr_region ?_; simp only [go_sem, List.getElem?_toArray, str_beq, reduceCtorEq, Nat.reduceEqDiff, Nat.reduceLT, Nat.reduceLeDiff, Nat.reduceAdd, Nat.reduceMul, Nat.reduceSub, Nat.reduceBEq, ↓reduceIte, bne_self_eq_false, Bool.and_false, Bool.false_and, Bool.true_or, Bool.false_or])
                | (refine tr_draw (id := 7) follows 10000 [1, 6] [0, 1, 2, 3, 4, 5, 7, 6, 8, 9] (by kernel_rfl) ?_; simp only [go_sem, List.getElem?_toArray, str_beq, reduceCtorEq, Nat.reduceEqDiff, Nat.reduceLT, Nat.reduceLeDiff, Nat.reduceAdd, Nat.reduceMul, Nat.reduceSub, Nat.reduceBEq, ↓reduceIte, bne_self_eq_false, Bool.and_false, Bool.false_and, Bool.true_or, Bool.false_or])
                | (refine tr_draw (id := 12) follows 10000 [1, 6, 9] [0, 1, 2, 3, 4, 5, 7, 8, 6, 9, 10, 11, 12] (by kernel_rfl) ?_; simp only [go_sem, List.getElem?_toArray, str_beq, reduceCtorEq, Nat.reduceEqDiff, Nat.reduceLT, Nat.reduceLeDiff, Nat.reduceAdd, Nat.reduceMul, Nat.reduceSub, Nat.reduceBEq, ↓reduceIte, bne_self_eq_false, Bool.and_false, Bool.false_and, Bool.true_or, Bool.false_or])
                | (refine call_of (la) ?_ ?_
                   · first | rfl | simp only [go_sem, List.getElem?_toArray, str_beq, reduceCtorEq, Nat.reduceEqDiff, Nat.reduceLT, Nat.reduceLeDiff, Nat.reduceAdd, Nat.reduceMul, Nat.reduceSub, Nat.reduceBEq, ↓reduceIte, bne_self_eq_false, Bool.and_false, Bool.false_and, Bool.true_or, Bool.false_or, shut_col]
                   simp only [go_sem, List.getElem?_toArray, str_beq, reduceCtorEq, Nat.reduceEqDiff, Nat.reduceLT, Nat.reduceLeDiff, Nat.reduceAdd, Nat.reduceMul, Nat.reduceSub, Nat.reduceBEq, ↓reduceIte, bne_self_eq_false, Bool.and_false, Bool.false_and, Bool.true_or, Bool.false_or])
                | (refine call_of (lb) ?_ ?_
                   · first | rfl | simp only [go_sem, List.getElem?_toArray, str_beq, reduceCtorEq, Nat.reduceEqDiff, Nat.reduceLT, Nat.reduceLeDiff, Nat.reduceAdd, Nat.reduceMul, Nat.reduceSub, Nat.reduceBEq, ↓reduceIte, bne_self_eq_false, Bool.and_false, Bool.false_and, Bool.true_or, Bool.false_or, shut_col]
                   simp only [go_sem, List.getElem?_toArray, str_beq, reduceCtorEq, Nat.reduceEqDiff, Nat.reduceLT, Nat.reduceLeDiff, Nat.reduceAdd, Nat.reduceMul, Nat.reduceSub, Nat.reduceBEq, ↓reduceIte, bne_self_eq_false, Bool.and_false, Bool.false_and, Bool.true_or, Bool.false_or])
                | (refine call_of (hA) ?_ ?_
                   · first | rfl | simp only [go_sem, List.getElem?_toArray, str_beq, reduceCtorEq, Nat.reduceEqDiff, Nat.reduceLT, Nat.reduceLeDiff, Nat.reduceAdd, Nat.reduceMul, Nat.reduceSub, Nat.reduceBEq, ↓reduceIte, bne_self_eq_false, Bool.and_false, Bool.false_and, Bool.true_or, Bool.false_or, shut_col]
                   simp only [go_sem, List.getElem?_toArray, str_beq, reduceCtorEq, Nat.reduceEqDiff, Nat.reduceLT, Nat.reduceLeDiff, Nat.reduceAdd, Nat.reduceMul, Nat.reduceSub, Nat.reduceBEq, ↓reduceIte, bne_self_eq_false, Bool.and_false, Bool.false_and, Bool.true_or, Bool.false_or])
                | refine k_of (by assumption) ?_
                | refine tr_block ?_
                | refine tr_scope ?_
                | (refine tr_skip ?_; try simp only [ex_seq, ex_block])
                | (refine tr_label ?_; try simp only [ex_seq, ex_block])
                | (refine tr_exit ?_; try simp only [ex_seq_exit, ex_block_exit, Nat.reduceEqDiff, if_true, if_false, ex_seq, ex_block, reduceCtorEq, ↓reduceIte])
                | (refine tr_ret ?_; try simp only [ex_seq_ret, ex_block_ret]))
            refine tr_cond rfl (fun ht => ?_) (fun hf => ?_)
            · cases ht
            · repeat (first
                  | refine tr_seq_k fun _ _ => ?_
                  | (refine tr_region ?_; simp only [go_sem, List.getElem?_toArray, str_beq, reduceCtorEq, Nat.reduceEqDiff, Nat.reduceLT, Nat.reduceLeDiff, Nat.reduceAdd, Nat.reduceMul, Nat.reduceSub, Nat.reduceBEq, ↓reduceIte, bne_self_eq_false, Bool.and_false, Bool.false_and, Bool.true_or, Bool.false_or, z15, z00, n1])
                  | (refine tr_draw (id := 7) follows 10000 [1, 6] [0, 1, 2, 3, 4, 5, 7, 6, 8, 9] (by kernel_rfl) ?_; simp only [go_sem, List.getElem?_toArray, str_beq, reduceCtorEq, Nat.reduceEqDiff, Nat.reduceLT, Nat.reduceLeDiff, Nat.reduceAdd, Nat.reduceMul, Nat.reduceSub, Nat.reduceBEq, ↓reduceIte, bne_self_eq_false, Bool.and_false, Bool.false_and, Bool.true_or, Bool.false_or, z15, z00, n1])
                  | (refine tr_draw (id := 12) follows 10000 [1, 6, 9] [0, 1, 2, 3, 4, 5, 7, 8, 6, 9, 10, 11, 12] (by kernel_rfl) ?_; simp only [go_sem, List.getElem?_toArray, str_beq, reduceCtorEq, Nat.reduceEqDiff, Nat.reduceLT, Nat.reduceLeDiff, Nat.reduceAdd, Nat.reduceMul, Nat.reduceSub, Nat.reduceBEq, ↓reduceIte, bne_self_eq_false, Bool.and_false, Bool.false_and, Bool.true_or, Bool.false_or, z15, z00, n1])
                  | (refine call_of (ma) ?_ ?_
                     · first | rfl | simp only [go_sem, List.getElem?_toArray, str_beq, reduceCtorEq, Nat.reduceEqDiff, Nat.reduceLT, Nat.reduceLeDiff, Nat.reduceAdd, Nat.reduceMul, Nat.reduceSub, Nat.reduceBEq, ↓reduceIte, bne_self_eq_false, Bool.and_false, Bool.false_and, Bool.true_or, Bool.false_or, z15, z00, n1, shut_col]
                     simp only [go_sem, List.getElem?_toArray, str_beq, reduceCtorEq, Nat.reduceEqDiff, Nat.reduceLT, Nat.reduceLeDiff, Nat.reduceAdd, Nat.reduceMul, Nat.reduceSub, Nat.reduceBEq, ↓reduceIte, bne_self_eq_false, Bool.and_false, Bool.false_and, Bool.true_or, Bool.false_or, z15, z00, n1])
                  | (refine call_of (mb) ?_ ?_
                     · first | rfl | simp only [go_sem, List.getElem?_toArray, str_beq, reduceCtorEq, Nat.reduceEqDiff, Nat.reduceLT, Nat.reduceLeDiff, Nat.reduceAdd, Nat.reduceMul, Nat.reduceSub, Nat.reduceBEq, ↓reduceIte, bne_self_eq_false, Bool.and_false, Bool.false_and, Bool.true_or, Bool.false_or, z15, z00, n1, shut_col]
                     simp only [go_sem, List.getElem?_toArray, str_beq, reduceCtorEq, Nat.reduceEqDiff, Nat.reduceLT, Nat.reduceLeDiff, Nat.reduceAdd, Nat.reduceMul, Nat.reduceSub, Nat.reduceBEq, ↓reduceIte, bne_self_eq_false, Bool.and_false, Bool.false_and, Bool.true_or, Bool.false_or, z15, z00, n1])
                  | (refine call_of (aA) ?_ ?_
                     · first | rfl | simp only [go_sem, List.getElem?_toArray, str_beq, reduceCtorEq, Nat.reduceEqDiff, Nat.reduceLT, Nat.reduceLeDiff, Nat.reduceAdd, Nat.reduceMul, Nat.reduceSub, Nat.reduceBEq, ↓reduceIte, bne_self_eq_false, Bool.and_false, Bool.false_and, Bool.true_or, Bool.false_or, z15, z00, n1, shut_col]
                     simp only [go_sem, List.getElem?_toArray, str_beq, reduceCtorEq, Nat.reduceEqDiff, Nat.reduceLT, Nat.reduceLeDiff, Nat.reduceAdd, Nat.reduceMul, Nat.reduceSub, Nat.reduceBEq, ↓reduceIte, bne_self_eq_false, Bool.and_false, Bool.false_and, Bool.true_or, Bool.false_or, z15, z00, n1])
                  | (refine call_of (cA) ?_ ?_
                     · first | rfl | simp only [go_sem, List.getElem?_toArray, str_beq, reduceCtorEq, Nat.reduceEqDiff, Nat.reduceLT, Nat.reduceLeDiff, Nat.reduceAdd, Nat.reduceMul, Nat.reduceSub, Nat.reduceBEq, ↓reduceIte, bne_self_eq_false, Bool.and_false, Bool.false_and, Bool.true_or, Bool.false_or, z15, z00, n1, shut_col]
                     simp only [go_sem, List.getElem?_toArray, str_beq, reduceCtorEq, Nat.reduceEqDiff, Nat.reduceLT, Nat.reduceLeDiff, Nat.reduceAdd, Nat.reduceMul, Nat.reduceSub, Nat.reduceBEq, ↓reduceIte, bne_self_eq_false, Bool.and_false, Bool.false_and, Bool.true_or, Bool.false_or, z15, z00, n1])
                  | (refine call_of (aY) ?_ ?_
                     · first | rfl | simp only [go_sem, List.getElem?_toArray, str_beq, reduceCtorEq, Nat.reduceEqDiff, Nat.reduceLT, Nat.reduceLeDiff, Nat.reduceAdd, Nat.reduceMul, Nat.reduceSub, Nat.reduceBEq, ↓reduceIte, bne_self_eq_false, Bool.and_false, Bool.false_and, Bool.true_or, Bool.false_or, z15, z00, n1, shut_col]
                     simp only [go_sem, List.getElem?_toArray, str_beq, reduceCtorEq, Nat.reduceEqDiff, Nat.reduceLT, Nat.reduceLeDiff, Nat.reduceAdd, Nat.reduceMul, Nat.reduceSub, Nat.reduceBEq, ↓reduceIte, bne_self_eq_false, Bool.and_false, Bool.false_and, Bool.true_or, Bool.false_or, z15, z00, n1])
                  | refine k_of (by assumption) ?_
                  | refine tr_block ?_
                  | refine tr_scope ?_
                  | (refine tr_skip ?_; try simp only [ex_seq, ex_block])
                  | (refine tr_label ?_; try simp only [ex_seq, ex_block])
                  | (refine tr_exit ?_; try simp only [ex_seq_exit, ex_block_exit, Nat.reduceEqDiff, if_true, if_false, ex_seq, ex_block, reduceCtorEq, ↓reduceIte])
                  | (refine tr_ret ?_; try simp only [ex_seq_ret, ex_block_ret]))
              refine tr_cond rfl (fun ht => ?_) (fun hf => ?_)
              · cases ht
              · repeat (first
                    | refine tr_seq_k fun _ _ => ?_
                    | (refine tr_region ?_; simp only [go_sem, List.getElem?_toArray, str_beq, reduceCtorEq, Nat.reduceEqDiff, Nat.reduceLT, Nat.reduceLeDiff, Nat.reduceAdd, Nat.reduceMul, Nat.reduceSub, Nat.reduceBEq, ↓reduceIte, bne_self_eq_false, Bool.and_false, Bool.false_and, Bool.true_or, Bool.false_or, z15, z00, Bool.not_true])
                    | (refine tr_draw (id := 7) follows 10000 [1, 6] [0, 1, 2, 3, 4, 5, 7, 6, 8, 9] (by kernel_rfl) ?_; simp only [go_sem, List.getElem?_toArray, str_beq, reduceCtorEq, Nat.reduceEqDiff, Nat.reduceLT, Nat.reduceLeDiff, Nat.reduceAdd, Nat.reduceMul, Nat.reduceSub, Nat.reduceBEq, ↓reduceIte, bne_self_eq_false, Bool.and_false, Bool.false_and, Bool.true_or, Bool.false_or, z15, z00, Bool.not_true])
                    | (refine tr_draw (id := 12) follows 10000 [1, 6, 9] [0, 1, 2, 3, 4, 5, 7, 8, 6, 9, 10, 11, 12] (by kernel_rfl) ?_; simp only [go_sem, List.getElem?_toArray, str_beq, reduceCtorEq, Nat.reduceEqDiff, Nat.reduceLT, Nat.reduceLeDiff, Nat.reduceAdd, Nat.reduceMul, Nat.reduceSub, Nat.reduceBEq, ↓reduceIte, bne_self_eq_false, Bool.and_false, Bool.false_and, Bool.true_or, Bool.false_or, z15, z00, Bool.not_true])
                    | (refine call_of (oA) ?_ ?_
                       · first | rfl | simp only [go_sem, List.getElem?_toArray, str_beq, reduceCtorEq, Nat.reduceEqDiff, Nat.reduceLT, Nat.reduceLeDiff, Nat.reduceAdd, Nat.reduceMul, Nat.reduceSub, Nat.reduceBEq, ↓reduceIte, bne_self_eq_false, Bool.and_false, Bool.false_and, Bool.true_or, Bool.false_or, z15, z00, Bool.not_true, shut_col]
                       simp only [go_sem, List.getElem?_toArray, str_beq, reduceCtorEq, Nat.reduceEqDiff, Nat.reduceLT, Nat.reduceLeDiff, Nat.reduceAdd, Nat.reduceMul, Nat.reduceSub, Nat.reduceBEq, ↓reduceIte, bne_self_eq_false, Bool.and_false, Bool.false_and, Bool.true_or, Bool.false_or, z15, z00, Bool.not_true])
                    | (refine call_of (oB) ?_ ?_
                       · first | rfl | simp only [go_sem, List.getElem?_toArray, str_beq, reduceCtorEq, Nat.reduceEqDiff, Nat.reduceLT, Nat.reduceLeDiff, Nat.reduceAdd, Nat.reduceMul, Nat.reduceSub, Nat.reduceBEq, ↓reduceIte, bne_self_eq_false, Bool.and_false, Bool.false_and, Bool.true_or, Bool.false_or, z15, z00, Bool.not_true, shut_col]
                       simp only [go_sem, List.getElem?_toArray, str_beq, reduceCtorEq, Nat.reduceEqDiff, Nat.reduceLT, Nat.reduceLeDiff, Nat.reduceAdd, Nat.reduceMul, Nat.reduceSub, Nat.reduceBEq, ↓reduceIte, bne_self_eq_false, Bool.and_false, Bool.false_and, Bool.true_or, Bool.false_or, z15, z00, Bool.not_true])
                    | (refine call_of (cC) ?_ ?_
                       · first | rfl | simp only [go_sem, List.getElem?_toArray, str_beq, reduceCtorEq, Nat.reduceEqDiff, Nat.reduceLT, Nat.reduceLeDiff, Nat.reduceAdd, Nat.reduceMul, Nat.reduceSub, Nat.reduceBEq, ↓reduceIte, bne_self_eq_false, Bool.and_false, Bool.false_and, Bool.true_or, Bool.false_or, z15, z00, Bool.not_true, shut_col]
                       simp only [go_sem, List.getElem?_toArray, str_beq, reduceCtorEq, Nat.reduceEqDiff, Nat.reduceLT, Nat.reduceLeDiff, Nat.reduceAdd, Nat.reduceMul, Nat.reduceSub, Nat.reduceBEq, ↓reduceIte, bne_self_eq_false, Bool.and_false, Bool.false_and, Bool.true_or, Bool.false_or, z15, z00, Bool.not_true])
                    | refine k_of (by assumption) ?_
                    | refine tr_block ?_
                    | refine tr_scope ?_
                    | (refine tr_skip ?_; try simp only [ex_seq, ex_block])
                    | (refine tr_label ?_; try simp only [ex_seq, ex_block])
                    | (refine tr_exit ?_; try simp only [ex_seq_exit, ex_block_exit, Nat.reduceEqDiff, if_true, if_false, ex_seq, ex_block, reduceCtorEq, ↓reduceIte])
                    | (refine tr_ret ?_; try simp only [ex_seq_ret, ex_block_ret]))
                refine tr_cond rfl (fun ht => ?_) (fun hf => ?_)
                · cases ht
                · repeat (first
                      | refine tr_seq_k fun _ _ => ?_
                      | (refine tr_region ?_; simp only [go_sem, List.getElem?_toArray, str_beq, reduceCtorEq, Nat.reduceEqDiff, Nat.reduceLT, Nat.reduceLeDiff, Nat.reduceAdd, Nat.reduceMul, Nat.reduceSub, Nat.reduceBEq, ↓reduceIte, bne_self_eq_false, Bool.and_false, Bool.false_and, Bool.true_or, Bool.false_or, e1, show ((0 : Int) == 0) = true from rfl])
                      | (refine tr_draw (id := 7) follows 10000 [1, 6] [0, 1, 2, 3, 4, 5, 7, 6, 8, 9] (by kernel_rfl) ?_; simp only [go_sem, List.getElem?_toArray, str_beq, reduceCtorEq, Nat.reduceEqDiff, Nat.reduceLT, Nat.reduceLeDiff, Nat.reduceAdd, Nat.reduceMul, Nat.reduceSub, Nat.reduceBEq, ↓reduceIte, bne_self_eq_false, Bool.and_false, Bool.false_and, Bool.true_or, Bool.false_or, e1, show ((0 : Int) == 0) = true from rfl])
                      | (refine tr_draw (id := 12) follows 10000 [1, 6, 9] [0, 1, 2, 3, 4, 5, 7, 8, 6, 9, 10, 11, 12] (by kernel_rfl) ?_; simp only [go_sem, List.getElem?_toArray, str_beq, reduceCtorEq, Nat.reduceEqDiff, Nat.reduceLT, Nat.reduceLeDiff, Nat.reduceAdd, Nat.reduceMul, Nat.reduceSub, Nat.reduceBEq, ↓reduceIte, bne_self_eq_false, Bool.and_false, Bool.false_and, Bool.true_or, Bool.false_or, e1, show ((0 : Int) == 0) = true from rfl])
                      | (refine call_of (cD) ?_ ?_
                         · first | rfl | simp only [go_sem, List.getElem?_toArray, str_beq, reduceCtorEq, Nat.reduceEqDiff, Nat.reduceLT, Nat.reduceLeDiff, Nat.reduceAdd, Nat.reduceMul, Nat.reduceSub, Nat.reduceBEq, ↓reduceIte, bne_self_eq_false, Bool.and_false, Bool.false_and, Bool.true_or, Bool.false_or, e1, show ((0 : Int) == 0) = true from rfl, shut_col]
                         simp only [go_sem, List.getElem?_toArray, str_beq, reduceCtorEq, Nat.reduceEqDiff, Nat.reduceLT, Nat.reduceLeDiff, Nat.reduceAdd, Nat.reduceMul, Nat.reduceSub, Nat.reduceBEq, ↓reduceIte, bne_self_eq_false, Bool.and_false, Bool.false_and, Bool.true_or, Bool.false_or, e1, show ((0 : Int) == 0) = true from rfl])
                      | (refine call_of (aC) ?_ ?_
                         · first | rfl | simp only [go_sem, List.getElem?_toArray, str_beq, reduceCtorEq, Nat.reduceEqDiff, Nat.reduceLT, Nat.reduceLeDiff, Nat.reduceAdd, Nat.reduceMul, Nat.reduceSub, Nat.reduceBEq, ↓reduceIte, bne_self_eq_false, Bool.and_false, Bool.false_and, Bool.true_or, Bool.false_or, e1, show ((0 : Int) == 0) = true from rfl, shut_col]
                         simp only [go_sem, List.getElem?_toArray, str_beq, reduceCtorEq, Nat.reduceEqDiff, Nat.reduceLT, Nat.reduceLeDiff, Nat.reduceAdd, Nat.reduceMul, Nat.reduceSub, Nat.reduceBEq, ↓reduceIte, bne_self_eq_false, Bool.and_false, Bool.false_and, Bool.true_or, Bool.false_or, e1, show ((0 : Int) == 0) = true from rfl])
                      | (refine call_of (aB) ?_ ?_
                         · first | rfl | simp only [go_sem, List.getElem?_toArray, str_beq, reduceCtorEq, Nat.reduceEqDiff, Nat.reduceLT, Nat.reduceLeDiff, Nat.reduceAdd, Nat.reduceMul, Nat.reduceSub, Nat.reduceBEq, ↓reduceIte, bne_self_eq_false, Bool.and_false, Bool.false_and, Bool.true_or, Bool.false_or, e1, show ((0 : Int) == 0) = true from rfl, shut_col]
                         simp only [go_sem, List.getElem?_toArray, str_beq, reduceCtorEq, Nat.reduceEqDiff, Nat.reduceLT, Nat.reduceLeDiff, Nat.reduceAdd, Nat.reduceMul, Nat.reduceSub, Nat.reduceBEq, ↓reduceIte, bne_self_eq_false, Bool.and_false, Bool.false_and, Bool.true_or, Bool.false_or, e1, show ((0 : Int) == 0) = true from rfl])
                      | refine k_of (by assumption) ?_
                      | refine tr_block ?_
                      | refine tr_scope ?_
                      | (refine tr_skip ?_; try simp only [ex_seq, ex_block])
                      | (refine tr_label ?_; try simp only [ex_seq, ex_block])
                      | (refine tr_exit ?_; try simp only [ex_seq_exit, ex_block_exit, Nat.reduceEqDiff, if_true, if_false, ex_seq, ex_block, reduceCtorEq, ↓reduceIte])
                      | (refine tr_ret ?_; try simp only [ex_seq_ret, ex_block_ret]))
                  refine (hQ _ _ [bA true] ?_ (fun m => rfl)).2 <;> simp only [go_sem, List.getElem?_toArray, str_beq, reduceCtorEq, Nat.reduceEqDiff, Nat.reduceLT, Nat.reduceLeDiff, Nat.reduceAdd, Nat.reduceMul, Nat.reduceSub, Nat.reduceBEq, ↓reduceIte, bne_self_eq_false, Bool.and_false, Bool.false_and, Bool.true_or, Bool.false_or, Try.f6]
end Go.Proofs.Ytkkkpbnehpfkkaa

/-
  Words in plain Lean: bytes, constants, variables, valid atoms; no program in sight.
-/
namespace Go.Vs

def lowerB (c : UInt8) : Bool := decide (97 ≤ c.toNat) && decide (c.toNat ≤ 122)
def upperB (c : UInt8) : Bool := decide (65 ≤ c.toNat) && decide (c.toNat ≤ 90)
def digB (c : UInt8) : Bool := decide (48 ≤ c.toNat) && decide (c.toNat ≤ 57)
def underB (c : UInt8) : Bool := decide (c.toNat = 95)
/-- The letters of a text. -/
abbrev lts (s : ByteArray) : List UInt8 := s.data.toList
def reservedL : List ByteArray := [⟨#[115, 97, 121, 115]⟩, ⟨#[105, 102]⟩, ⟨#[99, 97, 110, 115, 97, 121]⟩, ⟨#[112, 114, 105, 110, 99, 105, 112, 97, 108]⟩, ⟨#[112, 114, 101, 100]⟩, ⟨#[99, 108, 101, 97, 114]⟩, ⟨#[113, 117, 111, 116, 97]⟩, ⟨#[98, 117, 100, 103, 101, 116]⟩]
def preserved (s : ByteArray) : Bool := reservedL.any fun w => decide (w = s)
def constB (c : UInt8) : Bool := lowerB c || digB c || underB c
def varB (c : UInt8) : Bool := lowerB c || upperB c || digB c || underB c
def headL (p : UInt8 → Bool) : List UInt8 → Bool
  | [] => false
  | c :: _ => p c
def headB (p : UInt8 → Bool) (s : ByteArray) : Bool := headL p (lts s)
def pconst0 (s : ByteArray) : Bool := decide (s.size ≤ 255) && headB (fun c => !underB c) s && (lts s).all constB
def pconstant (s : ByteArray) : Bool := pconst0 s && !preserved s
def pprincipal (s : ByteArray) : Bool := pconstant s && headB lowerB s
def pvariable (s : ByteArray) : Bool := decide (s.size ≤ 255) && headB upperB s && (lts s).all varB
def ptermok (t : Tm) : Bool := if t.v then pvariable t.name else pconstant t.name
theorem lts_len (s : ByteArray) : (lts s).length = s.size := Array.length_toList
theorem size_pos {s : ByteArray} (h : 0 < s.size) : s ≠ ⟨#[]⟩ := by
  rintro rfl
  exact absurd h (by decide)
theorem size_zero {s : ByteArray} (h : s.size = 0) : s = ⟨#[]⟩ := by
  obtain ⟨a⟩ := s
  have : a = #[] := by
    apply Array.eq_empty_of_size_eq_zero
    exact h
  rw [this]
theorem headB_get {p : UInt8 → Bool} {s : ByteArray} (h : 0 < s.size) : headB p s = p ((lts s)[0]'(by rw [lts_len]; exact h)) := by
  have key : ∀ (l : List UInt8) (h : 0 < l.length), headL p l = p l[0] := fun l h => by
    cases l with
    | nil => exact absurd h (Nat.lt_irrefl _)
    | cons c r => rfl
  exact key (lts s) (by rw [lts_len]; exact h)
theorem headB_nil {p : UInt8 → Bool} {s : ByteArray} (h : s.size = 0) : headB p s = false := by
  rw [size_zero h]
  rfl
theorem headB_pos {p : UInt8 → Bool} {s : ByteArray} (h : headB p s = true) : 0 < s.size := by
  rcases Nat.eq_zero_or_pos s.size with h0 | h0
  · rw [headB_nil h0] at h; cases h
  · exact h0
theorem pconstant_ne {s : ByteArray} (h : pconstant s = true) : s ≠ ⟨#[]⟩ := by
  unfold pconstant pconst0 at h
  simp only [Bool.and_eq_true] at h
  exact size_pos (headB_pos h.1.1.2)
theorem pvariable_ne {s : ByteArray} (h : pvariable s = true) : s ≠ ⟨#[]⟩ := by
  unfold pvariable at h
  simp only [Bool.and_eq_true] at h
  exact size_pos (headB_pos h.1.2)
theorem all_next {T : Type} {p : T → Bool} {l : List T} {k : Nat} (h : k < l.length) (h1 : (l.take k).all p = true) (h2 : p l[k] = true) : (l.take (k + 1)).all p = true := by
  rw [List.take_succ_eq_append_getElem h, List.all_append, h1]
  simp [h2]
theorem all_fail {T : Type} {p : T → Bool} {l : List T} {k : Nat} (h : k < l.length) (h2 : p l[k] = false) : l.all p = false := by
  rw [Bool.eq_false_iff]
  intro h3
  rw [List.all_eq_true] at h3
  rw [h3 _ (List.getElem_mem h)] at h2
  cases h2
theorem any_next {T : Type} {p : T → Bool} {l : List T} {k : Nat} (h : k < l.length) (h1 : (l.take k).any p = false) (h2 : p l[k] = false) : (l.take (k + 1)).any p = false := by
  rw [List.take_succ_eq_append_getElem h, List.any_append, h1]
  simp [h2]
theorem any_hit {T : Type} {p : T → Bool} {l : List T} {k : Nat} (h : k < l.length) (h2 : p l[k] = true) : l.any p = true := by
  rw [List.any_eq_true]
  exact ⟨_, List.getElem_mem h, h2⟩
/-- The errors of an atom, by the document. -/
def Atm.restB (a : Atm) : Bool := (List.range 4).all fun k => decide ((k : Int) < a.n) || decide (a.arg k = ⟨false, ⟨#[]⟩⟩)
def Atm.termsB (a : Atm) : Bool := (List.range 4).all fun k => !decide ((k : Int) < a.n) || ptermok (a.arg k)
def pcheck3 (a : Atm) : Int :=
  if (pprincipal a.says && pprincipal a.pred) = false then 3
  else if a.n < 0 ∨ 4 < a.n then 4
  else if a.termsB = false then 3
  else if a.restB = false then 15
  else 0
def Atm.ground (a : Atm) : Bool := (List.range 4).all fun k => !decide (k < a.count) || !(a.arg k).v
end Go.Vs
