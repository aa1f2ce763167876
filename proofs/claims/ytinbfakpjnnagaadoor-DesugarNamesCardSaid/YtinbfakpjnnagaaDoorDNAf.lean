/-
  Operations on abstract memory: append, store, a block that is written no more. No program in sight.
-/
import Derived.Test.YtinbfakpjnnagaaDoorDNAe
namespace Go.Vs.Ab
open Go.RowKit
variable {P : Program} {X : Mem} {W0 w w' : World} {m : Mm}
/-! ### append -/
theorem run_append_zero {t ty e : TypeId} {i : TypeInfo} (ht : P.underlying t = some (.slice e)) (hi : P.info? e = some i) {a ax : Option Addr} {n cap c : Nat} (hn : n ≤ cap) (w : World) :
    (Builtin.append_ #[t, t] ty #[.slice a n cap, .slice ax 0 c]).run P w = .ok (.slice a n cap) w := by
  cases ax <;> cases a <;> simp [Builtin.append_, run_under ht, sizeOf, typeInfo, hi, Builtin.lenOf, Builtin.firstCells, hn, loadCells, loadCellsFrom, storeCells]
theorem size_zeros (z : Array Value) (n : Nat) : (Builtin.zeroCells z n).size = n * z.size := by simp [Builtin.zeroCells]
theorem run_append_move {t ty e : TypeId} {i : TypeInfo} {z : Value} (ht : P.underlying t = some (.slice e)) (hi : P.info? e = some i) (hz : i.zero = some z) (hzs : z.cells.size = i.size) (hsz : 0 < i.size)
    {a ax : Option Addr} {n cap k c : Nat} {xs ys : List Value} (hx : At X.cell a xs) (hxl : xs.length = n * i.size) (hy : At X.cell ax ys) (hyl : ys.length = k * i.size) (hk : 0 < k)
    (hcell : ∀ b o x, X.cell b o = some x → w.cell? ⟨b, o, none⟩ = some x) (hnc : n ≤ cap) (hg : cap < n + k) (h63 : n + k ≤ maxLen) (hby : (n + k) * i.bytes ≤ 140737488355328) (ha : a = none → cap = 0) :
    ∃ cap' rest, n + k ≤ cap' ∧ cap' ≤ maxLen ∧ ((xs ++ ys).toArray ++ rest).size = cap' * i.size ∧
      (Builtin.append_ #[t, t] ty #[.slice a n cap, .slice ax k c]).run P w = .ok (.slice (some ⟨w.heap.size, 0, none⟩) (n + k) cap') (w.drew.alloc (.cells ((xs ++ ys).toArray ++ rest) e)) := by
  have hsmall : n + k ≤ 9223372036854775807 := by unfold maxLen at h63; omega
  have hyp : 0 < ys.length := by rw [hyl]; exact Nat.mul_pos hk hsz
  obtain ⟨by_, oy, rfl⟩ := hy.some hyp
  have hys : ∀ j u, ys[j]? = some u → w.cell? ((⟨by_, oy, none⟩ : Addr).add j) = some u := fun j u hu => by
    obtain ⟨b', o', e1, h1⟩ := hy j u hu
    injection e1 with e1
    injection e1 with e1 e2
    subst e1 e2
    rw [add_none]
    exact hcell _ _ _ h1
  have szz : ∀ c' : Nat, n + k ≤ c' → ((xs ++ ys).toArray ++ Builtin.zeroCells z.cells (c' - (n + k))).size = c' * i.size := fun c' hc' => by
    simp only [Array.size_append, List.size_toArray, List.length_append, size_zeros, hxl, hyl, hzs, ← Nat.add_mul]
    congr 1
    omega
  cases a with
  | none =>
    have h0 := ha rfl
    subst h0
    obtain rfl : n = 0 := by omega
    have hx0 : xs = [] := List.eq_nil_of_length_eq_zero (by simpa using hxl)
    subst hx0
    have hr := run_append_nil (P := P) w t ty e i z ht hi hz ⟨by_, oy, none⟩ k c ys hyl hys hk (by omega) (by simp only [Nat.zero_add] at hby; omega)
    have hge := grownCap_ge w k 0 e
    refine ⟨grownCap w k 0 e, Builtin.zeroCells z.cells (grownCap w k 0 e - k), by omega, grownCap_le_maxLen w k 0 e (by omega), ?_, by simpa using hr⟩
    have := szz (grownCap w k 0 e) (by omega)
    simpa using this
  | some ad =>
    have hxs : ∀ j u, xs[j]? = some u → w.cell? (ad.add j) = some u := fun j u hu => by
      obtain ⟨b', o', e1, h1⟩ := hx j u hu
      injection e1 with e1
      subst e1
      rw [add_none]
      exact hcell _ _ _ h1
    have hr := run_append_grow (P := P) w t ty e i z ht hi hz ad n cap xs hxl hxs ⟨by_, oy, none⟩ k c ys hyl hys hg (by omega) (growslice_fits hg hby)
    have hge := grownCap_ge w (n + k) cap e
    refine ⟨grownCap w (n + k) cap e, Builtin.zeroCells z.cells (grownCap w (n + k) cap e - (n + k)), hge, grownCap_le_maxLen w (n + k) cap e h63, szz _ hge, ?_⟩
    rw [hr]
    congr 4
    simp
def Mem.setOwn (X : Mem) (k : Nat) (T : Tok) : Mem := { X with own := fun j => if j = k then some T else X.own j }
def tbytes (P : Program) (t : TypeId) : Option Nat := (P.info? t).map (·.bytes)
theorem tbytes_spec {P : Program} {t : TypeId} {s : Nat} (h : tbytes P t = some s) : ∃ i, P.info? t = some i ∧ i.bytes = s := by
  simpa [tbytes, Option.map_eq_some_iff] using h
def info3 (P : Program) (e : TypeId) : Option (Nat × Nat) :=
  match tsz P e, tbytes P e, tzero P e with
  | some s, some b, some cs => if Nat.beq cs.length s && Nat.blt 0 s then some (s, b) else none
  | _, _, _ => none
theorem info3_spec {e : TypeId} {s b : Nat} (h : info3 P e = some (s, b)) : ∃ i z, P.info? e = some i ∧ i.zero = some z ∧ z.cells.size = i.size ∧ 0 < i.size ∧ i.size = s ∧ i.bytes = b := by
  unfold info3 at h
  split at h
  · rename_i s' b' cs h1 h2 h3
    obtain ⟨i, z, hi, hz, hc⟩ := tzero_spec h3
    obtain ⟨i1, hi1, e1⟩ := tsz_spec h1
    obtain ⟨i2, hi2, e2⟩ := tbytes_spec h2
    rw [hi] at hi1 hi2
    injection hi1 with hi1
    injection hi2 with hi2
    subst hi1 hi2
    split at h
    · rename_i hcc
      simp only [Bool.and_eq_true, Nat.blt_eq] at hcc
      simp only [Option.some.injEq, Prod.mk.injEq] at h
      have hl := (cvsOf_rep (C := fun _ _ => none) hc).1
      simp only [Array.length_toList] at hl
      exact ⟨i, z, hi, hz, by rw [← hl, Nat.eq_of_beq_eq_true hcc.1, e1], by rw [e1]; exact hcc.2, by rw [e1]; exact h.1, by rw [e2]; exact h.2⟩
    · cases h
  · cases h
def fits (n k size bytes lc lk : Nat) : Bool := Nat.ble (n + k) maxLen && Nat.ble ((n + k) * bytes) 140737488355328 && Nat.beq lc (n * size) && Nat.beq lk (k * size)
inductive Dst where
  | own (k n : Nat) (cs : List CV)
  | exact (n : Nat) (cs : List CV)
  | other
def dst : AV → Dst
  | .own k n cs => .own k n cs
  | .c (.sl true n cs) => .exact n cs
  | _ => .other
def aAppend (P : Program) (m : Mm) (t : TypeId) (s x : AV) : Option (AV × Mm) :=
  match P.underlying t with
  | some (.slice e) =>
    match info3 P e, slV x with
    | some (size, bytes), some (k, ds) =>
      match dst s with
      | .own j n cs =>
        match m.hw[j]? with
        | some n' => if Nat.beq n n'.n && Nat.beq n'.e e && Nat.beq n'.size size && fits n k size bytes cs.length ds.length then
            (if Nat.beq k 0 then some (s, m) else some (.own j (n + k) (cs ++ ds), { m with hw := m.hw.set j { n' with n := n + k } })) else none
        | none => none
      | .exact n cs => if fits n k size bytes cs.length ds.length then
          (if Nat.beq k 0 then some (s, m) else some (.own m.hw.length (n + k) (cs ++ ds), { m with hw := m.hw ++ [⟨n + k, e, size⟩] })) else none
      | .other => none
    | _, _ => none
  | _ => none
theorem repcs_append {C : Nat → Nat → Option Value} {cs ds : List CV} {xs ys : List Value} (h : RepCs C cs xs) (k : RepCs C ds ys) : RepCs C (cs ++ ds) (xs ++ ys) := by
  refine ⟨by simp [h.1, k.1], fun i c x h1 h2 => ?_⟩
  by_cases hi : i < cs.length
  · rw [List.getElem?_append_left hi] at h1
    rw [List.getElem?_append_left (h.1 ▸ hi)] at h2
    exact h.2 i c x h1 h2
  · rw [List.getElem?_append_right (by omega)] at h1
    rw [List.getElem?_append_right (by rw [← h.1]; omega), ← h.1] at h2
    exact k.2 _ c x h1 h2
theorem MR.moved (M : MR X W0 m w) {k : Nat} {T : Tok} {xs : List Value} {arr : Array Value} {hw' : List Hw} {w1 : World} (hw1 : w1.heap = w.heap) (B1 : Below w.heap.size w w1)
    (hx : ∀ (o : Nat) (x : Value), xs[o]? = some x → arr[o]? = some x) (hT : T.g = w.heap.size) (hn : T.n ≤ T.cap) (hc : T.cap ≤ maxLen) (hs : 0 < T.size) (ha : arr.size = T.cap * T.size) (hl : xs.length = T.n * T.size)
    (hhw : ∀ j n, hw'[j]? = some n → (j = k ∧ n = ⟨T.n, T.e, T.size⟩) ∨ (j ≠ k ∧ m.hw[j]? = some n)) (hlen : m.hw.length ≤ hw'.length) (hk : k < hw'.length) (hold : ∀ S, X.own k = some S → S.n < T.n) :
    ∃ X', X.Le W0.heap.size X' ∧ MR X' W0 { m with hw := hw' } (w1.alloc (.cells arr T.e)) ∧ At X'.cell (some ⟨T.g, 0, none⟩) xs ∧ X'.own k = some T := by
  obtain ⟨M1, L1, A1⟩ := M.newFixed hw1 B1 (arr := arr) (e := T.e) hx
  have hwb : (w1.alloc (.cells arr T.e)).heap[T.g]? = some (.cells arr T.e (0, 0)) := by rw [hT, ← hw1]; exact halloc_new w1 _
  refine ⟨(X.claim w.heap.size xs).setOwn k T, ?_, ⟨M1.below, M1.cell, M1.ldom, fun i blk h => ?_, M1.inj, fun j S h => ?_, fun j n h => ?_, fun i j S S' h1 h2 he => ?_, M1.gl, M1.rm⟩, by rw [hT]; exact A1, by simp [Mem.setOwn]⟩
  · refine ⟨L1.cell, L1.old, L1.loc, fun j S h => ?_, L1.room⟩
    simp only [Mem.setOwn]
    by_cases hj : j = k
    · subst hj
      exact ⟨T, by simp, Or.inr (hold S h)⟩
    · exact ⟨S, by rw [if_neg hj]; exact h, Or.inl rfl⟩
  · obtain ⟨β, h1, h2, h3, hB⟩ := M1.locs i blk h
    refine ⟨β, h1, h2, h3, hB.move (base := W0.heap.size) ?_ (fun _ => rfl) (fun _ h => h)⟩
    refine ⟨fun _ _ _ h => h, fun _ _ _ _ h => h, fun _ _ h => h, fun j S h => ?_, fun _ => Nat.le_refl _⟩
    simp only [Mem.setOwn]
    by_cases hj : j = k
    · subst hj
      exact ⟨T, by simp, Or.inr (hold S h)⟩
    · exact ⟨S, by rw [if_neg hj]; exact h, Or.inl rfl⟩
  · simp only [Mem.setOwn] at h
    split at h
    · rename_i e; subst e; exact hk
    · have := M1.odom j S h; simp only; omega
  · rcases hhw j n h with ⟨rfl, rfl⟩ | ⟨hj, h'⟩
    · refine ⟨T, by simp [Mem.setOwn], ⟨rfl, rfl, rfl⟩, by rw [hT]; exact M.below.size, hn, hc, hs, ⟨arr, hwb, ha⟩, fun o ho => ?_, fun i hi => ?_⟩
      · simp only [Mem.setOwn, Mem.claim, hT, if_true]
        rw [List.getElem?_eq_none_iff]
        simp only at ho
        omega
      · have := (M.locBlock hi).1
        omega
    · obtain ⟨S, h1, h2, h3, h4, h5, h6, h7, h8, h9⟩ := M1.toks j n h'
      exact ⟨S, by simp only [Mem.setOwn]; rw [if_neg hj]; exact h1, h2, h3, h4, h5, h6, h7, h8, h9⟩
  · simp only [Mem.setOwn] at h1 h2
    split at h1
    · rename_i e1
      split at h2
      · rename_i e2; omega
      · injection h1 with h1
        subst h1
        have := (M.tokBlock h2).1
        omega
    · split at h2
      · injection h2 with h2
        subst h2
        have := (M.tokBlock h1).1
        omega
      · exact M1.oinj i j S S' h1 h2 he
theorem MR.filled (M : MR X W0 m w) {k n n' : Nat} {H : Hw} {T : Tok} {ys : List Value} (hT : X.own k = some T) (hn : m.hw[k]? = some H) (hHn : H.n = n) (hlt : n < n') (hcap : n' ≤ T.cap) (hl : ys.length = (n' - n) * T.size) {cur : Array Value} (hcur : w.heap[T.g]? = some (.cells cur T.e (0, 0))) :
    ∃ X', X.Le W0.heap.size X' ∧ MR X' W0 { m with hw := m.hw.set k { H with n := n' } } (w.setRow T.g (cur.toList.take (n * T.size) ++ ys ++ cur.toList.drop (n * T.size + ys.length)).toArray) ∧
      (∀ o x, ys[o]? = some x → X'.cell T.g (n * T.size + o) = some x) ∧ X'.own k = some { T with n := n' } := by
  subst hHn
  obtain ⟨T', h1, ⟨h2, h2e, h2s⟩, h3, h4, h5, h6, ⟨cur', h7, h8⟩, h9, h10⟩ := M.toks k H hn
  rw [hT] at h1
  injection h1 with h1
  subst h1
  generalize H.n = n at *
  rw [hcur] at h7
  injection h7 with h7
  injection h7 with h7
  subst h7
  have hk : k < m.hw.length := M.odom k T hT
  have hsz : n * T.size + ys.length = n' * T.size := by rw [hl, ← Nat.add_mul]; congr 1; omega
  have hle : n' * T.size ≤ cur.size := by rw [h8]; exact Nat.mul_le_mul_right _ hcap
  let X' : Mem := { cell := fun b o => if b = T.g ∧ n * T.size ≤ o then ys[o - n * T.size]? else X.cell b o, loc := X.loc, own := fun j => if j = k then some { T with n := n' } else X.own j, room := X.room }
  have hX : ∀ b o, X'.cell b o = if b = T.g ∧ n * T.size ≤ o then ys[o - n * T.size]? else X.cell b o := fun _ _ => rfl
  have hO : ∀ j, X'.own j = if j = k then some { T with n := n' } else X.own j := fun _ => rfl
  have hL : X.Le W0.heap.size X' := by
    refine ⟨fun b o x h => ?_, fun b o x hb h => ?_, fun _ _ h => h, fun j S h => ?_, fun _ => Nat.le_refl _⟩
    · rw [hX, if_neg]
      · exact h
      · rintro ⟨rfl, ho⟩
        rw [h9 o ho] at h
        cases h
    · rw [hX, if_neg (by rintro ⟨rfl, _⟩; omega)] at h
      exact h
    · rw [hO]
      by_cases hj : j = k
      · subst hj
        rw [hT] at h
        injection h with h
        subst h
        exact ⟨{ T with n := n' }, if_pos rfl, Or.inr (h2 ▸ hlt)⟩
      · exact ⟨S, by rw [if_neg hj]; exact h, Or.inl rfl⟩
  have hnew : (w.setRow T.g (cur.toList.take (n * T.size) ++ ys ++ cur.toList.drop (n * T.size + ys.length)).toArray).heap[T.g]? = some (.cells (cur.toList.take (n * T.size) ++ ys ++ cur.toList.drop (n * T.size + ys.length)).toArray T.e (0, 0)) := setRow_heap w T.g cur _ T.e _ hcur
  have hoth : ∀ g, g ≠ T.g → (w.setRow T.g (cur.toList.take (n * T.size) ++ ys ++ cur.toList.drop (n * T.size + ys.length)).toArray).heap[g]? = w.heap[g]? := fun g hg => setRow_other w T.g g _ hg
  have hown : ∀ j S, X'.own j = some S → S.g = T.g → j = k := fun j S h he => by
    rw [hO] at h
    by_cases hj : j = k
    · exact hj
    · rw [if_neg hj] at h
      exact M.oinj j k S T h hT he
  refine ⟨X', hL, ⟨?_, fun b o x h => ?_, M.ldom, fun i blk h => ?_, M.inj, fun j S h => ?_, fun j r h => ?_, fun i j S S' g1 g2 he => ?_, M.gl, fun β hβ => ?_⟩, fun o x h => ?_, by rw [hO, if_pos rfl]⟩
  · refine M.below.trans ⟨rfl, rfl, rfl, by rw [setRow_size]; exact Nat.le_refl _, fun g hg => hoth g (by omega)⟩
  · rw [hX] at h
    split at h
    · rename_i hc
      obtain ⟨rfl, ho⟩ := hc
      refine cell_of_heap hnew ?_
      have ho2 : o - n * T.size < ys.length := (List.getElem?_eq_some_iff.1 h).1
      rw [List.getElem?_toArray, List.getElem?_append_left (by simp; omega), List.getElem?_append_right (by simp; omega)]
      rw [List.length_take, Array.length_toList, Nat.min_eq_left (by omega)]
      exact h
    · rename_i hc
      by_cases hb : b = T.g
      · subst hb
        have ho : o < n * T.size := Nat.lt_of_not_le (fun h => hc ⟨rfl, h⟩)
        have h0 := M.cell T.g o x h
        rw [World.cell?, hcur] at h0
        simp only [Option.isSome_none, Bool.false_eq_true, if_false] at h0
        refine cell_of_heap hnew ?_
        rw [List.getElem?_toArray, List.append_assoc, List.getElem?_append_left (by simp; omega), List.getElem?_take, if_pos ho, Array.getElem?_toList]
        exact h0
      · rw [World.cell?_of_block (w := w) (hoth b hb)]
        exact M.cell b o x h
  · obtain ⟨β, g1, g2, g3, hB⟩ := M.locs i blk h
    have hne : β ≠ T.g := fun e => h10 i (e ▸ g1)
    refine ⟨β, g1, g2, by rw [setRow_size]; exact g3, hB.move hL (fun _ => hoth β hne) fun _ h o => ?_⟩
    rw [hX, if_neg (by rintro ⟨e, _⟩; exact hne e)]
    exact h o
  · rw [hO] at h
    simp only [List.length_set]
    split at h
    · rename_i e; subst e; exact hk
    · exact M.odom j S h
  · by_cases hj : j = k
    · subst hj
      rw [List.getElem?_set_self hk] at h
      injection h with h
      subst h
      refine ⟨{ T with n := n' }, by rw [hO, if_pos rfl], ⟨rfl, h2e, h2s⟩, h3, hcap, h5, h6, ⟨_, hnew, ?_⟩, fun o ho => ?_, h10⟩
      · simp; omega
      · simp only at ho
        rw [hX, if_pos ⟨rfl, by omega⟩, List.getElem?_eq_none_iff]
        omega
    · rw [List.getElem?_set_ne (Ne.symm hj)] at h
      obtain ⟨S, g1, g2, g3, g4, g5, g6, ⟨cur', g7, g8⟩, g9, g10⟩ := M.toks j r h
      have hne : S.g ≠ T.g := fun e => hj (M.oinj j k S T g1 hT e)
      refine ⟨S, by rw [hO, if_neg hj]; exact g1, g2, g3, g4, g5, g6, ⟨cur', by rw [hoth S.g hne]; exact g7, g8⟩, fun o ho => ?_, g10⟩
      rw [hX, if_neg (by rintro ⟨e, _⟩; exact hne e)]
      exact g9 o ho
  · have q1 := g1
    have q2 := g2
    rw [hO] at g1 g2
    split at g1
    · rename_i e1
      injection g1 with g1
      subst g1
      rw [e1]
      exact (hown j S' q2 (by simpa using he.symm)).symm
    · split at g2
      · rename_i e2
        injection g2 with g2
        subst g2
        rw [e2]
        exact hown i S q1 (by simpa using he)
      · exact M.oinj i j S S' g1 g2 he
  · obtain ⟨arr, t, z, q1, q2⟩ := M.rm β hβ
    by_cases hb : β = T.g
    · subst hb
      rw [hcur] at q1
      injection q1 with q1
      injection q1 with q1 q3
      subst q1
      exact ⟨_, _, _, hnew, by simp only [List.size_toArray, List.length_append, List.length_take, List.length_drop, Array.length_toList]; have : X'.room T.g = X.room T.g := rfl; omega⟩
    · exact ⟨arr, t, z, by rw [hoth β hb]; exact q1, q2⟩
  · rw [hX, if_pos ⟨rfl, by omega⟩, show n * T.size + o - n * T.size = o by omega]
    exact h
theorem dst_own {s : AV} {k n : Nat} {cs : List CV} (h : dst s = .own k n cs) : s = .own k n cs := by
  unfold dst at h
  split at h <;> simp_all
theorem dst_exact {s : AV} {n : Nat} {cs : List CV} (h : dst s = .exact n cs) : s = .c (.sl true n cs) := by
  unfold dst at h
  split at h <;> simp_all
theorem fits_spec {n k size bytes lc lk : Nat} (h : fits n k size bytes lc lk = true) : n + k ≤ maxLen ∧ (n + k) * bytes ≤ 140737488355328 ∧ lc = n * size ∧ lk = k * size := by
  simp only [fits, Bool.and_eq_true, Nat.ble_eq] at h
  exact ⟨h.1.1.1, h.1.1.2, Nat.eq_of_beq_eq_true h.1.2, Nat.eq_of_beq_eq_true h.2⟩
theorem prefix_arr {xs : List Value} {rest : Array Value} {o : Nat} {x : Value} (h : xs[o]? = some x) : (xs.toArray ++ rest)[o]? = some x := by
  have ho := (List.getElem?_eq_some_iff.1 h).1
  rw [Array.getElem?_append_left (by simpa using ho)]
  simpa using h
theorem at_append {C : Nat → Nat → Option Value} {g : Nat} {xs ys : List Value} (h1 : At C (some ⟨g, 0, none⟩) xs) (h2 : ∀ o x, ys[o]? = some x → C g (xs.length + o) = some x) : At C (some ⟨g, 0, none⟩) (xs ++ ys) := fun j x h => by
  by_cases hj : j < xs.length
  · rw [List.getElem?_append_left hj] at h
    exact h1 j x h
  · rw [List.getElem?_append_right (by omega)] at h
    have := h2 _ x h
    rw [show xs.length + (j - xs.length) = j by omega] at this
    exact ⟨g, 0, rfl, by rwa [Nat.zero_add]⟩
theorem aAppend_ok (M : MR X W0 m w) {t ty : TypeId} {s x c : AV} {m' : Mm} {vs vx : Value} (h : aAppend P m t s x = some (c, m')) (hs : Rep X s vs) (hx : Rep X x vx) :
    ∃ V X' w', (Builtin.append_ #[t, t] ty #[vs, vx]).run P w = .ok V w' ∧ X.Le W0.heap.size X' ∧ Rep X' c V ∧ MR X' W0 m' w' ∧ (∀ i β, X.loc i = some β → w'.heap[β]? = w.heap[β]?) := by
  unfold aAppend at h
  split at h
  · rename_i e ht
    split at h
    · rename_i size bytes k ds hinf hk
      obtain ⟨i, z, hi, hz, hzs, hsz, rfl, rfl⟩ := info3_spec hinf
      obtain ⟨ax, capx, ys, rfl, hry, hnx, hcx, hay⟩ := slV_rep hk hx
      have grown : ∀ (w1 : World) (o : Obj), w1.heap = w.heap → ∀ i β, X.loc i = some β → (w1.alloc o).heap[β]? = w.heap[β]? := fun w1 o hw i β hb => by
        have := (M.locBlock hb).1
        rw [halloc_old w1 o β (by rw [hw]; exact this), hw]
      split at h
      · rename_i j n cs hd
        obtain rfl := dst_own hd
        split at h
        · rename_i H hH
          split at h
          · rename_i hc
            simp only [Bool.and_eq_true] at hc
            obtain ⟨⟨⟨c1, c2⟩, c3⟩, c4⟩ := hc
            obtain ⟨f1, f2, f3, f4⟩ := fits_spec c4
            have c1 := Nat.eq_of_beq_eq_true c1
            have c2 := Nat.eq_of_beq_eq_true c2
            have c3 := Nat.eq_of_beq_eq_true c3
            have hs0 := hs
            cases hs with
            | own hr hn hcap hax ht' =>
              rename_i xs a cap
              obtain ⟨T, t1, t2, t3⟩ := ht'
              obtain ⟨T', g1, ⟨g2, g2e, g2s⟩, g3, g4, g5, g6, ⟨cur, g7, g8⟩, g9, g10⟩ := M.toks j H hH
              rw [t1] at g1
              injection g1 with g1
              subst g1
              obtain ⟨rfl, rfl⟩ := t3 (by rw [c1, g2])
              have e1 : T.size = i.size := g2s.trans c3
              have e2 : T.e = e := g2e.trans c2
              have hxl : xs.length = n * i.size := by rw [← hr.1, f3]
              have hylen : ys.length = k * i.size := by rw [← hry.1, f4]
              split at h
              · rename_i hk0
                obtain rfl := Nat.eq_of_beq_eq_true hk0
                simp only [Option.some.injEq, Prod.mk.injEq] at h
                obtain ⟨rfl, rfl⟩ := h
                exact ⟨_, X, w, run_append_zero ht hi hn w, Mem.Le.refl _ _, hs0, M, fun _ _ _ => rfl⟩
              · rename_i hk0
                have hk0 : 0 < k := Nat.pos_of_ne_zero (fun e => hk0 (by rw [e]; rfl))
                simp only [Option.some.injEq, Prod.mk.injEq] at h
                obtain ⟨rfl, rfl⟩ := h
                have hyp : 0 < ys.length := by rw [hylen]; exact Nat.mul_pos hk0 hsz
                by_cases hroom : n + k ≤ T.cap
                · obtain ⟨bx, ox, rfl⟩ := hay.some hyp
                  have hys : ∀ j u, ys[j]? = some u → w.cell? ((⟨bx, ox, none⟩ : Addr).add j) = some u := fun j u hu => by
                    obtain ⟨b', o', e3, h3⟩ := hay j u hu
                    injection e3 with e3
                    injection e3 with e3 e4
                    subst e3 e4
                    rw [add_none]
                    exact M.cell _ _ _ h3
                  have h1c : ∀ u ∈ ys, u.oneCell' = true := fun u hu => by
                    obtain ⟨q, hq, rfl⟩ := List.mem_iff_getElem.1 hu
                    exact (hry.2 q _ _ (List.getElem?_eq_getElem (hry.1 ▸ hq)) (List.getElem?_eq_getElem hq)).one
                  have hr' := run_append_room (P := P) w t ty e i ht hi T.g n T.cap cur (by rw [← e2]; exact g7) ⟨bx, ox, none⟩ k capx ys hylen hys h1c hroom (by rw [g8, hylen, e1, ← Nat.add_mul]; exact Nat.mul_le_mul_right _ hroom)
                  obtain ⟨X', l1, l2, l3, l4⟩ := M.filled (n' := n + k) (n := n) t1 hH c1.symm (by omega) hroom (ys := ys) (by rw [hylen, e1]; congr 1; omega) g7
                  rw [e1] at l2 l3
                  refine ⟨_, X', _, hr', l1, .own (xs := xs ++ ys) (repcs_append (hr.mono l1.cell) (hry.mono l1.cell)) hroom ⟨g5, fun e => by cases e⟩ ?_ ⟨_, l4, Nat.le_refl _, fun _ => ⟨rfl, rfl⟩⟩, l2, fun q β hq => ?_⟩
                  · exact at_append (hax.mono l1.cell) (by rw [hxl]; exact l3)
                  · exact setRow_other w T.g β _ (fun e => g10 q (e ▸ hq))
                · obtain ⟨cap', rest, q1, q2, q3, q4⟩ := run_append_move (ty := ty) ht hi hz hzs hsz hax hxl hay hylen hk0 M.cell hn (by omega : T.cap < n + k) f1 f2 (c := capx) (fun e => by cases e)
                  have hhw : ∀ j' n', (m.hw.set j { H with n := n + k })[j']? = some n' → (j' = j ∧ n' = ⟨n + k, e, i.size⟩) ∨ (j' ≠ j ∧ m.hw[j']? = some n') := fun j' n' hj' => by
                    by_cases hjj : j' = j
                    · subst hjj
                      have hlt : j' < m.hw.length := (List.getElem?_eq_some_iff.1 hH).1
                      rw [List.getElem?_set_self hlt] at hj'
                      injection hj' with hj'
                      exact Or.inl ⟨rfl, by rw [← hj', c2, c3]⟩
                    · rw [List.getElem?_set_ne (Ne.symm hjj)] at hj'
                      exact Or.inr ⟨hjj, hj'⟩
                  obtain ⟨X', l1, l2, l3, l4⟩ := M.moved (k := j) (T := ⟨w.heap.size, n + k, cap', e, i.size⟩) (xs := xs ++ ys) (arr := (xs ++ ys).toArray ++ rest) (w1 := w.drew) rfl (Below.refl _ w).drew
                    (fun o x hx => prefix_arr hx) rfl q1 q2 hsz q3 (by rw [List.length_append, hxl, hylen, Nat.add_mul]) hhw (by simp) (by simpa using (List.getElem?_eq_some_iff.1 hH).1) (fun S hS => by rw [t1] at hS; injection hS with hS; subst hS; simp only; omega)
                  exact ⟨_, X', _, q4, l1, .own (xs := xs ++ ys) (repcs_append (hr.mono l1.cell) (hry.mono l1.cell)) q1 ⟨q2, fun e => by cases e⟩ l3 ⟨_, l4, Nat.le_refl _, fun _ => ⟨rfl, rfl⟩⟩, l2, grown w.drew _ rfl⟩
          · cases h
        · cases h
      · rename_i n cs hd
        obtain rfl := dst_exact hd
        split at h
        · rename_i c4
          obtain ⟨f1, f2, f3, f4⟩ := fits_spec c4
          have hs0 := hs
          cases hs with
          | c hs => cases hs with
            | sl hl hrr hn hcap he hax =>
              rename_i xs a cap
              have hr : RepCs X.cell cs xs := ⟨hl, hrr⟩
              have hce := he rfl
              subst hce
              have hxl : xs.length = cap * i.size := by rw [← hr.1, f3]
              have hylen : ys.length = k * i.size := by rw [← hry.1, f4]
              split at h
              · rename_i hk0
                obtain rfl := Nat.eq_of_beq_eq_true hk0
                simp only [Option.some.injEq, Prod.mk.injEq] at h
                obtain ⟨rfl, rfl⟩ := h
                exact ⟨_, X, w, run_append_zero ht hi hn w, Mem.Le.refl _ _, hs0, M, fun _ _ _ => rfl⟩
              · rename_i hk0
                have hk0 : 0 < k := Nat.pos_of_ne_zero (fun e => hk0 (by rw [e]; rfl))
                simp only [Option.some.injEq, Prod.mk.injEq] at h
                obtain ⟨rfl, rfl⟩ := h
                have hnone : a = none → cap = 0 := fun e => by
                  subst e
                  rcases Nat.eq_zero_or_pos cap with h0 | h0
                  · exact h0
                  · obtain ⟨b, o, h1⟩ := At.some (C := X.cell) hax (by rw [hxl]; exact Nat.mul_pos h0 hsz)
                    cases h1
                obtain ⟨cap', rest, q1, q2, q3, q4⟩ := run_append_move (ty := ty) ht hi hz hzs hsz (X := X) hax hxl hay hylen hk0 M.cell hn (by omega : cap < cap + k) f1 f2 (c := capx) hnone
                have hhw : ∀ j' n', (m.hw ++ [⟨cap + k, e, i.size⟩])[j']? = some n' → (j' = m.hw.length ∧ n' = ⟨cap + k, e, i.size⟩) ∨ (j' ≠ m.hw.length ∧ m.hw[j']? = some n') := fun j' n' hj' => by
                  by_cases hjj : j' < m.hw.length
                  · rw [List.getElem?_append_left hjj] at hj'
                    exact Or.inr ⟨by omega, hj'⟩
                  · rw [List.getElem?_append_right (by omega)] at hj'
                    have : j' - m.hw.length = 0 := by
                      have := (List.getElem?_eq_some_iff.1 hj').1
                      simp at this
                      omega
                    rw [this] at hj'
                    simp at hj'
                    exact Or.inl ⟨by omega, hj'.symm⟩
                obtain ⟨X', l1, l2, l3, l4⟩ := M.moved (k := m.hw.length) (T := ⟨w.heap.size, cap + k, cap', e, i.size⟩) (xs := xs ++ ys) (arr := (xs ++ ys).toArray ++ rest) (w1 := w.drew) rfl (Below.refl _ w).drew
                  (fun o x hx => prefix_arr hx) rfl q1 q2 hsz q3 (by rw [List.length_append, hxl, hylen, Nat.add_mul]) hhw (by simp) (by simp) (fun S hS => by have := M.odom _ S hS; omega)
                exact ⟨_, X', _, q4, l1, .own (xs := xs ++ ys) (repcs_append (hr.mono l1.cell) (hry.mono l1.cell)) q1 ⟨q2, fun e => by cases e⟩ l3 ⟨_, l4, Nat.le_refl _, fun _ => ⟨rfl, rfl⟩⟩, l2, grown w.drew _ rfl⟩
        · cases h
      · cases h
    · cases h
  · cases h
end Go.Vs.Ab
