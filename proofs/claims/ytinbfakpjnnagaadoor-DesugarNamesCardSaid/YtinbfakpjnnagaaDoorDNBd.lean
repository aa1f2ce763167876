/-
  Appends to slices over local blocks. No program in sight.
-/
import Derived.Test.YtinbfakpjnnagaaDoorDNBb
set_option linter.unusedVariables false
set_option linter.unusedSimpArgs false
namespace Go.Vs.Ab
open Go.RowKit
variable {P : Program} {X : Mem} {W0 w w' : World} {m : Mm}
theorem MR.kill (M : MR X W0 m w) {b : Nat} (hb : b < m.hp.length) : MR X W0 { m with hp := m.hp.set b ⟨false, [.dead]⟩ } w := by
  refine ⟨M.below, M.cell, fun j γ hj => by have := M.ldom j γ hj; simpa using this, fun j blk' hj => ?_, fun i j β bi bj h1 h2 g1 g2 => ?_, M.odom, M.toks, M.oinj, M.gl, M.rm⟩
  · by_cases hjb : j = b
    · subst hjb
      simp only [List.getElem?_set_self hb, Option.some.injEq] at hj
      subst hj
      obtain ⟨β, k1, k2, k3, _⟩ := M.locs j m.hp[j] (List.getElem?_eq_getElem hb)
      exact ⟨β, k1, k2, k3, .dead rfl⟩
    · simp only [List.getElem?_set_ne (Ne.symm hjb)] at hj
      exact M.locs j blk' hj
  · by_cases hi : i = b
    · subst hi
      rw [List.getElem?_set_self hb] at g1
      injection g1 with g1
      exact Or.inr (Or.inl (by rw [← g1]; rfl))
    · by_cases hj : j = b
      · subst hj
        rw [List.getElem?_set_self hb] at g2
        injection g2 with g2
        exact Or.inr (Or.inr (by rw [← g2]; rfl))
      · rw [List.getElem?_set_ne (Ne.symm hi)] at g1
        rw [List.getElem?_set_ne (Ne.symm hj)] at g2
        exact M.inj i j β bi bj h1 h2 g1 g2
theorem MR.deadWrite (M : MR X W0 m w) {β : Nat} {arr arr' : Array Value} {t : TypeId} (hW : W0.heap.size ≤ β) (hw : w.heap[β]? = some (.cells arr t (0, 0))) (hs : arr'.size = arr.size) (hcell : ∀ o, X.cell β o = none) (hloc : ∀ i bi, X.loc i = some β → m.hp[i]? = some bi → bi.isDead) (hown : ∀ k T, X.own k = some T → T.g ≠ β) :
    MR X W0 m (w.setRow β arr') := by
  have hnew := setRow_heap w β arr arr' t _ hw
  have hoth : ∀ g, g ≠ β → (w.setRow β arr').heap[g]? = w.heap[g]? := fun g hg => setRow_other w β g _ hg
  refine ⟨M.below.trans ⟨rfl, rfl, rfl, by rw [setRow_size]; exact Nat.le_refl _, fun g hg => hoth g (by omega)⟩, fun g o x hx => ?_, M.ldom, fun i blk h => ?_, M.inj, M.odom, fun k r hk => ?_, M.oinj, M.gl, fun γ hγ => ?_⟩
  · have hg : g ≠ β := fun e => by subst e; rw [hcell] at hx; cases hx
    rw [World.cell?_of_block (w := w) (hoth g hg)]
    exact M.cell g o x hx
  · obtain ⟨γ, k1, k2, k3, k4⟩ := M.locs i blk h
    refine ⟨γ, k1, k2, by rw [setRow_size]; exact k3, k4.move (Mem.Le.refl W0.heap.size X) (fun hd => hoth γ (fun e => hd (hloc i blk (e ▸ k1) h))) (fun _ h => h)⟩
  · obtain ⟨T, k1, k2, k3, k4, k5, k6, ⟨cur, k7, k8⟩, k9, k10⟩ := M.toks k r hk
    exact ⟨T, k1, k2, k3, k4, k5, k6, ⟨cur, by rw [hoth T.g (hown k T k1)]; exact k7, k8⟩, k9, k10⟩
  · obtain ⟨ar, tt, zz, q1, q2⟩ := M.rm γ hγ
    by_cases hb : γ = β
    · subst hb
      rw [hw] at q1
      injection q1 with q1
      injection q1 with q1 q3
      subst q1
      exact ⟨arr', t, _, hnew, by rw [hs]; exact q2⟩
    · exact ⟨ar, tt, zz, by rw [hoth γ hb]; exact q1, q2⟩
def Mem.adopt (X : Mem) (i β R : Nat) : Mem := ⟨X.cell, fun j => if j = i then some β else X.loc j, X.own, fun γ => if γ = β then R else X.room γ⟩
theorem MR.le_adopt (M : MR X W0 m w) {β R : Nat} (hR : X.room β ≤ R) : X.Le W0.heap.size (X.adopt m.hp.length β R) := by
  refine ⟨fun _ _ _ h => h, fun _ _ _ _ h => h, fun i γ h => ?_, fun k T h => ⟨T, h, Or.inl rfl⟩, fun γ => ?_⟩
  · have := M.ldom i γ h
    simp only [Mem.adopt]
    rw [if_neg (by omega)]
    exact h
  · simp only [Mem.adopt]
    split
    · rename_i e; rw [e]; exact hR
    · exact Nat.le_refl _
theorem MR.adoptB (M : MR X W0 m w) {β R : Nat} {cur : Array Value} {t : TypeId} {cs : List AV} (hW : W0.heap.size ≤ β) (hloc : ∀ i bi, X.loc i = some β → m.hp[i]? = some bi → bi.isDead) (hown : ∀ k T, X.own k = some T → T.g ≠ β)
    (hheap : w.heap[β]? = some (.cells cur t (0, 0))) (hB : BlkIs (X.adopt m.hp.length β R) w β ⟨false, cs⟩) (hR : X.room β ≤ R) (hRs : R ≤ cur.size) :
    MR (X.adopt m.hp.length β R) W0 { m with hp := m.hp ++ [⟨false, cs⟩] } w ∧ X.Le W0.heap.size (X.adopt m.hp.length β R) := by
  have hle := M.le_adopt (R := R) hR
  refine ⟨⟨M.below, M.cell, fun i γ h => ?_, fun i blk h => ?_, fun i j γ bi bj h1 h2 g1 g2 => ?_, M.odom, fun k n h => ?_, M.oinj, M.gl, fun γ hγ => ?_⟩, hle⟩
  · simp only [Mem.adopt] at h
    simp only [List.length_append, List.length_singleton]
    split at h
    · omega
    · have := M.ldom i γ h; omega
  · by_cases hi : i < m.hp.length
    · simp only at h
      rw [List.getElem?_append_left hi] at h
      obtain ⟨γ, h1, h2, h3, hB⟩ := M.locs i blk h
      exact ⟨γ, hle.loc _ _ h1, h2, h3, hB.move hle (fun _ => rfl) (fun _ h => h)⟩
    · simp only at h
      rw [List.getElem?_append_right (by omega)] at h
      have hi2 : i = m.hp.length := by
        have := (List.getElem?_eq_some_iff.1 h).1
        simp at this
        omega
      subst hi2
      simp at h
      subst h
      exact ⟨β, by simp [Mem.adopt], hW, (Array.getElem?_eq_some_iff.1 hheap).1, hB⟩
  · have dead : ∀ {i : Nat} {bi : Blk}, X.loc i = some β → (m.hp ++ [(⟨false, cs⟩ : Blk)])[i]? = some bi → bi.isDead := fun {i bi} h g => by
      have hi := M.ldom i β h
      rw [List.getElem?_append_left hi] at g
      exact hloc i bi h g
    simp only [Mem.adopt] at h1 h2
    split at h1
    · split at h2
      · left; omega
      · injection h1 with h1
        subst h1
        exact Or.inr (Or.inr (dead h2 g2))
    · split at h2
      · injection h2 with h2
        subst h2
        exact Or.inr (Or.inl (dead h1 g1))
      · have hi := M.ldom i γ h1
        have hj := M.ldom j γ h2
        simp only at g1 g2
        rw [List.getElem?_append_left hi] at g1
        rw [List.getElem?_append_left hj] at g2
        exact M.inj i j γ bi bj h1 h2 g1 g2
  · obtain ⟨T, h1, h2, h3, h4, h5, h6, h7, h8, h9⟩ := M.toks k n h
    refine ⟨T, h1, h2, h3, h4, h5, h6, h7, h8, fun i hi => ?_⟩
    simp only [Mem.adopt] at hi
    split at hi
    · injection hi with hi
      exact hown k T h1 hi.symm
    · exact h9 i hi
  · simp only [Mem.adopt] at hγ ⊢
    by_cases e : γ = β
    · subst e
      rw [if_pos rfl]
      exact ⟨cur, t, _, hheap, hRs⟩
    · rw [if_neg e] at hγ ⊢
      exact M.rm γ hγ
theorem MR.adopt' (M : MR X W0 m w) {β R : Nat} {cur : Array Value} {t : TypeId} {cs : List AV} (hW : W0.heap.size ≤ β) (hcell : ∀ o, X.cell β o = none) (hloc : ∀ i bi, X.loc i = some β → m.hp[i]? = some bi → bi.isDead) (hown : ∀ k T, X.own k = some T → T.g ≠ β)
    (hheap : w.heap[β]? = some (.cells cur t (0, 0))) (hl : cs.length ≤ cur.size) (hr : Reps X cs (cur.toList.take cs.length)) (hR : X.room β ≤ R) (hRs : R ≤ cur.size) :
    MR (X.adopt m.hp.length β R) W0 { m with hp := m.hp ++ [⟨false, cs⟩] } w ∧ X.Le W0.heap.size (X.adopt m.hp.length β R) :=
  M.adoptB hW hloc hown hheap (.cells hheap hl (hr.mono (M.le_adopt hR)) (fun hf => by cases hf) fun _ o => hcell o) hR hRs
def aAppendL (P : Program) (m : Mm) (t : TypeId) (s x : AV) : Option (AV × Mm) :=
  match P.underlying t with
  | some (.slice e) => match info3 P e, slV x with
    | some (size, bytes), some (k, ds) => if Nat.beq k 0 then none else
      match s with
      | .c (.sl true 0 []) => if fits 0 k size bytes 0 ds.length then some (.lsl m.hp.length 0 k size, { m with hp := m.hp ++ [⟨false, ds.map .c⟩] }) else none
      | .lsl b lo n sz => match m.hp[b]? with
        | some blk => if (Nat.beq lo 0 && (Nat.beq sz size && (plainB blk.cs && (!blk.fz && Nat.ble (n * size) blk.cs.length)))) && fits n k size bytes (n * size) ds.length then
            some (.lsl m.hp.length 0 (n + k) size, { m with hp := m.hp.set b ⟨false, [.dead]⟩ ++ [⟨false, blk.cs.take (n * size) ++ ds.map .c⟩] }) else none
        | none => none
      | _ => none
    | _, _ => none
  | _ => none
theorem run_append_into {t ty e : TypeId} {i : TypeInfo} (ht : P.underlying t = some (.slice e)) (hi : P.info? e = some i) {β n cap k c : Nat} {a : Addr} {ys : List Value} {arr : Array Value} {tb : TypeId} (hw : w.heap[β]? = some (.cells arr tb (0, 0)))
    (hyl : ys.length = k * i.size) (hys : ∀ j u, ys[j]? = some u → w.cell? (a.add j) = some u) (h1 : ∀ u ∈ ys, u.oneCell' = true) (hroom : n + k ≤ cap) (hfit : n * i.size + ys.length ≤ arr.size) :
    (Builtin.append_ #[t, t] ty #[.slice (some ⟨β, 0, none⟩) n cap, .slice (some a) k c]).run P w = .ok (.slice (some ⟨β, 0, none⟩) (n + k) cap) (w.setRow β (arr.toList.take (n * i.size) ++ ys ++ arr.toList.drop (n * i.size + ys.length)).toArray) := by
  have hfc := run_firstCells_some (P := P) w i.size k a k c ys hyl hys
  have hst := run_storeCells_at P β (n * i.size) tb ys 0 arr w hw (by simpa using hfit) h1
  simp only [Nat.add_zero] at hst
  simp [Builtin.append_, run_underlying ht, sizeOf, typeInfo, hi, Builtin.lenOf, hroom, hfc, Addr.add_lit, hst]
theorem MR.noRoom (M : MR X W0 m w) : X.room w.heap.size = 0 := by
  rcases Nat.eq_zero_or_pos (X.room w.heap.size) with h0 | h0
  · exact h0
  · obtain ⟨ar, tt, zz, q1, _⟩ := M.rm _ h0
    have := (Array.getElem?_eq_some_iff.1 q1).1
    omega
theorem MR.newRow (M : MR X W0 m w) {e : TypeId} {cs : List AV} {xs : List Value} {rest : Array Value} {R : Nat} (hr : Reps X cs xs) (hR : R ≤ (xs.toArray ++ rest).size) :
    MR (X.adopt m.hp.length w.heap.size R) W0 { m with hp := m.hp ++ [⟨false, cs⟩] } (w.drew.alloc (.cells (xs.toArray ++ rest) e)) ∧ X.Le W0.heap.size (X.adopt m.hp.length w.heap.size R) := by
  have M1 := M.grow (below_drew_alloc w (.cells (xs.toArray ++ rest) e))
  have hn : (w.drew.alloc (.cells (xs.toArray ++ rest) e)).heap[w.heap.size]? = some (.cells (xs.toArray ++ rest) e (0, 0)) := halloc_new w.drew _
  refine M1.adopt' (t := e) M.below.size (fun o => M.newCell o) (fun i bi h _ => ?_) (fun k T h => ?_) hn ?_ ?_ ?_ hR
  · have := (M.locBlock h).1; omega
  · have := (M.tokBlock h).1; omega
  · rw [hr.1, Array.size_append, List.size_toArray]; omega
  · rw [hr.1, Array.toList_append, List.take_left' rfl]
    exact hr
  · rw [M.noRoom]; exact Nat.zero_le _
theorem aAppendL_ok (M : MR X W0 m w) {t ty : TypeId} {s x c : AV} {m' : Mm} {vs vx : Value} (h : aAppendL P m t s x = some (c, m')) (hs : Rep X s vs) (hx : Rep X x vx) :
    ∃ V X' w', (Builtin.append_ #[t, t] ty #[vs, vx]).run P w = .ok V w' ∧ X.Le W0.heap.size X' ∧ Rep X' c V ∧ MR X' W0 m' w' := by
  unfold aAppendL at h
  split at h
  · rename_i e ht
    split at h
    · rename_i size bytes k ds hinf hk
      obtain ⟨i, z, hi, hz, hzs, hsz, rfl, rfl⟩ := info3_spec hinf
      obtain ⟨ax, capx, ys, rfl, hry, hnx, hcx, hay⟩ := slV_rep hk hx
      split at h
      · cases h
      · rename_i hk0
        have hk0 : 0 < k := Nat.pos_of_ne_zero (fun e => hk0 (by rw [e]; rfl))
        split at h
        · split at h
          · rename_i hfit
            obtain ⟨f1, f2, f3, f4⟩ := fits_spec hfit
            simp only [Option.some.injEq, Prod.mk.injEq] at h
            obtain ⟨rfl, rfl⟩ := h
            have hylen : ys.length = k * i.size := by rw [← hry.1, f4]
            cases hs with
            | c hs =>
              cases hs with
              | sl hl h0 hn hcap he hxx =>
                rename_i xs a cap
                obtain rfl : cap = 0 := he rfl
                obtain ⟨cap', rest, q1, q2, q3, q4⟩ := run_append_move (ty := ty) (X := X) (xs := []) ht hi hz hzs hsz (a := a) (fun j x h => by simp at h) (by simp) hay hylen hk0 M.cell (Nat.le_refl 0) (by omega : 0 < 0 + k) f1 f2 (c := capx) (fun _ => rfl)
                rw [List.nil_append] at q3 q4
                obtain ⟨A, hle⟩ := M.newRow (e := e) (R := cap' * i.size) (reps_c hry) (by rw [q3]; exact Nat.le_refl _) (rest := rest)
                refine ⟨_, _, _, q4, hle, ?_, A⟩
                rw [Nat.zero_add] at q1 ⊢
                refine .lsl (by simp [Mem.adopt]) (fun _ => by rw [Nat.zero_mul]) q1 q2 ?_
                simp only [Mem.adopt, if_true, Nat.zero_add]
                exact Nat.le_refl _
          · cases h
        · rename_i b lo n sz
          split at h
          · rename_i blk hblk
            split at h
            · rename_i hc
              simp only [Bool.and_eq_true, Bool.not_eq_true', Nat.ble_eq] at hc
              obtain ⟨⟨hlo, hsz2, hpl, hfz, hle0⟩, hfit⟩ := hc
              have hlo := Nat.eq_of_beq_eq_true hlo
              have hsz2 := Nat.eq_of_beq_eq_true hsz2
              subst hlo hsz2
              obtain ⟨f1, f2, f3, f4⟩ := fits_spec hfit
              simp only [Option.some.injEq, Prod.mk.injEq] at h
              obtain ⟨rfl, rfl⟩ := h
              have hylen : ys.length = k * i.size := by rw [← hry.1, f4]
              have hyp : 0 < ys.length := by rw [hylen]; exact Nat.mul_pos hk0 hsz
              obtain ⟨bx, ox, rfl⟩ := hay.some hyp
              have hys : ∀ j u, ys[j]? = some u → w.cell? ((⟨bx, ox, none⟩ : Addr).add j) = some u := fun j u hu => by
                obtain ⟨b', o', e3, h3⟩ := hay j u hu
                injection e3 with e3
                injection e3 with e3 e4
                subst e3 e4
                rw [add_none]
                exact M.cell _ _ _ h3
              have h1c : ∀ u ∈ ys, u.oneCell' = true := fun u hu => by
                obtain ⟨q, hq, rfl⟩ := List.mem_iff_getElem.1 hu
                exact (hry.2 q _ _ (List.getElem?_eq_getElem (hry.1 ▸ hq)) (List.getElem?_eq_getElem hq)).one
              have hblt := (List.getElem?_eq_some_iff.1 hblk).1
              have Mk := M.kill hblt
              cases hs with
              | lsl hb ho hn hcap hrm =>
                rename_i β o cap
                obtain ⟨β', g1, g2, gs, hB⟩ := M.locs b blk hblk
                obtain ⟨t', arr, g3, gal, g4, g5, g6⟩ := hB.plain hpl
                rw [hb] at g1
                injection g1 with g1
                subst g1
                have hlocs : ∀ j bj, X.loc j = some β → (m.hp.set b ⟨false, [.dead]⟩)[j]? = some bj → bj.isDead := fun j bj h1 h2 => by
                  by_cases hj : j = b
                  · subst hj
                    rw [List.getElem?_set_self hblt] at h2
                    injection h2 with h2
                    rw [← h2]; rfl
                  · rw [List.getElem?_set_ne (Ne.symm hj)] at h2
                    exact M.alone' h1 hb h2 hblk (plain_alive hpl) hj
                have hown : ∀ k T, X.own k = some T → T.g ≠ β := fun k T h e => by
                  have hk := M.odom k T h
                  obtain ⟨T', q1, _, _, _, _, _, _, _, q10⟩ := M.toks k m.hw[k] (List.getElem?_eq_getElem hk)
                  rw [h] at q1
                  injection q1 with q1
                  subst q1
                  exact q10 b (e ▸ hb)
                have hxr : Reps X (blk.cs.take (n * i.size)) (arr.toList.take (n * i.size)) := by
                  refine ⟨by rw [List.length_take, List.length_take, Array.length_toList]; omega, fun q c x h1 h2 => ?_⟩
                  rw [List.getElem?_take] at h1 h2
                  split at h1
                  · rename_i hq
                    rw [if_pos hq] at h2
                    refine g4.2 q c x h1 ?_
                    have := (List.getElem?_eq_some_iff.1 h1).1
                    rw [List.getElem?_take, if_pos this]
                    exact h2
                  · cases h1
                have hnew := hxr
                have hcat : Reps X (blk.cs.take (n * i.size) ++ ds.map .c) (arr.toList.take (n * i.size) ++ ys) := by
                  have hd := reps_c hry
                  refine ⟨by rw [List.length_append, List.length_append, hxr.1, hd.1], fun q c x h1 h2 => ?_⟩
                  by_cases hq : q < (blk.cs.take (n * i.size)).length
                  · rw [List.getElem?_append_left hq] at h1
                    rw [List.getElem?_append_left (hxr.1 ▸ hq)] at h2
                    exact hxr.2 q c x h1 h2
                  · rw [List.getElem?_append_right (by omega)] at h1
                    rw [List.getElem?_append_right (by rw [← hxr.1]; omega), ← hxr.1] at h2
                    exact hd.2 _ c x h1 h2
                have htl : (arr.toList.take (n * i.size)).length = n * i.size := by rw [List.length_take, Array.length_toList]; omega
                by_cases hroom : n + k ≤ cap
                · have ho := ho (by omega)
                  rw [Nat.zero_mul] at ho
                  subst ho
                  have hcs : cap * i.size ≤ X.room β := by rw [Nat.zero_add] at hrm; exact hrm
                  have hpos : 0 < X.room β := Nat.lt_of_lt_of_le (Nat.mul_pos (by omega) hsz) hcs
                  obtain ⟨ar2, tt2, zz2, q1, q2⟩ := M.rm β hpos
                  rw [g3] at q1
                  injection q1 with q1
                  injection q1 with q1 q1t
                  subst q1
                  have hfit2 : n * i.size + ys.length ≤ arr.size := by
                    rw [hylen, ← Nat.add_mul]
                    exact Nat.le_trans (Nat.mul_le_mul_right _ hroom) (Nat.le_trans hcs q2)
                  have hrun := run_append_into (P := P) (ty := ty) (c := capx) ht hi g3 hylen hys h1c hroom hfit2
                  have hsz' : (arr.toList.take (n * i.size) ++ ys ++ arr.toList.drop (n * i.size + ys.length)).toArray.size = arr.size := by
                    simp only [List.size_toArray, List.length_append, List.length_drop, Array.length_toList, htl]
                    omega
                  have Md := Mk.deadWrite g2 g3 hsz' (g6 hfz) hlocs hown
                  have hheap := setRow_heap w β arr (arr.toList.take (n * i.size) ++ ys ++ arr.toList.drop (n * i.size + ys.length)).toArray t' _ g3
                  obtain ⟨A, hle⟩ := Md.adopt' (β := β) (R := X.room β) (cs := blk.cs.take (n * i.size) ++ ds.map .c) g2 (g6 hfz) hlocs hown hheap (by rw [hcat.1, hsz', List.length_append, htl]; exact hfit2) (by
                    rw [hcat.1, List.toList_toArray, List.take_left' rfl]
                    exact hcat) (Nat.le_refl _) (by rw [hsz']; exact q2)
                  simp only [List.length_set] at A hle
                  refine ⟨_, _, _, hrun, hle, .lsl ?_ (fun _ => by rw [Nat.zero_mul]) hroom hcap ?_, ?_⟩
                  · simp [Mem.adopt]
                  · simp only [Mem.adopt, if_true, Nat.zero_add]
                    exact hcs
                  · exact A
                · have hxs : ∀ j u, (arr.toList.take (n * i.size))[j]? = some u → w.cell? ((⟨β, o, none⟩ : Addr).add j) = some u := fun j u hu => by
                    rcases Nat.eq_zero_or_pos n with h0 | h0
                    · subst h0
                      rw [Nat.zero_mul, List.take_zero] at hu
                      simp at hu
                    · have ho := ho (by omega)
                      rw [Nat.zero_mul] at ho
                      subst ho
                      rw [add_none, Nat.zero_add]
                      rw [List.getElem?_take] at hu
                      split at hu
                      · exact cell_of_heap g3 (by simpa using hu)
                      · cases hu
                  have hg : cap < n + k := by omega
                  have hr := run_append_grow (P := P) w t ty e i z ht hi hz ⟨β, o, none⟩ n cap (arr.toList.take (n * i.size)) htl hxs ⟨bx, ox, none⟩ k capx ys hylen hys hg (by unfold maxLen at f1; omega) (growslice_fits hg f2)
                  have hge := grownCap_ge w (n + k) cap e
                  have hszz : ((arr.toList.take (n * i.size) ++ ys).toArray ++ Builtin.zeroCells z.cells (grownCap w (n + k) cap e - (n + k))).size = grownCap w (n + k) cap e * i.size := by
                    simp only [Array.size_append, List.size_toArray, List.length_append, size_zeros, htl, hylen, hzs, ← Nat.add_mul]
                    congr 1
                    omega
                  obtain ⟨A, hle⟩ := Mk.newRow (e := e) (R := grownCap w (n + k) cap e * i.size) hcat (by rw [hszz]; exact Nat.le_refl _) (rest := Builtin.zeroCells z.cells (grownCap w (n + k) cap e - (n + k)))
                  simp only [List.length_set] at A hle
                  refine ⟨.slice (some ⟨w.heap.size, 0, none⟩) (n + k) (grownCap w (n + k) cap e), _, _, ?_, hle, .lsl ?_ (fun _ => by rw [Nat.zero_mul]) hge (grownCap_le_maxLen w (n + k) cap e f1) ?_, A⟩
                  · rw [hr]
                    congr 4
                    simp
                  · simp [Mem.adopt]
                  · simp only [Mem.adopt, if_true, Nat.zero_add]
                    exact Nat.le_refl _
            · cases h
          · cases h
        · cases h
    · cases h
  · cases h
end Go.Vs.Ab
