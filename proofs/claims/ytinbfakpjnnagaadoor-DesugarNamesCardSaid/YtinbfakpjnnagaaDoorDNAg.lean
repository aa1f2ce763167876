/-
  One operation on abstract values and memory. No program in sight.
-/
import Derived.Test.YtinbfakpjnnagaaDoorDNBd
namespace Go.Vs.Ab
open Go.RowKit
variable {P : Program} {X : Mem} {W0 w w' : World} {m : Mm}
/-! ### stores -/
def aStore (P : Program) (m : Mm) (t : TypeId) (p v : AV) : Option Mm :=
  match p with
  | .ptr b off => match m.hp[b]?, avCells v, tsz P t with
    | some blk, some cs, some i => if plainB blk.cs && (!blk.fz && Nat.beq cs.length i && Nat.ble (off + cs.length) blk.cs.length) then
        some { m with hp := m.hp.set b ⟨false, blk.cs.take off ++ cs ++ blk.cs.drop (off + cs.length)⟩ } else none
    | _, _, _ => none
  | _ => none
theorem splice_take {xs ys : List Value} {off L : Nat} (h : off + ys.length ≤ L) (hL : L ≤ xs.length) : (xs.take off ++ ys ++ xs.drop (off + ys.length)).take L = (xs.take L).take off ++ ys ++ (xs.take L).drop (off + ys.length) := by
  apply List.ext_getElem?
  intro i
  simp only [List.getElem?_take, List.getElem?_append, List.length_append, List.length_take, List.getElem?_drop]
  rw [Nat.min_eq_left (by omega : off ≤ xs.length), Nat.min_eq_left hL, Nat.min_eq_left (by omega : off ≤ L)]
  by_cases hi : i < L
  · rw [if_pos hi]
    by_cases h1 : i < off
    · rw [if_pos (by omega), if_pos h1, if_pos h1, if_pos (by omega), if_pos h1, if_pos h1, if_pos hi]
    · by_cases h2 : i < off + ys.length
      · rw [if_pos h2, if_neg h1, if_pos h2, if_neg h1]
      · rw [if_neg h2, if_neg h2, if_pos (by omega)]
  · rw [if_neg hi, if_neg (by omega), if_neg (by omega)]
theorem cleans_plain {cs : List AV} {ds : List CV} (h : cleans cs = some ds) : plainB cs = true := by
  cases cs with
  | nil => rfl
  | cons c r => cases c <;> first | rfl | simp [cleans, clean] at h
theorem MR.alone (M : MR X W0 m w) {i j β : Nat} {bi bj : Blk} (h1 : X.loc i = some β) (h2 : X.loc j = some β) (g1 : m.hp[i]? = some bi) (g2 : m.hp[j]? = some bj) (hb : plainB bj.cs = true) (hne : i ≠ j) : bi.isDead := by
  rcases M.inj i j β bi bj h1 h2 g1 g2 with h | h | h
  · exact absurd h hne
  · exact h
  · exact absurd h (plain_alive hb)
theorem MR.setInj (M : MR X W0 m w) {b : Nat} {blk nb : Blk} (hb : m.hp[b]? = some blk) (hp : plainB blk.cs = true) : ∀ i j β bi bj, X.loc i = some β → X.loc j = some β → (m.hp.set b nb)[i]? = some bi → (m.hp.set b nb)[j]? = some bj → i = j ∨ bi.isDead ∨ bj.isDead := fun i j β bi bj h1 h2 g1 g2 => by
  by_cases ij : i = j
  · exact Or.inl ij
  · right
    by_cases hi : i = b
    · subst hi
      rw [List.getElem?_set_ne ij] at g2
      exact Or.inr (M.alone h2 h1 g2 hb hp (Ne.symm ij))
    · by_cases hj : j = b
      · subst hj
        rw [List.getElem?_set_ne (Ne.symm hi)] at g1
        exact Or.inl (M.alone h1 h2 g1 hb hp ij)
      · rw [List.getElem?_set_ne (Ne.symm hi)] at g1
        rw [List.getElem?_set_ne (Ne.symm hj)] at g2
        rcases M.inj i j β bi bj h1 h2 g1 g2 with h | h
        · exact absurd h ij
        · exact h
theorem aStore_ok (M : MR X W0 m w) {t : TypeId} {p v : AV} {q y : Value} {m' : Mm} (h : aStore P m t p v = some m') (hp : Rep X p q) (hv : Rep X v y) :
    ∃ w', (Instr.storeAt t q y).run P w = .ok () w' ∧ MR X W0 m' w' := by
  unfold aStore at h
  split at h
  · rename_i b off
    cases hp with
    | ptr hb =>
      rename_i β
      split at h
      · rename_i blk cs i h1 h2 h3
        have q0 := tsz_spec h3
        clear h3
        obtain ⟨i, h3, rfl⟩ := q0
        split at h
        · rename_i hc
          simp only [Bool.and_eq_true, Bool.not_eq_true', Nat.ble_eq] at hc
          obtain ⟨hpl, ⟨hf, hl⟩, hle⟩ := hc
          have hl := Nat.eq_of_beq_eq_true hl
          injection h with h
          subst h
          obtain ⟨β', g1, g2, gs, hB⟩ := M.locs b blk h1
          obtain ⟨t', arr, g3, gal, g4, g5, g6⟩ := hB.plain hpl
          rw [hb] at g1
          injection g1 with g1
          subst g1
          obtain ⟨r1, r2⟩ := avCells_rep h2 hv
          have hsz : y.cells.size = i.size := by rw [← hl, r1.1]; simp
          have hsz2 : y.cells.toList.length = cs.length := by rw [← r1.1]
          have hst := run_storeCells_at P β off t' y.cells.toList 0 arr w g3 (by rw [hsz2]; omega) r2
          simp only [Nat.add_zero] at hst
          have hnew := setRow_heap w β arr (arr.toList.take off ++ y.cells.toList ++ arr.toList.drop (off + y.cells.toList.length)).toArray t' _ g3
          generalize hw' : w.setRow β (arr.toList.take off ++ y.cells.toList ++ arr.toList.drop (off + y.cells.toList.length)).toArray = w' at hst hnew
          have hoth : ∀ g, g ≠ β → w'.heap[g]? = w.heap[g]? := fun g hg => by rw [← hw']; exact setRow_other w β g _ hg
          have hb0 := M.locBlock hb
          refine ⟨w', ?_, ?_⟩
          · have e1 : y.cells.size = y.cells.toList.length := by simp
            simp only [Instr.storeAt, Instr.sureAddr, storeVar, Sem.run_bind, Sem.run_pure, Result.andThen_ok, run_size h3, hsz, ne_eq, not_true_eq_false, if_false, hst]
          · refine ⟨?_, fun g o x hx => ?_, fun j γ hj => ?_, fun j blk' hj => ?_, M.setInj h1 hpl, M.odom, fun k r hk => ?_, M.oinj, M.gl, fun γ hγ => ?_⟩
            · refine M.below.trans ?_
              rw [← hw']
              exact ⟨rfl, rfl, rfl, by rw [setRow_size]; exact Nat.le_refl _, fun g hg => setRow_other w β g _ (by omega)⟩
            · have hg : g ≠ β := fun e => by subst e; rw [g6 hf] at hx; cases hx
              rw [World.cell?_of_block (w := w) (hoth g hg)]
              exact M.cell g o x hx
            · have := M.ldom j γ hj; simpa using this
            · by_cases hjb : j = b
              · subst hjb
                have hlt := (List.getElem?_eq_some_iff.1 h1).1
                simp only [List.getElem?_set_self hlt, Option.some.injEq] at hj
                subst hj
                have hsp := reps_splice g4 r1 hle
                have hL : (blk.cs.take off ++ cs ++ blk.cs.drop (off + cs.length)).length = blk.cs.length := by simp; omega
                refine ⟨β, hb, g2, ?_, .cells hnew ?_ ?_ (fun e => by cases e) fun _ => g6 hf⟩
                · exact (Array.getElem?_eq_some_iff.1 hnew).1
                · show (blk.cs.take off ++ cs ++ blk.cs.drop (off + cs.length)).length ≤ _
                  rw [hL]
                  simp
                  omega
                · show Reps X (blk.cs.take off ++ cs ++ blk.cs.drop (off + cs.length)) _
                  rw [hL, List.toList_toArray, splice_take (by rw [hsz2]; exact hle) (by simpa using gal)]
                  exact hsp
              · simp only [List.getElem?_set_ne (Ne.symm hjb)] at hj
                obtain ⟨γ, k1, k2, k3, k4⟩ := M.locs j blk' hj
                have hne : ¬ blk'.isDead → γ ≠ β := fun hd e => hd (M.alone (e ▸ k1) hb hj h1 hpl hjb)
                exact ⟨γ, k1, k2, by rw [← hw', setRow_size]; exact k3, k4.move (Mem.Le.refl W0.heap.size X) (fun hd => hoth γ (hne hd)) (fun _ h => h)⟩
            · obtain ⟨T, k1, k2, k3, k4, k5, k6, ⟨cur, k7, k8⟩, k9, k10⟩ := M.toks k r hk
              have hne : T.g ≠ β := fun e => k10 b (e ▸ hb)
              exact ⟨T, k1, k2, k3, k4, k5, k6, ⟨cur, by rw [hoth T.g hne]; exact k7, k8⟩, k9, k10⟩
            · obtain ⟨ar, tt, zz, q1, q2⟩ := M.rm γ hγ
              by_cases hb2 : γ = β
              · subst hb2
                rw [g3] at q1
                injection q1 with q1
                injection q1 with q1 q3
                subst q1
                refine ⟨_, _, _, hnew, ?_⟩
                simp only [List.size_toArray, List.length_append, List.length_take, List.length_drop, Array.length_toList]
                omega
              · exact ⟨ar, tt, zz, by rw [hoth γ hb2]; exact q1, q2⟩
        · cases h
      · cases h
  · cases h
theorem MR.putCells (M : MR X W0 m w) {b β off : Nat} {blk : Blk} {cs : List AV} {xs : List Value} (hb : X.loc b = some β) (h1 : m.hp[b]? = some blk) (hpl : plainB blk.cs = true) (hf : blk.fz = false) (hle : off + cs.length ≤ blk.cs.length) (r1 : Reps X cs xs) (r2 : ∀ u ∈ xs, u.oneCell' = true) :
    ∃ w', (storeCells ⟨β, off, none⟩ xs).run P w = .ok () w' ∧ MR X W0 { m with hp := m.hp.set b ⟨false, blk.cs.take off ++ cs ++ blk.cs.drop (off + cs.length)⟩ } w' := by
  obtain ⟨β', g1, g2, gs, hB⟩ := M.locs b blk h1
  obtain ⟨t', arr, g3, gal, g4, g5, g6⟩ := hB.plain hpl
  rw [hb] at g1
  injection g1 with g1
  subst g1
  have hsz2 : xs.length = cs.length := by rw [← r1.1]
  have hst := run_storeCells_at P β off t' xs 0 arr w g3 (by rw [hsz2]; omega) r2
  simp only [Nat.add_zero] at hst
  have hnew := setRow_heap w β arr (arr.toList.take off ++ xs ++ arr.toList.drop (off + xs.length)).toArray t' _ g3
  generalize hw' : w.setRow β (arr.toList.take off ++ xs ++ arr.toList.drop (off + xs.length)).toArray = w' at hst hnew
  have hoth : ∀ g, g ≠ β → w'.heap[g]? = w.heap[g]? := fun g hg => by rw [← hw']; exact setRow_other w β g _ hg
  have hb0 := M.locBlock hb
  refine ⟨w', hst, ?_⟩
  refine ⟨?_, fun g o x hx => ?_, fun j γ hj => ?_, fun j blk' hj => ?_, M.setInj h1 hpl, M.odom, fun k r hk => ?_, M.oinj, M.gl, fun γ hγ => ?_⟩
  · refine M.below.trans ?_
    rw [← hw']
    exact ⟨rfl, rfl, rfl, by rw [setRow_size]; exact Nat.le_refl _, fun g hg => setRow_other w β g _ (by omega)⟩
  · have hg : g ≠ β := fun e => by subst e; rw [g6 hf] at hx; cases hx
    rw [World.cell?_of_block (w := w) (hoth g hg)]
    exact M.cell g o x hx
  · have := M.ldom j γ hj; simpa using this
  · by_cases hjb : j = b
    · subst hjb
      have hlt := (List.getElem?_eq_some_iff.1 h1).1
      simp only [List.getElem?_set_self hlt, Option.some.injEq] at hj
      subst hj
      have hsp := reps_splice g4 r1 hle
      have hL : (blk.cs.take off ++ cs ++ blk.cs.drop (off + cs.length)).length = blk.cs.length := by simp; omega
      refine ⟨β, hb, g2, ?_, .cells hnew ?_ ?_ (fun e => by cases e) fun _ => g6 hf⟩
      · exact (Array.getElem?_eq_some_iff.1 hnew).1
      · show (blk.cs.take off ++ cs ++ blk.cs.drop (off + cs.length)).length ≤ _
        rw [hL]
        simp
        omega
      · show Reps X (blk.cs.take off ++ cs ++ blk.cs.drop (off + cs.length)) _
        rw [hL, List.toList_toArray, splice_take (by rw [hsz2]; exact hle) (by simpa using gal)]
        exact hsp
    · simp only [List.getElem?_set_ne (Ne.symm hjb)] at hj
      obtain ⟨γ, k1, k2, k3, k4⟩ := M.locs j blk' hj
      have hne : ¬ blk'.isDead → γ ≠ β := fun hd e => hd (M.alone (e ▸ k1) hb hj h1 hpl hjb)
      exact ⟨γ, k1, k2, by rw [← hw', setRow_size]; exact k3, k4.move (Mem.Le.refl W0.heap.size X) (fun hd => hoth γ (hne hd)) (fun _ h => h)⟩
  · obtain ⟨T, k1, k2, k3, k4, k5, k6, ⟨cur, k7, k8⟩, k9, k10⟩ := M.toks k r hk
    have hne : T.g ≠ β := fun e => k10 b (e ▸ hb)
    exact ⟨T, k1, k2, k3, k4, k5, k6, ⟨cur, by rw [hoth T.g hne]; exact k7, k8⟩, k9, k10⟩
  · obtain ⟨ar, tt, zz, q1, q2⟩ := M.rm γ hγ
    by_cases hb2 : γ = β
    · subst hb2
      rw [g3] at q1
      injection q1 with q1
      injection q1 with q1 q3
      subst q1
      refine ⟨_, _, _, hnew, ?_⟩
      simp only [List.size_toArray, List.length_append, List.length_take, List.length_drop, Array.length_toList]
      omega
    · exact ⟨ar, tt, zz, by rw [hoth γ hb2]; exact q1, q2⟩
def zrs (n : Nat) (zs : List CV) : List AV := ((List.range (n * zs.length)).map fun i => zs.getD (i % zs.length) default).map .c
def aClear (P : Program) (m : Mm) (t : TypeId) (p : AV) : Option Mm :=
  match P.underlying t, lsV p with
  | some (.slice e), some (b, lo, n, k) => if Nat.beq n 0 then some m else
    match tzero P e, m.hp[b]? with
    | some zs, some blk => if Nat.beq zs.length k && (plainB blk.cs && (!blk.fz && Nat.ble (lo * k + n * k) blk.cs.length)) then
        some { m with hp := m.hp.set b ⟨false, blk.cs.take (lo * k) ++ zrs n zs ++ blk.cs.drop (lo * k + n * k)⟩ } else none
    | _, _ => none
  | _, _ => none
theorem aClear_ok (M : MR X W0 m w) {t ty : TypeId} {p : AV} {q : Value} {m' : Mm} (h : aClear P m t p = some m') (hp : Rep X p q) :
    ∃ w', (Builtin.clear_ #[t] ty #[q]).run P w = .ok (.tuple #[]) w' ∧ MR X W0 m' w' := by
  unfold aClear at h
  split at h
  · rename_i e b lo n k ht hl
    obtain rfl := lsV_eq hl
    cases hp with
    | lsl hb ho hn hcap hrm =>
      rename_i β o cap
      split at h
      · rename_i h0
        have h0 := Nat.eq_of_beq_eq_true h0
        subst h0
        injection h with h
        subst h
        exact ⟨w, by simp [Builtin.clear_, run_under ht], M⟩
      · rename_i h0
        have h0 : n ≠ 0 := fun e => h0 (by rw [e]; rfl)
        split at h
        · rename_i zs blk hz hblk
          split at h
          · rename_i hc
            simp only [Bool.and_eq_true, Bool.not_eq_true', Nat.ble_eq] at hc
            obtain ⟨hk, hpl, hf, hle⟩ := hc
            have hk := Nat.eq_of_beq_eq_true hk
            injection h with h
            subst h
            obtain ⟨i, z, hi, hzz, hcs⟩ := tzero_spec hz
            have hr := cvsOf_rep (C := X.cell) hcs
            obtain rfl : o = lo * k := ho (by omega)
            have hzl : z.cells.size = zs.length := by rw [hr.1]; simp
            have hR : RepCs X.cell ((List.range (n * zs.length)).map fun i => zs.getD (i % zs.length) default) (Builtin.zeroCells z.cells n).toList := by
              refine ⟨by simp [Builtin.zeroCells, hzl], fun j c x hc hx => ?_⟩
              simp only [List.getElem?_map, Option.map_eq_some_iff] at hc
              obtain ⟨j', hj', rfl⟩ := hc
              have hjl := (List.getElem?_eq_some_iff.1 hj').1
              rw [List.getElem?_range (by simpa using hjl)] at hj'
              injection hj' with hj'
              subst hj'
              have hjl : j < n * zs.length := by simpa using hjl
              have hpos : 0 < zs.length := by
                rcases Nat.eq_zero_or_pos zs.length with e0 | e0
                · rw [e0, Nat.mul_zero] at hjl; omega
                · exact e0
              have hmod := Nat.mod_lt j hpos
              have hx2 : z.cells[j % z.cells.size]? = some x := by
                have hj2 : j < (Builtin.zeroCells z.cells n).size := by simp [Builtin.zeroCells, hzl]; exact hjl
                rw [Array.getElem?_toList, Array.getElem?_eq_getElem hj2] at hx
                injection hx with hx
                rw [← hx]
                simp only [Builtin.zeroCells, Array.getElem_map, Array.getElem_range]
                have : j % z.cells.size < z.cells.size := by rw [hzl]; exact hmod
                rw [getElem!_pos z.cells _ this, Array.getElem?_eq_getElem this]
              have hc2 : zs[j % zs.length]? = some (zs.getD (j % zs.length) default) := by
                rw [List.getD_eq_getElem?_getD, List.getElem?_eq_getElem hmod]; rfl
              exact hr.2 (j % zs.length) _ x hc2 (by rw [hzl] at hx2; simpa using hx2)
            have hone : ∀ u ∈ (Builtin.zeroCells z.cells n).toList, u.oneCell' = true := fun u hu => by
              obtain ⟨j, hj, rfl⟩ := List.mem_iff_getElem.1 hu
              have h2 := hR.1
              exact (hR.2 j _ _ (List.getElem?_eq_getElem (by rw [h2]; exact hj)) (List.getElem?_eq_getElem hj)).one
            have hlen : (zrs n zs).length = n * k := by simp [zrs, hk]
            obtain ⟨w', g1, g2⟩ := M.putCells (P := P) (off := lo * k) (cs := zrs n zs) hb hblk hpl hf (by rw [hlen]; exact hle) (reps_c hR) hone
            rw [hlen] at g2
            refine ⟨w', ?_, g2⟩
            have hz2 : (zeroValue e).run P w = .ok z w := by simp [zeroValue, typeInfo, hi, hzz]
            cases n with
            | zero => exact absurd rfl h0
            | succ n => simp [Builtin.clear_, run_under ht, hz2, g1]
          · cases h
        · cases h
  · cases h
/-! ### a block that is written no more; slices of it -/
def aFreeze (m : Mm) (b : Nat) : Option Mm :=
  match m.hp[b]? with
  | some blk => if blk.fz then some m else
    match cleans blk.cs with
    | some ds => some { m with hp := m.hp.set b ⟨true, ds.map .c⟩ }
    | none => none
  | none => none
theorem aFreeze_ok (M : MR X W0 m w) {b : Nat} {m' : Mm} (h : aFreeze m b = some m') : ∃ X', X.Le W0.heap.size X' ∧ MR X' W0 m' w ∧ ∀ w', Ag X w w' → Ag X' w w' := by
  unfold aFreeze at h
  split at h
  · rename_i blk hblk
    split at h
    · injection h with h
      subst h
      exact ⟨X, Mem.Le.refl _ _, M, fun _ A => A⟩
    · rename_i hf
      have hf : blk.fz = false := by simpa using hf
      split at h
      · rename_i ds hds
        injection h with h
        subst h
        obtain ⟨β, g1, g2, gs, hB⟩ := M.locs b blk hblk
        have hpl := cleans_plain hds
        obtain ⟨t', arr, g3, gal, g4, g5, g6⟩ := hB.plain hpl
        have hnew := g6 hf
        have hle : X.Le W0.heap.size (X.claim β arr.toList) := Mem.le_claim hnew g2
        have hcell : ∀ b' o x, (X.claim β arr.toList).cell b' o = some x → (b' = β ∧ arr[o]? = some x) ∨ (b' ≠ β ∧ X.cell b' o = some x) := fun b' o x hx => by
          simp only [Mem.claim] at hx
          split at hx
          · rename_i e; exact Or.inl ⟨e, by simpa using hx⟩
          · rename_i e; exact Or.inr ⟨e, hx⟩
        refine ⟨X.claim β arr.toList, hle, ⟨M.below, fun b' o x hx => ?_, fun j γ hj => ?_, fun j blk' hj => ?_, M.setInj hblk hpl, M.odom, fun k r hk => ?_, M.oinj, M.gl, M.rm⟩, fun w' A => ⟨fun b' o x hx => ?_, A.loc⟩⟩
        · rcases hcell b' o x hx with ⟨rfl, h1⟩ | ⟨_, h1⟩
          · exact cell_of_heap g3 h1
          · exact M.cell b' o x h1
        · have := M.ldom j γ hj; simpa using this
        · by_cases hjb : j = b
          · subst hjb
            have hlt := (List.getElem?_eq_some_iff.1 hblk).1
            simp only [List.getElem?_set_self hlt, Option.some.injEq] at hj
            subst hj
            have hlen : (ds.map AV.c).length = blk.cs.length := by
              have e1 := (cleans_rep hds g4).1
              have e2 := g4.1
              exact (List.length_map _).trans (e1.trans e2.symm)
            refine ⟨β, g1, g2, gs, .cells g3 (by rw [hlen]; exact gal) ?_ (fun _ o x ho => ?_) (fun e => by cases e)⟩
            · show Reps _ (ds.map AV.c) _
              rw [hlen]
              exact reps_c (X := X.claim β arr.toList) ((cleans_rep hds g4).mono hle.cell)
            · simp only [Mem.claim, if_true]
              simpa using ho
          · simp only [List.getElem?_set_ne (Ne.symm hjb)] at hj
            obtain ⟨γ, k1, k2, k3, k4⟩ := M.locs j blk' hj
            have hne : ¬ blk'.isDead → γ ≠ β := fun hd e => hd (M.alone (e ▸ k1) g1 hj hblk hpl hjb)
            refine ⟨γ, k1, k2, k3, k4.move hle (fun _ => rfl) fun hd h o => ?_⟩
            simp only [Mem.claim]
            rw [if_neg (hne hd)]
            exact h o
        · obtain ⟨T, k1, k2, k3, k4, k5, k6, k7, k8, k9⟩ := M.toks k r hk
          refine ⟨T, k1, k2, k3, k4, k5, k6, k7, fun o ho => ?_, k9⟩
          have hne : T.g ≠ β := fun e => k9 b (e ▸ g1)
          simp only [Mem.claim]
          rw [if_neg hne]
          exact k8 o ho
        · rcases hcell b' o x hx with ⟨rfl, h1⟩ | ⟨_, h1⟩
          · have := A.loc b _ g1
            rw [g3] at this
            exact cell_of_heap this h1
          · exact A.cell b' o x h1
      · cases h
  · cases h
def fixedAt (m : Mm) : AV → Option (List CV)
  | .ptr b off => match m.hp[b]? with
    | some blk => if blk.fz then (cleans blk.cs).map (·.drop off) else none
    | none => none
  | .cptr cs => some cs
  | _ => none
theorem fixedAt_rep (M : MR X W0 m w) {p : AV} {q : Value} {cs : List CV} (h : fixedAt m p = some cs) (hp : Rep X p q) : ∃ b o xs, q = .pointer (some ⟨b, o, none⟩) ∧ RepCs X.cell cs xs ∧ At X.cell (some ⟨b, o, none⟩) xs := by
  unfold fixedAt at h
  split at h
  · rename_i b off
    cases hp with
    | ptr hb =>
      rename_i β
      split at h
      · rename_i blk hblk
        split at h
        · rename_i hf
          simp only [Option.map_eq_some_iff] at h
          obtain ⟨ds, h1, rfl⟩ := h
          obtain ⟨β', g1, g2, gs, hB⟩ := M.locs b blk hblk
          obtain ⟨t', arr, g3, gal, g4, g5, g6⟩ := hB.plain (cleans_plain h1)
          rw [hb] at g1
          injection g1 with g1
          subst g1
          refine ⟨β, off, (arr.toList.take blk.cs.length).drop off, rfl, (cleans_rep h1 g4).drop off, ?_⟩
          have : At X.cell (some ⟨β, 0, none⟩) (arr.toList.take blk.cs.length) := fun j x hx => ⟨β, 0, rfl, by
            rw [Nat.zero_add]
            rw [List.getElem?_take] at hx
            split at hx
            · exact g5 hf j x (by simpa using hx)
            · cases hx⟩
          have := this.drop off
          rwa [Nat.zero_add] at this
        · cases h
      · cases h
  · injection h with h
    subst h
    cases hp with
    | cptr hr hx => exact ⟨_, _, _, rfl, hr, hx⟩
  · cases h
def aSliceArr (P : Program) (m : Mm) (t : TypeId) (p : AV) (lo hi mx : Option Int) : Option AV :=
  match P.underlying t with
  | some (.array n e) =>
    match fixedAt m p, tsz P e, bnds n lo hi mx with
    | some cs, some inf, some (l, h, k) => if Nat.ble (h * inf) cs.length && Nat.ble n maxLen then some (.c (.sl (Nat.beq (k.getD n) h) (h - l) ((cs.drop (l * inf)).take ((h - l) * inf)))) else none
    | _, _, _ => none
  | _ => none
theorem run_bounds_arr {n l h : Nat} {m : Option Nat} {lo hi mx : Option Value} (h1 : lo = none ∧ l = 0 ∨ ∃ k, lo = some (.int k (l : Int))) (h2 : hi = none ∧ h = n ∧ m = none ∨ ∃ k, hi = some (.int k (h : Int)))
    (h3 : (mx = none ∧ m = none) ∨ ∃ k, ∃ j : Nat, mx = some (.int k (j : Int)) ∧ m = some j) (hl : l ≤ h) (hn : h ≤ n) (hm : ∀ k, m = some k → h ≤ k ∧ k ≤ n) (w : World) :
    (Instr.sliceBounds false n n lo hi mx).run P w = .ok (l, h, m.getD n) w := by
  rcases h3 with ⟨rfl, rfl⟩ | ⟨k3, j, rfl, rfl⟩
  · rcases h2 with ⟨rfl, rfl, _⟩ | ⟨k2, rfl⟩
    · rcases h1 with ⟨rfl, rfl⟩ | ⟨k1, rfl⟩
      · simp [Instr.sliceBounds]
      · simp [Instr.sliceBounds, Instr.sliceBound, asIntOf, hl]
    · rcases h1 with ⟨rfl, rfl⟩ | ⟨k1, rfl⟩
      · simp [Instr.sliceBounds, Instr.sliceBound, asIntOf, hn]
      · simp [Instr.sliceBounds, Instr.sliceBound, asIntOf, hl, hn]
  · obtain ⟨h4, h5⟩ := hm j rfl
    rcases h2 with ⟨_, _, h6⟩ | ⟨k2, rfl⟩
    · cases h6
    · rcases h1 with ⟨rfl, rfl⟩ | ⟨k1, rfl⟩
      · simp [Instr.sliceBounds, Instr.sliceBound, asIntOf, h4, h5]
      · simp [Instr.sliceBounds, Instr.sliceBound, asIntOf, hl, h4, h5]
theorem aSliceArr_ok (M : MR X W0 m w) {t : TypeId} {p c : AV} {q : Value} {lo hi mx : Option Int} {vlo vhi vmx : Option Value} (h : aSliceArr P m t p lo hi mx = some c) (hp : Rep X p q)
    (hlo : lo = none ∧ vlo = none ∨ ∃ k i, lo = some i ∧ vlo = some (.int k i)) (hhi : hi = none ∧ vhi = none ∨ ∃ k i, hi = some i ∧ vhi = some (.int k i)) (hmx : mx = none ∧ vmx = none ∨ ∃ k i, mx = some i ∧ vmx = some (.int k i)) :
    Yl P X w (Instr.sliceAt t q vlo vhi vmx) c := by
  unfold aSliceArr at h
  split at h
  · rename_i n e ht
    split at h
    · rename_i cs inf l hh k h1 h2 hb
      have q0 := tsz_spec h2
      clear h2
      obtain ⟨inf, h2, rfl⟩ := q0
      split at h
      · rename_i hc
        simp only [Bool.and_eq_true, Nat.ble_eq] at hc
        injection h with h
        subst h
        obtain ⟨b1, b2, b3, b4, b5, b6⟩ := bnds_spec hb
        obtain ⟨b, o, xs, rfl, hr, hx⟩ := fixedAt_rep M h1 hp
        refine ⟨.slice (some (if k.getD n = l then ⟨b, o, none⟩ else ⟨b, o + l * inf.size, none⟩)) (hh - l) (k.getD n - l), ?_, fun w' _ => ?_⟩
        · refine .c (.sl (xs := (xs.drop (l * inf.size)).take ((hh - l) * inf.size)) ((hr.drop _).take _).1 ((hr.drop _).take _).2 ?_ ⟨?_, fun e => by split at e <;> cases e⟩ (fun e => by rw [Nat.eq_of_beq_eq_true e]) ?_)
          · cases k with
            | none => simp; omega
            | some j => have := b6 j rfl; simp; omega
          · cases k with
            | none => simp; omega
            | some j => have := b6 j rfl; simp; omega
          · by_cases hml : k.getD n = l
            · have : hh - l = 0 := by
                cases k with
                | none => simp at hml; omega
                | some j => have := b6 j rfl; simp at hml; omega
              rw [this, Nat.zero_mul, List.take_zero]
              exact fun j x h => by cases h
            · rw [if_neg hml]
              exact (hx.drop _).take _
        · have := run_bounds_arr (P := P) (n := n) (l := l) (h := hh) (m := k) (lo := vlo) (hi := vhi) (mx := vmx)
              (by rcases hlo with ⟨rfl, rfl⟩ | ⟨k, i, rfl, rfl⟩
                  · rcases b1 with ⟨_, e⟩ | e
                    · exact Or.inl ⟨rfl, e⟩
                    · cases e
                  · rcases b1 with ⟨e, _⟩ | e
                    · cases e
                    · injection e with e; exact Or.inr ⟨k, by rw [e]⟩)
              (by rcases hhi with ⟨rfl, rfl⟩ | ⟨k, i, rfl, rfl⟩
                  · rcases b2 with ⟨_, e⟩ | e
                    · exact Or.inl ⟨rfl, e⟩
                    · cases e
                  · rcases b2 with ⟨e, _⟩ | e
                    · cases e
                    · injection e with e; exact Or.inr ⟨k, by rw [e]⟩)
              (by rcases hmx with ⟨rfl, rfl⟩ | ⟨k', i, rfl, rfl⟩
                  · cases k with
                    | none => exact Or.inl ⟨rfl, rfl⟩
                    | some j' => cases b3
                  · cases k with
                    | none => cases b3
                    | some j' => simp at b3; exact Or.inr ⟨k', j', by rw [b3], rfl⟩) b4 b5 b6 w'
          simp only [Instr.sliceAt, Sem.run_bind, run_under ht, Result.andThen_ok, Instr.sureAddr, Sem.run_pure, this, run_size h2, add_none]
      · cases h
    · cases h
  · cases h
/-! ### a method behind an interface -/
def mRow (P : Program) (t : TypeId) (name : String) : Option (FuncId × Option (TypeId × Nat × TypeId)) :=
  match P.info? t, P.underlying t with
  | some i, some (.pointer _) => match i.methods.find? (·.name == name) with
    | some mt => match mt.func, mt.path.toList with
      | some (f, true), [] => some (f, none)
      | some (f, false), [s] => if s.deref then
          match P.underlying s.struct with
          | some (.struct fs) => match fs[s.index]? with
            | some fd => match P.underlying fd.type with
              | some (.pointer _) => none
              | some _ => some (f, some (s.struct, s.index, fd.type))
              | none => none
            | none => none
          | _ => none
        else none
      | _, _ => none
    | none => none
  | _, _ => none
def aMethod (P : Program) (m : Mm) (t : TypeId) (name : String) : AV → Option (FuncId × AV)
  | .ptr b off => match mRow P t name with
    | some (f, none) => some (f, .ptr b off)
    | some (f, some (s, ix, ft)) => match aFieldAddr P s ix (.ptr b off) with
      | some q => (aLoad P m ft q).map fun r => (f, r)
      | none => none
    | none => none
  | _ => none
theorem aMethod_ok (M : MR X W0 m w) {t : TypeId} {name : String} {p r : AV} {f : FuncId} {q : Value} (h : aMethod P m t name p = some (f, r)) (hp : Rep X p q) :
    ∃ V, Rep X r V ∧ ∀ w' args, Ag X w w' → (callMethod (.iface t q) name args).run P w' = (callFunc f (#[V] ++ args)).run P w' := by
  unfold aMethod at h
  split at h
  · rename_i b off
    cases hp with
    | ptr hb =>
      rename_i β
      have hmet : ∀ (V : Value), (∀ w', Ag X w w' → (method (P.types.size + Made.depth) t (.pointer (some ⟨β, off, none⟩)) name).run P w' = .ok (f, V) w') → ∀ w' args, Ag X w w' → (callMethod (.iface t (.pointer (some ⟨β, off, none⟩))) name args).run P w' = (callFunc f (#[V] ++ args)).run P w' := fun V hV w' args A => by
        have h2 := hV w' A
        unfold callMethod
        simp only [program, Sem.run_bind]
        show ((method (P.types.size + Made.depth) t _ name).run P w').andThen _ = _
        rw [h2]
        rfl
      split at h
      · rename_i g hm
        simp only [Option.some.injEq, Prod.mk.injEq] at h
        obtain ⟨rfl, rfl⟩ := h
        refine ⟨_, .ptr hb, hmet _ fun w' A => ?_⟩
        unfold mRow at hm
        split at hm
        · rename_i i e hi ht
          split at hm
          · rename_i mt hmt
            split at hm
            · rename_i f' hf hpath
              simp only [Option.some.injEq, Prod.mk.injEq, and_true] at hm
              subst hm
              show (method (P.types.size + 99 + 1) t _ name).run P w' = _
              unfold method
              simp [typeInfo, hi, hmt, hf, hpath, follow, receiverAt, run_under ht, Place.get]
            · split at hm
              · split at hm
                · split at hm
                  · split at hm <;> first | cases hm | (simp only [Option.some.injEq, Prod.mk.injEq, reduceCtorEq, and_false] at hm)
                  · cases hm
                · cases hm
              · cases hm
            · cases hm
          · cases hm
        · cases hm
      · rename_i g s ix ft hm
        split at h
        · rename_i qa hqa
          simp only [Option.map_eq_some_iff, Prod.mk.injEq] at h
          obtain ⟨r', h1, rfl, rfl⟩ := h
          have hqa' := hqa
          unfold aFieldAddr at hqa
          split at hqa
          · rename_i fs hs
            split at hqa
            · rename_i fd hfd
              split at hqa
              · rename_i sz0 hsz
                obtain ⟨i0, hi0, rfl⟩ := tsz_spec hsz
                split at hqa
                · cases hqa
                · rename_i hne
                  simp only [Option.some.injEq] at hqa
                  subst hqa
                  have hne : i0.size ≠ 0 := fun e => hne (by rw [e]; rfl)
                  obtain ⟨V, k1, k2⟩ := aLoad_ok M h1 (.ptr hb)
                  refine ⟨V, k1, hmet _ fun w' A => ?_⟩
                  have k3 := k2 w' A
                  unfold mRow at hm
                  split at hm
                  · rename_i i e hi ht
                    split at hm
                    · rename_i mt hmt
                      split at hm
                      · simp only [Option.some.injEq, Prod.mk.injEq, reduceCtorEq, and_false] at hm
                      · rename_i f' st hf hpath
                        split at hm
                        · rename_i hder
                          split at hm
                          · rename_i fs' hs'
                            split at hm
                            · rename_i fd' hfd'
                              split at hm
                              · cases hm
                              · rename_i d hd hdn
                                simp only [Option.some.injEq, Prod.mk.injEq] at hm
                                obtain ⟨rfl, rfl, rfl, rfl⟩ := hm
                                rw [hs] at hs'
                                injection hs' with hs'
                                injection hs' with hs'
                                subst hs'
                                rw [hfd] at hfd'
                                injection hfd' with hfd'
                                subst hfd'
                                show (method (P.types.size + 99 + 1) t _ name).run P w' = _
                                unfold method
                                have hload : (loadVar fd.type ⟨β, off + fd.offset, none⟩).run P w' = .ok V w' := by
                                  have := k3
                                  simpa [Instr.loadAt, Instr.sureAddr] using this
                                have hrec : ∀ o, (receiverAt fd.type (.var ⟨β, off + fd.offset, none⟩) false o).run P w' = .ok V w' := fun o => by
                                  unfold receiverAt
                                  rw [Sem.run_bind, run_under hdn]
                                  cases d <;> first
                                    | exact absurd rfl (hd _)
                                    | (simp only [Result.andThen_ok, Place.get]; exact hload)
                                simp [typeInfo, hi, hmt, hf, hpath, follow, hder, run_under hs, hfd, Place.get, asAddr, fieldPlace, run_size hi0, hne, add_none, hrec]
                              · cases hm
                            · cases hm
                          · cases hm
                        · cases hm
                      · cases hm
                    · cases hm
                  · cases hm
              · cases hqa
            · cases hqa
          · cases hqa
        · cases h
      · cases h
  · cases h
/-! ### one operation -/
inductive Ev where
  | calm (c : AV)
  | frz (c : AV) (m : Mm)
  | loud (c : AV) (m : Mm)
  | store (m : Mm)
  | wr (c : AV) (m : Mm)
  | call (F : FuncId) (args : List AV)
def arrD : Option TypeDesc → Bool
  | some (.array ..) => true
  | _ => false
def localZ : Option (List CV) → Bool
  | some [.v (.int .i64 _)] => true
  | some [.v (.string _), .v (.int .i64 _)] => false
  | some [.v (.string _)] => false
  | _ => false
def localE (P : Program) (t : TypeId) : Bool := match P.underlying t with
  | some (.slice e) => localZ (tzero P e)
  | _ => false
def zblk (t : TypeId) : List CV → List AV
  | [.v (.pointer none), .sl true 0 []] => [.bld t false (.c (.v (.slice none 0 0)))]
  | cs => cs.map .c
theorem zblk_cases (t : TypeId) (cs : List CV) : zblk t cs = cs.map .c ∨ cs = [.v (.pointer none), .sl true 0 []] := by
  unfold zblk
  split
  · exact Or.inr rfl
  · exact Or.inl rfl
theorem MR.newLocZ (M : MR X W0 m w) {arr : Array Value} {e : TypeId} {cs : List CV} (hcv : cvsOf arr.toList = some cs) :
    MR (X.setLoc m.hp.length w.heap.size) W0 { m with hp := m.hp ++ [⟨false, zblk e cs⟩] } (w.alloc (.cells arr e)) ∧ X.Le W0.heap.size (X.setLoc m.hp.length w.heap.size) ∧ Rep (X.setLoc m.hp.length w.heap.size) (.ptr m.hp.length 0) (.pointer (some ⟨w.heap.size, 0, none⟩)) := by
  rcases zblk_cases e cs with h | h
  · rw [h]
    exact M.newLoc (reps_c (cvsOf_rep hcv))
  · subst h
    have h0 : RepCs X.cell [.v (.pointer none), .sl true 0 []] arr.toList := cvsOf_rep hcv
    match ha : arr.toList, h0.1 with
    | [x, y], _ =>
    have hx := h0.2 0 _ x rfl (by rw [ha]; rfl)
    cases hx
    rw [ha] at hcv
    have hy : y = .slice none 0 0 := by
      simp only [cvsOf] at hcv
      split at hcv
      · rename_i c cs h1 h2
        split at h2
        · rename_i c2 cs2 h3 h4
          simp only [Option.some.injEq, List.cons.injEq] at h2 hcv h4
          subst h4
          subst h2
          have h5 := hcv.2
          simp only [List.cons.injEq, and_true] at h5
          subst h5
          revert h3
          unfold cvOf
          split
          · intro _; rfl
          · intro h; cases h
          · intro h; cases h
          · intro h; simp at h
        · cases h2
      · cases hcv
    subst hy
    have hea : arr = #[.pointer none, .slice none 0 0] := Array.ext' ha
    refine M.newLocB (.bld rfl (v := .slice none 0 0) ?_ (.c (.v rfl)) rfl fun o => M.newCell o)
    rw [hea]
    exact halloc_new w _
def evOp (P : Program) (fr : List (Nat × AV)) (m : Mm) (o : Oper) : Option Ev :=
  match o.op with
  | .alloc t => match tzero P t with
    | some cs => some (.loud (.ptr m.hp.length 0) { m with hp := m.hp ++ [⟨false, zblk t cs⟩] })
    | none => none
  | .box _ x => match opd fr x with
    | some c => match avCells c with
      | some cs => some (.loud (.ptr m.hp.length 0) { m with hp := m.hp ++ [⟨false, cs⟩] })
      | none => none
    | none => none
  | .buildSlice t len ps => match oprps fr ps.toList with
    | some cs => if Nat.ble len maxLen then (aBuildSlice P t len cs).map fun ds => .loud (.c (.sl true len ds)) m else none
    | none => none
  | .store t x y => match opd fr x, opd fr y with
    | some p, some v => (aStore P m t p v).map .store
    | _, _ => none
  | .makeMap _ r => match r with
    | none => some (.loud (.mapp m.hp.length) { m with hp := m.hp ++ [⟨false, [.ent []]⟩] })
    | some _ => none
  | .mapUpdate t x k v => match opd fr x, opdV fr k, opdV fr v with
    | some p, some a, some b => (aMapPut P m t p a b).map .store
    | _, _, _ => none
  | .insert t x k v => match opd fr x, opdV fr k, opdV fr v with
    | some p, some a, some b => (aMapPut P m t p a b).map .store
    | _, _, _ => none
  | .slice t x lo hi mx => if arrD (P.underlying t) then
      match opd fr x, bnd fr lo, bnd fr hi, bnd fr mx with
      | some (.ptr b off), some l, some h, some k => match aFreeze m b with
        | some m' => (aSliceArr P m' t (.ptr b off) l h k).map fun c => .frz c m'
        | none => none
      | some (.cptr cs), some l, some h, some k => (aSliceArr P m t (.cptr cs) l h k).map .calm
      | _, _, _, _ => none
    else (calm P fr m o).map .calm
  | .call c => match c.callee with
    | .value f => match opd fr f, oprs fr c.args.toList with
      | some (.fn (.func F) first captured), some args => some (.call F (first ++ args ++ captured))
      | _, _ => none
    | .builtin .append => match c.args.toList, c.argTypes.toList with
      | [s, x], [t, u] => match opd fr s, opd fr x with
        | some a, some b => if Nat.beq t u then (if localE P t then (aAppendL P m t a b).map fun r => .wr r.1 r.2 else (aAppend P m t a b).map fun r => .loud r.1 r.2) else none
        | _, _ => none
      | _, _ => none
    | .builtin .clear => match c.args.toList, c.argTypes.toList with
      | [x], [t] => match opd fr x with
        | some a => (aClear P m t a).map .store
        | none => none
      | _, _ => none
    | .builtin .delete => match c.args.toList, c.argTypes.toList with
      | [x, k], [t, _] => match opd fr x, opdV fr k with
        | some a, some v => (aMapDel P m t a v).map .store
        | _, _ => none
      | _, _ => none
    | .invoke x name => match opd fr x, oprs fr c.args.toList with
      | some (.ifc t p), some args => (aMethod P m t name p).map fun r => .call r.1 (r.2 :: args)
      | _, _ => none
    | _ => (calm P fr m o).map .calm
  | _ => (calm P fr m o).map .calm
def EvOk (P : Program) (X : Mem) (W0 w : World) (a : Act) (o : Oper) : Ev → Prop
  | .calm c => ∃ V, Rep X c V ∧ ∀ w', Ag X w w' → (execOp a.eval o).run P w' = .ok (.value V) w'
  | .frz c m' => ∃ X' V, X.Le W0.heap.size X' ∧ MR X' W0 m' w ∧ Rep X' c V ∧ ∀ w', Ag X w w' → Ag X' w w' ∧ (execOp a.eval o).run P w' = .ok (.value V) w'
  | .loud c m' => ∃ V X' w', (execOp a.eval o).run P w = .ok (.value V) w' ∧ X.Le W0.heap.size X' ∧ Rep X' c V ∧ MR X' W0 m' w' ∧ ∀ i β, X.loc i = some β → w'.heap[β]? = w.heap[β]?
  | .store m' => ∃ w', ((execOp a.eval o).run P w = .ok .skip w' ∨ (execOp a.eval o).run P w = .ok (.value (.tuple #[])) w') ∧ MR X W0 m' w'
  | .wr c m' => ∃ V X' w', (execOp a.eval o).run P w = .ok (.value V) w' ∧ X.Le W0.heap.size X' ∧ Rep X' c V ∧ MR X' W0 m' w'
  | .call F args => ∃ vs, Reps X args vs.toList ∧ ∀ w', Ag X w w' → (execOp a.eval o).run P w' = (callFunc F vs).run P w'
theorem reps_app {cs ds : List AV} {xs ys : List Value} (h : Reps X cs xs) (k : Reps X ds ys) : Reps X (cs ++ ds) (xs ++ ys) := by
  refine ⟨by simp [h.1, k.1], fun i c x h1 h2 => ?_⟩
  by_cases hi : i < cs.length
  · rw [List.getElem?_append_left hi] at h1
    rw [List.getElem?_append_left (h.1 ▸ hi)] at h2
    exact h.2 i c x h1 h2
  · rw [List.getElem?_append_right (by omega)] at h1
    rw [List.getElem?_append_right (by rw [← h.1]; omega), ← h.1] at h2
    exact k.2 _ c x h1 h2
theorem evOp_ok {nt : Nat} {fr : List (Nat × AV)} {a : Act} (F : FR X nt fr a) (M : MR X W0 m w) {o : Oper} {e : Ev} (h : evOp P fr m o = some e) : EvOk P X W0 w a o e := by
  have calmC : ∀ {o : Oper} {e : Ev}, (calm P fr m o).map Ev.calm = some e → EvOk P X W0 w a o e := fun {o e} h => by
    simp only [Option.map_eq_some_iff] at h
    obtain ⟨c, h1, rfl⟩ := h
    exact calm_ok F M h1
  obtain ⟨dst, op, type, pos, after, guard⟩ := o
  unfold evOp at h
  cases op <;> simp only at h <;> try (exact calmC h)
  case alloc t =>
    split at h
    · rename_i cs hcs
      obtain ⟨i, z, hi, hz, hcs⟩ := tzero_spec hcs
      injection h with h
      subst h
      obtain ⟨h1, h2, h3⟩ := M.newLocZ (e := t) hcs
      refine ⟨_, _, w.alloc (.cells z.cells t), ?_, h2, h3, h1, fun i β hb => halloc_old w _ β (M.locBlock hb).1⟩
      simp [execOp, Instr.alloc, zeroValue, typeInfo, hi, hz, newVar, newRow]
    · cases h
  case box t x =>
    split at h
    · rename_i c hc
      split at h
      · rename_i cs hcs
        injection h with h
        subst h
        obtain ⟨h1, h2, h3⟩ := M.newLoc (arr := (a.eval x).cells) (e := t) (avCells_rep hcs (opd_rep F hc)).1
        refine ⟨_, _, w.alloc (.cells (a.eval x).cells t), ?_, h2, h3, h1, fun i β hb => halloc_old w _ β (M.locBlock hb).1⟩
        simp [execOp, Instr.box, newVar, newRow]
      · cases h
    · cases h
  case buildSlice t len ps =>
    split at h
    · rename_i cs hcs
      split at h
      · rename_i hle
        simp only [Option.map_eq_some_iff] at h
        obtain ⟨ds, h1, rfl⟩ := h
        have hp := oprps_rep F hcs
        obtain ⟨V, X', w', g1, g2, g3, g4, g5⟩ := aBuildSlice_ok (P := P) M (qs := ps.map fun (i, x) => (i, a.eval x)) h1 (by simpa using hp) (by simpa using hle)
        exact ⟨V, X', w', by simp [execOp, g1], g2, g3, g4, fun i β hb => g5.block β (M.locBlock hb).1⟩
      · cases h
    · cases h
  case store t x y =>
    split at h
    · rename_i p v hp hv
      simp only [Option.map_eq_some_iff] at h
      obtain ⟨m', h1, rfl⟩ := h
      obtain ⟨w', g1, g2⟩ := aStore_ok M h1 (opd_rep F hp) (opd_rep F hv)
      exact ⟨w', Or.inl (by simp [execOp, g1]), g2⟩
    · cases h
  case makeMap t r =>
    split at h
    · injection h with h
      subst h
      obtain ⟨h1, h2, h3⟩ := M.newMap
      refine ⟨_, _, w.alloc (.map #[] 0), ?_, h2, h3, h1, fun i β hb => halloc_old w _ β (M.locBlock hb).1⟩
      have e : (Instr.makeMap t none).run P w = .ok (.map (some w.heap.size)) (w.alloc (.map #[] 0)) := rfl
      simp only [execOp, Option.map_none, Sem.run_bind, e, Result.andThen_ok, Sem.run_pure]
    · cases h
  case mapUpdate t x k v =>
    split at h
    · rename_i p u y hp hk hv
      simp only [Option.map_eq_some_iff] at h
      obtain ⟨m', h1, rfl⟩ := h
      obtain ⟨w', g1, g2⟩ := aMapPut_ok M h1 (opd_rep F hp)
      exact ⟨w', Or.inl (by simp [execOp, opdV_eq F hk, opdV_eq F hv, g1]), g2⟩
    · cases h
  case insert t x k v =>
    split at h
    · rename_i p u y hp hk hv
      simp only [Option.map_eq_some_iff] at h
      obtain ⟨m', h1, rfl⟩ := h
      obtain ⟨w', g1, g2⟩ := aMapPut_ok M h1 (opd_rep F hp)
      exact ⟨w', Or.inl (by simp [execOp, opdV_eq F hk, opdV_eq F hv, g1]), g2⟩
    · cases h
  case slice t x lo hi mx =>
    split at h
    · split at h
      · rename_i b off l hh k hx h1 h2 h3
        split at h
        · rename_i m' hm'
          simp only [Option.map_eq_some_iff] at h
          obtain ⟨c, h4, rfl⟩ := h
          obtain ⟨X', g1, g2, g3⟩ := aFreeze_ok M hm'
          obtain ⟨V, g4, g5⟩ := aSliceArr_ok g2 h4 ((opd_rep F hx).mono g1) (bnd_or F h1) (bnd_or F h2) (bnd_or F h3)
          exact ⟨X', V, g1, g2, g4, fun w' A => ⟨g3 w' A, by simp [execOp, g5 w' (g3 w' A)]⟩⟩
        · cases h
      · rename_i cs l hh k hx h1 h2 h3
        simp only [Option.map_eq_some_iff] at h
        obtain ⟨c, h4, rfl⟩ := h
        exact yln (aSliceArr_ok M h4 (opd_rep F hx) (bnd_or F h1) (bnd_or F h2) (bnd_or F h3))
      · cases h
    · exact calmC h
  case call c =>
    obtain ⟨callee, args, argTypes⟩ := c
    simp only at h
    split at h
    · rename_i f
      split at h
      · rename_i G first captured as hf has
        injection h with h
        subst h
        have r1 := opd_rep F hf
        have r2 := oprs_rep F has
        generalize hq : a.eval f = q at r1
        cases r1 with
        | fn k1 k2 k3 k4 =>
          rename_i ys zs
          refine ⟨ys ++ args.map a.eval ++ zs, ?_, fun w' _ => ?_⟩
          · simp only [Array.toList_append, Array.toList_map]
            exact reps_app (reps_app ⟨k1, k2⟩ r2) ⟨k3, k4⟩
          · simp only [execOp, resolve, hq, Deferred.ofValue, Sem.run_bind, Sem.run_pure, Result.andThen_ok, invoke]
      · cases h
    · split at h
      · rename_i s x t u e1 e2
        split at h
        · rename_i p q hp hq
          split at h
          · rename_i htu
            obtain rfl := Nat.eq_of_beq_eq_true htu
            have ea : args.map a.eval = #[a.eval s, a.eval x] := by apply Array.ext'; simp [e1]
            have et : argTypes = #[t, t] := by apply Array.ext'; simp [e2]
            split at h
            · simp only [Option.map_eq_some_iff] at h
              obtain ⟨⟨r, m'⟩, h1, rfl⟩ := h
              obtain ⟨V, X', w', g1, g2, g3, g4⟩ := aAppendL_ok (ty := type) M h1 (opd_rep F hp) (opd_rep F hq)
              refine ⟨V, X', w', ?_, g2, g3, g4⟩
              simp only [execOp, resolve, Sem.run_bind, Sem.run_pure, Result.andThen_ok, invoke, builtin, ea, et, g1]
            · simp only [Option.map_eq_some_iff] at h
              obtain ⟨⟨r, m'⟩, h1, rfl⟩ := h
              obtain ⟨V, X', w', g1, g2, g3, g4, g5⟩ := aAppend_ok (ty := type) M h1 (opd_rep F hp) (opd_rep F hq)
              refine ⟨V, X', w', ?_, g2, g3, g4, g5⟩
              simp only [execOp, resolve, Sem.run_bind, Sem.run_pure, Result.andThen_ok, invoke, builtin, ea, et, g1]
          · cases h
        · cases h
      · cases h
    · split at h
      · rename_i x t e1 e2
        split at h
        · rename_i p hp
          simp only [Option.map_eq_some_iff] at h
          obtain ⟨m', h1, rfl⟩ := h
          obtain ⟨w', g1, g2⟩ := aClear_ok (ty := type) M h1 (opd_rep F hp)
          refine ⟨w', Or.inr ?_, g2⟩
          have ea : args.map a.eval = #[a.eval x] := by apply Array.ext'; simp [e1]
          have et : argTypes = #[t] := by apply Array.ext'; simp [e2]
          simp only [execOp, resolve, Sem.run_bind, Sem.run_pure, Result.andThen_ok, invoke, builtin, ea, et, g1]
        · cases h
      · cases h
    · split at h
      · rename_i x k t u e1 e2
        split at h
        · rename_i p v hp hv
          simp only [Option.map_eq_some_iff] at h
          obtain ⟨m', h1, rfl⟩ := h
          obtain ⟨w', g1, g2⟩ := aMapDel_ok (u := u) (ty := type) M h1 (opd_rep F hp)
          refine ⟨w', Or.inr ?_, g2⟩
          have ea : args.map a.eval = #[a.eval x, v] := by apply Array.ext'; simp [e1, opdV_eq F hv]
          have et : argTypes = #[t, u] := by apply Array.ext'; simp [e2]
          simp only [execOp, resolve, Sem.run_bind, Sem.run_pure, Result.andThen_ok, invoke, builtin, ea, et, g1]
        · cases h
      · cases h
    · rename_i x name
      split at h
      · rename_i t p as hx has
        simp only [Option.map_eq_some_iff] at h
        obtain ⟨⟨f, r⟩, h1, rfl⟩ := h
        have r1 := opd_rep F hx
        have r2 := oprs_rep F has
        generalize hq : a.eval x = q at r1
        cases r1 with
        | ifc r1 =>
          rename_i y
          obtain ⟨V, k1, k2⟩ := aMethod_ok M h1 r1
          refine ⟨#[V] ++ args.map a.eval, ?_, fun w' A => ?_⟩
          · simp only [Array.toList_append, Array.toList_map]
            exact reps_app (cs := [r]) ⟨rfl, fun i c x h1 h2 => by
              cases i with
              | zero => simp at h1 h2; subst h1 h2; exact k1
              | succ i => simp at h1⟩ r2
          · have := k2 w' (args.map a.eval) A
            rw [← this]
            have e0 : (#[Value.iface t y] ++ args.map a.eval)[0]? = some (Value.iface t y) := by
              rw [← Array.getElem?_toList, Array.toList_append]
              rfl
            have e1 : (#[Value.iface t y] ++ args.map a.eval).extract 1 (#[Value.iface t y] ++ args.map a.eval).size = args.map a.eval := by
              apply Array.ext'
              simp only [Array.toList_extract, Array.toList_append, List.extract_eq_take_drop, Array.size_append, Array.toList_map, List.drop_append]
              simp
              exact List.take_of_length_le (by simp)
            simp only [execOp, resolve, hq, Sem.run_bind, Sem.run_pure, Result.andThen_ok, invoke, e0, e1]
      · cases h
    · exact calmC h
end Go.Vs.Ab
