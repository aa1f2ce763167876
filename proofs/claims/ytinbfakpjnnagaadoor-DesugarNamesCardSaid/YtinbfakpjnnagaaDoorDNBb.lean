/-
  Maps on abstract values: writing; a local block that turns. No program in sight.
-/
import Derived.Test.YtinbfakpjnnagaaDoorDNAf
import Derived.MapKept
set_option linter.unusedVariables false
set_option linter.unusedSimpArgs false
namespace Go.Vs.Ab
open Go.RowKit
variable {P : Program} {X : Mem} {W0 w w' : World} {m : Mm}
theorem MR.alone' (M : MR X W0 m w) {i j β : Nat} {bi bj : Blk} (h1 : X.loc i = some β) (h2 : X.loc j = some β) (g1 : m.hp[i]? = some bi) (g2 : m.hp[j]? = some bj) (hb : ¬ bj.isDead) (hne : i ≠ j) : bi.isDead := by
  rcases M.inj i j β bi bj h1 h2 g1 g2 with h | h | h
  · exact absurd h hne
  · exact h
  · exact absurd h hb
theorem MR.setInj' (M : MR X W0 m w) {b : Nat} {blk nb : Blk} (hb : m.hp[b]? = some blk) (hp : ¬ blk.isDead) : ∀ i j β bi bj, X.loc i = some β → X.loc j = some β → (m.hp.set b nb)[i]? = some bi → (m.hp.set b nb)[j]? = some bj → i = j ∨ bi.isDead ∨ bj.isDead := fun i j β bi bj h1 h2 g1 g2 => by
  by_cases ij : i = j
  · exact Or.inl ij
  · right
    by_cases hi : i = b
    · subst hi
      rw [List.getElem?_set_ne ij] at g2
      exact Or.inr (M.alone' h2 h1 g2 hb hp (Ne.symm ij))
    · by_cases hj : j = b
      · subst hj
        rw [List.getElem?_set_ne (Ne.symm hi)] at g1
        exact Or.inl (M.alone' h1 h2 g1 hb hp ij)
      · rw [List.getElem?_set_ne (Ne.symm hi)] at g1
        rw [List.getElem?_set_ne (Ne.symm hj)] at g2
        rcases M.inj i j β bi bj h1 h2 g1 g2 with h | h
        · exact absurd h ij
        · exact h
theorem MR.setBlk (M : MR X W0 m w) {b β : Nat} {blk nb : Blk} (hb : X.loc b = some β) (h1 : m.hp[b]? = some blk) (ha : ¬ blk.isDead) (hc : ∀ o, X.cell β o = none)
    (hB : Below w.heap.size w w' ∨ ∃ t, w' = t ∧ w'.os = w.os ∧ w'.tape = w.tape ∧ w'.output = w.output) (hs : w'.heap.size = w.heap.size) (hoth : ∀ g, g ≠ β → w'.heap[g]? = w.heap[g]?) (hN : BlkIs X w' β nb) (hBel : Below W0.heap.size W0 w')
    (hR : ∀ (arr : Array Value) (t : TypeId) (z : Nat × Nat), w.heap[β]? = some (.cells arr t z) → ∃ (arr' : Array Value) (t' : TypeId) (z' : Nat × Nat), w'.heap[β]? = some (.cells arr' t' z') ∧ arr.size ≤ arr'.size) :
    MR X W0 { m with hp := m.hp.set b nb } w' := by
  refine ⟨hBel, fun g o x hx => ?_, fun j γ hj => ?_, fun j blk' hj => ?_, M.setInj' h1 ha, M.odom, fun k r hk => ?_, M.oinj, M.gl, fun γ hγ => ?_⟩
  · have hg : g ≠ β := fun e => by subst e; rw [hc] at hx; cases hx
    rw [World.cell?_of_block (w := w) (hoth g hg)]
    exact M.cell g o x hx
  · have := M.ldom j γ hj; simpa using this
  · by_cases hjb : j = b
    · subst hjb
      have hlt := (List.getElem?_eq_some_iff.1 h1).1
      simp only [List.getElem?_set_self hlt, Option.some.injEq] at hj
      subst hj
      have := M.locBlock hb
      exact ⟨β, hb, this.2, by rw [hs]; exact this.1, hN⟩
    · simp only [List.getElem?_set_ne (Ne.symm hjb)] at hj
      obtain ⟨γ, k1, k2, k3, k4⟩ := M.locs j blk' hj
      have hne : ¬ blk'.isDead → γ ≠ β := fun hd e => hd (M.alone' (e ▸ k1) hb hj h1 ha hjb)
      exact ⟨γ, k1, k2, by rw [hs]; exact k3, k4.move (Mem.Le.refl W0.heap.size X) (fun hd => hoth γ (hne hd)) (fun _ h => h)⟩
  · obtain ⟨T, k1, k2, k3, k4, k5, k6, ⟨cur, k7, k8⟩, k9, k10⟩ := M.toks k r hk
    have hne : T.g ≠ β := fun e => k10 b (e ▸ hb)
    exact ⟨T, k1, k2, k3, k4, k5, k6, ⟨cur, by rw [hoth T.g hne]; exact k7, k8⟩, k9, k10⟩
  · obtain ⟨ar, tt, zz, q1, q2⟩ := M.rm γ hγ
    by_cases hb2 : γ = β
    · subst hb2
      obtain ⟨ar', t', z', q3, q4⟩ := hR ar tt zz q1
      exact ⟨ar', t', z', q3, Nat.le_trans q2 q4⟩
    · exact ⟨ar, tt, zz, by rw [hoth γ hb2]; exact q1, q2⟩
def mPut (P : Program) (kt : TypeId) (es : List (Value × Value)) (k v : Value) : Option (List (Value × Value)) :=
  match mLook P kt es k false with
  | some none => some (es ++ [(k, v)])
  | some (some (i, _)) => match es[i]? with
    | some e => if Instr.sameBits 10000 e.1 k then some (es.set i (k, v)) else none
    | none => none
  | none => none
def aMapPut (P : Program) (m : Mm) (t : TypeId) (p : AV) (k v : Value) : Option Mm :=
  match P.underlying t, aMapAt m p with
  | some (.map kt _), some (b, es) => (mPut P kt es k v).map fun es' => { m with hp := m.hp.set b ⟨false, [.ent es']⟩ }
  | _, _ => none
theorem ent_alive {blk : Blk} {es : List (Value × Value)} (h : blk.cs = [.ent es]) : ¬ blk.isDead := fun e => by
  rw [Blk.isDead, h] at e
  simp at e
theorem MR.setMap (M : MR X W0 m w) {b β : Nat} {blk : Blk} {es es' : List (Value × Value)} {arr arr' : Array MapEntry} {clock clock' : Nat} (hb : X.loc b = some β) (h1 : m.hp[b]? = some blk) (hcs : blk.cs = [.ent es]) (hw : w.heap[β]? = some (.map arr clock)) (hc : ∀ o, X.cell β o = none) (hM : MapIs es' arr' clock') :
    MR X W0 { m with hp := m.hp.set b ⟨false, [.ent es']⟩ } { w with heap := w.heap.setIfInBounds β (.map arr' clock') } := by
  have hlt := (Array.getElem?_eq_some_iff.1 hw).1
  have hb0 := M.locBlock hb
  have hnew : (w.heap.setIfInBounds β (.map arr' clock'))[β]? = some (.map arr' clock') := by simp [hlt]
  have hoth : ∀ g, g ≠ β → (w.heap.setIfInBounds β (.map arr' clock'))[g]? = w.heap[g]? := fun g hg => by
    rw [Array.getElem?_setIfInBounds_ne (Ne.symm hg)]
  refine M.setBlk (w' := { w with heap := w.heap.setIfInBounds β (.map arr' clock') }) hb h1 (ent_alive hcs) hc (Or.inr ⟨_, rfl, rfl, rfl, rfl⟩) (by simp) hoth (.ent rfl hnew hM rfl hc) ?_ (fun ar t z h => by rw [hw] at h; cases h)
  exact M.below.trans ⟨rfl, rfl, rfl, by simp, fun g hg => hoth g (by omega)⟩
theorem mapIs_push {es : List (Value × Value)} {arr : Array MapEntry} {clock : Nat} (h : MapIs es arr clock) (k v : Value) : MapIs (es ++ [(k, v)]) (arr.push ⟨k, v, clock⟩) (clock + 1) := by
  refine ⟨by simp [h.es], fun e he => ?_, ?_⟩
  · rw [Array.toList_push, List.mem_append, List.mem_singleton] at he
    rcases he with he | rfl
    · have := h.born e he; omega
    · exact Nat.lt_succ_self _
  · rw [Array.toList_push, List.pairwise_append]
    refine ⟨h.uniq, by simp, fun a ha b hb => ?_⟩
    rw [List.mem_singleton] at hb
    subst hb
    have := h.born a ha
    simp only
    omega
theorem mapIs_set {es : List (Value × Value)} {arr : Array MapEntry} {clock : Nat} (h : MapIs es arr clock) (i : Nat) (k v : Value) : MapIs (es.set i (k, v)) (arr.modify i fun e => { e with key := k, val := v }) clock := by
  have hl : (arr.modify i fun e => { e with key := k, val := v }).toList = arr.toList.modify i fun e => { e with key := k, val := v } := by simp
  refine ⟨?_, fun e he => ?_, ?_⟩
  · rw [hl, ← h.es]
    apply List.ext_getElem?
    intro j
    simp only [List.getElem?_map, List.getElem?_modify, List.getElem?_set, List.length_map]
    by_cases e : i = j
    · subst e
      by_cases hi : i < arr.size
      · simp [hi]
      · have h0 : arr[i]? = none := Array.getElem?_eq_none (by omega)
        simp [hi]
    · simp [e]
  · rw [hl] at he
    obtain ⟨j, hj, rfl⟩ := List.mem_iff_getElem.1 he
    rw [List.getElem_modify]
    have hj' : j < arr.toList.length := by simpa using hj
    have := h.born _ (List.getElem_mem hj')
    split <;> exact this
  · rw [hl]
    have h2 := h.uniq
    rw [List.pairwise_iff_getElem] at h2 ⊢
    intro a b ha hb hab
    simp only [List.getElem_modify]
    have ha' : a < arr.toList.length := by simpa using ha
    have hb' : b < arr.toList.length := by simpa using hb
    have := h2 a b ha' hb' hab
    split <;> split <;> exact this
theorem aMapPut_ok (M : MR X W0 m w) {t : TypeId} {p : AV} {q k v : Value} {m' : Mm} (h : aMapPut P m t p k v = some m') (hp : Rep X p q) : ∃ w', (Instr.mapUpdate t q k v).run P w = .ok () w' ∧ MR X W0 m' w' := by
  unfold aMapPut at h
  split at h
  · rename_i kt e b es ht hm
    simp only [Option.map_eq_some_iff] at h
    obtain ⟨es', h1, rfl⟩ := h
    obtain ⟨β, blk, arr, clock, rfl, hb, hblk, hcs, hw, hM, hc⟩ := aMapAt_ok M hm hp
    unfold mPut at h1
    split at h1
    · rename_i hl
      injection h1 with h1
      subst h1
      obtain ⟨c1, c2⟩ := mLook_run hl hM w
      refine ⟨{ w with heap := w.heap.setIfInBounds β (.map (arr.push ⟨k, v, clock⟩) (clock + 1)) }, ?_, M.setMap hb hblk hcs hw hc (mapIs_push hM k v)⟩
      simp [Instr.mapUpdate, run_under ht, run_getMap hw, c1, c2, MapKept.run_setObj_map _ hw]
    · rename_i i u hl
      split at h1
      · rename_i e' he
        split at h1
        · rename_i hsb
          injection h1 with h1
          subst h1
          obtain ⟨c1, c2⟩ := mLook_run hl hM w
          have hold : (arr[i]?).map (·.key) = some e'.1 := by
            have := hM.es
            have h3 : (arr.toList.map (fun e => (e.key, e.val)))[i]? = some e' := by rw [this]; exact he
            rw [List.getElem?_map, Option.map_eq_some_iff] at h3
            obtain ⟨x, h4, rfl⟩ := h3
            have h5 : arr[i]? = some x := by simpa using h4
            simp [h5]
          refine ⟨{ w with heap := w.heap.setIfInBounds β (.map (arr.modify i fun e => { e with key := k, val := v }) clock) }, ?_, M.setMap hb hblk hcs hw hc (mapIs_set hM i k v)⟩
          simp [Instr.mapUpdate, run_under ht, run_getMap hw, c1, c2, hold, Instr.keyThatStays, hsb, MapKept.run_setObj_map _ hw]
        · cases h1
      · cases h1
    · cases h1
  · cases h
/-! ### a key is dropped -/
def mDel (P : Program) (kt : TypeId) (es : List (Value × Value)) (k : Value) : Option (List (Value × Value)) :=
  match mLook P kt es k es.isEmpty with
  | some none => some es
  | some (some (i, _)) => some (es.eraseIdx i)
  | none => none
def aMapDel (P : Program) (m : Mm) (t : TypeId) (p : AV) (k : Value) : Option Mm :=
  match P.underlying t, aMapAt m p with
  | some (.map kt _), some (b, es) => (mDel P kt es k).map fun es' => { m with hp := m.hp.set b ⟨false, [.ent es']⟩ }
  | _, _ => none
theorem map_erase {A B : Type} (f : A → B) : ∀ (l : List A) (i : Nat), (l.eraseIdx i).map f = (l.map f).eraseIdx i
  | [], _ => by simp
  | _ :: _, 0 => by simp
  | x :: l, i + 1 => by simp [map_erase f l i]
theorem mapIs_erase {es : List (Value × Value)} {arr : Array MapEntry} {clock : Nat} (h : MapIs es arr clock) (i : Nat) : MapIs (es.eraseIdx i) (arr.eraseIdxIfInBounds i) clock := by
  have hl : (arr.eraseIdxIfInBounds i).toList = arr.toList.eraseIdx i := by
    by_cases hi : i < arr.size
    · rw [Array.eraseIdxIfInBounds, dif_pos hi, Array.toList_eraseIdx]
    · rw [Array.eraseIdxIfInBounds, dif_neg hi, List.eraseIdx_of_length_le (by simpa using hi)]
  refine ⟨by rw [hl, ← h.es, map_erase], fun e he => ?_, ?_⟩
  · rw [hl] at he
    exact h.born e (by simpa using (List.eraseIdx_sublist arr.toList i).subset he)
  · rw [hl]
    exact h.uniq.sublist (List.eraseIdx_sublist _ _)
theorem aMapDel_ok (M : MR X W0 m w) {t u ty : TypeId} {p : AV} {q k : Value} {m' : Mm} (h : aMapDel P m t p k = some m') (hp : Rep X p q) : ∃ w', (Builtin.delete_ #[t, u] ty #[q, k]).run P w = .ok (.tuple #[]) w' ∧ MR X W0 m' w' := by
  unfold aMapDel at h
  split at h
  · rename_i kt e b es ht hm
    simp only [Option.map_eq_some_iff] at h
    obtain ⟨es', h1, rfl⟩ := h
    obtain ⟨β, blk, arr, clock, rfl, hb, hblk, hcs, hw, hM, hc⟩ := aMapAt_ok M hm hp
    unfold mDel at h1
    split at h1
    · rename_i hl
      injection h1 with h1
      subst h1
      obtain ⟨c1, c2⟩ := mLook_run hl hM w
      refine ⟨{ w with heap := w.heap.setIfInBounds β (.map arr clock) }, ?_, M.setMap hb hblk hcs hw hc hM⟩
      rw [← hM.emp] at c1
      simp [Builtin.delete_, run_under ht, run_getMap hw, c1, c2, MapKept.run_setObj_map _ hw]
    · rename_i i u hl
      injection h1 with h1
      subst h1
      obtain ⟨c1, c2⟩ := mLook_run hl hM w
      refine ⟨{ w with heap := w.heap.setIfInBounds β (.map (arr.eraseIdxIfInBounds i) clock) }, ?_, M.setMap hb hblk hcs hw hc (mapIs_erase hM i)⟩
      rw [← hM.emp] at c1
      simp [Builtin.delete_, run_under ht, run_getMap hw, c1, c2, MapKept.run_setObj_map _ hw]
    · cases h1
  · cases h
/-! ### an entry is found or made, and set later -/
def aMapPutE (P : Program) (m : Mm) (t : TypeId) (p : AV) (k v : Value) : Option Mm :=
  match P.underlying t with
  | some (.map _ e) => match tzeroA P e with
    | some _ => aMapPut P m t p k v
    | none => none
  | _ => none
theorem MR.newMap (M : MR X W0 m w) : MR (X.setLoc m.hp.length w.heap.size) W0 { m with hp := m.hp ++ [⟨false, [.ent []]⟩] } (w.alloc (.map #[] 0)) ∧ X.Le W0.heap.size (X.setLoc m.hp.length w.heap.size) ∧ Rep (X.setLoc m.hp.length w.heap.size) (.mapp m.hp.length) (.map (some w.heap.size)) := by
  have hle : X.Le W0.heap.size (X.setLoc m.hp.length w.heap.size) := by
    refine ⟨fun _ _ _ h => h, fun _ _ _ _ h => h, fun i β h => ?_, fun k T h => ⟨T, h, Or.inl rfl⟩, fun _ => Nat.le_refl _⟩
    have := M.ldom i β h
    simp only [Mem.setLoc]
    rw [if_neg (by omega)]
    exact h
  have M1 := M.grow (below_alloc w (.map #[] 0))
  refine ⟨⟨M1.below, M1.cell, fun i β h => ?_, fun i blk h => ?_, fun i j β bi bj h1 h2 g1 g2 => ?_, M1.odom, fun k n h => ?_, M1.oinj, M1.gl, M1.rm⟩, hle, .mapp (by simp [Mem.setLoc])⟩
  · simp only [Mem.setLoc] at h
    simp only [List.length_append, List.length_singleton]
    split at h
    · omega
    · have := M.ldom i β h; omega
  · by_cases hi : i < m.hp.length
    · simp only at h
      rw [List.getElem?_append_left hi] at h
      obtain ⟨β, h1, h2, h3, hB⟩ := M1.locs i blk h
      exact ⟨β, hle.loc _ _ h1, h2, h3, hB.move hle (fun _ => rfl) (fun _ h => h)⟩
    · simp only at h
      rw [List.getElem?_append_right (by omega)] at h
      have hi2 : i = m.hp.length := by
        have := (List.getElem?_eq_some_iff.1 h).1
        simp at this
        omega
      subst hi2
      simp at h
      subst h
      refine ⟨w.heap.size, by simp [Mem.setLoc], M.below.size, ?_, .ent rfl (halloc_new w _) ⟨rfl, fun e he => by simp at he, by simp⟩ rfl fun o => M.newCell o⟩
      exact (Array.getElem?_eq_some_iff.1 (halloc_new w (.map #[] 0))).1
  · simp only [Mem.setLoc] at h1 h2
    split at h1
    · split at h2
      · left; omega
      · injection h1 with h1
        subst h1
        have := (M.locBlock h2).1
        omega
    · split at h2
      · injection h2 with h2
        subst h2
        have := (M.locBlock h1).1
        omega
      · have hi := M.ldom i β h1
        have hj := M.ldom j β h2
        simp only at g1 g2
        rw [List.getElem?_append_left hi] at g1
        rw [List.getElem?_append_left hj] at g2
        exact M.inj i j β bi bj h1 h2 g1 g2
  · obtain ⟨T, h1, h2, h3, h4, h5, h6, h7, h8, h9⟩ := M1.toks k n h
    refine ⟨T, h1, h2, h3, h4, h5, h6, h7, h8, fun i hi => ?_⟩
    simp only [Mem.setLoc] at hi
    split at hi
    · injection hi with hi
      have := (M.tokBlock h1).1
      omega
    · exact h9 i hi
end Go.Vs.Ab
