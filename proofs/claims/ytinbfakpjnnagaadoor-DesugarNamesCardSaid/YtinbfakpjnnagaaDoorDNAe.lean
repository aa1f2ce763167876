/-
  Operations on abstract memory: new blocks, literals, stores. No program in sight.
-/
import Derived.Test.YtinbfakpjnnagaaDoorDNAd
import Derived.Laws.CopyRow
namespace Go.Vs.Ab
open Go.RowKit
variable {P : Program} {X : Mem} {W0 w w' : World} {m : Mm}
theorem MR.locBlock (M : MR X W0 m w) {i β : Nat} (h : X.loc i = some β) : β < w.heap.size ∧ W0.heap.size ≤ β := by
  have hi := M.ldom i β h
  obtain ⟨β', h1, h2, h3, _⟩ := M.locs i m.hp[i] (by simp [hi])
  rw [h] at h1
  injection h1 with h1
  subst h1
  exact ⟨h3, h2⟩
theorem MR.tokBlock (M : MR X W0 m w) {k : Nat} {T : Tok} (h : X.own k = some T) : T.g < w.heap.size ∧ W0.heap.size ≤ T.g := by
  have hk := M.odom k T h
  obtain ⟨T', h1, h2, h3, _, _, _, ⟨cur, h4, _⟩, _⟩ := M.toks k m.hw[k] (by simp [hk])
  rw [h] at h1
  injection h1 with h1
  subst h1
  exact ⟨(Array.getElem?_eq_some_iff.1 h4).1, h3⟩
theorem MR.cellBlock (M : MR X W0 m w) {b o : Nat} {x : Value} (h : X.cell b o = some x) : b < w.heap.size := World.block_lt_of_cell? w _ (M.cell b o x h)
theorem MR.newCell (M : MR X W0 m w) (o : Nat) : X.cell w.heap.size o = none := by
  cases h : X.cell w.heap.size o with
  | none => rfl
  | some x => have := M.cellBlock h; omega
theorem MR.grow (M : MR X W0 m w) (G : Below w.heap.size w w') : MR X W0 m w' where
  below := M.below.trans (G.mono M.below.size)
  cell b o x h := by
    have h1 := M.cell b o x h
    rw [World.cell?_of_block (w := w) (G.block b (M.cellBlock h))]
    exact h1
  ldom := M.ldom
  locs i blk h := by
    obtain ⟨β, h1, h2, h3, hB⟩ := M.locs i blk h
    exact ⟨β, h1, h2, Nat.lt_of_lt_of_le h3 G.size, hB.move (Mem.Le.refl W0.heap.size X) (fun _ => G.block β h3) (fun _ h => h)⟩
  inj := M.inj
  odom := M.odom
  toks k n h := by
    obtain ⟨T, h1, h2, h3, h4, h5, h6, ⟨cur, h7, h8⟩, h9⟩ := M.toks k n h
    exact ⟨T, h1, h2, h3, h4, h5, h6, ⟨cur, by rw [G.block T.g (M.tokBlock h1).1]; exact h7, h8⟩, h9⟩
  oinj := M.oinj
  gl := M.gl
  rm β h := by
    obtain ⟨arr, t, z, h1, h2⟩ := M.rm β h
    exact ⟨arr, t, z, by rw [G.block β (Array.getElem?_eq_some_iff.1 h1).1]; exact h1, h2⟩
theorem below_alloc (w : World) (o : Obj) : Below w.heap.size w (w.alloc o) := (Below.refl _ w).alloc (Nat.le_refl _) _
theorem below_drew_alloc (w : World) (o : Obj) : Below w.heap.size w (w.drew.alloc o) := (Below.refl _ w).drew.alloc (Nat.le_refl _) _
def Mem.claim (X : Mem) (g : Nat) (xs : List Value) : Mem := { X with cell := fun b o => if b = g then xs[o]? else X.cell b o }
theorem Mem.le_claim {base g : Nat} {xs : List Value} (h : ∀ o, X.cell g o = none) (hg : base ≤ g) : X.Le base (X.claim g xs) := by
  refine ⟨fun b o x hx => ?_, fun b o x hb hx => ?_, fun _ _ h => h, fun k T hT => ⟨T, hT, Or.inl rfl⟩, fun _ => Nat.le_refl _⟩
  · simp only [Mem.claim]
    rw [if_neg]
    · exact hx
    · intro e; subst e; rw [h] at hx; cases hx
  · simp only [Mem.claim] at hx
    rw [if_neg (by omega)] at hx
    exact hx
theorem MR.claim (M : MR X W0 m w) {g : Nat} {xs : List Value} (hg : W0.heap.size ≤ g) (hnew : ∀ o, X.cell g o = none) (hloc : ∀ i, X.loc i ≠ some g) (hown : ∀ k T, X.own k = some T → T.g ≠ g)
    (hx : ∀ o x, xs[o]? = some x → w.cell? ⟨g, o, none⟩ = some x) : MR (X.claim g xs) W0 m w := by
  have hle : X.Le W0.heap.size (X.claim g xs) := Mem.le_claim hnew hg
  refine ⟨M.below, fun b o x h => ?_, M.ldom, fun i blk h => ?_, M.inj, M.odom, fun k n h => ?_, M.oinj, M.gl, M.rm⟩
  · simp only [Mem.claim] at h
    split at h
    · rename_i e; subst e; exact hx o x h
    · exact M.cell b o x h
  · obtain ⟨β, h1, h2, h3, hB⟩ := M.locs i blk h
    have hne : β ≠ g := fun e => hloc i (e ▸ h1)
    refine ⟨β, h1, h2, h3, hB.move hle (fun _ => rfl) (fun _ h o => ?_)⟩
    simp only [Mem.claim]
    rw [if_neg hne]
    exact h o
  · obtain ⟨T, h1, h2, h3, h4, h5, h6, h7, h8, h9⟩ := M.toks k n h
    refine ⟨T, h1, h2, h3, h4, h5, h6, h7, fun o ho => ?_, h9⟩
    simp only [Mem.claim]
    rw [if_neg (hown k T h1)]
    exact h8 o ho
theorem MR.newFixed (M : MR X W0 m w) {w1 : World} (hw1 : w1.heap = w.heap) (B1 : Below w.heap.size w w1) {arr : Array Value} {e : TypeId} {xs : List Value} (hx : ∀ (o : Nat) (x : Value), xs[o]? = some x → arr[o]? = some x) :
    MR (X.claim w.heap.size xs) W0 m (w1.alloc (.cells arr e)) ∧ X.Le W0.heap.size (X.claim w.heap.size xs) ∧ At (X.claim w.heap.size xs).cell (some ⟨w.heap.size, 0, none⟩) xs := by
  have hs : w1.heap.size = w.heap.size := by rw [hw1]
  have G : Below w.heap.size w (w1.alloc (.cells arr e)) := B1.trans (by rw [← hs]; exact below_alloc w1 _)
  have M1 := M.grow G
  have hb : W0.heap.size ≤ w.heap.size := M.below.size
  refine ⟨M1.claim hb M.newCell (fun i h => ?_) (fun k T h => ?_) (fun o x h => ?_), Mem.le_claim M.newCell hb, fun j x h => ⟨_, _, rfl, ?_⟩⟩
  · have := (M.locBlock h).1; omega
  · have := (M.tokBlock h).1; omega
  · have : (w1.alloc (.cells arr e)).heap[w.heap.size]? = some (.cells arr e (0, 0)) := by rw [← hs]; exact halloc_new w1 _
    exact cell_of_heap this (hx o x h)
  · simp only [Mem.claim, Nat.zero_add, if_true]
    exact h
def Mem.setLoc (X : Mem) (i β : Nat) : Mem := { X with loc := fun j => if j = i then some β else X.loc j }
theorem MR.newLocB (M : MR X W0 m w) {arr : Array Value} {e : TypeId} {cs : List AV} (hB : BlkIs (X.setLoc m.hp.length w.heap.size) (w.alloc (.cells arr e)) w.heap.size ⟨false, cs⟩) :
    MR (X.setLoc m.hp.length w.heap.size) W0 { m with hp := m.hp ++ [⟨false, cs⟩] } (w.alloc (.cells arr e)) ∧ X.Le W0.heap.size (X.setLoc m.hp.length w.heap.size) ∧ Rep (X.setLoc m.hp.length w.heap.size) (.ptr m.hp.length 0) (.pointer (some ⟨w.heap.size, 0, none⟩)) := by
  have hle : X.Le W0.heap.size (X.setLoc m.hp.length w.heap.size) := by
    refine ⟨fun _ _ _ h => h, fun _ _ _ _ h => h, fun i β h => ?_, fun k T h => ⟨T, h, Or.inl rfl⟩, fun _ => Nat.le_refl _⟩
    have := M.ldom i β h
    simp only [Mem.setLoc]
    rw [if_neg (by omega)]
    exact h
  have M1 := M.grow (below_alloc w (.cells arr e))
  refine ⟨⟨M1.below, M1.cell, fun i β h => ?_, fun i blk h => ?_, fun i j β bi bj h1 h2 g1 g2 => ?_, M1.odom, fun k n h => ?_, M1.oinj, M1.gl, M1.rm⟩, hle, .ptr (by simp [Mem.setLoc])⟩
  · simp only [Mem.setLoc] at h
    simp only [List.length_append, List.length_singleton]
    split at h
    · omega
    · have := M.ldom i β h; omega
  · by_cases hi : i < m.hp.length
    · simp only at h
      rw [List.getElem?_append_left hi] at h
      obtain ⟨β, h1, h2, h3, hB⟩ := M1.locs i blk h
      exact ⟨β, hle.loc _ _ h1, h2, h3, hB.move hle (fun _ => rfl) (fun _ h => h)⟩
    · simp only at h
      rw [List.getElem?_append_right (by omega)] at h
      have hi2 : i = m.hp.length := by
        have := (List.getElem?_eq_some_iff.1 h).1
        simp at this
        omega
      subst hi2
      simp at h
      subst h
      refine ⟨w.heap.size, by simp [Mem.setLoc], M.below.size, ?_, hB⟩
      exact (Array.getElem?_eq_some_iff.1 (halloc_new w (.cells arr e))).1
  · simp only [Mem.setLoc] at h1 h2
    split at h1
    · split at h2
      · left; omega
      · injection h1 with h1
        subst h1
        have := (M.locBlock h2).1
        omega
    · split at h2
      · injection h2 with h2
        subst h2
        have := (M.locBlock h1).1
        omega
      · have hi := M.ldom i β h1
        have hj := M.ldom j β h2
        simp only at g1 g2
        rw [List.getElem?_append_left hi] at g1
        rw [List.getElem?_append_left hj] at g2
        exact M.inj i j β bi bj h1 h2 g1 g2
  · obtain ⟨T, h1, h2, h3, h4, h5, h6, h7, h8, h9⟩ := M1.toks k n h
    refine ⟨T, h1, h2, h3, h4, h5, h6, h7, h8, fun i hi => ?_⟩
    simp only [Mem.setLoc] at hi
    split at hi
    · injection hi with hi
      have := (M.tokBlock h1).1
      omega
    · exact h9 i hi
/-! ### literals of slices -/
theorem MR.newLoc (M : MR X W0 m w) {arr : Array Value} {e : TypeId} {cs : List AV} (hr : Reps X cs arr.toList) :
    MR (X.setLoc m.hp.length w.heap.size) W0 { m with hp := m.hp ++ [⟨false, cs⟩] } (w.alloc (.cells arr e)) ∧ X.Le W0.heap.size (X.setLoc m.hp.length w.heap.size) ∧ Rep (X.setLoc m.hp.length w.heap.size) (.ptr m.hp.length 0) (.pointer (some ⟨w.heap.size, 0, none⟩)) := by
  have hle : X.Le W0.heap.size (X.setLoc m.hp.length w.heap.size) := by
    refine ⟨fun _ _ _ h => h, fun _ _ _ _ h => h, fun i β h => ?_, fun k T h => ⟨T, h, Or.inl rfl⟩, fun _ => Nat.le_refl _⟩
    have := M.ldom i β h
    simp only [Mem.setLoc]
    rw [if_neg (by omega)]
    exact h
  refine M.newLocB (.cells (halloc_new w _) ?_ ?_ (fun hf => by cases hf) fun _ o => M.newCell o)
  · show cs.length ≤ arr.size
    rw [hr.1]; simp
  · show Reps _ cs (arr.toList.take cs.length)
    rw [hr.take_self]
    exact hr.mono hle
def zeroCells (len size : Nat) (zs : List CV) : List CV := (List.range (len * size)).map fun i => zs.getD (i % zs.length) default
def aBuildSlice (P : Program) (t : TypeId) (len : Nat) (ps : List (Nat × AV)) : Option (List CV) :=
  match P.underlying t with
  | some (.slice e) => match tsz P e, tzero P e with
    | some sz, some zs => if Nat.blt 0 zs.length && Nat.ble (len * sz) 16777216 && Nat.blt 0 (len * sz) then aFill (fun k => some (k * sz, sz)) (zeroCells len sz zs) ps else if Nat.beq len 0 && ps.isEmpty then some [] else none
    | _, _ => none
  | _ => none
theorem aBuildSlice_ok (M : MR X W0 m w) {t : TypeId} {len : Nat} {ps : List (Nat × AV)} {qs : Array (Nat × Value)} {cs : List CV} (h : aBuildSlice P t len ps = some cs) (hp : Pairs X ps qs.toList) (hl : len ≤ maxLen) :
    ∃ V X' w', (Instr.buildSlice t len qs).run P w = .ok V w' ∧ X.Le W0.heap.size X' ∧ Rep X' (.c (.sl true len cs)) V ∧ MR X' W0 m w' ∧ Below w.heap.size w w' := by
  unfold aBuildSlice at h
  split at h
  · rename_i e ht
    split at h
    · rename_i sz zs hsz hzs
      obtain ⟨i, z, hi, hz, hzs⟩ := tzero_spec hzs
      obtain ⟨i', hi', e0⟩ := tsz_spec hsz
      rw [hi] at hi'
      injection hi' with hi'
      subst hi'
      subst e0
      have dummy : True := trivial
      · have dummy : True := trivial
        · split at h
          · rename_i hc
            simp only [Bool.and_eq_true, Nat.ble_eq, Nat.blt_eq] at hc
            obtain ⟨⟨h1, h2⟩, h3⟩ := hc
            have hzr := cvsOf_rep (C := X.cell) hzs
            have hzl : z.cells.size = zs.length := by have := hzr.1; simp at this; exact this.symm
            have hr0 : RepCs X.cell (zeroCells len i.size zs) ((Array.range (len * i.size)).map (z.cells[· % z.cells.size]!)).toList := by
              refine ⟨by simp [zeroCells], fun j c x hc hx => ?_⟩
              simp only [zeroCells, List.getElem?_map, Option.map_eq_some_iff] at hc
              obtain ⟨k, hk, rfl⟩ := hc
              have hj := (List.getElem?_eq_some_iff.1 hk).1
              simp only [List.getElem?_range (by simpa using hj), Option.some.injEq] at hk
              subst hk
              simp only [List.length_range] at hj
              simp only [Array.toList_map, Array.toList_range, List.getElem?_map, List.getElem?_range hj, Option.map_some, Option.some.injEq] at hx
              subst hx
              have hm : j % zs.length < zs.length := Nat.mod_lt _ h1
              rw [hzl]
              refine hzr.2 (j % zs.length) _ _ ?_ ?_
              · rw [List.getD_eq_getElem?_getD, List.getElem?_eq_getElem hm]; rfl
              · rw [Array.getElem?_toList, getElem!_pos _ _ (by omega), Array.getElem?_eq_getElem (by omega)]
            obtain ⟨ys, h4, h5⟩ := aFill_ok (xs := (Array.range (len * i.size)).map (z.cells[· % z.cells.size]!)) h hp hr0
            obtain ⟨g1, g2, g3⟩ := M.newFixed (w1 := w) rfl (Below.refl _ w) (arr := ys) (e := e) (xs := ys.toList) (by simp)
            refine ⟨.slice (some ⟨w.heap.size, 0, none⟩) len len, _, w.alloc (.cells ys e), ?_, g2, .c (.sl h5.1 ((h5.mono g2.cell).2) (Nat.le_refl _) ⟨hl, fun e => by cases e⟩ (fun _ => rfl) g3), g1, below_alloc w _⟩
            have h2' : ¬ (16777216 < len * i.size) := by omega
            have h3' : len * i.size ≠ 0 := by omega
            have h3a : len ≠ 0 := fun e => by subst e; simp at h3
            have h3b : i.size ≠ 0 := fun e => by rw [e] at h3; simp at h3
            simp [Instr.buildSlice, run_under ht, run_size hi, h2', zeroValue, typeInfo, hi, hz, newRow]
            rw [if_neg h3', h4]
            simp
          · split at h
            · rename_i hc
              simp only [Bool.and_eq_true, List.isEmpty_iff] at hc
              obtain ⟨h1, rfl⟩ := hc
              have h1 := Nat.eq_of_beq_eq_true h1
              subst h1
              injection h with h
              subst h
              have hq : qs = #[] := by
                cases qs with
                | mk l =>
                  cases l with
                  | nil => rfl
                  | cons y l => exact absurd hp.1 (by simp)
              subst hq
              obtain ⟨g1, g2, g3⟩ := M.newFixed (w1 := w) rfl (Below.refl _ w) (arr := #[]) (e := e) (xs := []) (fun j x h => by simp at h)
              refine ⟨.slice (some ⟨w.heap.size, 0, none⟩) 0 0, _, w.alloc (.cells #[] e), ?_, g2, .c (.sl (xs := []) rfl (fun i c x h => by simp at h) (Nat.le_refl _) ⟨hl, fun e => by cases e⟩ (fun _ => rfl) (fun j x h => by simp at h)), g1, below_alloc w _⟩
              simp [Instr.buildSlice, run_under ht, run_size hi, newRow, Instr.fill]
              have hR : ∀ f : Nat → Value, Array.map f (Array.range 0) = #[] := fun f => Array.eq_empty_of_size_eq_zero (by simp)
              rw [hR]
            · cases h
    · cases h
  · cases h
end Go.Vs.Ab
