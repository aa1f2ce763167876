/-
  Chapter 13: a grant's clause, seen in the world itself; the contract of desugar.Grant.
-/
import Derived.Test.YtinbfakpjnnagaaDoorDNDg
set_option linter.unusedSimpArgs false
set_option linter.unusedVariables false
namespace Go.Proofs.YtinbfakpjnnagaaDoor
open Go.RowKit Go.Lib Go.Vs Go.Vs.Ab
set_option maxRecDepth 100000
set_option maxHeartbeats 40000000
theorem below_setCells {B b : Nat} {a : World} (hp : B ≤ b) : ∀ (vs : List Value) (o : Nat) (w : World), Below B a w → Below B a (w.setCells b o vs)
  | [], _, _, h => h
  | v :: r, o, w, h => below_setCells hp r (o + 1) _ (h.setCell (p := ⟨b, o, none⟩) hp v)
theorem heap_setCells {b k : Nat} (hk : k ≠ b) : ∀ (vs : List Value) (o : Nat) (w : World), (w.setCells b o vs).heap[k]? = w.heap[k]?
  | [], _, _ => rfl
  | v :: r, o, w => (heap_setCells hk r (o + 1) _).trans (hset_other w b o v k hk)
theorem rd_two {w : World} {b n G : Nat} {cs vs : List Value} (hvl : vs.length = 11) (hcl : cs.length = n * 11) (hG : n + 1 ≤ G) (hm : G ≤ maxLen) (h1 : ∀ j (hj : j < vs.length), w.cell? ⟨b, 0 + j, none⟩ = some vs[j]) (h2 : ∀ j (hj : j < cs.length), w.cell? ⟨b, 11 + j, none⟩ = some cs[j]) :
    Rd w 11 (.slice (some ⟨b, 0, none⟩) (n + 1) G) (n + 1) (vs ++ cs) := by
  refine Rd.mk' (by rw [List.length_append]; omega) hG hm fun j u hj => ?_
  by_cases hl : j < vs.length
  · rw [List.getElem?_append_left hl, List.getElem?_eq_getElem hl] at hj
    rw [h1 j hl]
    exact hj
  · rw [List.getElem?_append_right (by omega)] at hj
    have hj2 := (List.getElem?_eq_some_iff.1 hj).1
    rw [List.getElem?_eq_getElem hj2] at hj
    have := h2 _ hj2
    rw [show 11 + (j - vs.length) = 0 + j by omega] at this
    rw [this]
    exact hj
theorem sblk_at {g n c k : Nat} (h : sblk (.slice (some ⟨g, 0, none⟩) n c) = some k) : g = k := by
  have h : some g = some k := h
  injection h
theorem ins_raw (n vb : Nat) (cs vs : List Value) (v : Value) (W : World) (hn : n ≤ 1000000) (hvl : vs.length = 11) (hcl : cs.length = n * 11) (h1c : ∀ v ∈ cs, v.oneCell' = true) (h1v : ∀ v ∈ vs, v.oneCell' = true)
    (hv : W.heap[vb]? = some (.cells vs.toArray 39 (0, 0)))
    (hc : (n = 0 ∧ ∃ base, v = .slice base 0 0) ∨ (0 < n ∧ ∃ (g G : Nat) (cur : Array Value), v = .slice (some ⟨g, 0, none⟩) n G ∧ g ≠ vb ∧ W.heap[g]? = some (.cells cur 39 (0, 0)) ∧ cur.size = G * 11 ∧ n ≤ G ∧ G ≤ maxLen ∧ ∀ (j : Nat) (u : Value), cs[j]? = some u → cur[j]? = some u)) :
    Calls Tryd.prog 39 #[v, .int .i64 0, .slice (some ⟨vb, 0, none⟩) 1 1] W fun e w' => ∃ g G, e = .returned (.slice (some ⟨g, 0, none⟩) (n + 1) G) ∧ Rd w' 11 (.slice (some ⟨g, 0, none⟩) (n + 1) G) (n + 1) (vs ++ cs) ∧
      (∀ B, B ≤ g → B ≤ W.heap.size → Below B W w') ∧ (∀ k, k ≠ g → k < W.heap.size → w'.heap[k]? = W.heap[k]?) ∧ (g = W.heap.size ∨ (0 < n ∧ sblk v = some g)) := by
  have hvs : ∀ j u, vs[j]? = some u → W.cell? ⟨vb, 0 + j, none⟩ = some u := fun j u hj => by
    rw [Nat.zero_add]
    exact cell_of_heap hv (by simpa using hj)
  rcases hc with ⟨rfl, base, rfl⟩ | ⟨h0, g, G, cur, rfl, hgv, hg, hsz, hnG, hGm, hcur⟩
  · obtain ⟨zs, hC⟩ := insA_end base vb 1 vs W hvl hvs h1v
    refine hC.mono ?_
    rintro _ w' ⟨rfl, rfl⟩
    have hcs : cs = [] := List.eq_nil_of_length_eq_zero (by omega)
    have hnew : (W.drew.alloc (.cells (vs.toArray ++ zs) 39)).heap[W.heap.size]? = some (.cells (vs.toArray ++ zs) 39 (0, 0)) := heap_new W.drew _
    refine ⟨W.heap.size, _, rfl, ?_, fun B _ hB => ((Below.refl B W).drew).alloc hB _, fun k hk hl => halloc_old W.drew _ k hl, Or.inl rfl⟩
    refine rd_two hvl hcl (grownCap_ge W 1 0 _) (grownCap_le_maxLen W 1 0 _ (by unfold maxLen; omega)) (fun j hj => ?_) (fun j hj => by rw [hcs] at hj; simp at hj)
    rw [Nat.zero_add]
    refine cell_of_heap hnew ?_
    rw [Array.getElem?_append_left (by simpa using hj)]
    simp [hj]
  · have hcs : ∀ j u, cs[j]? = some u → W.cell? ⟨g, 0 + j, none⟩ = some u := fun j u hj => by
      rw [Nat.zero_add]
      exact cell_of_heap hg (hcur j u hj)
    by_cases hroom : n + 1 ≤ G
    · have hsp : ∀ j, j < (n + 1) * 11 → (W.cell? ⟨g, j, none⟩).isSome = true := fun j hj => by
        have hj2 : j < cur.size := by
          have := Nat.mul_le_mul_right 11 hroom
          omega
        rw [cell_of_heap hg (Array.getElem?_eq_getElem hj2)]
        rfl
      have hfz := fun j => Vs.frozen_of_heap hg j
      refine (insA_shift g n G vb 1 cs vs W h0 hroom (by unfold maxLen at hGm; omega) (fun e => hgv e.symm) hcl hvl hcs hsp hfz hvs h1c h1v 39 39 11 (G * 11) ?_ ?_ (by omega) (Vs.frozen_of_heap hv 0) (Vs.frozen_of_heap hv 11)).mono ?_
      · unfold World.shape?
        rw [hv]
        simp [hvl]
      · unfold World.shape?
        rw [hg]
        simp [hsz]
      rintro _ w' ⟨rfl, rfl⟩
      have hsp1 : ∀ j, j < (n + 1) * 11 → ((W.drew.setCells g 11 cs).cell? ⟨g, j, none⟩).isSome = true := fun j hj => Go.Proofs.isSome_setCells g cs 11 W.drew (fun t ht => hsp _ (by omega)) j (hsp j hj)
      refine ⟨g, G, rfl, ?_, fun B hB hW => below_setCells hB _ _ _ (below_setCells hB _ _ _ (Below.refl B W).drew), fun k hk hl => (heap_setCells hk _ _ _).trans (heap_setCells hk _ _ _), Or.inr ⟨h0, rfl⟩⟩
      refine rd_two hvl hcl hroom hGm (fun j hj => ?_) (fun j hj => ?_)
      · exact World.cell?_setCells_in g vs 0 _ (fun t ht => hsp1 _ (by omega)) j hj
      · rw [World.cell?_setCells_out g vs 0 _ _ (fun _ _ => Or.inr (by show 0 + vs.length ≤ 11 + j; omega))]
        exact World.cell?_setCells_in g cs 11 W.drew (fun t ht => hsp _ (by omega)) j hj
    · obtain rfl : G = n := by omega
      obtain ⟨row, hrow, hC⟩ := insA_grow g G vb 1 cs vs W h0 hn hcl hvl hcs hvs h1c h1v
      refine hC.mono ?_
      rintro _ w' ⟨rfl, rfl⟩
      have hnew : (W.alloc (.cells row 39)).drew.heap[W.heap.size]? = some (.cells row 39 (0, 0)) := heap_new W _
      have hsp : ∀ j, j < (G + 1) * 11 → ((W.alloc (.cells row 39)).drew.cell? ⟨W.heap.size, j, none⟩).isSome = true := fun j hj => by
        rw [cell_of_heap hnew (Array.getElem?_eq_getElem (by omega))]
        rfl
      have hsp1 : ∀ j, j < (G + 1) * 11 → (((W.alloc (.cells row 39)).drew.setCells W.heap.size 0 vs).drew.cell? ⟨W.heap.size, j, none⟩).isSome = true := fun j hj => Go.Proofs.isSome_setCells _ vs 0 _ (fun t ht => hsp _ (by omega)) j (hsp j hj)
      refine ⟨W.heap.size, _, rfl, ?_, fun B _ hB => below_setCells hB _ _ _ (below_setCells hB _ _ _ ((Below.refl B W).alloc hB _).drew).drew, fun k hk hl => (heap_setCells hk _ _ _).trans ((heap_setCells hk _ _ _).trans (halloc_old W _ k hl)), Or.inl rfl⟩
      refine rd_two hvl hcl (grownCap_ge W _ _ _) (grownCap_le_maxLen W _ _ _ (by unfold maxLen; omega)) (fun j hj => ?_) (fun j hj => ?_)
      · rw [World.cell?_setCells_out W.heap.size cs 11 _ _ (fun _ _ => Or.inl (by show 0 + j < 11; omega))]
        exact World.cell?_setCells_in _ vs 0 _ (fun t ht => hsp _ (by omega)) j hj
      · exact World.cell?_setCells_in _ cs 11 _ (fun t ht => hsp1 _ (by omega)) j hj
theorem grant_raw (h : Atm) (tw : ByteArray) (l : List Atm) (hl : l.length ≤ 100000) (w : World) (v : Value) (hr : Rd w 11 v l.length (l.flatMap fun a => a.cells.toList)) (hg : Gl w) :
    Calls Tryd.prog 24 #[.agg (h.cells ++ #[v] ++ #[.string tw])] w fun e w' => ∃ u, e = .returned (.agg (h.cells ++ #[u])) ∧ Rd w' 11 u (l.length + 1) ((({ h with says := tw } : Atm) :: l).flatMap fun a => a.cells.toList) ∧ Below w.heap.size w w' ∧ ∀ k, sblk u = some k → w.heap.size ≤ k := by
  have mixed : Tryd.prog.follows Departure.mixedOrders = true := by kernel_rfl
  unfold Atm.cells
  have HR := Lib.hid hr
  have HG := Lib.hid hg
  clear hr hg
  go_enter Tryd.func24, Tryd.ntmps24
  go_wp2_with (fail)
  obtain ⟨W1, hW1⟩ : ∃ W1, W1 = (((w.alloc (Obj.cells #[.string h.says, .string h.pred, .int .i64 h.n, .bool h.a0.v, .string h.a0.name, .bool h.a1.v, .string h.a1.name, .bool h.a2.v, .string h.a2.name, .bool h.a3.v, .string h.a3.name, v, .string tw] 75)).alloc (Obj.cells #[.string ⟨#[]⟩, .string ⟨#[]⟩, .int .i64 0, .bool false, .string ⟨#[]⟩, .bool false, .string ⟨#[]⟩, .bool false, .string ⟨#[]⟩, .bool false, .string ⟨#[]⟩, .slice none 0 0] 45)).alloc (Obj.cells #[.string tw, .string h.pred, .int .i64 h.n, .bool h.a0.v, .string h.a0.name, .bool h.a1.v, .string h.a1.name, .bool h.a2.v, .string h.a2.name, .bool h.a3.v, .string h.a3.name] 39)) := ⟨_, rfl⟩
  have e2 : W1.heap[w.heap.size + 1]? = some (.cells #[.string ⟨#[]⟩, .string ⟨#[]⟩, .int .i64 0, .bool false, .string ⟨#[]⟩, .bool false, .string ⟨#[]⟩, .bool false, .string ⟨#[]⟩, .bool false, .string ⟨#[]⟩, .slice none 0 0] 45 (0, 0)) := by
    rw [hW1, halloc_old _ _ _ (by rw [World.size_alloc, World.size_alloc]; omega)]
    have := heap_new (w.alloc (Obj.cells #[.string h.says, .string h.pred, .int .i64 h.n, .bool h.a0.v, .string h.a0.name, .bool h.a1.v, .string h.a1.name, .bool h.a2.v, .string h.a2.name, .bool h.a3.v, .string h.a3.name, v, .string tw] 75)) (Obj.cells #[.string ⟨#[]⟩, .string ⟨#[]⟩, .int .i64 0, .bool false, .string ⟨#[]⟩, .bool false, .string ⟨#[]⟩, .bool false, .string ⟨#[]⟩, .bool false, .string ⟨#[]⟩, .slice none 0 0] 45)
    rw [World.size_alloc] at this
    exact this
  have e3 : W1.heap[w.heap.size + 2]? = some (.cells #[.string tw, .string h.pred, .int .i64 h.n, .bool h.a0.v, .string h.a0.name, .bool h.a1.v, .string h.a1.name, .bool h.a2.v, .string h.a2.name, .bool h.a3.v, .string h.a3.name] 39 (0, 0)) := by
    have := heap_new ((w.alloc (Obj.cells #[.string h.says, .string h.pred, .int .i64 h.n, .bool h.a0.v, .string h.a0.name, .bool h.a1.v, .string h.a1.name, .bool h.a2.v, .string h.a2.name, .bool h.a3.v, .string h.a3.name, v, .string tw] 75)).alloc (Obj.cells #[.string ⟨#[]⟩, .string ⟨#[]⟩, .int .i64 0, .bool false, .string ⟨#[]⟩, .bool false, .string ⟨#[]⟩, .bool false, .string ⟨#[]⟩, .bool false, .string ⟨#[]⟩, .slice none 0 0] 45)) (Obj.cells #[.string tw, .string h.pred, .int .i64 h.n, .bool h.a0.v, .string h.a0.name, .bool h.a1.v, .string h.a1.name, .bool h.a2.v, .string h.a2.name, .bool h.a3.v, .string h.a3.name] 39)
    rw [World.size_alloc, World.size_alloc, ← hW1] at this
    exact this
  have B1 : Below w.heap.size w W1 := by
    rw [hW1]
    exact (((Below.refl _ w).alloc (Nat.le_refl _) _).alloc (by rw [World.size_alloc]; omega) _).alloc (by rw [World.size_alloc, World.size_alloc]; omega) _
  have z1 : W1.heap.size = w.heap.size + 3 := by rw [hW1, World.size_alloc, World.size_alloc, World.size_alloc]
  rw [← hW1]
  clear hW1
  refine (stated_raw h l (by omega) W1 v (HR.out.kept B1) (HG.out.below B1)).mono ?_
  rintro _ w2 ⟨hb2, u, he, hcp⟩
  have he : _ = Ending.returned (.agg #[.string h.says, .string h.pred, .int .i64 h.n, .bool h.a0.v, .string h.a0.name, .bool h.a1.v, .string h.a1.name, .bool h.a2.v, .string h.a2.name, .bool h.a3.v, .string h.a3.name, u]) := he
  subst he
  obtain ⟨ub, un, uc, rfl⟩ : ∃ ub un uc, u = .slice ub un uc := by
    rcases hcp with ⟨_, b, rfl⟩ | ⟨_, g, G, cur, rfl, _⟩ <;> exact ⟨_, _, _, rfl⟩
  have HE2 := Lib.hid ((hb2.block (w.heap.size + 1) (by rw [z1]; omega)).trans e2)
  have HE3 := Lib.hid ((hb2.block (w.heap.size + 2) (by rw [z1]; omega)).trans e3)
  have HB2 := Lib.hid (B1.trans (hb2.mono (by rw [z1]; omega)))
  have HZ := Lib.hid z1
  have HC := Lib.hid hcp
  have HS := Lib.hid hb2.size
  have k1 : w.heap.size + 1 + 1 < w2.heap.size := by have := hb2.size; omega
  have k2 : w.heap.size + 1 < w2.heap.size := by omega
  have k3 : ¬ (w.heap.size + 1 + 1 = w2.heap.size) := by omega
  have k4 : ¬ (w.heap.size + 1 = w2.heap.size) := by omega
  clear e2 e3 B1 z1 hcp hb2
  have l0 : w2.cell? ⟨w.heap.size + 1 + 1, 0, none⟩ = some (.string tw) := cell_of_heap HE3.out rfl
  have l1 : w2.cell? ⟨w.heap.size + 1 + 1, 1, none⟩ = some (.string h.pred) := cell_of_heap HE3.out rfl
  have l2 : w2.cell? ⟨w.heap.size + 1 + 1, 2, none⟩ = some (.int .i64 h.n) := cell_of_heap HE3.out rfl
  have l3 : w2.cell? ⟨w.heap.size + 1 + 1, 3, none⟩ = some (.bool h.a0.v) := cell_of_heap HE3.out rfl
  have l4 : w2.cell? ⟨w.heap.size + 1 + 1, 4, none⟩ = some (.string h.a0.name) := cell_of_heap HE3.out rfl
  have l5 : w2.cell? ⟨w.heap.size + 1 + 1, 5, none⟩ = some (.bool h.a1.v) := cell_of_heap HE3.out rfl
  have l6 : w2.cell? ⟨w.heap.size + 1 + 1, 6, none⟩ = some (.string h.a1.name) := cell_of_heap HE3.out rfl
  have l7 : w2.cell? ⟨w.heap.size + 1 + 1, 7, none⟩ = some (.bool h.a2.v) := cell_of_heap HE3.out rfl
  have l8 : w2.cell? ⟨w.heap.size + 1 + 1, 8, none⟩ = some (.string h.a2.name) := cell_of_heap HE3.out rfl
  have l9 : w2.cell? ⟨w.heap.size + 1 + 1, 9, none⟩ = some (.bool h.a3.v) := cell_of_heap HE3.out rfl
  have l10 : w2.cell? ⟨w.heap.size + 1 + 1, 10, none⟩ = some (.string h.a3.name) := cell_of_heap HE3.out rfl
  go_wp2_with (fail)
  obtain ⟨W4, hW4⟩ : ∃ W4, W4 = ((w2.alloc (Obj.cells #[.string h.says, .string h.pred, .int .i64 h.n, .bool h.a0.v, .string h.a0.name, .bool h.a1.v, .string h.a1.name, .bool h.a2.v, .string h.a2.name, .bool h.a3.v, .string h.a3.name, .slice ub un uc] 45)).alloc (Obj.cells #[.string tw, .string h.pred, .int .i64 h.n, .bool h.a0.v, .string h.a0.name, .bool h.a1.v, .string h.a1.name, .bool h.a2.v, .string h.a2.name, .bool h.a3.v, .string h.a3.name] 39)) := ⟨_, rfl⟩
  have e5 : W4.heap[w2.heap.size]? = some (.cells #[.string h.says, .string h.pred, .int .i64 h.n, .bool h.a0.v, .string h.a0.name, .bool h.a1.v, .string h.a1.name, .bool h.a2.v, .string h.a2.name, .bool h.a3.v, .string h.a3.name, .slice ub un uc] 45 (0, 0)) := by
    rw [hW4, halloc_old _ _ _ (by rw [World.size_alloc]; omega)]
    exact heap_new w2 _
  have e6 : W4.heap[w2.heap.size + 1]? = some (.cells #[.string tw, .string h.pred, .int .i64 h.n, .bool h.a0.v, .string h.a0.name, .bool h.a1.v, .string h.a1.name, .bool h.a2.v, .string h.a2.name, .bool h.a3.v, .string h.a3.name] 39 (0, 0)) := by
    have := heap_new (w2.alloc (Obj.cells #[.string h.says, .string h.pred, .int .i64 h.n, .bool h.a0.v, .string h.a0.name, .bool h.a1.v, .string h.a1.name, .bool h.a2.v, .string h.a2.name, .bool h.a3.v, .string h.a3.name, .slice ub un uc] 45)) (Obj.cells #[.string tw, .string h.pred, .int .i64 h.n, .bool h.a0.v, .string h.a0.name, .bool h.a1.v, .string h.a1.name, .bool h.a2.v, .string h.a2.name, .bool h.a3.v, .string h.a3.name] 39)
    rw [World.size_alloc, ← hW4] at this
    exact this
  have e7 : ∀ k, k < w2.heap.size → W4.heap[k]? = w2.heap[k]? := fun k hk => by
    rw [hW4, halloc_old _ _ _ (by rw [World.size_alloc]; omega), halloc_old _ _ _ hk]
  have B4 : Below w.heap.size w W4 := by
    rw [hW4]
    exact (HB2.out.alloc (by omega) _).alloc (by rw [World.size_alloc]; omega) _
  have z4 : W4.heap.size = w2.heap.size + 2 := by rw [hW4, World.size_alloc, World.size_alloc]
  rw [← hW4]
  clear hW4
  have zz := HZ.out
  have hcl : (l.flatMap fun a => a.cells.toList).length = l.length * 11 := HR.out.1
  refine (ins_raw l.length (w2.heap.size + 1) (l.flatMap fun a => a.cells.toList) (({ h with says := tw } : Atm).cells.toList) (.slice ub un uc) W4 (by omega) rfl hcl (fun u hu => by
      obtain ⟨y, _, hy⟩ := List.mem_flatMap.1 hu
      exact one_atC y u hy) (one_atC _) e6 ?_).mono ?_
  · rcases HC.out with ⟨h0, hb⟩ | ⟨h0, g, G, cur, q1, q2, q3, q4⟩
    · exact Or.inl ⟨h0, hb⟩
    · have hgl := (Array.getElem?_eq_some_iff.1 q3).1
      exact Or.inr ⟨h0, g, G, cur, q1, by omega, (e7 g hgl).trans q3, q4⟩
  rintro _ w5 ⟨g, G, rfl, hrd, hbl, hoth, hgg⟩
  have hg1 : w.heap.size + 3 ≤ g ∧ g ≠ w2.heap.size := by
    rcases hgg with hgg | hgg
    · omega
    · rcases HC.out with ⟨h0, base, hb⟩ | ⟨h0, g', G', cur, q1, q2, q3, q4⟩
      · omega
      · injection q1 with q1
        subst q1
        obtain ⟨_, hgg⟩ := hgg
        injection hgg with hgg
        have hgg : g' = g := hgg
        have hgl := (Array.getElem?_eq_some_iff.1 q3).1
        subst hgg
        constructor
        · have q2 : W1.heap.size ≤ g' := q2
          omega
        · omega
  have x5 := (hoth w2.heap.size (fun e => hg1.2 e.symm) (by omega)).trans e5
  have x2 := (hoth (w.heap.size + 1) (by omega) (by omega)).trans ((e7 (w.heap.size + 1) (by omega)).trans HE2.out)
  have HB5 := Lib.hid (B4.trans (hbl w.heap.size (by omega) (by omega)))
  have HRD := Lib.hid hrd
  have HX5 := Lib.hid x5
  have HX2 := Lib.hid x2
  have n1 : g ≠ w2.heap.size := hg1.2
  have n2 : g ≠ w.heap.size + 1 := by omega
  have n3 := Lib.hid (show w.heap.size ≤ g by omega)
  clear e5 e6 e7 B4 z4 zz hrd hbl hoth x5 x2 hg1 hgg l0 l1 l2 l3 l4 l5 l6 l7 l8 l9 l10
  have l0 : w5.cell? ⟨w2.heap.size, 0, none⟩ = some (.string h.says) := cell_of_heap HX5.out rfl
  have l1 : w5.cell? ⟨w2.heap.size, 1, none⟩ = some (.string h.pred) := cell_of_heap HX5.out rfl
  have l2 : w5.cell? ⟨w2.heap.size, 2, none⟩ = some (.int .i64 h.n) := cell_of_heap HX5.out rfl
  have l3 : w5.cell? ⟨w2.heap.size, 3, none⟩ = some (.bool h.a0.v) := cell_of_heap HX5.out rfl
  have l4 : w5.cell? ⟨w2.heap.size, 4, none⟩ = some (.string h.a0.name) := cell_of_heap HX5.out rfl
  have l5 : w5.cell? ⟨w2.heap.size, 5, none⟩ = some (.bool h.a1.v) := cell_of_heap HX5.out rfl
  have l6 : w5.cell? ⟨w2.heap.size, 6, none⟩ = some (.string h.a1.name) := cell_of_heap HX5.out rfl
  have l7 : w5.cell? ⟨w2.heap.size, 7, none⟩ = some (.bool h.a2.v) := cell_of_heap HX5.out rfl
  have l8 : w5.cell? ⟨w2.heap.size, 8, none⟩ = some (.string h.a2.name) := cell_of_heap HX5.out rfl
  have l9 : w5.cell? ⟨w2.heap.size, 9, none⟩ = some (.bool h.a3.v) := cell_of_heap HX5.out rfl
  have l10 : w5.cell? ⟨w2.heap.size, 10, none⟩ = some (.string h.a3.name) := cell_of_heap HX5.out rfl
  have l11 : w5.cell? ⟨w2.heap.size, 11, none⟩ = some (.slice ub un uc) := cell_of_heap HX5.out rfl
  have f11 : w5.frozen? ⟨w2.heap.size, 11, none⟩ = false := Vs.frozen_of_heap HX5.out 11
  have r0 : w5.cell? ⟨w.heap.size + 1, 0, none⟩ = some (.string ⟨#[]⟩) := cell_of_heap HX2.out rfl
  have g0 : w5.frozen? ⟨w.heap.size + 1, 0, none⟩ = false := Vs.frozen_of_heap HX2.out 0
  have r1 : w5.cell? ⟨w.heap.size + 1, 1, none⟩ = some (.string ⟨#[]⟩) := cell_of_heap HX2.out rfl
  have g1 : w5.frozen? ⟨w.heap.size + 1, 1, none⟩ = false := Vs.frozen_of_heap HX2.out 1
  have r2 : w5.cell? ⟨w.heap.size + 1, 2, none⟩ = some (.int .i64 0) := cell_of_heap HX2.out rfl
  have g2 : w5.frozen? ⟨w.heap.size + 1, 2, none⟩ = false := Vs.frozen_of_heap HX2.out 2
  have r3 : w5.cell? ⟨w.heap.size + 1, 3, none⟩ = some (.bool false) := cell_of_heap HX2.out rfl
  have g3 : w5.frozen? ⟨w.heap.size + 1, 3, none⟩ = false := Vs.frozen_of_heap HX2.out 3
  have r4 : w5.cell? ⟨w.heap.size + 1, 4, none⟩ = some (.string ⟨#[]⟩) := cell_of_heap HX2.out rfl
  have g4 : w5.frozen? ⟨w.heap.size + 1, 4, none⟩ = false := Vs.frozen_of_heap HX2.out 4
  have r5 : w5.cell? ⟨w.heap.size + 1, 5, none⟩ = some (.bool false) := cell_of_heap HX2.out rfl
  have g5 : w5.frozen? ⟨w.heap.size + 1, 5, none⟩ = false := Vs.frozen_of_heap HX2.out 5
  have r6 : w5.cell? ⟨w.heap.size + 1, 6, none⟩ = some (.string ⟨#[]⟩) := cell_of_heap HX2.out rfl
  have g6 : w5.frozen? ⟨w.heap.size + 1, 6, none⟩ = false := Vs.frozen_of_heap HX2.out 6
  have r7 : w5.cell? ⟨w.heap.size + 1, 7, none⟩ = some (.bool false) := cell_of_heap HX2.out rfl
  have g7 : w5.frozen? ⟨w.heap.size + 1, 7, none⟩ = false := Vs.frozen_of_heap HX2.out 7
  have r8 : w5.cell? ⟨w.heap.size + 1, 8, none⟩ = some (.string ⟨#[]⟩) := cell_of_heap HX2.out rfl
  have g8 : w5.frozen? ⟨w.heap.size + 1, 8, none⟩ = false := Vs.frozen_of_heap HX2.out 8
  have r9 : w5.cell? ⟨w.heap.size + 1, 9, none⟩ = some (.bool false) := cell_of_heap HX2.out rfl
  have g9 : w5.frozen? ⟨w.heap.size + 1, 9, none⟩ = false := Vs.frozen_of_heap HX2.out 9
  have r10 : w5.cell? ⟨w.heap.size + 1, 10, none⟩ = some (.string ⟨#[]⟩) := cell_of_heap HX2.out rfl
  have g10 : w5.frozen? ⟨w.heap.size + 1, 10, none⟩ = false := Vs.frozen_of_heap HX2.out 10
  have r11 : w5.cell? ⟨w.heap.size + 1, 11, none⟩ = some (.slice none 0 0) := cell_of_heap HX2.out rfl
  have g11 : w5.frozen? ⟨w.heap.size + 1, 11, none⟩ = false := Vs.frozen_of_heap HX2.out 11
  go_wp2_with (fail)
  have HB6 := Lib.hid (((((((((((((HB5.out.setCell (p := ⟨w2.heap.size, 11, none⟩) (by show w.heap.size ≤ w2.heap.size; omega) (.slice (some ⟨g, 0, none⟩) (l.length + 1) G)).setCell (p := ⟨w.heap.size + 1, 0, none⟩) (Nat.le_succ _) (.string h.says)).setCell (p := ⟨w.heap.size + 1, 1, none⟩) (Nat.le_succ _) (.string h.pred)).setCell (p := ⟨w.heap.size + 1, 2, none⟩) (Nat.le_succ _) (.int .i64 h.n)).setCell (p := ⟨w.heap.size + 1, 3, none⟩) (Nat.le_succ _) (.bool h.a0.v)).setCell (p := ⟨w.heap.size + 1, 4, none⟩) (Nat.le_succ _) (.string h.a0.name)).setCell (p := ⟨w.heap.size + 1, 5, none⟩) (Nat.le_succ _) (.bool h.a1.v)).setCell (p := ⟨w.heap.size + 1, 6, none⟩) (Nat.le_succ _) (.string h.a1.name)).setCell (p := ⟨w.heap.size + 1, 7, none⟩) (Nat.le_succ _) (.bool h.a2.v)).setCell (p := ⟨w.heap.size + 1, 8, none⟩) (Nat.le_succ _) (.string h.a2.name)).setCell (p := ⟨w.heap.size + 1, 9, none⟩) (Nat.le_succ _) (.bool h.a3.v)).setCell (p := ⟨w.heap.size + 1, 10, none⟩) (Nat.le_succ _) (.string h.a3.name)).setCell (p := ⟨w.heap.size + 1, 11, none⟩) (Nat.le_succ _) (.slice (some ⟨g, 0, none⟩) (l.length + 1) G))
  have HH : Hid ((((((((((((((w5.setCell ⟨w2.heap.size, 11, none⟩ (.slice (some ⟨g, 0, none⟩) (l.length + 1) G)).setCell ⟨w.heap.size + 1, 0, none⟩ (.string h.says)).setCell ⟨w.heap.size + 1, 1, none⟩ (.string h.pred)).setCell ⟨w.heap.size + 1, 2, none⟩ (.int .i64 h.n)).setCell ⟨w.heap.size + 1, 3, none⟩ (.bool h.a0.v)).setCell ⟨w.heap.size + 1, 4, none⟩ (.string h.a0.name)).setCell ⟨w.heap.size + 1, 5, none⟩ (.bool h.a1.v)).setCell ⟨w.heap.size + 1, 6, none⟩ (.string h.a1.name)).setCell ⟨w.heap.size + 1, 7, none⟩ (.bool h.a2.v)).setCell ⟨w.heap.size + 1, 8, none⟩ (.string h.a2.name)).setCell ⟨w.heap.size + 1, 9, none⟩ (.bool h.a3.v)).setCell ⟨w.heap.size + 1, 10, none⟩ (.string h.a3.name)).setCell ⟨w.heap.size + 1, 11, none⟩ (.slice (some ⟨g, 0, none⟩) (l.length + 1) G)).heap[g]? = w5.heap[g]?) := Lib.hid (by
    rw [hset_other _ _ _ _ _ n2, hset_other _ _ _ _ _ n2, hset_other _ _ _ _ _ n2, hset_other _ _ _ _ _ n2, hset_other _ _ _ _ _ n2, hset_other _ _ _ _ _ n2, hset_other _ _ _ _ _ n2, hset_other _ _ _ _ _ n2, hset_other _ _ _ _ _ n2, hset_other _ _ _ _ _ n2, hset_other _ _ _ _ _ n2, hset_other _ _ _ _ _ n2, hset_other _ _ _ _ _ n1])
  refine bodyPost_ret (v := .agg #[.string h.says, .string h.pred, .int .i64 h.n, .bool h.a0.v, .string h.a0.name, .bool h.a1.v, .string h.a1.name, .bool h.a2.v, .string h.a2.name, .bool h.a3.v, .string h.a3.name, .slice (some ⟨g, 0, none⟩) (l.length + 1) G]) (by simp [results, Tryd.results24, go_sem, r0, r1, r2, r3, r4, r5, r6, r7, r8, r9, r10, r11]) rfl ?_
  refine ⟨_, rfl, HRD.out.cellsOf (fun b o u hb _ hc => ?_), HB6.out, fun k hk => ?_⟩
  · exact (World.cell?_of_block (by rw [← sblk_at hb]; exact HH.out)).trans hc
  · rw [← sblk_at hk]
    exact n3.out
end Go.Proofs.YtinbfakpjnnagaaDoor
