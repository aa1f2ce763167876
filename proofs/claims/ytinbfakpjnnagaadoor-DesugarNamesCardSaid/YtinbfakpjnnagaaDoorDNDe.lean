/-
  Chapter 13: slices.Insert at []api.Atom, at place 0, one value: raw. (Under way.)
-/
import Derived.Test.YtinbfakpjnnagaaDoorDNm0
import Derived.Test.YtinbfakpjnnagaaDoorDNKx
import Derived.Shelf.Spec.SlicesInsert
import Derived.WalkKit
import Derived.Laws.Externs
import Derived.Lib.Hide
import Derived.Lib.AppendZerosOnto
set_option linter.unusedSimpArgs false
set_option linter.unusedVariables false
namespace Go.Proofs.YtinbfakpjnnagaaDoor
open Go.RowKit Go.Lib Go.Vs Go.Vs.Ab
set_option maxRecDepth 100000
set_option maxHeartbeats 4000000
theorem insA_shift (b n c vb vc : Nat) (cs vs : List Value) (w : World) (hn : 0 < n) (hroom : n + 1 ≤ c) (hc63 : c ≤ 9223372036854775807) (hvb : vb ≠ b)
    (hcl : cs.length = n * 11) (hvl : vs.length = 11) (hcs : ∀ j v, cs[j]? = some v → w.cell? ⟨b, 0 + j, none⟩ = some v) (hsp : ∀ j, j < (n + 1) * 11 → (w.cell? ⟨b, j, none⟩).isSome = true) (hfz : ∀ j, w.frozen? ⟨b, j, none⟩ = false)
    (hvs : ∀ j v, vs[j]? = some v → w.cell? ⟨vb, 0 + j, none⟩ = some v) (h1c : ∀ v ∈ cs, v.oneCell' = true) (h1v : ∀ v ∈ vs, v.oneCell' = true)
    (tA tB : TypeId) (kA kB : Nat) (hsa : w.shape? vb = some (tA, kA)) (hsb : w.shape? b = some (tB, kB)) (hkB : kB ≠ 0) (hfa : w.frozen? ⟨vb, 0, none⟩ = false) (hfe : w.frozen? ⟨vb, kA, none⟩ = false) :
    Calls Tryd.prog 39 #[.slice (some ⟨b, 0, none⟩) n c, .int .i64 0, .slice (some ⟨vb, 0, none⟩) 1 vc] w fun e w' =>
      e = .returned (.slice (some ⟨b, 0, none⟩) (n + 1) c) ∧ w' = (w.drew.setCells b 11 cs).setCells b 0 vs := by
  have hw1 : IntKind.i64.wrap ((n : Int) + 1) = (n : Int) + 1 := by rw [IntKind.wrap_i64]; omega
  have hz2 : ¬ ((0 : Int) = (n : Int)) := by omega
  have hz3 : ¬ ((c : Int) < (n : Int) + 1) := by omega
  obtain ⟨i0, hi0, hs0⟩ : ∃ i0, Tryd.prog.info? 39 = some i0 ∧ i0.size = 11 := by
    obtain ⟨i0, h1, h2⟩ := Option.map_eq_some_iff.1 (show (Tryd.prog.info? 39).map (·.size) = some 11 by kernel_rfl)
    exact ⟨i0, h1, h2⟩
  have hov : (callFunc 49 #[.slice (some ⟨vb, 0, none⟩) 1 vc, .slice (some ⟨b, 11, none⟩) n (c - 1)]).run Tryd.prog w = .ok (.value (.bool false)) w := by
    rw [run_callFunc_extern Tryd.func49 (by kernel_rfl) (by kernel_rfl) (by kernel_rfl) (e := Extern.SlicesOverlaps.overlaps #[33, 33] #[4]) (by kernel_rfl),
      Lib.run_overlaps_apart w 33 4 39 Tryd.underlying33 11 (fun w => by simp [sizeOf, typeInfo, hi0, hs0]) ⟨vb, 0, none⟩ ⟨b, 11, none⟩ 1 vc n (c - 1) hvb tA tB kA kB hsa hsb hkB hfa hfe]
    rfl
  have hsz : (Tryd.prog.info? 39).map (·.size) = some 11 := by rw [hi0]; simp [hs0]
  have hcp1 : ∀ ty dc sc, (Builtin.copy_ #[33, 33] ty #[.slice (some ⟨b, 11, none⟩) n dc, .slice (some ⟨b, 0, none⟩) (n + 1) sc]).run Tryd.prog w.drew = .ok (goInt n) (w.drew.setCells b 11 cs) := fun ty dc sc =>
    run_copy_k w.drew _ _ ty 39 11 b 11 n dc ⟨b, 0, none⟩ (n + 1) sc cs Tryd.underlying33 hsz n (by simp only [Nat.min_def]; split <;> omega) hcl (fun j v hj => by rw [Addr.add_lit]; exact hcs j v hj) (fun j hj => hsp _ (by omega)) (fun j hj => hfz _) h1c
  obtain ⟨W1, hW1⟩ : ∃ W1, W1 = w.drew.setCells b 11 cs := ⟨_, rfl⟩
  have hsp1 : ∀ k, k < (n + 1) * 11 → (W1.cell? ⟨b, k, none⟩).isSome = true := fun k hk => by
    rw [hW1]
    exact Go.Proofs.isSome_setCells b cs 11 w.drew (fun j hj => hsp (11 + j) (by omega)) k (hsp k hk)
  have hcp2 : ∀ (W : World), (∀ x, W.cell? x = W1.cell? x) → (∀ x, W.frozen? x = W1.frozen? x) → ∀ ty dc, (Builtin.copy_ #[33, 33] ty #[.slice (some ⟨b, 0, none⟩) (n + 1) dc, .slice (some ⟨vb, 0, none⟩) 1 vc]).run Tryd.prog W = .ok (goInt 1) (W.setCells b 0 vs) := fun W hWc hWf ty dc =>
    run_copy_k W _ _ ty 39 11 b 0 (n + 1) dc ⟨vb, 0, none⟩ 1 vc vs Tryd.underlying33 hsz 1 (by simp only [Nat.min_def]; split <;> omega) (by omega)
      (fun j v hj => by
        rw [Addr.add_lit, hWc, hW1, World.cell?_setCells_out b _ _ _ _ (fun h _ => absurd h hvb)]
        exact hvs j v hj)
      (fun j hj => by rw [hWc, Nat.zero_add]; exact hsp1 _ (by omega)) (fun j hj => by rw [hWf, hW1, World.frozen?_setCells]; exact hfz _) h1v
  rw [← hW1] at hcp1
  have mixed : Tryd.prog.follows Departure.mixedOrders = true := by kernel_rfl
  have hw2 : IntKind.i64.wrap 1 = 1 := by decide
  have hb2 : ¬ (c = 1) := by omega
  have hb3 : (1 : Int) ≤ (n : Int) + 1 := by omega
  have hb4 : ¬ (c = 0) := by omega
  have hb5 : (0 : Int) ≤ (n : Int) + 1 := by omega
  have hb6 : 1 ≤ n + 1 := by omega
  go_enter Tryd.func39, Tryd.ntmps39
  go_wp2_with (simp only [hov])
  go_region_law_o (refine step_copy_runI rfl _ _ 33 33 rfl _ _ (by simp [Act.eval, Act.put]) (by simp [Act.eval, Act.put]) (hcp1 _ _ _) ?_)
  go_wp2_with (at_builtin; refine wpList_copy_runI _ rfl _ _ 33 33 rfl _ _ rfl rfl (hcp2 _ (fun _ => rfl) (fun _ => rfl) _ _) ?_)
  go_ret
  first | exact ⟨rfl, rfl⟩ | exact ⟨rfl, by rw [hW1]⟩
theorem insA_grow (b n vb vc : Nat) (cs vs : List Value) (w : World) (hn : 0 < n) (hbig : n ≤ 1000000)
    (hcl : cs.length = n * 11) (hvl : vs.length = 11) (hcs : ∀ j v, cs[j]? = some v → w.cell? ⟨b, 0 + j, none⟩ = some v)
    (hvs : ∀ j v, vs[j]? = some v → w.cell? ⟨vb, 0 + j, none⟩ = some v) (h1c : ∀ v ∈ cs, v.oneCell' = true) (h1v : ∀ v ∈ vs, v.oneCell' = true) :
    ∃ row : Array Value, (n + 1) * 11 ≤ row.size ∧ Calls Tryd.prog 39 #[.slice (some ⟨b, 0, none⟩) n n, .int .i64 0, .slice (some ⟨vb, 0, none⟩) 1 vc] w fun e w' =>
      e = .returned (.slice (some ⟨w.heap.size, 0, none⟩) (n + 1) (grownCap w (n + 1) n 39)) ∧ w' = (((w.alloc (.cells row 39)).drew.setCells w.heap.size 0 vs).drew).setCells w.heap.size 11 cs := by
  obtain ⟨i0, hi0, hs0, hb0, z, hz0, hzs⟩ : ∃ i0, Tryd.prog.info? 39 = some i0 ∧ i0.size = 11 ∧ i0.bytes ≤ 1000 ∧ ∃ z, i0.zero = some z ∧ z.cells.size = 11 := by
    obtain ⟨i0, h1, h2⟩ := Option.map_eq_some_iff.1 (show (Tryd.prog.info? 39).map (fun i => (decide (i.size = 11), decide (i.bytes ≤ 1000), (i.zero.map fun z => decide (z.cells.size = 11)))) = some (true, true, some true) by kernel_rfl)
    simp only [Prod.mk.injEq, decide_eq_true_eq, Option.map_eq_some_iff] at h2
    obtain ⟨a1, a2, z, a3, a4⟩ := h2
    exact ⟨i0, h1, a1, a2, z, a3, by simpa using a4⟩
  obtain ⟨G, hG⟩ : ∃ G, G = grownCap w (n + 1) n 39 := ⟨_, rfl⟩
  obtain ⟨ROW, hROW⟩ : ∃ ROW : Array Value, ROW = ([] : List Value).toArray ++ Builtin.zeroCells z.cells (n + 1) ++ Builtin.zeroCells z.cells (G - (n + 1)) := ⟨_, rfl⟩
  have hGn : n + 1 ≤ G := by rw [hG]; exact grownCap_ge w _ _ _
  have hG63 : G ≤ 9223372036854775807 := by
    have := grownCap_le_maxLen w (n + 1) n 39 (by unfold maxLen; omega)
    rw [← hG] at this
    unfold maxLen at this
    omega
  have hRl : (n + 1) * 11 ≤ ROW.size := by
    rw [hROW]
    simp [Builtin.zeroCells, hzs]
  refine ⟨ROW, hRl, ?_⟩
  have hsz : (Tryd.prog.info? 39).map (·.size) = some 11 := by rw [hi0]; simp [hs0]
  have hbw : b < w.heap.size := block_lt_of_cell (hcs 0 _ (List.getElem?_eq_getElem (by omega)))
  have hvw : vb < w.heap.size := block_lt_of_cell (hvs 0 _ (List.getElem?_eq_getElem (by omega)))
  have hbb : (n + 1) * i0.bytes ≤ 1000001 * 1000 := Nat.mul_le_mul (by omega) hb0
  have hrz : ∀ ty, (Builtin.append_ #[33, 3] ty #[.slice (some ⟨b, 0, none⟩) 0 n, .int .i64 ((n : Int) + 1)]).run Tryd.prog w =
      .ok (.slice (some ⟨w.heap.size, 0, none⟩) (n + 1) G) (w.drew.alloc (.cells ROW 39)) := fun ty => by
    have h := Lib.run_append_grow_zeros w 33 3 ty 39 i0 z .i64 .i64 Tryd.underlying33 Tryd.underlying3 hi0 hz0 (some ⟨b, 0, none⟩) 0 n []
      (run_firstCells_some w.drew i0.size 0 ⟨b, 0, none⟩ 0 n [] (by simp) (fun j v h => by cases h)) (n + 1) (by omega) (by omega) (by omega) (by omega) (by omega) (by
        refine growslice_fits (by omega) ?_
        rw [Nat.zero_add]
        omega)
    rw [Nat.zero_add] at h
    rw [← hG, ← hROW] at h
    exact h
  obtain ⟨W1, hW1⟩ : ∃ W1, W1 = w.drew.alloc (.cells ROW 39) := ⟨_, rfl⟩
  rw [← hW1] at hrz
  have hN : ∀ j, j < (n + 1) * 11 → (W1.cell? ⟨w.heap.size, j, none⟩).isSome = true := fun j hj => by
    rw [hW1, World.cell?_alloc_at (w := w.drew) ROW _ w.heap.size j rfl, Array.getElem?_eq_getElem (by omega)]; rfl
  have hNf : ∀ j, W1.frozen? ⟨w.heap.size, j, none⟩ = false := fun j => by rw [hW1]; exact World.frozen?_alloc_at (w := w.drew) ROW _ w.heap.size j rfl
  have hOb : ∀ j v, w.cell? ⟨b, j, none⟩ = some v → W1.cell? ⟨b, j, none⟩ = some v := fun j v h => by rw [hW1, World.cell?_alloc_past (w := w.drew) _ b j hbw]; exact h
  have hOv : ∀ j v, w.cell? ⟨vb, j, none⟩ = some v → W1.cell? ⟨vb, j, none⟩ = some v := fun j v h => by rw [hW1, World.cell?_alloc_past (w := w.drew) _ vb j hvw]; exact h
  have hbN : b ≠ w.heap.size := by omega
  have hcpA : ∀ (W : World), (∀ x, W.cell? x = W1.cell? x) → (∀ x, W.frozen? x = W1.frozen? x) → ∀ ty dc, (Builtin.copy_ #[33, 33] ty #[.slice (some ⟨w.heap.size, 0, none⟩) (n + 1) dc, .slice (some ⟨vb, 0, none⟩) 1 vc]).run Tryd.prog W = .ok (goInt 1) (W.setCells w.heap.size 0 vs) := fun W hWc hWf ty dc =>
    run_copy_k W _ _ ty 39 11 w.heap.size 0 (n + 1) dc ⟨vb, 0, none⟩ 1 vc vs Tryd.underlying33 hsz 1 (by simp only [Nat.min_def]; split <;> omega) (by omega)
      (fun j v hj => by rw [Addr.add_lit, hWc]; exact hOv _ v (hvs j v hj))
      (fun j hj => by rw [hWc]; exact hN _ (by omega)) (fun j hj => by rw [hWf]; exact hNf _) h1v
  have hcpB : ∀ (W : World), (∀ x, W.cell? x = (W1.setCells w.heap.size 0 vs).cell? x) → (∀ x, W.frozen? x = (W1.setCells w.heap.size 0 vs).frozen? x) → ∀ ty dc sc, (Builtin.copy_ #[33, 33] ty #[.slice (some ⟨w.heap.size, 11, none⟩) n dc, .slice (some ⟨b, 0, none⟩) n sc]).run Tryd.prog W = .ok (goInt n) (W.setCells w.heap.size 11 cs) := fun W hWc hWf ty dc sc =>
    run_copy_k W _ _ ty 39 11 w.heap.size 11 n dc ⟨b, 0, none⟩ n sc cs Tryd.underlying33 hsz n (by simp only [Nat.min_def]; split <;> omega) hcl
      (fun j v hj => by
        rw [Addr.add_lit, hWc, World.cell?_setCells_out _ _ _ _ _ (fun h _ => absurd h hbN)]
        exact hOb _ v (hcs j v hj))
      (fun j hj => by rw [hWc]; exact Go.Proofs.isSome_setCells _ _ _ _ (fun t ht => hN _ (by omega)) _ (hN _ (by omega)))
      (fun j hj => by rw [hWf, World.frozen?_setCells]; exact hNf _) h1c
  subst hW1
  have hE1 : ∀ x, ((w.alloc (.cells ROW 39)).drew).cell? x = (w.drew.alloc (.cells ROW 39)).cell? x := fun x => rfl
  have hE2 : ∀ x, ((w.alloc (.cells ROW 39)).drew).frozen? x = (w.drew.alloc (.cells ROW 39)).frozen? x := fun x => rfl
  have hF1 : ∀ x, (((w.alloc (.cells ROW 39)).drew.setCells w.heap.size 0 vs).drew).cell? x = ((w.drew.alloc (.cells ROW 39)).setCells w.heap.size 0 vs).cell? x := fun x => rfl
  have hF2 : ∀ x, (((w.alloc (.cells ROW 39)).drew.setCells w.heap.size 0 vs).drew).frozen? x = ((w.drew.alloc (.cells ROW 39)).setCells w.heap.size 0 vs).frozen? x := fun x => rfl
  rw [← hG]
  have hw1 : IntKind.i64.wrap ((n : Int) + 1) = (n : Int) + 1 := by rw [IntKind.wrap_i64]; omega
  have mixed : Tryd.prog.follows Departure.mixedOrders = true := by kernel_rfl
  have hz2 : ¬ ((0 : Int) = (n : Int)) := by omega
  have hz3 : (n : Int) < (n : Int) + 1 := by omega
  have hb2 : ¬ (G = 1) := by omega
  have hb4 : ¬ (G = 0) := by omega
  have hb5 : (0 : Int) ≤ (n : Int) := by omega
  have hb6 : ¬ (n = 0) := by omega
  have hb7 : 1 ≤ n + 1 := by omega
  have hb3 : (1 : Int) ≤ (n : Int) + 1 := by omega
  have hw2 : IntKind.i64.wrap 1 = 1 := by decide
  have hb8 : (0 : Int) ≤ (n : Int) + 1 := by omega
  clear hROW hG hRl hbb
  go_enter Tryd.func39, Tryd.ntmps39
  go_wp2_with (first
    | (at_builtin; refine Lib.wpList_append_run _ rfl _ _ _ _ rfl _ _ rfl rfl _ _ (hrz _) ?_)
    | (at_builtin; refine wpList_copy_runI _ rfl _ _ 33 33 rfl _ _ rfl rfl (hcpA _ hE1 hE2 _ _) ?_)
    | (at_builtin; refine wpList_copy_runI _ rfl _ _ 33 33 rfl _ _ rfl rfl (hcpB _ (fun _ => rfl) (fun _ => rfl) _ _ _) ?_))
  go_region_law_o (refine step_copy_runI rfl _ _ 33 33 rfl (.slice (some ⟨w.heap.size, 11, none⟩) n (G - 1)) (.slice (some ⟨b, 0, none⟩) n n) (by simp [Act.eval, Act.put]) (by simp [Act.eval, Act.put]) (hcpB _ hF1 hF2 _ (G - 1) n) ?_)
  go_wp2
  go_ret
  exact ⟨rfl, rfl⟩
theorem insA_end (base : Option Addr) (vb vc : Nat) (vs : List Value) (w : World) (hvl : vs.length = 11)
    (hvs : ∀ j v, vs[j]? = some v → w.cell? ⟨vb, 0 + j, none⟩ = some v) (h1v : ∀ v ∈ vs, v.oneCell' = true) :
    ∃ zs : Array Value, Calls Tryd.prog 39 #[.slice base 0 0, .int .i64 0, .slice (some ⟨vb, 0, none⟩) 1 vc] w fun e w' =>
      e = .returned (.slice (some ⟨w.heap.size, 0, none⟩) 1 (grownCap w 1 0 39)) ∧ w' = w.drew.alloc (.cells (vs.toArray ++ zs) 39) := by
  obtain ⟨i0, hi0, hs0, hb0, z, hz0, hzs⟩ : ∃ i0, Tryd.prog.info? 39 = some i0 ∧ i0.size = 11 ∧ i0.bytes ≤ 1000 ∧ ∃ z, i0.zero = some z ∧ z.cells.size = 11 := by
    obtain ⟨i0, h1, h2⟩ := Option.map_eq_some_iff.1 (show (Tryd.prog.info? 39).map (fun i => (decide (i.size = 11), decide (i.bytes ≤ 1000), (i.zero.map fun z => decide (z.cells.size = 11)))) = some (true, true, some true) by kernel_rfl)
    simp only [Prod.mk.injEq, decide_eq_true_eq, Option.map_eq_some_iff] at h2
    obtain ⟨a1, a2, z, a3, a4⟩ := h2
    exact ⟨i0, h1, a1, a2, z, a3, by simpa using a4⟩
  obtain ⟨ZS, hZS⟩ : ∃ ZS, ZS = Builtin.zeroCells z.cells (grownCap w (0 + 1) 0 39 - (0 + 1)) := ⟨_, rfl⟩
  refine ⟨ZS, ?_⟩
  have mixed : Tryd.prog.follows Departure.mixedOrders = true := by kernel_rfl
  have hsrc : Src Tryd.prog i0.size 33 (.slice (some ⟨vb, 0, none⟩) 1 vc) 1 vs w := by
    rw [hs0]
    exact Src.ofSlice w Tryd.underlying33 ⟨vb, 0, none⟩ 1 vc vs (by omega) (fun j u hj => by rw [Addr.add_lit]; exact hvs j u hj) h1v
  have hold : (Builtin.firstCells i0.size 0 (.slice base 0 0)).run Tryd.prog w.drew = .ok ([] : List Value).toArray w.drew := by
    rw [hs0]
    cases base with
    | none => exact run_firstCells_none w.drew 11 0 0 0
    | some a => exact run_firstCells_some w.drew 11 0 a 0 0 [] (by simp) (fun j v hj => by cases hj)
  have hrun : ∀ ty, (Builtin.append_ #[33, 33] ty #[.slice base 0 0, .slice (some ⟨vb, 0, none⟩) 1 vc]).run Tryd.prog w = _ := fun ty =>
    run_append_grow_src w 33 33 ty 39 i0 _ Tryd.underlying33 hi0 hz0 base 0 0 [] hold _ 1 vs hsrc (by omega) (by omega) (growslice_fits (by omega) (by omega))
  rw [← hZS] at hrun
  clear hZS hz0
  obtain ⟨G, hG⟩ : ∃ G, G = grownCap w 1 0 39 := ⟨_, rfl⟩
  simp only [Nat.zero_add, List.nil_append, ← hG] at hrun ⊢
  obtain ⟨ROW, hROW⟩ : ∃ ROW, ROW = vs.toArray ++ ZS := ⟨_, rfl⟩
  simp only [← hROW] at hrun ⊢
  have hgc : w.drew.alloc (.cells ROW 39) = (w.alloc (.cells ROW 39)).drew := rfl
  clear hG hROW
  go_enter Tryd.func39, Tryd.ntmps39
  cases base with
  | none =>
    go_wp2_with (at_builtin; refine Lib.wpList_append_run _ rfl _ _ _ _ rfl _ _ rfl rfl _ _ (hrun _) ?_)
    go_ret
    exact ⟨rfl, rfl⟩
  | some a =>
    obtain ⟨ab, ao, asp⟩ := a
    go_wp2_with (at_builtin; refine Lib.wpList_append_run _ rfl _ _ _ _ rfl _ _ rfl rfl _ _ (hrun _) ?_)
    all_goals (go_ret; exact ⟨rfl, rfl⟩)
end Go.Proofs.YtinbfakpjnnagaaDoor
