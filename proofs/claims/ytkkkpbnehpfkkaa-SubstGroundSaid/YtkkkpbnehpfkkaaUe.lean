/-
  Chapter 4: the search for a place, on abstract values.
-/
import Derived.Test.YtkkkpbnehpfkkaaUa
import Derived.Test.YtkkkpbnehpfkkaaUd
namespace Go.Proofs.Ytkkkpbnehpfkkaa
open Go.RowKit Go.Vs Go.Vs.Ab

theorem place_gives (l : List Bd) (b : Bd) (ex : Bool) (hw : List Hw) (hl : l.length ≤ 100000) (hr : prises l = true) :
    Gives Try.prog 48 [iA l.length, .fn (.func 57) [] [.ptr 0 0, .ptr 1 0]] ⟨[⟨false, [slB ex l]⟩, ⟨false, (bdC b).map .c⟩], hw⟩ (iA (place l b.var)) ⟨[⟨false, [slB ex l]⟩, ⟨false, (bdC b).map .c⟩], hw⟩ := by
  refine ⟨callable Try.func48 (by kernel_rfl), fun X W0 w vs M ha => ?_⟩
  obtain ⟨v0, v1, hv, r0, r1⟩ := reps2 ha
  obtain rfl := val_rep (y := .int .i64 l.length) rfl r0
  obtain ⟨z0, z1, rfl, s0, s1⟩ : ∃ z0 z1, v1 = .func (.func 57) #[] #[z0, z1] ∧ Rep X (.ptr 0 0) z0 ∧ Rep X (.ptr 1 0) z1 := by
    cases r1 with
    | @fn _ _ _ ys zs e1 e2 e3 e4 =>
      obtain ⟨z0, z1, hz, s0, s1⟩ := reps2 (vs := zs.toList) ⟨e3, e4⟩
      have hy : ys = #[] := by
        apply Array.ext'
        exact List.eq_nil_of_length_eq_zero e1.symm
      exact ⟨z0, z1, by rw [hy, arr2 hz], s0, s1⟩
  obtain ⟨β0, rfl, h0⟩ : ∃ β, z0 = .pointer (some ⟨β, 0, none⟩) ∧ X.loc 0 = some β := by
    cases s0 with
    | ptr h => exact ⟨_, rfl, h⟩
  obtain ⟨β1, rfl, h1⟩ : ∃ β, z1 = .pointer (some ⟨β, 0, none⟩) ∧ X.loc 1 = some β := by
    cases s1 with
    | ptr h => exact ⟨_, rfl, h⟩
  obtain ⟨b0, t0, arr0, g1, g2, g3, g4, _⟩ := M.locs 0 _ rfl
  obtain rfl : β0 = b0 := Option.some.inj (h0.symm.trans g1)
  obtain ⟨b1, t1, arr1, k1, k2, k3, k4, _⟩ := M.locs 1 _ rfl
  obtain rfl : β1 = b1 := Option.some.inj (h1.symm.trans k1)
  obtain ⟨vl, hvl, rl⟩ := reps1 g4
  have a0 : arr0[0]? = some vl := by rw [← Array.getElem?_toList, hvl]; rfl
  have a1 : arr1[0]? = some (.string b.var) := by
    have hlen : 3 = arr1.toList.length := k4.1
    have hx : arr1.toList[0]? = some arr1.toList[0] := List.getElem?_eq_getElem _
    have := val_rep (y := .string b.var) rfl (k4.2 0 _ _ rfl hx)
    rw [← Array.getElem?_toList, hx, this]
  have hR : RdB w vl l := rdB_of M.cell rl
  rw [arr2 hv]
  refine (search_any 57 (.pointer (some ⟨β0, 0, none⟩)) (.pointer (some ⟨β1, 0, none⟩)) l.length (withP l b.var) w (by omega) (fun args w => by kernel_rfl)
    (fun i q hi => withp_any (w := w.drewN q) (cell_of_heap g3 a0) (cell_of_heap k3 a1) hR i hi)).mono ?_
  rintro e w' ⟨i, rfl, p1, p2, p3, q, rfl⟩
  obtain rfl := place_of hr p1 p2 p3
  exact ⟨_, X, rfl, Mem.Le.refl _ _, rep_val rfl, M.grow ⟨rfl, rfl, rfl, Nat.le_refl _, fun _ _ => rfl⟩, fun _ _ _ => rfl⟩
end Go.Proofs.Ytkkkpbnehpfkkaa
