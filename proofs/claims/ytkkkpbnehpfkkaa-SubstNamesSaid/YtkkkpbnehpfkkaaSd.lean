/-
  Chapter 4: the contracts of Term, Check.
-/
import Derived.Test.YtkkkpbnehpfkkaaSc
namespace Go.Proofs.Ytkkkpbnehpfkkaa
open Go.RowKit Go.Vs Go.Maps Go.ChangeMaps Go.WideMaps

/-- Two cells of a result. -/
theorem res_end {W w : World} {br : Nat} {X Y y0 y1 : Value} {t : TypeId} (B : Below W.heap.size W w) (hge : W.heap.size ≤ br) (hbr : w.heap[br]? = some (.cells #[y0, y1] t (0, 0))) :
    ((w.setCell ⟨br, 0, none⟩ X).setCell ⟨br, 1, none⟩ Y).cell? ⟨br, 0, none⟩ = some X ∧ ((w.setCell ⟨br, 0, none⟩ X).setCell ⟨br, 1, none⟩ Y).cell? ⟨br, 1, none⟩ = some Y ∧
    Below W.heap.size W ((w.setCell ⟨br, 0, none⟩ X).setCell ⟨br, 1, none⟩ Y) := by
  have h1 := hset_same hbr 0 X
  have h2 := hset_same h1 1 Y
  exact ⟨cell_of_heap h2 rfl, cell_of_heap h2 rfl, (B.setCell hge _).setCell hge _⟩

set_option maxHeartbeats 2000000 in
theorem term_any {w : World} {vl : Value} {l : List Bd} (hR : RdB w vl l) (hl : l.length ≤ 1000000) (t : Tm) :
    Calls Try.prog 19 #[vl, tmV t] w fun e w' => e = .returned (tmV (pterm l t)) ∧ Below w.heap.size w w' := by
  obtain ⟨tv, tn⟩ := t
  have B2 : Below w.heap.size w ((w.alloc (.cells #[.bool tv, .string tn] 24)).alloc (.cells #[.bool false, .string ⟨#[]⟩] 24)) := ((Below.refl _ w).alloc (Nat.le_refl _) _).alloc (by rw [hsize_alloc]; omega) _
  have K := Lib.hid (get_any (Rd.kept hR B2) hl tn)
  have e1 : (w.alloc (.cells #[.bool tv, .string tn] 24)).heap.size = w.heap.size + 1 := hsize_alloc _ _
  have X2 : Hid (((w.alloc (.cells #[.bool tv, .string tn] 24)).alloc (.cells #[.bool false, .string ⟨#[]⟩] 24)).heap[w.heap.size]? = some (.cells #[.bool tv, .string tn] 24 (0, 0))) := by
    show _ = _
    rw [halloc_old _ _ _ (by rw [e1]; omega)]
    exact halloc_new _ _
  have R2 : Hid (((w.alloc (.cells #[.bool tv, .string tn] 24)).alloc (.cells #[.bool false, .string ⟨#[]⟩] 24)).heap[w.heap.size + 1]? = some (.cells #[.bool false, .string ⟨#[]⟩] 24 (0, 0))) := by
    have := halloc_new (w.alloc (.cells #[.bool tv, .string tn] 24)) (.cells #[.bool false, .string ⟨#[]⟩] 24)
    rwa [e1] at this
  have HB2 := Lib.hid B2
  clear B2 e1 hR
  unfold tmV
  go_enter Try.func19, Try.ntmps19
  go_wp2_with (fail)
  refine (K.out).mono ?_
  rintro _ w3 ⟨rfl, B3⟩
  generalize (w.alloc (.cells #[.bool tv, .string tn] 24)).alloc (.cells #[.bool false, .string ⟨#[]⟩] 24) = w2 at *
  have X3 : Hid (w3.heap[w.heap.size]? = some (.cells #[.bool tv, .string tn] 24 (0, 0))) := (B3.block _ (Array.getElem?_eq_some_iff.1 X2.out).1).trans X2.out
  have R3 : Hid (w3.heap[w.heap.size + 1]? = some (.cells #[.bool false, .string ⟨#[]⟩] 24 (0, 0))) := (B3.block _ (Array.getElem?_eq_some_iff.1 R2.out).1).trans R2.out
  have HB3 := Lib.hid (HB2.out.trans (B3.mono HB2.out.size))
  clear B3 X2 R2 HB2 K
  generalize hbx : w.heap.size = bx at *
  have HBX := Lib.hid hbx
  clear hbx
  generalize hg : (pget l tn).getD noTm = g at *
  obtain ⟨gv, gn⟩ := g
  generalize hok : (pget l tn).isSome = ok at *
  have HG := Lib.hid hg
  have HOK := Lib.hid hok
  clear hg hok
  unfold tmV
  go_upto_region 2 with (fail)
  have X4 : Hid ((w3.alloc (.cells #[.bool gv, .string gn] 24)).heap[bx]? = some (.cells #[.bool tv, .string tn] 24 (0, 0))) := (halloc_old w3 _ bx (Array.getElem?_eq_some_iff.1 X3.out).1).trans X3.out
  have R4 : Hid ((w3.alloc (.cells #[.bool gv, .string gn] 24)).heap[bx + 1]? = some (.cells #[.bool false, .string ⟨#[]⟩] 24 (0, 0))) := (halloc_old w3 _ (bx + 1) (Array.getElem?_eq_some_iff.1 R3.out).1).trans R3.out
  have L4 : Hid ((w3.alloc (.cells #[.bool gv, .string gn] 24)).heap[w3.heap.size]? = some (.cells #[.bool gv, .string gn] 24 (0, 0))) := halloc_new w3 _
  have B4 : Hid (Below w.heap.size w (w3.alloc (.cells #[.bool gv, .string gn] 24))) := by
    have h1 := HB3.out
    rw [← HBX.out] at h1
    exact h1.alloc h1.size _
  clear X3 R3 HB3
  generalize w3.alloc (.cells #[.bool gv, .string gn] 24) = w4 at *
  generalize w3.heap.size = bg at *
  have x0 : w4.cell? ⟨bx, 0, none⟩ = some (.bool tv) := cell_of_heap X4.out rfl
  have x1 : w4.cell? ⟨bx, 1, none⟩ = some (.string tn) := cell_of_heap X4.out rfl
  have g0 : w4.cell? ⟨bg, 0, none⟩ = some (.bool gv) := cell_of_heap L4.out rfl
  have g1 : w4.cell? ⟨bg, 1, none⟩ = some (.string gn) := cell_of_heap L4.out rfl
  have r0 : w4.cell? ⟨bx + 1, 0, none⟩ = some (.bool false) := cell_of_heap R4.out rfl
  have r1 : w4.cell? ⟨bx + 1, 1, none⟩ = some (.string ⟨#[]⟩) := cell_of_heap R4.out rfl
  have f0 := frozen_of_heap R4.out 0
  have f1 := frozen_of_heap R4.out 1
  by_cases hc : ok = true ∧ tv = true
  · obtain ⟨rfl, rfl⟩ := hc
    have HP : Hid (pterm l ⟨true, tn⟩ = ⟨gv, gn⟩) := by
      show _ = _
      obtain ⟨x, hx⟩ := Option.isSome_iff_exists.1 HOK.out
      have := HG.out
      rw [hx] at this
      unfold pterm
      simp only [if_true]
      rw [hx]
      exact this
    go_wp2_with (fail)
    have E := res_end (X := .bool gv) (Y := .string gn) B4.out (by rw [HBX.out]; omega) R4.out
    generalize (w4.setCell ⟨bx + 1, 0, none⟩ (.bool gv)).setCell ⟨bx + 1, 1, none⟩ (.string gn) = w6 at *
    obtain ⟨e0, e1, B6⟩ := E
    refine bodyPost_ret (v := .agg #[.bool gv, .string gn]) (by simp [results, go_sem, e0, e1]) rfl ⟨by rw [HP.out], B6⟩
  · have HP : Hid (pterm l ⟨tv, tn⟩ = ⟨tv, tn⟩) := by
      show _ = _
      unfold pterm
      cases tv with
      | false => rfl
      | true =>
        have h1 : ok = false := by cases ok <;> simp_all
        have h2 := HOK.out
        rw [h1] at h2
        have h3 : pget l tn = none := by simpa using h2
        simp only [if_true]
        rw [h3]
        rfl
    cases ok with
    | false =>
      go_wp2_with (fail)
      have E := res_end (X := .bool tv) (Y := .string tn) B4.out (by rw [HBX.out]; omega) R4.out
      generalize (w4.setCell ⟨bx + 1, 0, none⟩ (.bool tv)).setCell ⟨bx + 1, 1, none⟩ (.string tn) = w6 at *
      obtain ⟨e0, e1, B6⟩ := E
      refine bodyPost_ret (v := .agg #[.bool tv, .string tn]) (by simp [results, go_sem, e0, e1]) rfl ⟨by rw [HP.out], B6⟩
    | true =>
      have htv : tv = false := by cases tv <;> simp_all
      subst htv
      go_wp2_with (fail)
      have E := res_end (X := .bool false) (Y := .string tn) B4.out (by rw [HBX.out]; omega) R4.out
      generalize (w4.setCell ⟨bx + 1, 0, none⟩ (.bool false)).setCell ⟨bx + 1, 1, none⟩ (.string tn) = w6 at *
      obtain ⟨e0, e1, B6⟩ := E
      refine bodyPost_ret (v := .agg #[.bool false, .string tn]) (by simp [results, go_sem, e0, e1]) rfl ⟨by rw [HP.out], B6⟩

end Go.Proofs.Ytkkkpbnehpfkkaa
