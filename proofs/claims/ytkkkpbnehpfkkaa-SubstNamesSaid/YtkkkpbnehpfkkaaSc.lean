/-
  Chapter 4: the contract of Get.
-/
import Derived.Test.YtkkkpbnehpfkkaaSb
namespace Go.Proofs.Ytkkkpbnehpfkkaa
open Go.RowKit Go.Vs Go.Maps Go.ChangeMaps Go.WideMaps

theorem pget_at {l : List Bd} {v : ByteArray} {k : Nat} (hk : k < l.length) (hp : ∀ j (h : j < l.length), j < k → l[j].var ≠ v) (he : l[k].var = v) : pget l v = some l[k].t := by
  unfold pget
  have e : l.find? (fun b => decide (b.var = v)) = some l[k] := by
    rw [List.find?_eq_some_iff_getElem]
    exact ⟨by simpa using he, k, hk, rfl, fun j hj => by simpa using hp j (by omega) hj⟩
  rw [e]
  rfl

theorem pget_none {l : List Bd} {v : ByteArray} (hp : ∀ j (h : j < l.length), l[j].var ≠ v) : pget l v = none := by
  unfold pget
  rw [List.find?_eq_none.2]
  · rfl
  · intro x hx
    obtain ⟨j, hj, rfl⟩ := List.mem_iff_getElem.1 hx
    simpa using hp j hj

theorem search_lt {l : List Bd} {v : ByteArray} {s : Nat} (hr : prises l = true) (hs : s ≤ l.length) (h : 0 < s → getP l v (s - 1) = false) : ∀ j (h : j < l.length), j < s → l[j].var ≠ v := by
  intro j hj hjs
  have h1 := h (by omega)
  unfold getP at h1
  rw [List.getElem?_eq_getElem (by omega)] at h1
  have h2 : blt (l[s - 1]'(by omega)).var v = true := by simpa using h1
  by_cases e : j = s - 1
  · subst e
    exact blt_ne h2
  · have := List.pairwise_iff_getElem.1 (prises_lt hr) j (s - 1) hj (by omega) (by omega)
    exact blt_ne (blt_trans this h2)

def tmV (t : Tm) : Value := .agg #[.bool t.v, .string t.name]
def noTm : Tm := ⟨false, ⟨#[]⟩⟩

/-- What Get has made: the list, the name, the result. -/
def GetS (W : World) (bl bv br : Nat) (vl : Value) (l : List Bd) (v : ByteArray) (w : World) : Prop :=
  Below W.heap.size W w ∧ w.heap[bl]? = some (.cells #[vl] 22 (0, 0)) ∧ w.heap[bv]? = some (.cells #[.string v] 9 (0, 0)) ∧ (∃ x y, w.heap[br]? = some (.cells #[x, y] 24 (0, 0))) ∧ RdB w vl l ∧ W.heap.size ≤ br

theorem GetS.drewN {W w : World} {bl bv br : Nat} {vl : Value} {l : List Bd} {v : ByteArray} (h : GetS W bl bv br vl l v w) (n : Nat) : GetS W bl bv br vl l v (w.drewN n) :=
  ⟨h.1.trans ⟨rfl, rfl, rfl, Nat.le_refl _, fun _ _ => rfl⟩, h.2.1, h.2.2.1, h.2.2.2.1, h.2.2.2.2.1, h.2.2.2.2.2⟩

theorem get_end {W w : World} {bl bv br n : Nat} {vl X Y y0 y1 : Value} {l : List Bd} {v : ByteArray} (G : GetS W bl bv br vl l v w) (hbr : w.heap[br]? = some (.cells #[y0, y1] 24 (0, 0))) :
    (((w.drewN n).setCell ⟨br, 0, none⟩ X).setCell ⟨br, 1, none⟩ Y).cell? ⟨br, 0, none⟩ = some X ∧ (((w.drewN n).setCell ⟨br, 0, none⟩ X).setCell ⟨br, 1, none⟩ Y).cell? ⟨br, 1, none⟩ = some Y ∧
    Below W.heap.size W (((w.drewN n).setCell ⟨br, 0, none⟩ X).setCell ⟨br, 1, none⟩ Y) := by
  have h0 : (w.drewN n).heap[br]? = some (.cells #[y0, y1] 24 (0, 0)) := hbr
  have h1 := hset_same h0 0 X
  have h2 := hset_same h1 1 Y
  exact ⟨cell_of_heap h2 rfl, cell_of_heap h2 rfl, ((G.drewN n).1.setCell G.2.2.2.2.2 _).setCell G.2.2.2.2.2 _⟩

set_option maxHeartbeats 2000000 in
theorem get_any {w : World} {vl : Value} {l : List Bd} (hR : RdB w vl l) (hl : l.length ≤ 1000000) (v : ByteArray) :
    Calls Try.prog 18 #[vl, .string v] w fun e w' => e = .returned (.tuple #[tmV ((pget l v).getD noTm), .bool (pget l v).isSome]) ∧ Below w.heap.size w w' := by
  obtain ⟨a, cap, rfl, hn, hc⟩ := hR.shape
  have HR := Lib.hid hR
  clear hc hR
  go_enter Try.func18, Try.ntmps18
  go_upto_region 2 with (fail)
  have G3 : Hid (GetS w w.heap.size (w.heap.size + 1) (w.heap.size + 1 + 1) (.slice a l.length cap) l v (((w.alloc (Obj.cells #[Value.slice a l.length cap] 22)).alloc (Obj.cells #[Value.string v] 9)).alloc (Obj.cells #[Value.bool false, Value.string { data := #[] }] 24))) := by
    have B1 : Below w.heap.size w (w.alloc (Obj.cells #[Value.slice a l.length cap] 22)) := (Below.refl _ w).alloc (Nat.le_refl _) _
    have B2 : Below w.heap.size w ((w.alloc (Obj.cells #[Value.slice a l.length cap] 22)).alloc (Obj.cells #[Value.string v] 9)) := B1.alloc B1.size _
    have B3 : Below w.heap.size w (((w.alloc (Obj.cells #[Value.slice a l.length cap] 22)).alloc (Obj.cells #[Value.string v] 9)).alloc (Obj.cells #[Value.bool false, Value.string { data := #[] }] 24)) := B2.alloc B2.size _
    have e1 : (w.alloc (Obj.cells #[Value.slice a l.length cap] 22)).heap.size = w.heap.size + 1 := hsize_alloc _ _
    have e2 : ((w.alloc (Obj.cells #[Value.slice a l.length cap] 22)).alloc (Obj.cells #[Value.string v] 9)).heap.size = w.heap.size + 1 + 1 := by rw [hsize_alloc, e1]
    refine ⟨B3, ?_, ?_, ⟨.bool false, .string ⟨#[]⟩, ?_⟩, Rd.kept HR.out B3, by omega⟩
    · rw [halloc_old _ _ _ (by rw [e2]; omega), halloc_old _ _ _ (by rw [e1]; omega)]
      exact halloc_new _ _
    · rw [halloc_old _ _ _ (by rw [e2]; omega)]
      have := halloc_new (w.alloc (Obj.cells #[Value.slice a l.length cap] 22)) (Obj.cells #[Value.string v] 9)
      rwa [e1] at this
    · have := halloc_new ((w.alloc (Obj.cells #[Value.slice a l.length cap] 22)).alloc (Obj.cells #[Value.string v] 9)) (Obj.cells #[Value.bool false, Value.string { data := #[] }] 24)
      rwa [e2] at this
  have hb2 : w.heap.size + 1 + 1 ≠ w.heap.size := by omega
  have hb3 : w.heap.size + 1 + 1 ≠ w.heap.size + 1 := by omega
  generalize (((w.alloc (Obj.cells #[Value.slice a l.length cap] 22)).alloc (Obj.cells #[Value.string v] 9)).alloc (Obj.cells #[Value.bool false, Value.string { data := #[] }] 24)) = w3 at *
  generalize w.heap.size + 1 + 1 = br at *
  generalize w.heap.size + 1 = bv at *
  have HW : Hid (w.heap.size = w.heap.size) := rfl
  generalize hbl : w.heap.size = bl at *
  have HBL := Lib.hid hbl
  clear hbl HW HR
  have x0 : w3.cell? ⟨bl, 0, none⟩ = some (.slice a l.length cap) := cell_of_heap G3.out.2.1 rfl
  have K := Lib.hid (rises_any G3.out.2.2.2.2.1)
  go_wp2_with (fail)
  refine (K.out).mono ?_
  rintro _ w4 ⟨rfl, q, rfl⟩
  clear x0 K
  have G4 := Lib.hid (G3.out.drewN q)
  clear G3
  generalize w3.drewN q = w4 at *
  obtain ⟨pr, hpr⟩ : ∃ b, prises l = b := ⟨_, rfl⟩
  have HPR := Lib.hid hpr
  rw [hpr]
  clear hpr
  go_upto_if 8 with (fail)
  go_cut [6] (fun i wc => ∃ s : Nat, s ≤ l.length ∧ i = .int .i64 s ∧ Aside (∀ j (h : j < l.length), j < s → l[j].var ≠ v) ∧ ∃ q, wc = w4.drewN q)
  case first =>
    cases pr with
    | false =>
      go_wp2_with (fail)
      go_meet
      case rel => exact ⟨0, by omega, rfl, (by intro j h h2; omega), 0, rfl⟩
    | true =>
      (have x0 : w4.cell? ⟨bl, 0, none⟩ = some (.slice a l.length cap) := cell_of_heap G4.out.2.1 rfl
       have K := Lib.hid (search_any 49 (.pointer (some ⟨bl, 0, none⟩)) (.pointer (some ⟨bv, 0, none⟩)) l.length (getP l v) w4 hl (fun args w => by kernel_rfl)
           (fun i q hi => getp_any (cell_of_heap (G4.out.drewN q).2.1 rfl) (cell_of_heap (G4.out.drewN q).2.2.1 rfl) (G4.out.drewN q).2.2.2.2.1 i hi))
       go_wp2_with (fail)
       refine (K.out).mono ?_
       rintro _ w5 ⟨s, rfl, hs, hs1, _, q5, rfl⟩
       have HS1 := Lib.hid (search_lt HPR.out hs hs1)
       clear hs1
       go_wp2_with (fail)
       go_meet
       case rel => exact ⟨s, hs, rfl, HS1.out, _, rfl⟩)
  case rest =>
    obtain ⟨s, hs, rfl, hp0, q0, rfl⟩ := hcut
    have HP0 := Lib.hid hp0
    clear hp0
    go_step
    go_wp2_with (fail)
    go_loopg [6] (l.length - s) (fun n i wr => ∃ k : Nat, k ≤ l.length ∧ n = l.length - k ∧ i = .int .i64 k ∧ Aside (∀ j (h : j < l.length), j < k → l[j].var ≠ v) ∧ ∃ q, wr = w4.drewN q)
    case atStart => exact ⟨s, hs, rfl, rfl, HP0.out, q0, rfl⟩
    case round =>
      obtain ⟨k, hk, hnk, rfl, hp, q, rfl⟩ := hrel
      have x0 : w4.cell? ⟨bl, 0, none⟩ = some (.slice a l.length cap) := cell_of_heap G4.out.2.1 rfl
      by_cases hlt : k < l.length
      · have x1 : w4.cell? ⟨bv, 0, none⟩ = some (.string v) := cell_of_heap G4.out.2.2.1 rfl
        obtain ⟨a', cap', e, _, hc⟩ := G4.out.2.2.2.2.1.shape
        obtain ⟨g, off, rfl, _, _, _, hcell⟩ := hc (by omega)
        injection e with e1 _ e3
        subst e1 e3
        obtain ⟨c0, c1, c2⟩ := RdB.cells hcell hlt
        have ja : (0 : Int) ≤ (k : Int) := by omega
        have jb : (k : Int) < (l.length : Int) := by omega
        clear hc hcell
        by_cases he : l[k].var = v
        · have HE := Lib.hid (pget_at hlt (fun j h hj => hp.out j h hj) he)
          have hq := str_eq v
          rw [he] at c0
          obtain ⟨y0, y1, hbr⟩ := G4.out.2.2.2.1
          have z0 : w4.cell? ⟨br, 0, none⟩ = some y0 := cell_of_heap hbr rfl
          have z1 : w4.cell? ⟨br, 1, none⟩ = some y1 := cell_of_heap hbr rfl
          have f0 := frozen_of_heap hbr 0
          have f1 := frozen_of_heap hbr 1
          have HBR := Lib.hid hbr
          clear he hbr
          go_wp2_with (fail)
          go_quiet (fail)
          go_wp2_with (fail)
          have E := get_end (X := .bool l[k].t.v) (Y := .string l[k].t.name) (n := q + nq) G4.out HBR.out
          generalize ((w4.drewN (q + nq)).setCell ⟨br, 0, none⟩ (.bool l[k].t.v)).setCell ⟨br, 1, none⟩ (.string l[k].t.name) = w6 at *
          obtain ⟨r0, r1, B6⟩ := E
          refine bodyPost_ret (v := .tuple #[tmV l[k].t, .bool true]) (by simp [results, go_sem, r0, r1, tmV]) rfl ⟨by rw [HE.out]; rfl, B6⟩
        · have hq := str_ne he
          have HE : Hid (∀ j (h : j < l.length), j < k + 1 → l[j].var ≠ v) := fun j h hj => by
            by_cases e : j = k
            · subst e; exact he
            · exact hp.out j h (by omega)
          clear he
          go_wp2_with (fail)
          go_quiet (fail)
          go_wp2_with (fail)
          go_roundg (l.length - (k + 1))
          case rel => exact ⟨k + 1, by omega, rfl, by go_num, HE.out, by first | exact ⟨_, rfl⟩ | exact ⟨_, drewN_twice _ _ _⟩⟩
          case measure => omega
      · have HE : Hid (pget l v = none) := pget_none fun j h => hp.out j h (by omega)
        obtain ⟨y0, y1, hbr⟩ := G4.out.2.2.2.1
        have z0 : w4.cell? ⟨br, 0, none⟩ = some y0 := cell_of_heap hbr rfl
        have z1 : w4.cell? ⟨br, 1, none⟩ = some y1 := cell_of_heap hbr rfl
        have f0 := frozen_of_heap hbr 0
        have f1 := frozen_of_heap hbr 1
        have HBR := Lib.hid hbr
        clear hbr hp
        go_wp2_with (fail)
        have E := get_end (X := .bool false) (Y := .string ⟨#[]⟩) (n := q) G4.out HBR.out
        generalize ((w4.drewN q).setCell ⟨br, 0, none⟩ (.bool false)).setCell ⟨br, 1, none⟩ (.string ⟨#[]⟩) = w6 at *
        obtain ⟨r0, r1, B6⟩ := E
        refine bodyPost_ret (v := .tuple #[tmV noTm, .bool false]) (by simp [results, go_sem, r0, r1, tmV, noTm]) rfl ⟨by rw [HE.out]; rfl, B6⟩

end Go.Proofs.Ytkkkpbnehpfkkaa
