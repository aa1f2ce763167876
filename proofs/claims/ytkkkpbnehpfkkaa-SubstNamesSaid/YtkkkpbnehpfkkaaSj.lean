/-
  Chapter 4: Apply.
-/
import Derived.Test.YtkkkpbnehpfkkaaSi
namespace Go.Proofs.Ytkkkpbnehpfkkaa
open Go.RowKit Go.Vs Go.Maps Go.ChangeMaps Go.WideMaps

/-- What Apply has made: its atom, with the first k terms changed, and the result's place. -/
def AppS (W : World) (f : Tm → Tm) (a : Atm) (k : Nat) (w : World) : Prop :=
  Below W.heap.size W w ∧ w.heap[W.heap.size]? = some (.cells (a.upto f k).cells 27 (0, 0)) ∧ ∃ r : Atm, w.heap[W.heap.size + 1]? = some (.cells r.cells 27 (0, 0))

theorem app_keep {W w w' : World} {f : Tm → Tm} {a : Atm} {k : Nat} (S : AppS W f a k w) (B : Below w.heap.size w w') : AppS W f a k w' := by
  obtain ⟨h1, h2, r, h3⟩ := S
  exact ⟨h1.trans (B.mono h1.size), (B.block _ (Array.getElem?_eq_some_iff.1 h2).1).trans h2, r, (B.block _ (Array.getElem?_eq_some_iff.1 h3).1).trans h3⟩

theorem app_set {W w : World} {f : Tm → Tm} {a : Atm} {k bx : Nat} (S : AppS W f a k w) (hbx : W.heap.size = bx) {v : Bool} {n : ByteArray}
    (hU : ((a.upto f k).cells.setIfInBounds (3 + k * 2) (.bool v)).setIfInBounds (3 + k * 2 + 1) (.string n) = (a.upto f (k + 1)).cells) :
    AppS W f a (k + 1) ((w.setCell ⟨bx, 3 + k * 2, none⟩ (.bool v)).setCell ⟨bx, 3 + k * 2 + 1, none⟩ (.string n)) := by
  obtain ⟨h1, h2, r, h3⟩ := S
  subst hbx
  refine ⟨(h1.setCell (Nat.le_refl _) _).setCell (Nat.le_refl _) _, ?_, r, ?_⟩
  · rw [← hU]
    exact hset_same (hset_same h2 _ _) _ _
  · rw [hset_other _ _ _ _ _ (by omega), hset_other _ _ _ _ _ (by omega)]
    exact h3

theorem app_end {W wr : World} {br : Nat} {r r0 : Atm} (B : Below W.heap.size W wr) (hge : W.heap.size ≤ br) (h : wr.heap[br]? = some (.cells r0.cells 27 (0, 0))) :
    (((((((((((wr.setCell ⟨br, 0, none⟩ (.string r.says)).setCell ⟨br, 1, none⟩ (.string r.pred)).setCell ⟨br, 2, none⟩ (.int .i64 r.n)).setCell ⟨br, 3, none⟩ (.bool r.a0.v)).setCell ⟨br, 4, none⟩ (.string r.a0.name)).setCell ⟨br, 5, none⟩ (.bool r.a1.v)).setCell ⟨br, 6, none⟩ (.string r.a1.name)).setCell ⟨br, 7, none⟩ (.bool r.a2.v)).setCell ⟨br, 8, none⟩ (.string r.a2.name)).setCell ⟨br, 9, none⟩ (.bool r.a3.v)).setCell ⟨br, 10, none⟩ (.string r.a3.name)).heap[br]? = some (.cells r.cells 27 (0, 0)) ∧ Below W.heap.size W (((((((((((wr.setCell ⟨br, 0, none⟩ (.string r.says)).setCell ⟨br, 1, none⟩ (.string r.pred)).setCell ⟨br, 2, none⟩ (.int .i64 r.n)).setCell ⟨br, 3, none⟩ (.bool r.a0.v)).setCell ⟨br, 4, none⟩ (.string r.a0.name)).setCell ⟨br, 5, none⟩ (.bool r.a1.v)).setCell ⟨br, 6, none⟩ (.string r.a1.name)).setCell ⟨br, 7, none⟩ (.bool r.a2.v)).setCell ⟨br, 8, none⟩ (.string r.a2.name)).setCell ⟨br, 9, none⟩ (.bool r.a3.v)).setCell ⟨br, 10, none⟩ (.string r.a3.name)) :=
  ⟨by
    have h0 := h
    have h1 : (wr.setCell ⟨br, 0, none⟩ (.string r.says)).heap[br]? = some (.cells #[.string r.says, .string r0.pred, .int .i64 r0.n, .bool r0.a0.v, .string r0.a0.name, .bool r0.a1.v, .string r0.a1.name, .bool r0.a2.v, .string r0.a2.name, .bool r0.a3.v, .string r0.a3.name] 27 (0, 0)) := hset_same h0 0 _
    have h2 : ((wr.setCell ⟨br, 0, none⟩ (.string r.says)).setCell ⟨br, 1, none⟩ (.string r.pred)).heap[br]? = some (.cells #[.string r.says, .string r.pred, .int .i64 r0.n, .bool r0.a0.v, .string r0.a0.name, .bool r0.a1.v, .string r0.a1.name, .bool r0.a2.v, .string r0.a2.name, .bool r0.a3.v, .string r0.a3.name] 27 (0, 0)) := hset_same h1 1 _
    have h3 : (((wr.setCell ⟨br, 0, none⟩ (.string r.says)).setCell ⟨br, 1, none⟩ (.string r.pred)).setCell ⟨br, 2, none⟩ (.int .i64 r.n)).heap[br]? = some (.cells #[.string r.says, .string r.pred, .int .i64 r.n, .bool r0.a0.v, .string r0.a0.name, .bool r0.a1.v, .string r0.a1.name, .bool r0.a2.v, .string r0.a2.name, .bool r0.a3.v, .string r0.a3.name] 27 (0, 0)) := hset_same h2 2 _
    have h4 : ((((wr.setCell ⟨br, 0, none⟩ (.string r.says)).setCell ⟨br, 1, none⟩ (.string r.pred)).setCell ⟨br, 2, none⟩ (.int .i64 r.n)).setCell ⟨br, 3, none⟩ (.bool r.a0.v)).heap[br]? = some (.cells #[.string r.says, .string r.pred, .int .i64 r.n, .bool r.a0.v, .string r0.a0.name, .bool r0.a1.v, .string r0.a1.name, .bool r0.a2.v, .string r0.a2.name, .bool r0.a3.v, .string r0.a3.name] 27 (0, 0)) := hset_same h3 3 _
    have h5 : (((((wr.setCell ⟨br, 0, none⟩ (.string r.says)).setCell ⟨br, 1, none⟩ (.string r.pred)).setCell ⟨br, 2, none⟩ (.int .i64 r.n)).setCell ⟨br, 3, none⟩ (.bool r.a0.v)).setCell ⟨br, 4, none⟩ (.string r.a0.name)).heap[br]? = some (.cells #[.string r.says, .string r.pred, .int .i64 r.n, .bool r.a0.v, .string r.a0.name, .bool r0.a1.v, .string r0.a1.name, .bool r0.a2.v, .string r0.a2.name, .bool r0.a3.v, .string r0.a3.name] 27 (0, 0)) := hset_same h4 4 _
    have h6 : ((((((wr.setCell ⟨br, 0, none⟩ (.string r.says)).setCell ⟨br, 1, none⟩ (.string r.pred)).setCell ⟨br, 2, none⟩ (.int .i64 r.n)).setCell ⟨br, 3, none⟩ (.bool r.a0.v)).setCell ⟨br, 4, none⟩ (.string r.a0.name)).setCell ⟨br, 5, none⟩ (.bool r.a1.v)).heap[br]? = some (.cells #[.string r.says, .string r.pred, .int .i64 r.n, .bool r.a0.v, .string r.a0.name, .bool r.a1.v, .string r0.a1.name, .bool r0.a2.v, .string r0.a2.name, .bool r0.a3.v, .string r0.a3.name] 27 (0, 0)) := hset_same h5 5 _
    have h7 : (((((((wr.setCell ⟨br, 0, none⟩ (.string r.says)).setCell ⟨br, 1, none⟩ (.string r.pred)).setCell ⟨br, 2, none⟩ (.int .i64 r.n)).setCell ⟨br, 3, none⟩ (.bool r.a0.v)).setCell ⟨br, 4, none⟩ (.string r.a0.name)).setCell ⟨br, 5, none⟩ (.bool r.a1.v)).setCell ⟨br, 6, none⟩ (.string r.a1.name)).heap[br]? = some (.cells #[.string r.says, .string r.pred, .int .i64 r.n, .bool r.a0.v, .string r.a0.name, .bool r.a1.v, .string r.a1.name, .bool r0.a2.v, .string r0.a2.name, .bool r0.a3.v, .string r0.a3.name] 27 (0, 0)) := hset_same h6 6 _
    have h8 : ((((((((wr.setCell ⟨br, 0, none⟩ (.string r.says)).setCell ⟨br, 1, none⟩ (.string r.pred)).setCell ⟨br, 2, none⟩ (.int .i64 r.n)).setCell ⟨br, 3, none⟩ (.bool r.a0.v)).setCell ⟨br, 4, none⟩ (.string r.a0.name)).setCell ⟨br, 5, none⟩ (.bool r.a1.v)).setCell ⟨br, 6, none⟩ (.string r.a1.name)).setCell ⟨br, 7, none⟩ (.bool r.a2.v)).heap[br]? = some (.cells #[.string r.says, .string r.pred, .int .i64 r.n, .bool r.a0.v, .string r.a0.name, .bool r.a1.v, .string r.a1.name, .bool r.a2.v, .string r0.a2.name, .bool r0.a3.v, .string r0.a3.name] 27 (0, 0)) := hset_same h7 7 _
    have h9 : (((((((((wr.setCell ⟨br, 0, none⟩ (.string r.says)).setCell ⟨br, 1, none⟩ (.string r.pred)).setCell ⟨br, 2, none⟩ (.int .i64 r.n)).setCell ⟨br, 3, none⟩ (.bool r.a0.v)).setCell ⟨br, 4, none⟩ (.string r.a0.name)).setCell ⟨br, 5, none⟩ (.bool r.a1.v)).setCell ⟨br, 6, none⟩ (.string r.a1.name)).setCell ⟨br, 7, none⟩ (.bool r.a2.v)).setCell ⟨br, 8, none⟩ (.string r.a2.name)).heap[br]? = some (.cells #[.string r.says, .string r.pred, .int .i64 r.n, .bool r.a0.v, .string r.a0.name, .bool r.a1.v, .string r.a1.name, .bool r.a2.v, .string r.a2.name, .bool r0.a3.v, .string r0.a3.name] 27 (0, 0)) := hset_same h8 8 _
    have h10 : ((((((((((wr.setCell ⟨br, 0, none⟩ (.string r.says)).setCell ⟨br, 1, none⟩ (.string r.pred)).setCell ⟨br, 2, none⟩ (.int .i64 r.n)).setCell ⟨br, 3, none⟩ (.bool r.a0.v)).setCell ⟨br, 4, none⟩ (.string r.a0.name)).setCell ⟨br, 5, none⟩ (.bool r.a1.v)).setCell ⟨br, 6, none⟩ (.string r.a1.name)).setCell ⟨br, 7, none⟩ (.bool r.a2.v)).setCell ⟨br, 8, none⟩ (.string r.a2.name)).setCell ⟨br, 9, none⟩ (.bool r.a3.v)).heap[br]? = some (.cells #[.string r.says, .string r.pred, .int .i64 r.n, .bool r.a0.v, .string r.a0.name, .bool r.a1.v, .string r.a1.name, .bool r.a2.v, .string r.a2.name, .bool r.a3.v, .string r0.a3.name] 27 (0, 0)) := hset_same h9 9 _
    have h11 : (((((((((((wr.setCell ⟨br, 0, none⟩ (.string r.says)).setCell ⟨br, 1, none⟩ (.string r.pred)).setCell ⟨br, 2, none⟩ (.int .i64 r.n)).setCell ⟨br, 3, none⟩ (.bool r.a0.v)).setCell ⟨br, 4, none⟩ (.string r.a0.name)).setCell ⟨br, 5, none⟩ (.bool r.a1.v)).setCell ⟨br, 6, none⟩ (.string r.a1.name)).setCell ⟨br, 7, none⟩ (.bool r.a2.v)).setCell ⟨br, 8, none⟩ (.string r.a2.name)).setCell ⟨br, 9, none⟩ (.bool r.a3.v)).setCell ⟨br, 10, none⟩ (.string r.a3.name)).heap[br]? = some (.cells #[.string r.says, .string r.pred, .int .i64 r.n, .bool r.a0.v, .string r.a0.name, .bool r.a1.v, .string r.a1.name, .bool r.a2.v, .string r.a2.name, .bool r.a3.v, .string r.a3.name] 27 (0, 0)) := hset_same h10 10 _
    exact h11, (((((((((((B.setCell hge _).setCell hge _).setCell hge _).setCell hge _).setCell hge _).setCell hge _).setCell hge _).setCell hge _).setCell hge _).setCell hge _).setCell hge _)⟩

set_option maxHeartbeats 4000000 in
theorem apply_any {w : World} {vl : Value} {l : List Bd} (hR : RdB w vl l) (hl : l.length ≤ 1000000) (a : Atm) :
    Calls Try.prog 15 #[vl, amV a] w fun e w' => e = .returned (amV (papp l a)) ∧ Below w.heap.size w w' := by
  have HR := Lib.hid hR
  clear hR
  have S0 : AppS w (pterm l) a 0 ((w.alloc (.cells a.cells 27)).alloc (.cells #[.string ⟨#[]⟩, .string ⟨#[]⟩, .int .i64 0, .bool false, .string ⟨#[]⟩, .bool false, .string ⟨#[]⟩, .bool false, .string ⟨#[]⟩, .bool false, .string ⟨#[]⟩] 27)) := by
    have e1 : (w.alloc (.cells a.cells 27)).heap.size = w.heap.size + 1 := hsize_alloc _ _
    refine ⟨((Below.refl _ w).alloc (Nat.le_refl _) _).alloc (by rw [hsize_alloc]; omega) _, ?_, ⟨⟨#[]⟩, ⟨#[]⟩, 0, noTm, noTm, noTm, noTm⟩, ?_⟩
    · rw [halloc_old _ _ _ (by rw [e1]; omega)]
      exact halloc_new _ _
    · have := halloc_new (w.alloc (.cells a.cells 27)) (.cells #[.string ⟨#[]⟩, .string ⟨#[]⟩, .int .i64 0, .bool false, .string ⟨#[]⟩, .bool false, .string ⟨#[]⟩, .bool false, .string ⟨#[]⟩, .bool false, .string ⟨#[]⟩] 27)
      rwa [e1] at this
  have HC := Lib.hid a.count_int
  have hc4 := a.count_le
  unfold amV
  go_enter Try.func15, Try.ntmps15
  go_upto_region 1 with (fail)
  generalize (w.alloc (.cells a.cells 27)).alloc (.cells #[.string ⟨#[]⟩, .string ⟨#[]⟩, .int .i64 0, .bool false, .string ⟨#[]⟩, .bool false, .string ⟨#[]⟩, .bool false, .string ⟨#[]⟩, .bool false, .string ⟨#[]⟩] 27) = w1 at *
  have c2 : w1.cell? ⟨w.heap.size, 2, none⟩ = some (.int .i64 a.n) := cell_of_heap S0.2.1 rfl
  have HS0 := Lib.hid S0
  clear S0
  generalize hbx : w.heap.size = bx at *
  have HBX := Lib.hid hbx
  clear hbx
  go_wp2_with (fail)
  · go_loopg [10] (a.count) (fun n i wr => ∃ k : Nat, k ≤ a.count ∧ n = a.count - k ∧ i = .int .i64 k ∧ Aside (AppS w (pterm l) a k wr))
    case atStart => exact ⟨0, by omega, by omega, rfl, HS0.out⟩
    case round =>
      obtain ⟨k, hk, hnk, rfl, hS⟩ := hrel
      have HS := Lib.hid hS.out
      clear hS HS0
      by_cases hlt : k < a.count
      · have := HC.out; omega
      · have jx : 0 ≤ (k : Int) := by have := HC.out; omega
        have hka : k = a.count := by omega
        have HX := Lib.hid HS.out.2.1
        have HP : Hid (papp l a = a.upto (pterm l) k) := by show _ = _; unfold papp; rw [hka]
        obtain ⟨h1, _, r0, h3⟩ := HS.out
        rw [HBX.out] at h3 HX
        generalize a.upto (pterm l) k = r at *
        have E := Lib.hid (app_end (r := r) h1 (br := bx + 1) (by rw [HBX.out]; omega) h3)
        have x0 : wr.cell? ⟨bx, 0, none⟩ = some (.string r.says) := cell_of_heap HX.out rfl
        have y0 : wr.cell? ⟨bx + 1, 0, none⟩ = some (.string r0.says) := cell_of_heap h3 rfl
        have f0 := frozen_of_heap h3 0
        have x1 : wr.cell? ⟨bx, 1, none⟩ = some (.string r.pred) := cell_of_heap HX.out rfl
        have y1 : wr.cell? ⟨bx + 1, 1, none⟩ = some (.string r0.pred) := cell_of_heap h3 rfl
        have f1 := frozen_of_heap h3 1
        have x2 : wr.cell? ⟨bx, 2, none⟩ = some (.int .i64 r.n) := cell_of_heap HX.out rfl
        have y2 : wr.cell? ⟨bx + 1, 2, none⟩ = some (.int .i64 r0.n) := cell_of_heap h3 rfl
        have f2 := frozen_of_heap h3 2
        have x3 : wr.cell? ⟨bx, 3, none⟩ = some (.bool r.a0.v) := cell_of_heap HX.out rfl
        have y3 : wr.cell? ⟨bx + 1, 3, none⟩ = some (.bool r0.a0.v) := cell_of_heap h3 rfl
        have f3 := frozen_of_heap h3 3
        have x4 : wr.cell? ⟨bx, 4, none⟩ = some (.string r.a0.name) := cell_of_heap HX.out rfl
        have y4 : wr.cell? ⟨bx + 1, 4, none⟩ = some (.string r0.a0.name) := cell_of_heap h3 rfl
        have f4 := frozen_of_heap h3 4
        have x5 : wr.cell? ⟨bx, 5, none⟩ = some (.bool r.a1.v) := cell_of_heap HX.out rfl
        have y5 : wr.cell? ⟨bx + 1, 5, none⟩ = some (.bool r0.a1.v) := cell_of_heap h3 rfl
        have f5 := frozen_of_heap h3 5
        have x6 : wr.cell? ⟨bx, 6, none⟩ = some (.string r.a1.name) := cell_of_heap HX.out rfl
        have y6 : wr.cell? ⟨bx + 1, 6, none⟩ = some (.string r0.a1.name) := cell_of_heap h3 rfl
        have f6 := frozen_of_heap h3 6
        have x7 : wr.cell? ⟨bx, 7, none⟩ = some (.bool r.a2.v) := cell_of_heap HX.out rfl
        have y7 : wr.cell? ⟨bx + 1, 7, none⟩ = some (.bool r0.a2.v) := cell_of_heap h3 rfl
        have f7 := frozen_of_heap h3 7
        have x8 : wr.cell? ⟨bx, 8, none⟩ = some (.string r.a2.name) := cell_of_heap HX.out rfl
        have y8 : wr.cell? ⟨bx + 1, 8, none⟩ = some (.string r0.a2.name) := cell_of_heap h3 rfl
        have f8 := frozen_of_heap h3 8
        have x9 : wr.cell? ⟨bx, 9, none⟩ = some (.bool r.a3.v) := cell_of_heap HX.out rfl
        have y9 : wr.cell? ⟨bx + 1, 9, none⟩ = some (.bool r0.a3.v) := cell_of_heap h3 rfl
        have f9 := frozen_of_heap h3 9
        have x10 : wr.cell? ⟨bx, 10, none⟩ = some (.string r.a3.name) := cell_of_heap HX.out rfl
        have y10 : wr.cell? ⟨bx + 1, 10, none⟩ = some (.string r0.a3.name) := cell_of_heap h3 rfl
        have f10 := frozen_of_heap h3 10
        clear HS HX h1 h3 hka HC
        go_wp2_with (fail)
        generalize (((((((((((wr.setCell ⟨bx + 1, 0, none⟩ (.string r.says)).setCell ⟨bx + 1, 1, none⟩ (.string r.pred)).setCell ⟨bx + 1, 2, none⟩ (.int .i64 r.n)).setCell ⟨bx + 1, 3, none⟩ (.bool r.a0.v)).setCell ⟨bx + 1, 4, none⟩ (.string r.a0.name)).setCell ⟨bx + 1, 5, none⟩ (.bool r.a1.v)).setCell ⟨bx + 1, 6, none⟩ (.string r.a1.name)).setCell ⟨bx + 1, 7, none⟩ (.bool r.a2.v)).setCell ⟨bx + 1, 8, none⟩ (.string r.a2.name)).setCell ⟨bx + 1, 9, none⟩ (.bool r.a3.v)).setCell ⟨bx + 1, 10, none⟩ (.string r.a3.name)) = w9 at *
        obtain ⟨e, B9⟩ := E.out
        have e0 : w9.cell? ⟨bx + 1, 0, none⟩ = some (.string r.says) := cell_of_heap e rfl
        have e1 : w9.cell? ⟨bx + 1, 1, none⟩ = some (.string r.pred) := cell_of_heap e rfl
        have e2 : w9.cell? ⟨bx + 1, 2, none⟩ = some (.int .i64 r.n) := cell_of_heap e rfl
        have e3 : w9.cell? ⟨bx + 1, 3, none⟩ = some (.bool r.a0.v) := cell_of_heap e rfl
        have e4 : w9.cell? ⟨bx + 1, 4, none⟩ = some (.string r.a0.name) := cell_of_heap e rfl
        have e5 : w9.cell? ⟨bx + 1, 5, none⟩ = some (.bool r.a1.v) := cell_of_heap e rfl
        have e6 : w9.cell? ⟨bx + 1, 6, none⟩ = some (.string r.a1.name) := cell_of_heap e rfl
        have e7 : w9.cell? ⟨bx + 1, 7, none⟩ = some (.bool r.a2.v) := cell_of_heap e rfl
        have e8 : w9.cell? ⟨bx + 1, 8, none⟩ = some (.string r.a2.name) := cell_of_heap e rfl
        have e9 : w9.cell? ⟨bx + 1, 9, none⟩ = some (.bool r.a3.v) := cell_of_heap e rfl
        have e10 : w9.cell? ⟨bx + 1, 10, none⟩ = some (.string r.a3.name) := cell_of_heap e rfl
        exact bodyPost_ret (v := .agg r.cells) (by simp [results, go_sem, e0, e1, e2, e3, e4, e5, e6, e7, e8, e9, e10, Atm.cells]) rfl ⟨by rw [HP.out], B9⟩
  · go_loopg [10] (a.count) (fun n i wr => ∃ k : Nat, k ≤ a.count ∧ n = a.count - k ∧ i = .int .i64 k ∧ Aside (AppS w (pterm l) a k wr))
    case atStart => exact ⟨0, by omega, by omega, rfl, HS0.out⟩
    case round =>
      obtain ⟨k, hk, hnk, rfl, hS⟩ := hrel
      have HS := Lib.hid hS.out
      clear hS HS0
      by_cases hlt : k < a.count
      · have jx : (k : Int) < 4 := by have := HC.out; omega
        have jb : (k : Int) < 4 := by omega
        have ja : (0 : Int) ≤ (k : Int) := by omega
        have HX := Lib.hid HS.out.2.1
        rw [HBX.out] at HX
        have x0 : wr.cell? ⟨bx, 3 + k * 2, none⟩ = some (.bool (a.arg k).v) := cell_of_heap HX.out (Atm.upto_at _ a (by omega)).1
        have x1 : wr.cell? ⟨bx, 3 + k * 2 + 1, none⟩ = some (.string (a.arg k).name) := cell_of_heap HX.out (Atm.upto_at _ a (by omega)).2
        have K := Lib.hid (term_any (Rd.kept HR.out HS.out.1) hl (a.arg k))
        have HU := Lib.hid (Atm.upto_set (pterm l) a (k := k) (by omega))
        clear HX
        have HA := Lib.hid (Atm.upto_at (pterm l) a (k := k) (by omega))
        generalize a.arg k = t at *
        obtain ⟨tv, tn⟩ := t
        unfold tmV at K
        simp only at x0 x1
        go_wp2_with (fail)
        refine (K.out).mono ?_
        rintro _ w3 ⟨rfl, B3⟩
        have S3 := Lib.hid (app_keep HS.out B3)
        clear HS K B3 x0 x1
        generalize pterm l ⟨tv, tn⟩ = g at *
        obtain ⟨gv, gn⟩ := g
        have X3 := Lib.hid S3.out.2.1
        rw [HBX.out] at X3
        have x0 : w3.cell? ⟨bx, 3 + k * 2, none⟩ = some (.bool tv) := cell_of_heap X3.out HA.out.1
        have x1 : w3.cell? ⟨bx, 3 + k * 2 + 1, none⟩ = some (.string tn) := cell_of_heap X3.out HA.out.2
        have f0 := frozen_of_heap X3.out (3 + k * 2)
        have f1 := frozen_of_heap X3.out (3 + k * 2 + 1)
        clear X3 HA
        go_wp2_with (fail)
        go_roundg (a.count - (k + 1))
        case rel => exact ⟨k + 1, by omega, rfl, by go_num, app_set S3.out HBX.out HU.out⟩
        case measure => omega
      · have jx : 4 ≤ (k : Int) := by have := HC.out; omega
        have hka : k = a.count := by omega
        have HX := Lib.hid HS.out.2.1
        have HP : Hid (papp l a = a.upto (pterm l) k) := by show _ = _; unfold papp; rw [hka]
        obtain ⟨h1, _, r0, h3⟩ := HS.out
        rw [HBX.out] at h3 HX
        generalize a.upto (pterm l) k = r at *
        have E := Lib.hid (app_end (r := r) h1 (br := bx + 1) (by rw [HBX.out]; omega) h3)
        have x0 : wr.cell? ⟨bx, 0, none⟩ = some (.string r.says) := cell_of_heap HX.out rfl
        have y0 : wr.cell? ⟨bx + 1, 0, none⟩ = some (.string r0.says) := cell_of_heap h3 rfl
        have f0 := frozen_of_heap h3 0
        have x1 : wr.cell? ⟨bx, 1, none⟩ = some (.string r.pred) := cell_of_heap HX.out rfl
        have y1 : wr.cell? ⟨bx + 1, 1, none⟩ = some (.string r0.pred) := cell_of_heap h3 rfl
        have f1 := frozen_of_heap h3 1
        have x2 : wr.cell? ⟨bx, 2, none⟩ = some (.int .i64 r.n) := cell_of_heap HX.out rfl
        have y2 : wr.cell? ⟨bx + 1, 2, none⟩ = some (.int .i64 r0.n) := cell_of_heap h3 rfl
        have f2 := frozen_of_heap h3 2
        have x3 : wr.cell? ⟨bx, 3, none⟩ = some (.bool r.a0.v) := cell_of_heap HX.out rfl
        have y3 : wr.cell? ⟨bx + 1, 3, none⟩ = some (.bool r0.a0.v) := cell_of_heap h3 rfl
        have f3 := frozen_of_heap h3 3
        have x4 : wr.cell? ⟨bx, 4, none⟩ = some (.string r.a0.name) := cell_of_heap HX.out rfl
        have y4 : wr.cell? ⟨bx + 1, 4, none⟩ = some (.string r0.a0.name) := cell_of_heap h3 rfl
        have f4 := frozen_of_heap h3 4
        have x5 : wr.cell? ⟨bx, 5, none⟩ = some (.bool r.a1.v) := cell_of_heap HX.out rfl
        have y5 : wr.cell? ⟨bx + 1, 5, none⟩ = some (.bool r0.a1.v) := cell_of_heap h3 rfl
        have f5 := frozen_of_heap h3 5
        have x6 : wr.cell? ⟨bx, 6, none⟩ = some (.string r.a1.name) := cell_of_heap HX.out rfl
        have y6 : wr.cell? ⟨bx + 1, 6, none⟩ = some (.string r0.a1.name) := cell_of_heap h3 rfl
        have f6 := frozen_of_heap h3 6
        have x7 : wr.cell? ⟨bx, 7, none⟩ = some (.bool r.a2.v) := cell_of_heap HX.out rfl
        have y7 : wr.cell? ⟨bx + 1, 7, none⟩ = some (.bool r0.a2.v) := cell_of_heap h3 rfl
        have f7 := frozen_of_heap h3 7
        have x8 : wr.cell? ⟨bx, 8, none⟩ = some (.string r.a2.name) := cell_of_heap HX.out rfl
        have y8 : wr.cell? ⟨bx + 1, 8, none⟩ = some (.string r0.a2.name) := cell_of_heap h3 rfl
        have f8 := frozen_of_heap h3 8
        have x9 : wr.cell? ⟨bx, 9, none⟩ = some (.bool r.a3.v) := cell_of_heap HX.out rfl
        have y9 : wr.cell? ⟨bx + 1, 9, none⟩ = some (.bool r0.a3.v) := cell_of_heap h3 rfl
        have f9 := frozen_of_heap h3 9
        have x10 : wr.cell? ⟨bx, 10, none⟩ = some (.string r.a3.name) := cell_of_heap HX.out rfl
        have y10 : wr.cell? ⟨bx + 1, 10, none⟩ = some (.string r0.a3.name) := cell_of_heap h3 rfl
        have f10 := frozen_of_heap h3 10
        clear HS HX h1 h3 hka HC
        go_wp2_with (fail)
        generalize (((((((((((wr.setCell ⟨bx + 1, 0, none⟩ (.string r.says)).setCell ⟨bx + 1, 1, none⟩ (.string r.pred)).setCell ⟨bx + 1, 2, none⟩ (.int .i64 r.n)).setCell ⟨bx + 1, 3, none⟩ (.bool r.a0.v)).setCell ⟨bx + 1, 4, none⟩ (.string r.a0.name)).setCell ⟨bx + 1, 5, none⟩ (.bool r.a1.v)).setCell ⟨bx + 1, 6, none⟩ (.string r.a1.name)).setCell ⟨bx + 1, 7, none⟩ (.bool r.a2.v)).setCell ⟨bx + 1, 8, none⟩ (.string r.a2.name)).setCell ⟨bx + 1, 9, none⟩ (.bool r.a3.v)).setCell ⟨bx + 1, 10, none⟩ (.string r.a3.name)) = w9 at *
        obtain ⟨e, B9⟩ := E.out
        have e0 : w9.cell? ⟨bx + 1, 0, none⟩ = some (.string r.says) := cell_of_heap e rfl
        have e1 : w9.cell? ⟨bx + 1, 1, none⟩ = some (.string r.pred) := cell_of_heap e rfl
        have e2 : w9.cell? ⟨bx + 1, 2, none⟩ = some (.int .i64 r.n) := cell_of_heap e rfl
        have e3 : w9.cell? ⟨bx + 1, 3, none⟩ = some (.bool r.a0.v) := cell_of_heap e rfl
        have e4 : w9.cell? ⟨bx + 1, 4, none⟩ = some (.string r.a0.name) := cell_of_heap e rfl
        have e5 : w9.cell? ⟨bx + 1, 5, none⟩ = some (.bool r.a1.v) := cell_of_heap e rfl
        have e6 : w9.cell? ⟨bx + 1, 6, none⟩ = some (.string r.a1.name) := cell_of_heap e rfl
        have e7 : w9.cell? ⟨bx + 1, 7, none⟩ = some (.bool r.a2.v) := cell_of_heap e rfl
        have e8 : w9.cell? ⟨bx + 1, 8, none⟩ = some (.string r.a2.name) := cell_of_heap e rfl
        have e9 : w9.cell? ⟨bx + 1, 9, none⟩ = some (.bool r.a3.v) := cell_of_heap e rfl
        have e10 : w9.cell? ⟨bx + 1, 10, none⟩ = some (.string r.a3.name) := cell_of_heap e rfl
        exact bodyPost_ret (v := .agg r.cells) (by simp [results, go_sem, e0, e1, e2, e3, e4, e5, e6, e7, e8, e9, e10, Atm.cells]) rfl ⟨by rw [HP.out], B9⟩
  · go_loopg [10] (a.count) (fun n i wr => ∃ k : Nat, k ≤ a.count ∧ n = a.count - k ∧ i = .int .i64 k ∧ Aside (AppS w (pterm l) a k wr))
    case atStart => exact ⟨0, by omega, by omega, rfl, HS0.out⟩
    case round =>
      obtain ⟨k, hk, hnk, rfl, hS⟩ := hrel
      have HS := Lib.hid hS.out
      clear hS HS0
      by_cases hlt : k < a.count
      · have jx : (k : Int) < a.n := by have := HC.out; omega
        have jb : (k : Int) < 4 := by omega
        have ja : (0 : Int) ≤ (k : Int) := by omega
        have HX := Lib.hid HS.out.2.1
        rw [HBX.out] at HX
        have x0 : wr.cell? ⟨bx, 3 + k * 2, none⟩ = some (.bool (a.arg k).v) := cell_of_heap HX.out (Atm.upto_at _ a (by omega)).1
        have x1 : wr.cell? ⟨bx, 3 + k * 2 + 1, none⟩ = some (.string (a.arg k).name) := cell_of_heap HX.out (Atm.upto_at _ a (by omega)).2
        have K := Lib.hid (term_any (Rd.kept HR.out HS.out.1) hl (a.arg k))
        have HU := Lib.hid (Atm.upto_set (pterm l) a (k := k) (by omega))
        clear HX
        have HA := Lib.hid (Atm.upto_at (pterm l) a (k := k) (by omega))
        generalize a.arg k = t at *
        obtain ⟨tv, tn⟩ := t
        unfold tmV at K
        simp only at x0 x1
        go_wp2_with (fail)
        refine (K.out).mono ?_
        rintro _ w3 ⟨rfl, B3⟩
        have S3 := Lib.hid (app_keep HS.out B3)
        clear HS K B3 x0 x1
        generalize pterm l ⟨tv, tn⟩ = g at *
        obtain ⟨gv, gn⟩ := g
        have X3 := Lib.hid S3.out.2.1
        rw [HBX.out] at X3
        have x0 : w3.cell? ⟨bx, 3 + k * 2, none⟩ = some (.bool tv) := cell_of_heap X3.out HA.out.1
        have x1 : w3.cell? ⟨bx, 3 + k * 2 + 1, none⟩ = some (.string tn) := cell_of_heap X3.out HA.out.2
        have f0 := frozen_of_heap X3.out (3 + k * 2)
        have f1 := frozen_of_heap X3.out (3 + k * 2 + 1)
        clear X3 HA
        go_wp2_with (fail)
        go_roundg (a.count - (k + 1))
        case rel => exact ⟨k + 1, by omega, rfl, by go_num, app_set S3.out HBX.out HU.out⟩
        case measure => omega
      · have jx : a.n ≤ (k : Int) := by have := HC.out; omega
        have hka : k = a.count := by omega
        have HX := Lib.hid HS.out.2.1
        have HP : Hid (papp l a = a.upto (pterm l) k) := by show _ = _; unfold papp; rw [hka]
        obtain ⟨h1, _, r0, h3⟩ := HS.out
        rw [HBX.out] at h3 HX
        generalize a.upto (pterm l) k = r at *
        have E := Lib.hid (app_end (r := r) h1 (br := bx + 1) (by rw [HBX.out]; omega) h3)
        have x0 : wr.cell? ⟨bx, 0, none⟩ = some (.string r.says) := cell_of_heap HX.out rfl
        have y0 : wr.cell? ⟨bx + 1, 0, none⟩ = some (.string r0.says) := cell_of_heap h3 rfl
        have f0 := frozen_of_heap h3 0
        have x1 : wr.cell? ⟨bx, 1, none⟩ = some (.string r.pred) := cell_of_heap HX.out rfl
        have y1 : wr.cell? ⟨bx + 1, 1, none⟩ = some (.string r0.pred) := cell_of_heap h3 rfl
        have f1 := frozen_of_heap h3 1
        have x2 : wr.cell? ⟨bx, 2, none⟩ = some (.int .i64 r.n) := cell_of_heap HX.out rfl
        have y2 : wr.cell? ⟨bx + 1, 2, none⟩ = some (.int .i64 r0.n) := cell_of_heap h3 rfl
        have f2 := frozen_of_heap h3 2
        have x3 : wr.cell? ⟨bx, 3, none⟩ = some (.bool r.a0.v) := cell_of_heap HX.out rfl
        have y3 : wr.cell? ⟨bx + 1, 3, none⟩ = some (.bool r0.a0.v) := cell_of_heap h3 rfl
        have f3 := frozen_of_heap h3 3
        have x4 : wr.cell? ⟨bx, 4, none⟩ = some (.string r.a0.name) := cell_of_heap HX.out rfl
        have y4 : wr.cell? ⟨bx + 1, 4, none⟩ = some (.string r0.a0.name) := cell_of_heap h3 rfl
        have f4 := frozen_of_heap h3 4
        have x5 : wr.cell? ⟨bx, 5, none⟩ = some (.bool r.a1.v) := cell_of_heap HX.out rfl
        have y5 : wr.cell? ⟨bx + 1, 5, none⟩ = some (.bool r0.a1.v) := cell_of_heap h3 rfl
        have f5 := frozen_of_heap h3 5
        have x6 : wr.cell? ⟨bx, 6, none⟩ = some (.string r.a1.name) := cell_of_heap HX.out rfl
        have y6 : wr.cell? ⟨bx + 1, 6, none⟩ = some (.string r0.a1.name) := cell_of_heap h3 rfl
        have f6 := frozen_of_heap h3 6
        have x7 : wr.cell? ⟨bx, 7, none⟩ = some (.bool r.a2.v) := cell_of_heap HX.out rfl
        have y7 : wr.cell? ⟨bx + 1, 7, none⟩ = some (.bool r0.a2.v) := cell_of_heap h3 rfl
        have f7 := frozen_of_heap h3 7
        have x8 : wr.cell? ⟨bx, 8, none⟩ = some (.string r.a2.name) := cell_of_heap HX.out rfl
        have y8 : wr.cell? ⟨bx + 1, 8, none⟩ = some (.string r0.a2.name) := cell_of_heap h3 rfl
        have f8 := frozen_of_heap h3 8
        have x9 : wr.cell? ⟨bx, 9, none⟩ = some (.bool r.a3.v) := cell_of_heap HX.out rfl
        have y9 : wr.cell? ⟨bx + 1, 9, none⟩ = some (.bool r0.a3.v) := cell_of_heap h3 rfl
        have f9 := frozen_of_heap h3 9
        have x10 : wr.cell? ⟨bx, 10, none⟩ = some (.string r.a3.name) := cell_of_heap HX.out rfl
        have y10 : wr.cell? ⟨bx + 1, 10, none⟩ = some (.string r0.a3.name) := cell_of_heap h3 rfl
        have f10 := frozen_of_heap h3 10
        clear HS HX h1 h3 hka HC
        go_wp2_with (fail)
        generalize (((((((((((wr.setCell ⟨bx + 1, 0, none⟩ (.string r.says)).setCell ⟨bx + 1, 1, none⟩ (.string r.pred)).setCell ⟨bx + 1, 2, none⟩ (.int .i64 r.n)).setCell ⟨bx + 1, 3, none⟩ (.bool r.a0.v)).setCell ⟨bx + 1, 4, none⟩ (.string r.a0.name)).setCell ⟨bx + 1, 5, none⟩ (.bool r.a1.v)).setCell ⟨bx + 1, 6, none⟩ (.string r.a1.name)).setCell ⟨bx + 1, 7, none⟩ (.bool r.a2.v)).setCell ⟨bx + 1, 8, none⟩ (.string r.a2.name)).setCell ⟨bx + 1, 9, none⟩ (.bool r.a3.v)).setCell ⟨bx + 1, 10, none⟩ (.string r.a3.name)) = w9 at *
        obtain ⟨e, B9⟩ := E.out
        have e0 : w9.cell? ⟨bx + 1, 0, none⟩ = some (.string r.says) := cell_of_heap e rfl
        have e1 : w9.cell? ⟨bx + 1, 1, none⟩ = some (.string r.pred) := cell_of_heap e rfl
        have e2 : w9.cell? ⟨bx + 1, 2, none⟩ = some (.int .i64 r.n) := cell_of_heap e rfl
        have e3 : w9.cell? ⟨bx + 1, 3, none⟩ = some (.bool r.a0.v) := cell_of_heap e rfl
        have e4 : w9.cell? ⟨bx + 1, 4, none⟩ = some (.string r.a0.name) := cell_of_heap e rfl
        have e5 : w9.cell? ⟨bx + 1, 5, none⟩ = some (.bool r.a1.v) := cell_of_heap e rfl
        have e6 : w9.cell? ⟨bx + 1, 6, none⟩ = some (.string r.a1.name) := cell_of_heap e rfl
        have e7 : w9.cell? ⟨bx + 1, 7, none⟩ = some (.bool r.a2.v) := cell_of_heap e rfl
        have e8 : w9.cell? ⟨bx + 1, 8, none⟩ = some (.string r.a2.name) := cell_of_heap e rfl
        have e9 : w9.cell? ⟨bx + 1, 9, none⟩ = some (.bool r.a3.v) := cell_of_heap e rfl
        have e10 : w9.cell? ⟨bx + 1, 10, none⟩ = some (.string r.a3.name) := cell_of_heap e rfl
        exact bodyPost_ret (v := .agg r.cells) (by simp [results, go_sem, e0, e1, e2, e3, e4, e5, e6, e7, e8, e9, e10, Atm.cells]) rfl ⟨by rw [HP.out], B9⟩
end Go.Proofs.Ytkkkpbnehpfkkaa
