/-
  Chapter 4: Apply.
-/
import Derived.Test.YtaeehadibckcjaaDoorSi
namespace Go.Proofs.YtaeehadibckcjaaDoor
open Go.RowKit Go.Vs Go.Maps Go.ChangeMaps Go.WideMaps

/-- What Apply has made: its atom, with the first k terms changed, and the result's place. -/
def AppS (W : World) (f : Tm → Tm) (a : Atm) (k : Nat) (w : World) : Prop :=
  Below W.heap.size W w ∧ w.heap[W.heap.size]? = some (.cells (a.upto f k).cells 42 (0, 0)) ∧ ∃ r : Atm, w.heap[W.heap.size + 1]? = some (.cells r.cells 42 (0, 0))

theorem app_keep {W w w' : World} {f : Tm → Tm} {a : Atm} {k : Nat} (S : AppS W f a k w) (B : Below w.heap.size w w') : AppS W f a k w' := by
  obtain ⟨h1, h2, r, h3⟩ := S
  exact ⟨h1.trans (B.mono h1.size), (B.block _ (Array.getElem?_eq_some_iff.1 h2).1).trans h2, r, (B.block _ (Array.getElem?_eq_some_iff.1 h3).1).trans h3⟩

theorem app_set {W w : World} {f : Tm → Tm} {a : Atm} {k bx : Nat} (S : AppS W f a k w) (hbx : W.heap.size = bx) {v : Bool} {n : ByteArray}
    (hU : ((a.upto f k).cells.setIfInBounds (3 + k * 2) (.bool v)).setIfInBounds (3 + k * 2 + 1) (.string n) = (a.upto f (k + 1)).cells) :
    AppS W f a (k + 1) ((w.setCell ⟨bx, 3 + k * 2, none⟩ (.bool v)).setCell ⟨bx, 3 + k * 2 + 1, none⟩ (.string n)) := by
  obtain ⟨h1, h2, r, h3⟩ := S
  subst hbx
  refine ⟨(h1.setCell (Nat.le_refl _) _).setCell (Nat.le_refl _) _, ?_, r, ?_⟩
  · rw [← hU]
    exact hset_same (hset_same h2 _ _) _ _
  · rw [hset_other _ _ _ _ _ (by omega), hset_other _ _ _ _ _ (by omega)]
    exact h3

theorem app_end {W wr : World} {br : Nat} {r r0 : Atm} (B : Below W.heap.size W wr) (hge : W.heap.size ≤ br) (h : wr.heap[br]? = some (.cells r0.cells 42 (0, 0))) :
    (((((((((((wr.setCell ⟨br, 0, none⟩ (.string r.says)).setCell ⟨br, 1, none⟩ (.string r.pred)).setCell ⟨br, 2, none⟩ (.int .i64 r.n)).setCell ⟨br, 3, none⟩ (.bool r.a0.v)).setCell ⟨br, 4, none⟩ (.string r.a0.name)).setCell ⟨br, 5, none⟩ (.bool r.a1.v)).setCell ⟨br, 6, none⟩ (.string r.a1.name)).setCell ⟨br, 7, none⟩ (.bool r.a2.v)).setCell ⟨br, 8, none⟩ (.string r.a2.name)).setCell ⟨br, 9, none⟩ (.bool r.a3.v)).setCell ⟨br, 10, none⟩ (.string r.a3.name)).heap[br]? = some (.cells r.cells 42 (0, 0)) ∧ Below W.heap.size W (((((((((((wr.setCell ⟨br, 0, none⟩ (.string r.says)).setCell ⟨br, 1, none⟩ (.string r.pred)).setCell ⟨br, 2, none⟩ (.int .i64 r.n)).setCell ⟨br, 3, none⟩ (.bool r.a0.v)).setCell ⟨br, 4, none⟩ (.string r.a0.name)).setCell ⟨br, 5, none⟩ (.bool r.a1.v)).setCell ⟨br, 6, none⟩ (.string r.a1.name)).setCell ⟨br, 7, none⟩ (.bool r.a2.v)).setCell ⟨br, 8, none⟩ (.string r.a2.name)).setCell ⟨br, 9, none⟩ (.bool r.a3.v)).setCell ⟨br, 10, none⟩ (.string r.a3.name)) :=
  ⟨by
    have h0 := h
    have h1 : (wr.setCell ⟨br, 0, none⟩ (.string r.says)).heap[br]? = some (.cells #[.string r.says, .string r0.pred, .int .i64 r0.n, .bool r0.a0.v, .string r0.a0.name, .bool r0.a1.v, .string r0.a1.name, .bool r0.a2.v, .string r0.a2.name, .bool r0.a3.v, .string r0.a3.name] 42 (0, 0)) := hset_same h0 0 _
    have h2 : ((wr.setCell ⟨br, 0, none⟩ (.string r.says)).setCell ⟨br, 1, none⟩ (.string r.pred)).heap[br]? = some (.cells #[.string r.says, .string r.pred, .int .i64 r0.n, .bool r0.a0.v, .string r0.a0.name, .bool r0.a1.v, .string r0.a1.name, .bool r0.a2.v, .string r0.a2.name, .bool r0.a3.v, .string r0.a3.name] 42 (0, 0)) := hset_same h1 1 _
    have h3 : (((wr.setCell ⟨br, 0, none⟩ (.string r.says)).setCell ⟨br, 1, none⟩ (.string r.pred)).setCell ⟨br, 2, none⟩ (.int .i64 r.n)).heap[br]? = some (.cells #[.string r.says, .string r.pred, .int .i64 r.n, .bool r0.a0.v, .string r0.a0.name, .bool r0.a1.v, .string r0.a1.name, .bool r0.a2.v, .string r0.a2.name, .bool r0.a3.v, .string r0.a3.name] 42 (0, 0)) := hset_same h2 2 _
    have h4 : ((((wr.setCell ⟨br, 0, none⟩ (.string r.says)).setCell ⟨br, 1, none⟩ (.string r.pred)).setCell ⟨br, 2, none⟩ (.int .i64 r.n)).setCell ⟨br, 3, none⟩ (.bool r.a0.v)).heap[br]? = some (.cells #[.string r.says, .string r.pred, .int .i64 r.n, .bool r.a0.v, .string r0.a0.name, .bool r0.a1.v, .string r0.a1.name, .bool r0.a2.v, .string r0.a2.name, .bool r0.a3.v, .string r0.a3.name] 42 (0, 0)) := hset_same h3 3 _
    have h5 : (((((wr.setCell ⟨br, 0, none⟩ (.string r.says)).setCell ⟨br, 1, none⟩ (.string r.pred)).setCell ⟨br, 2, none⟩ (.int .i64 r.n)).setCell ⟨br, 3, none⟩ (.bool r.a0.v)).setCell ⟨br, 4, none⟩ (.string r.a0.name)).heap[br]? = some (.cells #[.string r.says, .string r.pred, .int .i64 r.n, .bool r.a0.v, .string r.a0.name, .bool r0.a1.v, .string r0.a1.name, .bool r0.a2.v, .string r0.a2.name, .bool r0.a3.v, .string r0.a3.name] 42 (0, 0)) := hset_same h4 4 _
    have h6 : ((((((wr.setCell ⟨br, 0, none⟩ (.string r.says)).setCell ⟨br, 1, none⟩ (.string r.pred)).setCell ⟨br, 2, none⟩ (.int .i64 r.n)).setCell ⟨br, 3, none⟩ (.bool r.a0.v)).setCell ⟨br, 4, none⟩ (.string r.a0.name)).setCell ⟨br, 5, none⟩ (.bool r.a1.v)).heap[br]? = some (.cells #[.string r.says, .string r.pred, .int .i64 r.n, .bool r.a0.v, .string r.a0.name, .bool r.a1.v, .string r0.a1.name, .bool r0.a2.v, .string r0.a2.name, .bool r0.a3.v, .string r0.a3.name] 42 (0, 0)) := hset_same h5 5 _
    have h7 : (((((((wr.setCell ⟨br, 0, none⟩ (.string r.says)).setCell ⟨br, 1, none⟩ (.string r.pred)).setCell ⟨br, 2, none⟩ (.int .i64 r.n)).setCell ⟨br, 3, none⟩ (.bool r.a0.v)).setCell ⟨br, 4, none⟩ (.string r.a0.name)).setCell ⟨br, 5, none⟩ (.bool r.a1.v)).setCell ⟨br, 6, none⟩ (.string r.a1.name)).heap[br]? = some (.cells #[.string r.says, .string r.pred, .int .i64 r.n, .bool r.a0.v, .string r.a0.name, .bool r.a1.v, .string r.a1.name, .bool r0.a2.v, .string r0.a2.name, .bool r0.a3.v, .string r0.a3.name] 42 (0, 0)) := hset_same h6 6 _
    have h8 : ((((((((wr.setCell ⟨br, 0, none⟩ (.string r.says)).setCell ⟨br, 1, none⟩ (.string r.pred)).setCell ⟨br, 2, none⟩ (.int .i64 r.n)).setCell ⟨br, 3, none⟩ (.bool r.a0.v)).setCell ⟨br, 4, none⟩ (.string r.a0.name)).setCell ⟨br, 5, none⟩ (.bool r.a1.v)).setCell ⟨br, 6, none⟩ (.string r.a1.name)).setCell ⟨br, 7, none⟩ (.bool r.a2.v)).heap[br]? = some (.cells #[.string r.says, .string r.pred, .int .i64 r.n, .bool r.a0.v, .string r.a0.name, .bool r.a1.v, .string r.a1.name, .bool r.a2.v, .string r0.a2.name, .bool r0.a3.v, .string r0.a3.name] 42 (0, 0)) := hset_same h7 7 _
    have h9 : (((((((((wr.setCell ⟨br, 0, none⟩ (.string r.says)).setCell ⟨br, 1, none⟩ (.string r.pred)).setCell ⟨br, 2, none⟩ (.int .i64 r.n)).setCell ⟨br, 3, none⟩ (.bool r.a0.v)).setCell ⟨br, 4, none⟩ (.string r.a0.name)).setCell ⟨br, 5, none⟩ (.bool r.a1.v)).setCell ⟨br, 6, none⟩ (.string r.a1.name)).setCell ⟨br, 7, none⟩ (.bool r.a2.v)).setCell ⟨br, 8, none⟩ (.string r.a2.name)).heap[br]? = some (.cells #[.string r.says, .string r.pred, .int .i64 r.n, .bool r.a0.v, .string r.a0.name, .bool r.a1.v, .string r.a1.name, .bool r.a2.v, .string r.a2.name, .bool r0.a3.v, .string r0.a3.name] 42 (0, 0)) := hset_same h8 8 _
    have h10 : ((((((((((wr.setCell ⟨br, 0, none⟩ (.string r.says)).setCell ⟨br, 1, none⟩ (.string r.pred)).setCell ⟨br, 2, none⟩ (.int .i64 r.n)).setCell ⟨br, 3, none⟩ (.bool r.a0.v)).setCell ⟨br, 4, none⟩ (.string r.a0.name)).setCell ⟨br, 5, none⟩ (.bool r.a1.v)).setCell ⟨br, 6, none⟩ (.string r.a1.name)).setCell ⟨br, 7, none⟩ (.bool r.a2.v)).setCell ⟨br, 8, none⟩ (.string r.a2.name)).setCell ⟨br, 9, none⟩ (.bool r.a3.v)).heap[br]? = some (.cells #[.string r.says, .string r.pred, .int .i64 r.n, .bool r.a0.v, .string r.a0.name, .bool r.a1.v, .string r.a1.name, .bool r.a2.v, .string r.a2.name, .bool r.a3.v, .string r0.a3.name] 42 (0, 0)) := hset_same h9 9 _
    have h11 : (((((((((((wr.setCell ⟨br, 0, none⟩ (.string r.says)).setCell ⟨br, 1, none⟩ (.string r.pred)).setCell ⟨br, 2, none⟩ (.int .i64 r.n)).setCell ⟨br, 3, none⟩ (.bool r.a0.v)).setCell ⟨br, 4, none⟩ (.string r.a0.name)).setCell ⟨br, 5, none⟩ (.bool r.a1.v)).setCell ⟨br, 6, none⟩ (.string r.a1.name)).setCell ⟨br, 7, none⟩ (.bool r.a2.v)).setCell ⟨br, 8, none⟩ (.string r.a2.name)).setCell ⟨br, 9, none⟩ (.bool r.a3.v)).setCell ⟨br, 10, none⟩ (.string r.a3.name)).heap[br]? = some (.cells #[.string r.says, .string r.pred, .int .i64 r.n, .bool r.a0.v, .string r.a0.name, .bool r.a1.v, .string r.a1.name, .bool r.a2.v, .string r.a2.name, .bool r.a3.v, .string r.a3.name] 42 (0, 0)) := hset_same h10 10 _
    exact h11, (((((((((((B.setCell hge _).setCell hge _).setCell hge _).setCell hge _).setCell hge _).setCell hge _).setCell hge _).setCell hge _).setCell hge _).setCell hge _).setCell hge _)⟩

end Go.Proofs.YtaeehadibckcjaaDoor
