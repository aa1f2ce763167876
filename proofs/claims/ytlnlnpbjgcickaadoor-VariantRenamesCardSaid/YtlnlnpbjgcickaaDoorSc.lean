/-
  Chapter 4: the contract of Get.
-/
import Derived.Test.YtlnlnpbjgcickaaDoorSb
namespace Go.Proofs.YtlnlnpbjgcickaaDoor
open Go.RowKit Go.Vs Go.Maps Go.ChangeMaps Go.WideMaps

theorem pget_at {l : List Bd} {v : ByteArray} {k : Nat} (hk : k < l.length) (hp : ∀ j (h : j < l.length), j < k → l[j].var ≠ v) (he : l[k].var = v) : pget l v = some l[k].t := by
  unfold pget
  have e : l.find? (fun b => decide (b.var = v)) = some l[k] := by
    rw [List.find?_eq_some_iff_getElem]
    exact ⟨by simpa using he, k, hk, rfl, fun j hj => by simpa using hp j (by omega) hj⟩
  rw [e]
  rfl

theorem pget_none {l : List Bd} {v : ByteArray} (hp : ∀ j (h : j < l.length), l[j].var ≠ v) : pget l v = none := by
  unfold pget
  rw [List.find?_eq_none.2]
  · rfl
  · intro x hx
    obtain ⟨j, hj, rfl⟩ := List.mem_iff_getElem.1 hx
    simpa using hp j hj

theorem search_lt {l : List Bd} {v : ByteArray} {s : Nat} (hr : prises l = true) (hs : s ≤ l.length) (h : 0 < s → getP l v (s - 1) = false) : ∀ j (h : j < l.length), j < s → l[j].var ≠ v := by
  intro j hj hjs
  have h1 := h (by omega)
  unfold getP at h1
  rw [List.getElem?_eq_getElem (by omega)] at h1
  have h2 : blt (l[s - 1]'(by omega)).var v = true := by simpa using h1
  by_cases e : j = s - 1
  · subst e
    exact blt_ne h2
  · have := List.pairwise_iff_getElem.1 (prises_lt hr) j (s - 1) hj (by omega) (by omega)
    exact blt_ne (blt_trans this h2)

def tmV (t : Tm) : Value := .agg #[.bool t.v, .string t.name]
def noTm : Tm := ⟨false, ⟨#[]⟩⟩

/-- What Get has made: the list, the name, the result. -/
def GetS (W : World) (bl bv br : Nat) (vl : Value) (l : List Bd) (v : ByteArray) (w : World) : Prop :=
  Below W.heap.size W w ∧ w.heap[bl]? = some (.cells #[vl] 42 (0, 0)) ∧ w.heap[bv]? = some (.cells #[.string v] 9 (0, 0)) ∧ (∃ x y, w.heap[br]? = some (.cells #[x, y] 27 (0, 0))) ∧ RdB w vl l ∧ W.heap.size ≤ br

theorem GetS.drewN {W w : World} {bl bv br : Nat} {vl : Value} {l : List Bd} {v : ByteArray} (h : GetS W bl bv br vl l v w) (n : Nat) : GetS W bl bv br vl l v (w.drewN n) :=
  ⟨h.1.trans ⟨rfl, rfl, rfl, Nat.le_refl _, fun _ _ => rfl⟩, h.2.1, h.2.2.1, h.2.2.2.1, h.2.2.2.2.1, h.2.2.2.2.2⟩

theorem get_end {W w : World} {bl bv br n : Nat} {vl X Y y0 y1 : Value} {l : List Bd} {v : ByteArray} (G : GetS W bl bv br vl l v w) (hbr : w.heap[br]? = some (.cells #[y0, y1] 27 (0, 0))) :
    (((w.drewN n).setCell ⟨br, 0, none⟩ X).setCell ⟨br, 1, none⟩ Y).cell? ⟨br, 0, none⟩ = some X ∧ (((w.drewN n).setCell ⟨br, 0, none⟩ X).setCell ⟨br, 1, none⟩ Y).cell? ⟨br, 1, none⟩ = some Y ∧
    Below W.heap.size W (((w.drewN n).setCell ⟨br, 0, none⟩ X).setCell ⟨br, 1, none⟩ Y) := by
  have h0 : (w.drewN n).heap[br]? = some (.cells #[y0, y1] 27 (0, 0)) := hbr
  have h1 := hset_same h0 0 X
  have h2 := hset_same h1 1 Y
  exact ⟨cell_of_heap h2 rfl, cell_of_heap h2 rfl, ((G.drewN n).1.setCell G.2.2.2.2.2 _).setCell G.2.2.2.2.2 _⟩

end Go.Proofs.YtlnlnpbjgcickaaDoor
