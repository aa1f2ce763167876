/-
  Chapter 4: the contract of Get.
-/
import Derived.Test.YtaeehadibckcjaaDoorSb
namespace Go.Proofs.YtaeehadibckcjaaDoor
open Go.RowKit Go.Vs Go.Maps Go.ChangeMaps Go.WideMaps

theorem pget_at {l : List Bd} {v : ByteArray} {k : Nat} (hk : k < l.length) (hp : ∀ j (h : j < l.length), j < k → l[j].var ≠ v) (he : l[k].var = v) : pget l v = some l[k].t := by
  unfold pget
  have e : l.find? (fun b => decide (b.var = v)) = some l[k] := by
    rw [List.find?_eq_some_iff_getElem]
    exact ⟨by simpa using he, k, hk, rfl, fun j hj => by simpa using hp j (by omega) hj⟩
  rw [e]
  rfl

theorem pget_none {l : List Bd} {v : ByteArray} (hp : ∀ j (h : j < l.length), l[j].var ≠ v) : pget l v = none := by
  unfold pget
  rw [List.find?_eq_none.2]
  · rfl
  · intro x hx
    obtain ⟨j, hj, rfl⟩ := List.mem_iff_getElem.1 hx
    simpa using hp j hj

theorem search_lt {l : List Bd} {v : ByteArray} {s : Nat} (hr : prises l = true) (hs : s ≤ l.length) (h : 0 < s → getP l v (s - 1) = false) : ∀ j (h : j < l.length), j < s → l[j].var ≠ v := by
  intro j hj hjs
  have h1 := h (by omega)
  unfold getP at h1
  rw [List.getElem?_eq_getElem (by omega)] at h1
  have h2 : blt (l[s - 1]'(by omega)).var v = true := by simpa using h1
  by_cases e : j = s - 1
  · subst e
    exact blt_ne h2
  · have := List.pairwise_iff_getElem.1 (prises_lt hr) j (s - 1) hj (by omega) (by omega)
    exact blt_ne (blt_trans this h2)

def tmV (t : Tm) : Value := .agg #[.bool t.v, .string t.name]
def noTm : Tm := ⟨false, ⟨#[]⟩⟩

end Go.Proofs.YtaeehadibckcjaaDoor
