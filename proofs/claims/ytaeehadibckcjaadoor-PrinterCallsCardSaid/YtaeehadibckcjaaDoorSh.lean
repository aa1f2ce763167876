/-
  Chapter 4: Restrict.
-/
import Derived.Test.YtaeehadibckcjaaDoorSg
namespace Go.Proofs.YtaeehadibckcjaaDoor
open Go.RowKit Go.Vs Go.Maps Go.ChangeMaps Go.WideMaps

theorem bd_one (b : Bd) : ∀ u ∈ (#[Value.string b.var, Value.bool b.t.v, Value.string b.t.name]).toList, u.oneCell' = true := by
  intro u hu
  simp at hu
  rcases hu with rfl | rfl | rfl <;> rfl

theorem restrict_in {l : List Bd} {vars : List ByteArray} {k : Nat} (hk : k < l.length) (h : pin vars l[k].var = true) : prestrict (l.take (k + 1)) vars = prestrict (l.take k) vars ++ [l[k]] := by
  unfold prestrict
  rw [List.take_succ_eq_append_getElem hk, List.filter_append]
  simp [h]

theorem restrict_out {l : List Bd} {vars : List ByteArray} {k : Nat} (hk : k < l.length) (h : pin vars l[k].var = false) : prestrict (l.take (k + 1)) vars = prestrict (l.take k) vars := by
  unfold prestrict
  rw [List.take_succ_eq_append_getElem hk, List.filter_append]
  simp [h]

end Go.Proofs.YtaeehadibckcjaaDoor
