/-
  Chapter 4: the predicate of the search for a place, as the program runs it.
-/
import Derived.Test.YtaeehadibckcjaaDoorSb
namespace Go.Proofs.YtaeehadibckcjaaDoor
open Go.RowKit Go.Vs Go.Maps Go.ChangeMaps Go.WideMaps
set_option maxRecDepth 100000

theorem gt_bl (x y : ByteArray) : (!Op.bytesLess x.toList y.toList && !x.toList == y.toList) = blt y x := by
  show (!blt x y && !x.toList == y.toList) = blt y x
  rcases blt_total x y with h | h | h
  · rw [h, blt_asymm h]; rfl
  · subst h; simp [blt_irrefl]
  · have h1 : (x.toList == y.toList) = false := by
      rw [beq_eq_false_iff_ne]
      exact fun e => blt_ne h (str_toList_inj e).symm
    rw [h, blt_asymm h, h1]
    rfl

/-- The predicate of with's search. -/
def withP (l : List Bd) (v : ByteArray) (i : Nat) : Bool := match l[i]? with | some b => blt v b.var | none => false

/-- Where it stands. -/
def place (l : List Bd) (v : ByteArray) : Nat := (l.takeWhile (fun x => !blt v x.var)).length
theorem place_le (l : List Bd) (v : ByteArray) : place l v ≤ l.length := (List.takeWhile_prefix _).length_le
theorem place_of {l : List Bd} {v : ByteArray} {i : Nat} (hr : prises l = true) (hi : i ≤ l.length) (h0 : 0 < i → withP l v (i - 1) = false) (h1 : i < l.length → withP l v i = true) : i = place l v := by
  have hl : ∀ a ∈ l.take i, (fun x : Bd => !blt v x.var) a = true := fun a ha => by
    obtain ⟨j, hj, rfl⟩ := List.mem_iff_getElem.1 ha
    rw [List.length_take] at hj
    have hp := h0 (by omega)
    unfold withP at hp
    rw [List.getElem?_eq_getElem (by omega)] at hp
    simp only at hp
    simp only [List.getElem_take, Bool.not_eq_true']
    by_cases e : j = i - 1
    · subst e; exact hp
    · have h2 := List.pairwise_iff_getElem.1 (prises_lt hr) j (i - 1) (by omega) (by omega) (by omega)
      rw [Bool.eq_false_iff]
      intro h3
      rw [blt_trans h3 h2] at hp
      cases hp
  have e : l.takeWhile (fun x => !blt v x.var) = l.take i := by
    conv => lhs; rw [← List.take_append_drop i l]
    rw [List.takeWhile_append_of_pos hl]
    have : (l.drop i).takeWhile (fun x => !blt v x.var) = [] := by
      by_cases hlt : i < l.length
      · have h2 := h1 hlt
        unfold withP at h2
        rw [List.getElem?_eq_getElem hlt] at h2
        simp only at h2
        rw [List.drop_eq_getElem_cons hlt, List.takeWhile_cons_of_neg (by simp [h2])]
      · rw [List.drop_eq_nil_of_le (by omega)]
        rfl
    rw [this, List.append_nil]
  unfold place
  rw [e, List.length_take]
  omega

end Go.Proofs.YtaeehadibckcjaaDoor
