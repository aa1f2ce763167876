/-
  Chapter 4: slices.Contains of strings, Restrict.
-/
import Derived.Test.YtkkkpbnehpfkkaaSf
namespace Go.Proofs.Ytkkkpbnehpfkkaa
open Go.RowKit Go.Vs Go.Maps Go.ChangeMaps Go.WideMaps

theorem pin_yes {xs : List ByteArray} {s : ByteArray} {k : Nat} (hk : k < xs.length) (he : xs[k] = s) : pin xs s = true := by
  unfold pin
  rw [List.any_eq_true]
  exact ⟨xs[k], List.getElem_mem hk, by simpa using he⟩

theorem pin_no {xs : List ByteArray} {s : ByteArray} (hp : ∀ j (h : j < xs.length), xs[j] ≠ s) : pin xs s = false := by
  unfold pin
  rw [List.any_eq_false]
  intro x hx
  obtain ⟨j, hj, rfl⟩ := List.mem_iff_getElem.1 hx
  simpa using hp j hj

set_option maxHeartbeats 1000000 in
theorem index_any {w : World} {v : Value} {xs : List ByteArray} (h : RdS w v xs) (s : ByteArray) :
    Calls Try.prog 56 #[v, .string s] w fun e w' => (∃ r : Int, e = .returned (.int .i64 r) ∧ decide (0 ≤ r) = pin xs s) ∧ ∃ q, w' = w.drewN q := by
  obtain ⟨a, cap, rfl, hn, hc⟩ := h.shape
  unfold maxLen at hn
  have HC := Lib.hid hc
  clear hc h
  go_enter Try.func56, Try.ntmps56
  go_wp2
  go_loopg [5, 8] (xs.length) (fun n _ i wr => ∃ k : Nat, k ≤ xs.length ∧ n = xs.length - k ∧ i = .int .i64 k ∧ Aside (∀ j (h : j < xs.length), j < k → xs[j] ≠ s) ∧ ∃ q, wr = w.drewN q)
  case atStart => exact ⟨0, by omega, by omega, rfl, (by intro j h hj; omega), 0, rfl⟩
  case round =>
    obtain ⟨k, hk, hnk, rfl, hp, q, rfl⟩ := hrel
    by_cases hlt : k < xs.length
    · obtain ⟨g, off, rfl, _, _, _, hcell⟩ := HC.out (by omega)
      have c0 := RdS.cell hcell hlt
      have ja : (0 : Int) ≤ (k : Int) := by omega
      have jb : (k : Int) < (xs.length : Int) := by omega
      clear hcell
      by_cases he : xs[k] = s
      · have HP := Lib.hid (pin_yes hlt he)
        have hq := str_eq s
        rw [he] at c0
        clear he hp
        go_wp2_with (fail)
        go_ret
        exact ⟨⟨_, rfl, by rw [HP.out]; simp⟩, by first | exact ⟨_, rfl⟩ | exact ⟨_, drewN_twice _ _ _⟩⟩
      · have hq := str_ne (Ne.symm he)
        have HN : Hid (∀ j (h : j < xs.length), j < k + 1 → xs[j] ≠ s) := fun j h hj => by
          by_cases e : j = k
          · subst e; exact he
          · exact hp.out j h (by omega)
        clear he hp
        go_wp2_with (fail)
        go_roundg (xs.length - (k + 1))
        case rel => exact ⟨k + 1, by omega, rfl, by go_num, HN.out, by first | exact ⟨_, rfl⟩ | exact ⟨_, drewN_twice _ _ _⟩⟩
        case measure => omega
    · have HP := Lib.hid (pin_no (xs := xs) (s := s) fun j h => hp.out j h (by omega))
      clear hp
      go_wp2_with (fail)
      go_ret
      exact ⟨⟨_, rfl, by rw [HP.out]; simp⟩, q, rfl⟩

theorem contains_any {w : World} {v : Value} {xs : List ByteArray} (h : RdS w v xs) (s : ByteArray) :
    Calls Try.prog 43 #[v, .string s] w fun e w' => e = .returned (.bool (pin xs s)) ∧ ∃ q, w' = w.drewN q := by
  obtain ⟨a, cap, rfl, _⟩ := h.shape
  have K := Lib.hid (index_any h s)
  clear h
  go_enter Try.func43, Try.ntmps43
  go_wp2_with (fail)
  refine (K.out).mono ?_
  rintro _ w' ⟨⟨r, rfl, hr⟩, q, rfl⟩
  have HRR := Lib.hid hr
  clear hr
  go_wp2_with (fail)
  go_ret
  exact ⟨by rw [← HRR.out]; rfl, q, rfl⟩

end Go.Proofs.Ytkkkpbnehpfkkaa
