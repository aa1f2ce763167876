/-
  Chapter 4: the contracts of rises, Get, Term.
-/
import Derived.Test.YtkkkpbnehpfkkaaChecked
import Derived.Test.YtkkkpbnehpfkkaaRows
import Derived.WalkLawsBesides
import Derived.Lib.Hide
import Derived.Deep.LoopGhost
import Derived.Deep.QuietTactic
import Derived.BigRegion
import Derived.Test.YtkkkpbnehpfkkaaSub
import Derived.Test.YtkkkpbnehpfkkaaSeq
import Derived.Test.YtkkkpbnehpfkkaaOpen
import Derived.BigQuiet
import Derived.IntWalk
import Derived.Deep.DeepCutAuto
namespace Go.Proofs.Ytkkkpbnehpfkkaa
open Go.RowKit Go.Vs Go.Maps Go.ChangeMaps Go.WideMaps

theorem RdB.cells {w : World} {l : List Bd} {b off : Nat} (h : ∀ j u, (l.flatMap Bd.enc)[j]? = some u → w.cell? ⟨b, off + j, none⟩ = some u) {i : Nat} (hi : i < l.length) :
    w.cell? ⟨b, off + i * 3, none⟩ = some (.string l[i].var) ∧ w.cell? ⟨b, off + i * 3 + 1, none⟩ = some (.bool l[i].t.v) ∧ w.cell? ⟨b, off + i * 3 + 2, none⟩ = some (.string l[i].t.name) := by
  have k : ∀ j u, j < 3 → (Bd.enc l[i])[j]? = some u → w.cell? ⟨b, off + i * 3 + j, none⟩ = some u := fun j u hj hu => by
    have := h (i * 3 + j) u (by rw [flat_get Bd.enc 3 (fun _ => rfl) l i j hi hj]; exact hu)
    rwa [← Nat.add_assoc] at this
  exact ⟨k 0 _ (by omega) rfl, k 1 _ (by omega) rfl, k 2 _ (by omega) rfl⟩

theorem rises_next {l : List Bd} {k : Nat} (hk0 : 0 < k) (hlt : k < l.length) (hp : ∀ i (h : i + 1 < l.length), i + 1 < k → blt (l[i]'(by omega)).var l[i + 1].var = true) (hb : blt l[k - 1].var l[k].var = true) :
    Aside (∀ i (h : i + 1 < l.length), i + 1 < k + 1 → blt (l[i]'(by omega)).var l[i + 1].var = true) := by
  intro i h h2
  by_cases e : i + 1 < k
  · exact hp i h e
  · obtain rfl : k = i + 1 := by omega
    exact hb

theorem rises_no {l : List Bd} {k : Nat} (hk0 : 0 < k) (hlt : k < l.length) (hb : blt l[k - 1].var l[k].var = false) : prises l = false := by
  cases h : prises l with
  | false => rfl
  | true =>
    have := prises_iff.1 h (k - 1) (by omega)
    have e : l[k - 1 + 1]'(by omega) = l[k] := by congr 1; omega
    rw [e, hb] at this
    cases this

set_option maxHeartbeats 1000000 in
theorem rises_any {w : World} {v : Value} {l : List Bd} (h : RdB w v l) : Calls Try.prog 47 #[v] w fun e w' => e = .returned (.bool (prises l)) ∧ ∃ q, w' = w.drewN q := by
  obtain ⟨a, cap, rfl, hn, hc⟩ := h.shape
  unfold maxLen at hn
  have HC := Lib.hid hc
  clear hc h
  go_enter Try.func47, Try.ntmps47
  go_wp2
  go_loopg [3, 6] (l.length) (fun n _ i wr => ∃ k : Nat, k ≤ l.length ∧ n = l.length - k ∧ i = .int .i64 k ∧ Aside (∀ i (h : i + 1 < l.length), i + 1 < k → blt (l[i]'(by omega)).var l[i + 1].var = true) ∧ ∃ q, wr = w.drewN q)
  case atStart => exact ⟨0, by omega, by omega, rfl, (by intro i h h2; omega), 0, rfl⟩
  case round =>
    obtain ⟨k, hk, hnk, rfl, hp, q, rfl⟩ := hrel
    by_cases hlt : k < l.length
    · obtain ⟨g, off, rfl, _, _, _, hcell⟩ := HC.out (by omega)
      obtain ⟨c0, _, _⟩ := RdB.cells hcell hlt
      by_cases hk0 : 0 < k
      · obtain ⟨d0, _, _⟩ := RdB.cells hcell (i := k - 1) (by omega)
        have jw : IntKind.i64.wrap ((k : Int) - 1) = ((k - 1 : Nat) : Int) := by rw [show (k : Int) - 1 = ((k - 1 : Nat) : Int) by omega]; exact Go.IntWalk.i64_in _ (by omega)
        have ja : (0 : Int) ≤ ((k - 1 : Nat) : Int) := by omega
        have jb : ((k - 1 : Nat) : Int) < (l.length : Int) := by omega
        have jc : (k : Int) < (l.length : Int) := by omega
        have jd : decide ((0 : Int) < (k : Int)) = true := by simpa using hk0
        clear hcell
        cases hb : blt l[k - 1].var l[k].var with
        | true =>
          have HB := Lib.hid hb
          unfold blt at hb
          go_wp2
          go_quiet (fail)
          go_wp2
          go_roundg (l.length - (k + 1))
          case rel => exact ⟨k + 1, by omega, rfl, by go_num, rises_next hk0 hlt hp.out HB.out, by first | exact ⟨_, rfl⟩ | exact ⟨_, drewN_twice _ _ _⟩⟩
          case measure => omega
        | false =>
          have HP : Hid (prises l = false) := rises_no hk0 hlt hb
          unfold blt at hb
          go_wp2
          go_quiet (fail)
          go_wp2
          go_ret
          exact ⟨by rw [HP.out]; rfl, by first | exact ⟨_, rfl⟩ | exact ⟨_, drewN_twice _ _ _⟩⟩
      · obtain rfl : k = 0 := by omega
        have jd : decide ((0 : Int) < ((0 : Nat) : Int)) = false := by simp
        clear hcell hk0
        go_wp2
        go_quiet (fail)
        go_wp2
        go_roundg (l.length - (0 + 1))
        case rel => exact ⟨1, by omega, rfl, by go_num, (by intro i h h2; omega), by first | exact ⟨_, rfl⟩ | exact ⟨_, drewN_twice _ _ _⟩⟩
        case measure => omega
    · have HP : Hid (prises l = true) := prises_iff.2 fun i h => hp.out i h (by omega)
      go_wp2
      go_ret
      exact ⟨by rw [HP.out]; rfl, q, rfl⟩

end Go.Proofs.Ytkkkpbnehpfkkaa
