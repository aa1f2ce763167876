/-
  The kit's functions: Pick, Same, Own, Times.
-/
import Derived.Test.YtbmkeapebmlggaaRows
import Derived.Test.YtbmkeapebmlggaaRow
import Derived.WalkKit
import Derived.WalkSpells
import Derived.WalkLawsBesides
import Derived.RegionTactic
import Derived.BigRegion
import Derived.Lib.Hide
import Derived.BigQuiet
import Derived.Deep.QuietTactic
import Derived.Deep.LoopGhost
namespace Go.Proofs.Ytbmkeapebmlggaa
open Go.RowKit Go.Vs

theorem drewN_drewN (w : World) (a b : Nat) : (w.drewN a).drewN b = w.drewN (a + b) := by simp [World.drewN, Nat.add_assoc]

def SamePost (xs ys : List ByteArray) (w : World) (e : Ending) (w' : World) : Prop := e = .returned (.bool (decide (xs = ys))) ∧ ∃ k, w' = w.drewN k

theorem same_step {xs ys : List ByteArray} (i : Nat) (hl : xs.length = ys.length) (hi : i < xs.length) (hne : xs[i] ≠ ys[i]) : decide (xs = ys) = false := by
  simp only [decide_eq_false_iff_not]
  intro h
  subst h
  exact hne rfl

theorem take_succ_eq {xs ys : List ByteArray} (i : Nat) (hi : i < xs.length) (hj : i < ys.length) (h : xs.take i = ys.take i) (he : xs[i] = ys[i]) : xs.take (i + 1) = ys.take (i + 1) := by
  rw [List.take_succ_eq_append_getElem hi, List.take_succ_eq_append_getElem hj, h, he]

set_option maxHeartbeats 1000000 in
theorem same_any {w : World} {va vb : Value} {xs ys : List ByteArray} (ha : RdS w va xs) (hb : RdS w vb ys) :
    Calls Try.prog 13 #[va, vb] w (SamePost xs ys w) := by
  obtain ⟨a, capa, rfl, hna, hca⟩ := ha.shape
  obtain ⟨b, capb, rfl, hnb, hcb⟩ := hb.shape
  unfold maxLen at hna hnb
  by_cases hl : xs.length = ys.length
  · have hl1 : ((xs.length : Int) != (ys.length : Int)) = false := by simp [hl]
    have HL := Lib.hid hl
    have HCA := Lib.hid hca
    have HCB := Lib.hid hcb
    clear hl ha hb hca hcb
    go_enter Try.func13, Try.ntmps13
    go_wp2
    go_loopg [5] (xs.length) (fun n i wr => ∃ k : Nat, k ≤ xs.length ∧ n = xs.length - k ∧ i = .int .i64 k ∧ Aside (xs.take k = ys.take k) ∧ ∃ q, wr = w.drewN q)
    case atStart => exact ⟨0, by omega, by omega, rfl, (by simp [Aside]), 0, rfl⟩
    case round =>
      obtain ⟨k, hk, hn, rfl, htk, q, rfl⟩ := hrel
      by_cases hlt : k < xs.length
      · obtain ⟨ba, oa, rfl, _, _, _, ca⟩ := HCA.out (by omega)
        obtain ⟨bb, ob, rfl, _, _, _, cb⟩ := HCB.out (by have := HL.out; omega)
        have hlt2 : k < ys.length := by have := HL.out; omega
        have c1 := RdS.cell ca hlt
        have c2 := RdS.cell cb hlt2
        clear ca cb
        by_cases he : xs[k] = ys[k]
        · have hb := str_eq ys[k]
          have HE := Lib.hid he
          rw [he] at c1
          clear he
          go_wp2
          go_quiet (fail)
          go_wp2
          go_roundg (xs.length - (k + 1))
          case rel => exact ⟨k + 1, by omega, rfl, by go_num, take_succ_eq k hlt hlt2 htk.out HE.out, by first | exact ⟨_, rfl⟩ | exact ⟨_, drewN_drewN _ _ _⟩⟩
          case measure => omega
        · have hb := str_ne he
          have HE := Lib.hid he
          clear he
          go_wp2
          go_quiet (fail)
          go_wp2
          go_ret
          refine ⟨?_, by first | exact ⟨_, rfl⟩ | exact ⟨_, drewN_drewN _ _ _⟩⟩
          rw [same_step k HL.out hlt HE.out]
          rfl
      · go_wp2
        go_ret
        refine ⟨?_, _, rfl⟩
        have h1 : k = xs.length := by omega
        have h2 := htk.out
        have h3 := HL.out
        rw [List.take_of_length_le (by omega), List.take_of_length_le (by omega)] at h2
        simp [h2]
  · have hl1 : ((xs.length : Int) != (ys.length : Int)) = true := by simp; omega
    have hl2 : (xs.length == ys.length) = false := by simpa using hl
    have HL := Lib.hid hl
    clear hl hca hcb
    go_enter Try.func13, Try.ntmps13
    go_wp2
    go_ret
    refine ⟨?_, 0, rfl⟩
    have : decide (xs = ys) = false := by simp; intro h; exact HL.out (by rw [h])
    rw [this]
    rfl

theorem pick_tmod (n m : Int) (hm : 1 ≤ m) : (n.tmod m < 0 → n.tmod m + m = n % m) ∧ (0 ≤ n.tmod m → n.tmod m = n % m) := by
  have h1 := Int.tmod_eq_emod (a := n) (b := m)
  have h2 := Int.emod_lt_of_pos n (show 0 < m by omega)
  have h3 := Int.emod_nonneg n (show m ≠ 0 by omega)
  rw [h1]
  split <;> omega

set_option maxHeartbeats 400000 in
theorem pick_any (n m : Int) (hm : 1 ≤ m) (hm2 : m ≤ 1000) (w : World) :
    Calls Try.prog 9 #[.int .i64 n, .int .i64 m] w fun e w' => e = .returned (.int .i64 (n % m)) ∧ w = w' := by
  have hp := pick_tmod n m hm
  have hb : -1000 ≤ n.tmod m ∧ n.tmod m ≤ 1000 := by
    have h1 := Int.tmod_eq_emod (a := n) (b := m)
    have h2 := Int.emod_lt_of_pos n (show 0 < m by omega)
    have h3 := Int.emod_nonneg n (show m ≠ 0 by omega)
    rw [h1]
    split <;> omega
  have HP := Lib.hid hp
  obtain ⟨hb1, hb2⟩ := hb
  clear hp
  by_cases hneg : n.tmod m < 0
  · go_enter Try.func9, Try.ntmps9
    go_wp2
    go_ret
    exact ⟨by rw [← HP.out.1 hneg]; rfl, rfl⟩
  · have hneg' : 0 ≤ n.tmod m := by omega
    go_enter Try.func9, Try.ntmps9
    go_wp2
    go_ret
    exact ⟨by rw [← HP.out.2 hneg']; rfl, rfl⟩

end Go.Proofs.Ytbmkeapebmlggaa
