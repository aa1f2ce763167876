/-
  Chapter 4: the kit's LightAtom.
-/
import Derived.Test.YtinbfakpjnnagaaGreatDoorDCSm
namespace Go.Proofs.YtinbfakpjnnagaaGreatDoor
open Go.RowKit Go.Vs Go.Maps Go.ChangeMaps Go.WideMaps
def tmL (t : Tm) : Bool := decide (t.name.size ≤ 300)
def lightK (a : Atm) (k : Nat) : Bool := (decide (a.says.size ≤ 300) && decide (a.pred.size ≤ 300)) && (a.args.take k).all tmL
def lightA (a : Atm) : Bool := lightK a 4
theorem lightK_next (a : Atm) {k : Nat} (hk : k < 4) : lightK a (k + 1) = (lightK a k && tmL (a.arg k)) := by
  obtain rfl | rfl | rfl | rfl : k = 0 ∨ k = 1 ∨ k = 2 ∨ k = 3 := by omega
  all_goals simp [lightK, Atm.args, Atm.arg, Bool.and_assoc]
theorem arg_at (a : Atm) {k : Nat} (hk : k < 4) : a.cells[3 + k * 2]? = some (.bool (a.arg k).v) ∧ a.cells[3 + k * 2 + 1]? = some (.string (a.arg k).name) := by
  obtain rfl | rfl | rfl | rfl : k = 0 ∨ k = 1 ∨ k = 2 ∨ k = 3 := by omega
  all_goals exact ⟨rfl, rfl⟩
set_option maxHeartbeats 2000000 in
theorem lightA_any {w : World} (a : Atm) : Calls Tryz.prog 7 #[amV a] w fun e w' => e = .returned (.bool (lightA a)) ∧ Below w.heap.size w w' := by
  have X0 : Hid ((w.alloc (.cells a.cells 33)).heap[w.heap.size]? = some (.cells a.cells 33 (0, 0))) := halloc_new w _
  have B0 : Hid (Below w.heap.size w (w.alloc (.cells a.cells 33))) := (Below.refl _ w).alloc (Nat.le_refl _) _
  unfold amV
  go_enter Tryz.func7, Tryz.ntmps7
  go_upto_region 1 with (fail)
  generalize w.alloc (.cells a.cells 33) = w1 at *
  generalize hbx : w.heap.size = bx at *
  have HBX := Lib.hid hbx
  clear hbx
  have c0 : w1.cell? ⟨bx, 0, none⟩ = some (.string a.says) := cell_of_heap X0.out rfl
  have c1 : w1.cell? ⟨bx, 1, none⟩ = some (.string a.pred) := cell_of_heap X0.out rfl
  go_upto_region 2 with (fail)
  · have HS0 := Lib.hid ‹(a.says.size : Int) ≤ 300›
    have h5 : a.says.size ≤ 300 := by have := HS0.out; omega
    have hs0 : lightK a 0 = decide ((a.pred.size : Int) ≤ 300) := by simp [lightK, h5]; omega
    clear h5
    have HZ0 := Lib.hid hs0
    clear hs0
    go_wp2_with (fail)
    go_loopg [3, 4] (4) (fun n b i wr => ∃ k : Nat, k ≤ 4 ∧ n = 4 - k ∧ i = .int .i64 k ∧ b = .bool (lightK a k) ∧ w1 = wr)
    case atStart => exact ⟨0, by omega, by omega, rfl, by rw [HZ0.out], rfl⟩
    case round =>
      obtain ⟨k, hk, hnk, rfl, rfl, rfl⟩ := hrel
      clear HZ0 HS0 c0 c1
      by_cases hlt : k < 4
      · have jb : (k : Int) < 4 := by omega
        have ja : (0 : Int) ≤ (k : Int) := by omega
        have x1 : w1.cell? ⟨bx, 3 + k * 2 + 1, none⟩ = some (.string (a.arg k).name) := cell_of_heap X0.out (arg_at a hlt).2
        have HN := Lib.hid (lightK_next a hlt)
        generalize a.arg k = t at *
        obtain ⟨tv, tn⟩ := t
        simp only at x1
        generalize lightK a k = b at *
        cases b with
        | false =>
          go_wp2_with (fail)
          go_roundg (4 - (k + 1))
          case rel => exact ⟨k + 1, by omega, rfl, by go_num, by rw [HN.out]; rfl, rfl⟩
          case measure => omega
        | true =>
          by_cases h3 : tn.size ≤ 300
          · have h3' : (tn.size : Int) ≤ 300 := by omega
            have HM : Hid (tmL ⟨tv, tn⟩ = true) := by show _ = _; simp [tmL, h3]
            clear h3
            go_wp2_with (fail)
            go_roundg (4 - (k + 1))
            case rel => exact ⟨k + 1, by omega, rfl, by go_num, by rw [HN.out, HM.out]; rfl, rfl⟩
            case measure => omega
          · have h3' : 300 < (tn.size : Int) := by omega
            have HM : Hid (tmL ⟨tv, tn⟩ = false) := by show _ = _; simp [tmL, h3]
            clear h3
            go_wp2_with (fail)
            go_roundg (4 - (k + 1))
            case rel => exact ⟨k + 1, by omega, rfl, by go_num, by rw [HN.out, HM.out]; simp; omega, rfl⟩
            case measure => omega
      · have jb : (4 : Int) ≤ (k : Int) := by omega
        obtain rfl : k = 4 := by omega
        go_wp2_with (fail)
        go_ret
        exact ⟨rfl, by rw [HBX.out]; exact B0.out⟩
  · have HS0 := Lib.hid ‹¬ (a.says.size : Int) ≤ 300›
    have h5 : ¬ a.says.size ≤ 300 := by have := HS0.out; omega
    have hs0 : lightK a 0 = false := by simp [lightK, h5]
    clear h5
    have HZ0 := Lib.hid hs0
    clear hs0
    go_wp2_with (fail)
    go_loopg [3, 4] (4) (fun n b i wr => ∃ k : Nat, k ≤ 4 ∧ n = 4 - k ∧ i = .int .i64 k ∧ b = .bool (lightK a k) ∧ w1 = wr)
    case atStart => exact ⟨0, by omega, by omega, rfl, by rw [HZ0.out], rfl⟩
    case round =>
      obtain ⟨k, hk, hnk, rfl, rfl, rfl⟩ := hrel
      clear HZ0 HS0 c0 c1
      by_cases hlt : k < 4
      · have jb : (k : Int) < 4 := by omega
        have ja : (0 : Int) ≤ (k : Int) := by omega
        have x1 : w1.cell? ⟨bx, 3 + k * 2 + 1, none⟩ = some (.string (a.arg k).name) := cell_of_heap X0.out (arg_at a hlt).2
        have HN := Lib.hid (lightK_next a hlt)
        generalize a.arg k = t at *
        obtain ⟨tv, tn⟩ := t
        simp only at x1
        generalize lightK a k = b at *
        cases b with
        | false =>
          go_wp2_with (fail)
          go_roundg (4 - (k + 1))
          case rel => exact ⟨k + 1, by omega, rfl, by go_num, by rw [HN.out]; rfl, rfl⟩
          case measure => omega
        | true =>
          by_cases h3 : tn.size ≤ 300
          · have h3' : (tn.size : Int) ≤ 300 := by omega
            have HM : Hid (tmL ⟨tv, tn⟩ = true) := by show _ = _; simp [tmL, h3]
            clear h3
            go_wp2_with (fail)
            go_roundg (4 - (k + 1))
            case rel => exact ⟨k + 1, by omega, rfl, by go_num, by rw [HN.out, HM.out]; rfl, rfl⟩
            case measure => omega
          · have h3' : 300 < (tn.size : Int) := by omega
            have HM : Hid (tmL ⟨tv, tn⟩ = false) := by show _ = _; simp [tmL, h3]
            clear h3
            go_wp2_with (fail)
            go_roundg (4 - (k + 1))
            case rel => exact ⟨k + 1, by omega, rfl, by go_num, by rw [HN.out, HM.out]; simp; omega, rfl⟩
            case measure => omega
      · have jb : (4 : Int) ≤ (k : Int) := by omega
        obtain rfl : k = 4 := by omega
        go_wp2_with (fail)
        go_ret
        exact ⟨rfl, by rw [HBX.out]; exact B0.out⟩
end Go.Proofs.YtinbfakpjnnagaaGreatDoor
