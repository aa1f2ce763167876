/-
  Chapter 4: two, lives.
-/
import Derived.Test.YtkkkpbnehpfkkaaSl
namespace Go.Proofs.Ytkkkpbnehpfkkaa
open Go.RowKit Go.Vs Go.Maps Go.ChangeMaps Go.WideMaps

def twoL : List Bd := [⟨⟨#[88]⟩, ⟨false, ⟨#[98]⟩⟩⟩, ⟨⟨#[89]⟩, ⟨true, ⟨#[90]⟩⟩⟩]

set_option maxHeartbeats 1000000 in
theorem two_any {w : World} : Calls Try.prog 32 #[] w (NewB twoL w) := by
  have K1 := Lib.hid fun w => c_any (w := w) ⟨#[98]⟩
  have K2 := Lib.hid fun w => v_any (w := w) ⟨#[90]⟩
  unfold tmV at K1 K2
  go_enter Try.func32, Try.ntmps32
  go_wp2_with (fail)
  refine (K1.out _).mono ?_
  rintro _ w1 ⟨rfl, B1⟩
  go_wp2_with (fail)
  refine (K2.out _).mono ?_
  rintro _ w2 ⟨rfl, B2⟩
  go_wp2_with (fail)
  go_ret
  refine ⟨_, rfl, rd_new w2 #[.string ⟨#[88]⟩, .bool false, .string ⟨#[98]⟩, .string ⟨#[89]⟩, .bool true, .string ⟨#[90]⟩] 36 3 2 rfl (by unfold maxLen; omega), (B1.trans (B2.mono B1.size)).alloc (Nat.le_trans B1.size B2.size) _, ?_⟩
  intro b hb
  injection hb with hb
  rw [← hb]
  exact Nat.le_trans B1.size B2.size

def sAlice : ByteArray := ⟨#[97, 108, 105, 99, 101]⟩
def sP : ByteArray := ⟨#[112]⟩
def goal1 : Atm := pA sAlice sP [⟨#[88]⟩, ⟨#[89]⟩, ⟨#[97]⟩]
def goal2 : Atm := pA sAlice sP [⟨#[98]⟩, ⟨#[90]⟩, ⟨#[97]⟩]

theorem two_goal : papp twoL goal1 = goal2 := by decide +kernel
theorem two_ok : pcheck twoL = true := by
  have h : prises twoL = true := by
    simp only [twoL, prises, blt, ByteArray.toList_eq]
    decide +kernel
  unfold pcheck
  rw [h, Bool.true_and]
  decide +kernel
theorem goal2_okay : Atm.okay goal2 := by
  refine ⟨?_, ?_, by decide +kernel, ?_, ?_, ?_, ?_⟩
  all_goals (try unfold Tm.okay) <;> (unfold maxLen; decide +kernel)

set_option maxHeartbeats 2000000 in
theorem lives_any {w : World} : Calls Try.prog 9 #[] w fun e w' => e = .returned (.bool true) ∧ Below w.heap.size w w' := by
  have KT := Lib.hid fun w => two_any (w := w)
  have HQ := fun w => eq_at goal2_okay goal2_okay w
  have HOK := Lib.hid two_ok
  have HGO := Lib.hid two_goal
  unfold amV at HQ
  simp only [decide_true] at HQ
  go_enter Try.func9, Try.ntmps9
  go_wp2_with (fail)
  refine (KT.out _).mono ?_
  rintro _ w1 ⟨v1, rfl, R1, B1, _⟩
  have K1 := Lib.hid (check_any R1 (by decide))
  rw [HOK.out] at K1
  have HB1 := Lib.hid B1
  clear R1 B1
  go_wp2_with (fail)
  refine (K1.out).mono ?_
  rintro _ w2 ⟨rfl, B2⟩
  have HB2 := Lib.hid (HB1.out.trans (B2.mono HB1.out.size))
  clear K1 HB1 B2
  unfold errno
  go_wp2_with (fail)
  refine (KT.out _).mono ?_
  rintro _ w3 ⟨v2, rfl, R3, B3, _⟩
  have HB3 := Lib.hid (HB2.out.trans (B3.mono HB2.out.size))
  have HR3 := Lib.hid R3
  clear HB2 B3 R3
  have V3 : Hid (RdS (w3.alloc (.cells #[.string ⟨#[88]⟩, .string ⟨#[89]⟩, .string ⟨#[97]⟩] 9)) (.slice (some ⟨w3.heap.size, 0, none⟩) 3 3) [⟨#[88]⟩, ⟨#[89]⟩, ⟨#[97]⟩]) := rd_new w3 #[.string ⟨#[88]⟩, .string ⟨#[89]⟩, .string ⟨#[97]⟩] 9 1 3 rfl (by unfold maxLen; omega)
  have B4 : Hid (Below w3.heap.size w3 (w3.alloc (.cells #[.string ⟨#[88]⟩, .string ⟨#[89]⟩, .string ⟨#[97]⟩] 9))) := (Below.refl _ w3).alloc (Nat.le_refl _) _
  have KA := Lib.hid (a_any V3.out (by decide) sAlice sP)
  unfold sAlice sP at KA
  go_wp2_with (fail)
  refine (KA.out).mono ?_
  rintro _ w5 ⟨rfl, B5⟩
  have B5' := Lib.hid (B4.out.trans (B5.mono B4.out.size))
  have HB5 := Lib.hid (HB3.out.trans (B5'.out.mono HB3.out.size))
  have KP := Lib.hid (apply_any (Rd.kept HR3.out B5'.out) (by decide) goal1)
  rw [HGO.out] at KP
  clear KA V3 B4 B5 HB3 B5' HR3
  unfold goal1 sAlice sP at KP
  go_wp2_with (fail)
  refine (KP.out).mono ?_
  rintro _ w6 ⟨rfl, B6⟩
  have HB6 := Lib.hid (HB5.out.trans (B6.mono HB5.out.size))
  clear KP HB5 B6
  have V6 : Hid (RdS (w6.alloc (.cells #[.string ⟨#[98]⟩, .string ⟨#[90]⟩, .string ⟨#[97]⟩] 9)) (.slice (some ⟨w6.heap.size, 0, none⟩) 3 3) [⟨#[98]⟩, ⟨#[90]⟩, ⟨#[97]⟩]) := rd_new w6 #[.string ⟨#[98]⟩, .string ⟨#[90]⟩, .string ⟨#[97]⟩] 9 1 3 rfl (by unfold maxLen; omega)
  have B7 : Hid (Below w6.heap.size w6 (w6.alloc (.cells #[.string ⟨#[98]⟩, .string ⟨#[90]⟩, .string ⟨#[97]⟩] 9))) := (Below.refl _ w6).alloc (Nat.le_refl _) _
  have KA : Hid (Calls _ _ _ _ fun e w' => e = .returned (amV goal2) ∧ _) := a_any V6.out (by decide) sAlice sP
  unfold sAlice sP at KA
  unfold amV
  go_wp2_with (fail)
  refine (KA.out).mono ?_
  rintro _ w8 ⟨rfl, B8⟩
  have HB8 := Lib.hid (HB6.out.trans ((B7.out.trans (B8.mono B7.out.size)).mono HB6.out.size))
  clear KA V6 B7 B8 HB6
  unfold amV
  go_wp2_with (fail)
  go_ret
  exact ⟨rfl, HB8.out⟩
end Go.Proofs.Ytkkkpbnehpfkkaa
