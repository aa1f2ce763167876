/-
  The chapter's example.
-/
import Derived.Test.YtbmkeapebmlggaaCg
namespace Go.Proofs.Ytbmkeapebmlggaa
open Go.RowKit Go.Vs Go.Maps Go.ChangeMaps Go.WideMaps

/-- Since world a only new blocks have turned, F among them. -/
structure Since (a : World) (F : Nat → Prop) (w : World) : Prop where
  below : Below a.heap.size a w
  ge : ∀ k, F k → a.heap.size ≤ k

theorem Since.start (a : World) : Since a (fun _ => False) a := ⟨Below.refl _ _, fun _ h => h.elim⟩
theorem Since.step {a w w' : World} {F : Nat → Prop} (s : Since a F w) (t : Turns F w w') : Since a (Fp F w w') w' :=
  ⟨s.below.trans (t.below s.below.size s.ge), fun k hk => by
    rcases hk with h | h
    · exact s.ge k h
    · exact Nat.le_trans s.below.size h.1⟩
theorem Since.same {a w w' : World} {F : Nat → Prop} (s : Since a F w) (t : Below w.heap.size w w') : Since a F w' := ⟨s.below.trans (t.mono s.below.size), s.ge⟩

theorem CA.below {F : Nat → Prop} {w w' : World} {p : Value} {L : List Dat} {room h m : Int} (c : CA F w p L room h m) (t : Below w.heap.size w w') : CA F w' p L room h m :=
  c.turns (G := fun k => w.heap.size ≤ k) ⟨t.os, t.tape, t.output, t.size, fun k hk _ => t.block k hk⟩ (fun k hk hg => by have := c.lt k hk; omega)

theorem pput_one (s v s2 v2 k k2 : ByteArray) (h : k ≠ k2) : pput 1 k2 s2 v2 (pput 1 k s v []) = [(k2, s2, v2)] := by
  have h1 : pdrop k [] = [] := rfl
  have h2 : pput 1 k s v [] = [(k, s, v)] := by unfold pput; rw [h1]; rfl
  rw [h2]
  have h3 : pdrop k2 [(k, s, v)] = [(k, s, v)] := by simp [pdrop, h]
  unfold pput
  rw [h3]
  rfl

theorem lives_end {w4 : World} {v4 : Value} {xs : List ByteArray} (hx : xs = [⟨#[98]⟩]) (R : RdS w4 v4 xs) :
    Calls Try.prog 13 #[v4, .slice (some ⟨w4.heap.size, 0, none⟩) 1 1] (w4.alloc (.cells #[.string ⟨#[98]⟩] 9)) fun e w' => e = .returned (.bool true) ∧ Below w4.heap.size w4 w' := by
  have h1 : RdS (w4.alloc (.cells #[.string ⟨#[98]⟩] 9)) v4 xs := R.turns ((Turns.refl (fun _ => False) w4).alloc _) (fun _ _ h => h)
  have h2 : RdS (w4.alloc (.cells #[.string ⟨#[98]⟩] 9)) (.slice (some ⟨w4.heap.size, 0, none⟩) 1 1) [⟨#[98]⟩] := rd_new w4 #[.string ⟨#[98]⟩] 9 1 1 rfl (by unfold maxLen; omega)
  refine (same_any h1 h2).mono ?_
  rintro _ w' ⟨rfl, k, rfl⟩
  subst hx
  refine ⟨by simp, ?_⟩
  exact ((Below.refl _ w4).alloc (Nat.le_refl _) _).trans ⟨rfl, rfl, rfl, Nat.le_refl _, fun _ _ => rfl⟩

set_option maxHeartbeats 2000000 in
theorem lives_any (w : World) : Calls Try.prog 8 #[] w (TrueBelow w) := by
  go_enter Try.func8, Try.ntmps8
  go_wp2_with (fail)
  refine (ca_new w 1 (by omega) (by omega)).mono ?_
  rintro _ w1 ⟨b, rfl, C1, T1⟩
  have S1 := Lib.hid ((Since.start w).step T1)
  have K1 := Lib.hid (ca_put C1 ⟨#[97]⟩ ⟨#[]⟩ ⟨#[49]⟩ (by decide))
  clear C1 T1
  go_wp2_with (fail)
  refine (K1.out).mono ?_
  rintro _ w2 ⟨rfl, C2, T2⟩
  have S2 := Lib.hid (S1.out.step T2)
  have K2 := Lib.hid (ca_put C2 ⟨#[98]⟩ ⟨#[]⟩ ⟨#[50]⟩ (by decide))
  clear C2 T2
  go_wp2_with (fail)
  refine (K2.out).mono ?_
  rintro _ w3 ⟨rfl, C3, T3⟩
  have S3 := Lib.hid (S2.out.step T3)
  have K3 := Lib.hid (ca_keys C3)
  clear C3 T3
  go_wp2_with (fail)
  refine (K3.out).mono ?_
  rintro _ w4 ⟨v4, rfl, R4, B4, N4⟩
  have K4 := Lib.hid (lives_end (by rw [show (1 : Int).toNat = 1 from rfl, pput_one _ _ _ _ _ _ (by decide)]; rfl) R4)
  have S4 := Lib.hid (S3.out.same B4)
  clear R4 B4 N4
  go_wp2_with (fail)
  refine (K4.out).mono ?_
  rintro _ w5 ⟨rfl, B5⟩
  have S5 := Lib.hid (S4.out.same B5)
  clear B5
  go_wp2_with (fail)
  go_ret
  exact ⟨rfl, S5.out.below⟩

end Go.Proofs.Ytbmkeapebmlggaa
