/-
  Chapter 4: the contract of sort.Search, for whatever predicate; of Get.
-/
import Derived.Test.YtkkkpbnehpfkkaaSa
namespace Go.Proofs.Ytkkkpbnehpfkkaa
open Go.RowKit Go.Vs Go.Maps Go.ChangeMaps Go.WideMaps

def SearchPost (n : Nat) (p : Nat → Bool) (w : World) (e : Ending) (w' : World) : Prop :=
  ∃ i : Nat, e = .returned (.int .i64 i) ∧ i ≤ n ∧ (0 < i → p (i - 1) = false) ∧ (i < n → p i = true) ∧ ∃ q, w' = w.drewN q

set_option maxHeartbeats 1000000 in
theorem search_any (F : FuncId) (c1 c2 : Value) (n : Nat) (p : Nat → Bool) (w : World) (hn : n ≤ 1000000)
    (HF : ∀ (args : Array Value) (w : World), Sem.run Try.prog (callFunc F args) w = .ok (.enter F args) w)
    (H : ∀ (i : Nat) (q : Nat), i < n → Calls Try.prog F #[.int .i64 i, c1, c2] (w.drewN q) fun e w' => e = .returned (.bool (p i)) ∧ ∃ q', w' = (w.drewN q).drewN q') :
    Calls Try.prog 48 #[.int .i64 n, .func (.func F) #[] #[c1, c2]] w (SearchPost n p w) := by
  have HH := Lib.hid H
  clear H
  go_enter Try.func48, Try.ntmps48
  go_wp2_with (fail)
  go_loopg [5, 6] (n) (fun m a b wr => ∃ i j : Nat, i ≤ j ∧ j ≤ n ∧ m = j - i ∧ a = .int .i64 i ∧ b = .int .i64 j ∧ Aside ((0 < i → p (i - 1) = false) ∧ (j < n → p j = true)) ∧ ∃ q, wr = w.drewN q)
  case atStart => exact ⟨0, n, by omega, by omega, by omega, rfl, rfl, ⟨fun h => absurd h (Nat.lt_irrefl _), fun h => absurd h (Nat.lt_irrefl _)⟩, 0, rfl⟩
  case round =>
    obtain ⟨i, j, hij, hjn, hm, rfl, rfl, hp, q, rfl⟩ := hrel
    by_cases hlt : i < j
    · go_upto_region 4 with (fail)
      rw [show ((i : Int) + (j : Int)) / 2 = (((i + j) / 2 : Nat) : Int) by omega]
      have h1 : i ≤ (i + j) / 2 := by omega
      have h2 : (i + j) / 2 < j := by omega
      generalize (i + j) / 2 = h at h1 h2 ⊢
      have K := Lib.hid (HH.out h q (by omega))
      cases hph : p h with
      | true =>
        have HP : Hid ((0 < i → p (i - 1) = false) ∧ (h < n → p h = true)) := ⟨hp.out.1, fun _ => hph⟩
        rw [hph] at K
        clear hp hph
        go_wp2_with (fail)
        refine (K.out).mono ?_
        rintro _ w' ⟨rfl, q', rfl⟩
        rw [drewN_twice]
        go_wp2_with (fail)
        go_roundg (h - i)
        case rel => exact ⟨i, h, by omega, by omega, rfl, rfl, rfl, HP.out, _, rfl⟩
        case measure => omega
      | false =>
        have HP : Hid ((0 < h + 1 → p (h + 1 - 1) = false) ∧ (j < n → p j = true)) := ⟨fun _ => hph, hp.out.2⟩
        rw [hph] at K
        clear hp hph
        go_wp2_with (fail)
        refine (K.out).mono ?_
        rintro _ w' ⟨rfl, q', rfl⟩
        rw [drewN_twice]
        go_wp2_with (fail)
        go_roundg (j - (h + 1))
        case rel => exact ⟨h + 1, j, by omega, by omega, rfl, by go_num, rfl, HP.out, _, rfl⟩
        case measure => omega
    · obtain rfl : i = j := by omega
      go_wp2_with (fail)
      go_ret
      exact ⟨i, rfl, hjn, hp.out.1, hp.out.2, q, rfl⟩

theorem Rd.block {w : World} {size n : Nat} {a : Option Addr} {cap : Nat} {xs : List Value} (h : Rd w size (.slice a n cap) n xs) : n ≤ maxLen := by
  rcases h.2 with ⟨_, rfl⟩ | ⟨_, _, _, h3, h4, _⟩
  · exact Nat.zero_le _
  · omega

/-- The predicate of Get's search. -/
def getP (l : List Bd) (v : ByteArray) (i : Nat) : Bool := match l[i]? with | some b => !blt b.var v | none => false

set_option maxHeartbeats 1000000 in
theorem getp_any {w : World} {bl bv : Nat} {vl : Value} {l : List Bd} {v : ByteArray} (h1 : w.cell? ⟨bl, 0, none⟩ = some vl) (h2 : w.cell? ⟨bv, 0, none⟩ = some (.string v)) (hR : RdB w vl l) (i : Nat) (hi : i < l.length) :
    Calls Try.prog 49 #[.int .i64 i, .pointer (some ⟨bl, 0, none⟩), .pointer (some ⟨bv, 0, none⟩)] w fun e w' => e = .returned (.bool (getP l v i)) ∧ ∃ q, w' = w.drewN q := by
  obtain ⟨a, cap, rfl, hn, hc⟩ := hR.shape
  obtain ⟨g, off, rfl, _, _, _, hcell⟩ := hc (by omega)
  obtain ⟨c0, _, _⟩ := RdB.cells hcell hi
  have ja : (0 : Int) ≤ (i : Int) := by omega
  have jb : (i : Int) < (l.length : Int) := by omega
  have HG : Hid (getP l v i = !blt l[i].var v) := by show _ = _; unfold getP; rw [List.getElem?_eq_getElem hi]
  clear hc hcell hR
  rw [HG.out]
  clear HG
  unfold blt
  go_enter Try.func49, Try.ntmps49
  go_wp2
  go_quiet (fail)
  go_wp2
  go_ret
  exact ⟨rfl, _, rfl⟩

end Go.Proofs.Ytkkkpbnehpfkkaa
