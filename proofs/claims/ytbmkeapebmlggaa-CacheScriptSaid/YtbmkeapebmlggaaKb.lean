/-
  The kit's Own and Times.
-/
import Derived.Test.YtbmkeapebmlggaaCf
namespace Go.Proofs.Ytbmkeapebmlggaa
open Go.RowKit Go.Vs

/-- A new slice of strings that the call owns; what was there stays. -/
def NewOwnS (xs : List ByteArray) (w : World) (e : Ending) (w' : World) : Prop :=
  ∃ v b, e = .returned v ∧ w'.ownsRow 0 9 1 v xs.length (xs.map Value.string) ∧ Below w.heap.size w w' ∧ sblk v = some b ∧ w.heap.size ≤ b

theorem str_cells (xs : List ByteArray) : ∀ u ∈ xs.map Value.string, u.oneCell' = true := by
  intro u hu
  obtain ⟨s, _, rfl⟩ := List.mem_map.1 hu
  rfl

theorem own_end {w w1 : World} {v' : Value} {xs : List ByteArray} (hown : w1.ownsRow 0 9 1 v' (0 + xs.length) ((#[] : Array Value).toList ++ xs.map Value.string))
    (hg : (w.alloc (.cells #[] 9)).grownBy w1 (some w.heap.size)) (hloc : sblk v' = some w.heap.size ∨ sblk v' = some (w.alloc (.cells #[] 9)).heap.size) : NewOwnS xs w (.returned v') w1 := by
  have hb : Below w.heap.size w w1 := ((Below.refl _ w).alloc (Nat.le_refl _) _).grown hg (by rw [hsize_alloc]; omega) (by intro k hk; injection hk with hk; omega)
  have hown' : w1.ownsRow 0 9 1 v' xs.length (xs.map Value.string) := by simpa using hown
  rcases hloc with h | h
  · exact ⟨v', _, rfl, hown', hb, h, Nat.le_refl _⟩
  · exact ⟨v', _, rfl, hown', hb, h, by rw [hsize_alloc]; omega⟩

set_option maxHeartbeats 1000000 in
theorem own_any {w : World} {v : Value} {xs : List ByteArray} (h : RdS w v xs) (hlen : xs.length ≤ 1000000) : Calls Try.prog 16 #[v] w (NewOwnS xs w) := by
  obtain ⟨i0, hi, hz0, hz1, hz2⟩ := info_parts Try.info9
  have HH := Lib.hid (show Rd (w.alloc (.cells #[] 9)) 1 v xs.length (xs.map Value.string) from h.turns ((Turns.refl (fun _ => False) w).alloc _) (fun _ _ h => h))
  have HI := Lib.hid hi
  have HZ0 := Lib.hid hz0
  have HZ1 := Lib.hid hz1
  have HZ2 := Lib.hid hz2
  clear h hi hz0 hz1 hz2
  go_enter Try.func16, Try.ntmps16
  go_wp2_with (at_builtin; refine wpList_append_rd _ rfl _ _ 28 rfl 9 i0 (.string ⟨#[]⟩) 1 16 Try.underlying28 HI.out HZ0.out HZ1.out HZ2.out rfl (by decide) _ _ _ rfl (own_new w #[] 9 1 0 rfl (by unfold maxLen; omega)) _ _ _ rfl HH.out (str_cells xs) (by unfold maxLen; omega) (by omega) ?_; intro v' w1 hown1 hgrow1 hloc1)
  have HR := Lib.hid (own_end hown1 hgrow1 hloc1)
  clear hown1 hgrow1 hloc1
  go_ret
  exact HR.out

/-- A string n times. -/
def rep (s : ByteArray) : Nat → ByteArray
  | 0 => ⟨#[]⟩
  | n + 1 => s ++ rep s n

theorem app_assoc (a b c : ByteArray) : a ++ b ++ c = a ++ (b ++ c) := by
  apply str_inj; simp
theorem app_nil (a : ByteArray) : a ++ ⟨#[]⟩ = a := by apply str_inj; simp
theorem nil_app (a : ByteArray) : (⟨#[]⟩ : ByteArray) ++ a = a := by apply str_inj; simp
theorem rep_double (s : ByteArray) : ∀ n, rep (s ++ s) n = rep s (2 * n)
  | 0 => rfl
  | n + 1 => by
    rw [show 2 * (n + 1) = 2 * n + 1 + 1 by omega]
    simp only [rep]
    rw [rep_double s n, app_assoc]
theorem rep_size (s : ByteArray) : ∀ n, (rep s n).size = n * s.size
  | 0 => by simp [rep]; rfl
  | n + 1 => by simp only [rep, ByteArray.size_append, rep_size s n]; rw [Nat.add_mul]; omega

def TimesRel (s : ByteArray) (n : Nat) (k : Nat) (vs vn vo : Value) : Prop :=
  ∃ s1 s2, vs = .string s1 ∧ vo = .string s2 ∧ vn = .int .i64 (k : Nat) ∧ s2 ++ rep s1 k = rep s n ∧ s1.size * k ≤ 1000000 ∧ s2.size ≤ 1000000

theorem times_odd {s s1 s2 : ByteArray} {n k : Nat} (h : s2 ++ rep s1 k = rep s n) (hb : s1.size * k ≤ 1000000) (ho : k % 2 = 1) (hn : (rep s n).size ≤ 1000000) :
    TimesRel s n (k / 2) (.string (s1 ++ s1)) (.int .i64 ((k / 2 : Nat) : Int)) (.string (s2 ++ s1)) := by
  refine ⟨_, _, rfl, rfl, rfl, ?_, ?_, ?_⟩
  · rw [rep_double, ← h, app_assoc]
    congr 1
    rw [show k = 2 * (k / 2) + 1 by omega]
    simp only [rep]
    congr 2
    omega
  · rw [ByteArray.size_append]
    calc (s1.size + s1.size) * (k / 2) = s1.size * (2 * (k / 2)) := by rw [← Nat.two_mul, Nat.mul_comm 2, Nat.mul_assoc]
      _ ≤ s1.size * k := Nat.mul_le_mul_left _ (by omega)
      _ ≤ 1000000 := hb
  · have h1 := congrArg ByteArray.size h
    rw [ByteArray.size_append, rep_size] at h1
    rw [ByteArray.size_append]
    have : s1.size ≤ k * s1.size := Nat.le_mul_of_pos_left _ (by omega)
    omega

theorem times_even {s s1 s2 : ByteArray} {n k : Nat} (h : s2 ++ rep s1 k = rep s n) (hb : s1.size * k ≤ 1000000) (ho : k % 2 = 0) (h2 : s2.size ≤ 1000000) :
    TimesRel s n (k / 2) (.string (s1 ++ s1)) (.int .i64 ((k / 2 : Nat) : Int)) (.string s2) := by
  refine ⟨_, _, rfl, rfl, rfl, ?_, ?_, h2⟩
  · rw [rep_double, ← h]
    congr 2
    omega
  · rw [ByteArray.size_append]
    calc (s1.size + s1.size) * (k / 2) = s1.size * (2 * (k / 2)) := by rw [← Nat.two_mul, Nat.mul_comm 2, Nat.mul_assoc]
      _ ≤ s1.size * k := Nat.mul_le_mul_left _ (by omega)
      _ ≤ 1000000 := hb

set_option maxHeartbeats 1000000 in
theorem times_any {w : World} {s : ByteArray} {n : Nat} (hn : n ≤ 1000) (hs : n * s.size ≤ 1000000) :
    Calls Try.prog 11 #[.string s, .int .i64 (n : Nat)] w (fun e w' => e = .returned (.string (rep s n)) ∧ w = w') := by
  have HS : Hid ((rep s n).size ≤ 1000000) := by show _ ≤ _; rw [rep_size]; exact hs
  have ST : TimesRel s n n (.string s) (.int .i64 (n : Nat)) (.string ⟨#[]⟩) := ⟨s, ⟨#[]⟩, rfl, rfl, rfl, nil_app _, by rw [Nat.mul_comm]; exact hs, by decide⟩
  clear hs
  go_enter Try.func11, Try.ntmps11
  go_wp2
  go_loopg [0, 1, 5] n (fun k s1 n1 o wr => k ≤ 1000 ∧ TimesRel s n k s1 n1 o ∧ w = wr)
  case atStart => exact ⟨hn, ST, rfl⟩
  case round =>
    obtain ⟨hk, ⟨s1, s2, rfl, rfl, rfl, h1, h2, h3⟩, rfl⟩ := hrel
    clear ST
    have H1 := Lib.hid h1
    clear h1
    by_cases hp : 0 < gk
    · have hs1 : s1.size ≤ 1000000 := Nat.le_trans (Nat.le_mul_of_pos_right _ hp) h2
      have H2 := Lib.hid h2
      have H3 := Lib.hid h3
      clear h2
      by_cases ho : gk % 2 = 1
      · have hd : ((gk : Int) % 2 == 1) = true := by simp; omega
        have HO := Lib.hid ho
        clear ho
        go_wp2
        go_roundg (gk / 2)
        case rel => exact ⟨by omega, times_odd H1.out H2.out HO.out HS.out, rfl⟩
        case measure => omega
      · have hd : ((gk : Int) % 2 == 1) = false := by simp; omega
        have HO := Lib.hid (show gk % 2 = 0 by omega)
        clear ho
        go_wp2
        go_roundg (gk / 2)
        case rel => exact ⟨by omega, times_even H1.out H2.out HO.out H3.out, rfl⟩
        case measure => omega
    · obtain rfl : gk = 0 := by omega
      go_wp2
      go_ret
      refine ⟨?_, rfl⟩
      rw [← H1.out]
      simp only [rep]
      rw [app_nil]
      rfl

theorem times_int {w : World} {s : ByteArray} {n : Int} (h0 : 0 ≤ n) (hn : n ≤ 1000) (hs : n.toNat * s.size ≤ 1000000) :
    Calls Try.prog 11 #[.string s, .int .i64 n] w (fun e w' => e = .returned (.string (rep s n.toNat)) ∧ w = w') := by
  obtain ⟨m, rfl⟩ := Int.eq_ofNat_of_zero_le h0
  exact times_any (by omega) hs

end Go.Proofs.Ytbmkeapebmlggaa
