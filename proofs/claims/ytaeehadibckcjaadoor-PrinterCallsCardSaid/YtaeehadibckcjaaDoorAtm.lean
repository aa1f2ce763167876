/-
  Atoms in plain Lean; no program in sight.
-/
import Derived.Test.YtaeehadibckcjaaDoorSub
namespace Go.Vs

structure Atm where
  says : ByteArray
  pred : ByteArray
  n : Int
  a0 : Tm
  a1 : Tm
  a2 : Tm
  a3 : Tm
  deriving DecidableEq

/-- The eleven cells. -/
def Atm.cells (a : Atm) : Array Value := #[.string a.says, .string a.pred, .int .i64 a.n, .bool a.a0.v, .string a.a0.name, .bool a.a1.v, .string a.a1.name, .bool a.a2.v, .string a.a2.name, .bool a.a3.v, .string a.a3.name]
def Atm.args (a : Atm) : List Tm := [a.a0, a.a1, a.a2, a.a3]
/-- How many terms are looked at. -/
def Atm.count (a : Atm) : Nat := (min (max a.n 0) 4).toNat
theorem Atm.count_le (a : Atm) : a.count ≤ 4 := by unfold Atm.count; omega
theorem Atm.count_int (a : Atm) : (a.count : Int) = min (max a.n 0) 4 := by unfold Atm.count; omega

def Atm.arg (a : Atm) : Nat → Tm
  | 0 => a.a0
  | 1 => a.a1
  | 2 => a.a2
  | _ => a.a3

/-- The first k terms changed. -/
def Atm.upto (f : Tm → Tm) (a : Atm) (k : Nat) : Atm :=
  { a with a0 := if 0 < k then f a.a0 else a.a0, a1 := if 1 < k then f a.a1 else a.a1, a2 := if 2 < k then f a.a2 else a.a2, a3 := if 3 < k then f a.a3 else a.a3 }
theorem Atm.upto_zero (f : Tm → Tm) (a : Atm) : a.upto f 0 = a := rfl
def papp (l : List Bd) (a : Atm) : Atm := a.upto (pterm l) a.count

theorem Atm.upto_at (f : Tm → Tm) (a : Atm) {k : Nat} (hk : k < 4) : (a.upto f k).cells[3 + k * 2]? = some (.bool (a.arg k).v) ∧ (a.upto f k).cells[3 + k * 2 + 1]? = some (.string (a.arg k).name) := by
  obtain rfl | rfl | rfl | rfl : k = 0 ∨ k = 1 ∨ k = 2 ∨ k = 3 := by omega
  all_goals exact ⟨rfl, rfl⟩
theorem Atm.upto_set (f : Tm → Tm) (a : Atm) {k : Nat} (hk : k < 4) : (((a.upto f k).cells.setIfInBounds (3 + k * 2) (.bool (f (a.arg k)).v)).setIfInBounds (3 + k * 2 + 1) (.string (f (a.arg k)).name)) = (a.upto f (k + 1)).cells := by
  obtain rfl | rfl | rfl | rfl : k = 0 ∨ k = 1 ∨ k = 2 ∨ k = 3 := by omega
  all_goals rfl
/-! ### atoms from names: a name with a capital at its head is a variable -/
def pcap (s : ByteArray) : Bool := match s.data.toList with
  | [] => false
  | x :: _ => decide (65 ≤ x.toNat) && decide (x.toNat ≤ 90)
theorem pcap_eq {s : ByteArray} (h : 0 < s.size) : pcap s = (decide (65 ≤ s[0].toNat) && decide (s[0].toNat ≤ 90)) := by
  obtain ⟨⟨l⟩⟩ := s
  cases l with
  | nil => exact absurd h (Nat.lt_irrefl 0)
  | cons x r => rfl
def mkT (s : ByteArray) : Tm := ⟨pcap s, s⟩
/-- The first k terms set. -/
def Atm.fill (g : Nat → Tm) (a : Atm) (k : Nat) : Atm :=
  { a with a0 := if 0 < k then g 0 else a.a0, a1 := if 1 < k then g 1 else a.a1, a2 := if 2 < k then g 2 else a.a2, a3 := if 3 < k then g 3 else a.a3 }
theorem Atm.fill_at (g : Nat → Tm) (a : Atm) {k : Nat} (hk : k < 4) : (a.fill g k).cells[3 + k * 2]? = some (.bool (a.arg k).v) ∧ (a.fill g k).cells[3 + k * 2 + 1]? = some (.string (a.arg k).name) := by
  obtain rfl | rfl | rfl | rfl : k = 0 ∨ k = 1 ∨ k = 2 ∨ k = 3 := by omega
  all_goals exact ⟨rfl, rfl⟩
theorem Atm.fill_set (g : Nat → Tm) (a : Atm) {k : Nat} (hk : k < 4) : (((a.fill g k).cells.setIfInBounds (3 + k * 2) (.bool (g k).v)).setIfInBounds (3 + k * 2 + 1) (.string (g k).name)) = (a.fill g (k + 1)).cells := by
  obtain rfl | rfl | rfl | rfl : k = 0 ∨ k = 1 ∨ k = 2 ∨ k = 3 := by omega
  all_goals rfl
theorem Atm.fill_set3 (g : Nat → Tm) (a : Atm) {k : Nat} {b : Bool} (hk : k < 4) : (((((a.fill g k).cells.setIfInBounds (3 + k * 2) (.bool b)).setIfInBounds (3 + k * 2 + 1) (.string (g k).name))).setIfInBounds (3 + k * 2) (.bool (g k).v)) = (a.fill g (k + 1)).cells := by
  obtain rfl | rfl | rfl | rfl : k = 0 ∨ k = 1 ∨ k = 2 ∨ k = 3 := by omega
  all_goals rfl
def noT : Tm := ⟨false, ⟨#[]⟩⟩
def pA (says pred : ByteArray) (xs : List ByteArray) : Atm := Atm.fill (fun i => mkT (xs[i]?.getD ⟨#[]⟩)) ⟨says, pred, xs.length, noT, noT, noT, noT⟩ (min xs.length 4)
end Go.Vs
