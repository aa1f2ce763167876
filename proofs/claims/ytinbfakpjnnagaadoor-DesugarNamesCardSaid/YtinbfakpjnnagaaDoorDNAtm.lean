/-
  Atoms in plain Lean; no program in sight.
-/
import Derived.Test.YtinbfakpjnnagaaDoorDNSub
namespace Go.Vs
structure Atm where
  says : ByteArray
  pred : ByteArray
  n : Int
  a0 : Tm
  a1 : Tm
  a2 : Tm
  a3 : Tm
  deriving DecidableEq
def Atm.cells (a : Atm) : Array Value := #[.string a.says, .string a.pred, .int .i64 a.n, .bool a.a0.v, .string a.a0.name, .bool a.a1.v, .string a.a1.name, .bool a.a2.v, .string a.a2.name, .bool a.a3.v, .string a.a3.name]
def Atm.args (a : Atm) : List Tm := [a.a0, a.a1, a.a2, a.a3]
def Atm.count (a : Atm) : Nat := (min (max a.n 0) 4).toNat
theorem Atm.count_le (a : Atm) : a.count ≤ 4 := by unfold Atm.count; omega
def Atm.arg (a : Atm) : Nat → Tm
  | 0 => a.a0
  | 1 => a.a1
  | 2 => a.a2
  | _ => a.a3
/-! ### atoms from names: a name with a capital at its head is a variable -/
def Atm.fill (g : Nat → Tm) (a : Atm) (k : Nat) : Atm :=
  { a with a0 := if 0 < k then g 0 else a.a0, a1 := if 1 < k then g 1 else a.a1, a2 := if 2 < k then g 2 else a.a2, a3 := if 3 < k then g 3 else a.a3 }
end Go.Vs
