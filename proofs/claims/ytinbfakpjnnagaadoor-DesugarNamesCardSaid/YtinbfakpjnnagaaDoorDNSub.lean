/-
  Bindings, terms and atoms in plain Lean: what chapter 4 computes; no program in sight.
-/
import Derived.Test.YtinbfakpjnnagaaDoorDNRow
namespace Go.Vs
/-! ### the order of strings -/
def blt (a b : ByteArray) : Bool := Op.bytesLess a.toList b.toList
/-! ### terms, bindings, atoms -/
structure Tm where
  v : Bool
  name : ByteArray
  deriving DecidableEq
structure Bd where
  var : ByteArray
  t : Tm
  deriving DecidableEq
structure Am where
  says : ByteArray
  pred : ByteArray
  n : Int
  args : List Tm
  deriving DecidableEq
def Tm.enc (t : Tm) : List Value := [.bool t.v, .string t.name]
def Bd.enc (b : Bd) : List Value := [.string b.var, .bool b.t.v, .string b.t.name]
def Am.enc (a : Am) : List Value := [.string a.says, .string a.pred, .int .i64 a.n] ++ a.args.flatMap Tm.enc
def Am.ok (a : Am) : Prop := a.args.length = 4
def Am.count (a : Am) : Nat := (min (max a.n 0) 4).toNat
theorem Am.count_le (a : Am) : a.count ≤ 4 := by unfold Am.count; omega
def pget (l : List Bd) (v : ByteArray) : Option Tm := (l.find? (fun b => decide (b.var = v))).map Bd.t
def pterm (l : List Bd) (t : Tm) : Tm := if t.v then (pget l t.name).getD t else t
def prises : List Bd → Bool
  | [] => true
  | [_] => true
  | x :: y :: r => blt x.var y.var && prises (y :: r)
def pbad (l : List Bd) (b : Bd) : Bool := decide (b.t.name = ⟨#[]⟩) || (b.t.v && (pget l b.t.name).isSome)
def pcheck (l : List Bd) : Bool := prises l && l.all (fun b => !pbad l b)
def pown (b : Bd) : Bool := b.t.v && decide (b.t.name = b.var)
def punder (l m : List Bd) : List Bd := l.map (fun b => ⟨b.var, pterm m b.t⟩)
def pwith (l : List Bd) (b : Bd) : List Bd := l.takeWhile (fun x => !blt b.var x.var) ++ b :: l.dropWhile (fun x => !blt b.var x.var)
def RdB (w : World) (v : Value) (l : List Bd) : Prop := Rd w 3 v l.length (l.flatMap Bd.enc)
end Go.Vs
