/-
  Bindings, terms and atoms in plain Lean: what chapter 4 computes; no program in sight.
-/
import Derived.Test.YtinbfakpjnnagaaGreatDoorDCRow
namespace Go.Vs
/-! ### the order of strings -/
def blt (a b : ByteArray) : Bool := Op.bytesLess a.toList b.toList
theorem bl_irrefl : ∀ a : List UInt8, Op.bytesLess a a = false
  | [] => rfl
  | x :: a => by
    unfold Op.bytesLess
    rw [bl_irrefl a]
    simp
theorem bl_trans : ∀ {a b c : List UInt8}, Op.bytesLess a b = true → Op.bytesLess b c = true → Op.bytesLess a c = true
  | _, _, [], _, h => by cases ‹List UInt8› <;> simp [Op.bytesLess] at h
  | _, [], _ :: _, h, _ => by cases ‹List UInt8› <;> simp [Op.bytesLess] at h
  | [], _ :: _, _ :: _, _, _ => rfl
  | x :: a, y :: b, z :: c, h1, h2 => by
    simp only [Op.bytesLess, Bool.or_eq_true, Bool.and_eq_true, decide_eq_true_eq, beq_iff_eq] at *
    rcases h1 with h1 | ⟨rfl, h1⟩
    · rcases h2 with h2 | ⟨rfl, h2⟩
      · exact Or.inl (UInt8.lt_trans h1 h2)
      · exact Or.inl h1
    · rcases h2 with h2 | ⟨rfl, h2⟩
      · exact Or.inl h2
      · exact Or.inr ⟨rfl, bl_trans h1 h2⟩
theorem bl_total : ∀ a b : List UInt8, Op.bytesLess a b = true ∨ a = b ∨ Op.bytesLess b a = true
  | [], [] => Or.inr (Or.inl rfl)
  | [], _ :: _ => Or.inl rfl
  | _ :: _, [] => Or.inr (Or.inr rfl)
  | x :: a, y :: b => by
    simp only [Op.bytesLess, Bool.or_eq_true, Bool.and_eq_true, decide_eq_true_eq, beq_iff_eq]
    rcases Nat.lt_trichotomy x.toNat y.toNat with h | h | h
    · exact Or.inl (Or.inl h)
    · have h : x = y := UInt8.toNat_inj.1 h
      subst h
      rcases bl_total a b with h | rfl | h
      · exact Or.inl (Or.inr ⟨rfl, h⟩)
      · exact Or.inr (Or.inl rfl)
      · exact Or.inr (Or.inr (Or.inr ⟨rfl, h⟩))
    · exact Or.inr (Or.inr (Or.inl h))
theorem blt_irrefl (a : ByteArray) : blt a a = false := bl_irrefl _
theorem blt_trans {a b c : ByteArray} (h1 : blt a b = true) (h2 : blt b c = true) : blt a c = true := bl_trans h1 h2
theorem blt_ne {a b : ByteArray} (h : blt a b = true) : a ≠ b := fun e => by subst e; rw [blt_irrefl] at h; cases h
theorem blt_total (a b : ByteArray) : blt a b = true ∨ a = b ∨ blt b a = true := by
  rcases bl_total a.toList b.toList with h | h | h
  · exact Or.inl h
  · exact Or.inr (Or.inl (str_toList_inj h))
  · exact Or.inr (Or.inr h)
theorem blt_asymm {a b : ByteArray} (h : blt a b = true) : blt b a = false := by
  cases hb : blt b a with
  | false => rfl
  | true => have := blt_trans h hb; rw [blt_irrefl] at this; cases this
/-! ### terms, bindings, atoms -/
structure Tm where
  v : Bool
  name : ByteArray
  deriving DecidableEq
structure Bd where
  var : ByteArray
  t : Tm
  deriving DecidableEq
structure Am where
  says : ByteArray
  pred : ByteArray
  n : Int
  args : List Tm
  deriving DecidableEq
def Tm.enc (t : Tm) : List Value := [.bool t.v, .string t.name]
def Bd.enc (b : Bd) : List Value := [.string b.var, .bool b.t.v, .string b.t.name]
def Am.enc (a : Am) : List Value := [.string a.says, .string a.pred, .int .i64 a.n] ++ a.args.flatMap Tm.enc
def Am.ok (a : Am) : Prop := a.args.length = 4
def Am.count (a : Am) : Nat := (min (max a.n 0) 4).toNat
theorem Am.count_le (a : Am) : a.count ≤ 4 := by unfold Am.count; omega
def pget (l : List Bd) (v : ByteArray) : Option Tm := (l.find? (fun b => decide (b.var = v))).map Bd.t
def pterm (l : List Bd) (t : Tm) : Tm := if t.v then (pget l t.name).getD t else t
def prises : List Bd → Bool
  | [] => true
  | [_] => true
  | x :: y :: r => blt x.var y.var && prises (y :: r)
def pbad (l : List Bd) (b : Bd) : Bool := decide (b.t.name = ⟨#[]⟩) || (b.t.v && (pget l b.t.name).isSome)
def pcheck (l : List Bd) : Bool := prises l && l.all (fun b => !pbad l b)
def pown (b : Bd) : Bool := b.t.v && decide (b.t.name = b.var)
def punder (l m : List Bd) : List Bd := l.map (fun b => ⟨b.var, pterm m b.t⟩)
def pwith (l : List Bd) (b : Bd) : List Bd := l.takeWhile (fun x => !blt b.var x.var) ++ b :: l.dropWhile (fun x => !blt b.var x.var)
def RdB (w : World) (v : Value) (l : List Bd) : Prop := Rd w 3 v l.length (l.flatMap Bd.enc)
end Go.Vs
