/-
  Chapter 4: when terms, bindings, atoms are equal.
-/
import Derived.Test.YtinbfakpjnnagaaGreatDoorDFSj
import Derived.DeepKeys
namespace Go.Proofs.YtinbfakpjnnagaaGreatDoor
open Go.RowKit Go.Vs Go.Maps Go.ChangeMaps Go.WideMaps
set_option maxRecDepth 100000
theorem lits_bool (d : Nat) (b : Bool) : Tryz.prog.keyLits (d + 1) 4 [.bool b] = some [.bool b] := by
  unfold Program.keyLits
  rw [Tryz.underlying4]
theorem lits_str (d : Nat) {s : ByteArray} (h : s.size ≤ maxLen) : Tryz.prog.keyLits (d + 1) 9 [.string s] = some [.string s.data.toList] := by
  unfold Program.keyLits
  rw [Tryz.underlying9]
  simp only [h, if_true]
theorem cells_tm : Tryz.prog.cellsOf 30 = 2 := by kernel_rfl
theorem cells_bool : Tryz.prog.cellsOf 4 = 1 := by kernel_rfl
theorem cells_str : Tryz.prog.cellsOf 9 = 1 := by kernel_rfl
theorem lits_tm (d : Nat) (b : Bool) {s : ByteArray} (h : s.size ≤ maxLen) : Tryz.prog.keyLits (d + 2) 30 [.bool b, .string s] = some [.bool b, .string s.data.toList] := by
  unfold Program.keyLits
  rw [Tryz.underlying30]
  simp [cells_tm, cells_bool, cells_str, lits_bool, lits_str d h]
def Tm.okay (t : Tm) : Prop := t.name.size ≤ maxLen
def Bd.okay (b : Bd) : Prop := b.var.size ≤ maxLen ∧ Tm.okay b.t
def Atm.okay (a : Atm) : Prop := a.says.size ≤ maxLen ∧ a.pred.size ≤ maxLen ∧ (Lit.int .i64 a.n).wf = true ∧ Tm.okay a.a0 ∧ Tm.okay a.a1 ∧ Tm.okay a.a2 ∧ Tm.okay a.a3
theorem bytes_inj {a b : ByteArray} (h : a.data.toList = b.data.toList) : a = b := by
  cases a; cases b
  simpa [Array.ext_iff] using h
theorem tm_lits_inj {s t : Tm} (h : [Lit.bool s.v, Lit.string s.name.data.toList] = [Lit.bool t.v, Lit.string t.name.data.toList]) : s = t := by
  obtain ⟨v, n⟩ := s; obtain ⟨v', n'⟩ := t
  simp only [List.cons.injEq, Lit.bool.injEq, Lit.string.injEq, and_true] at h
  rw [h.1, bytes_inj h.2]
theorem eq_tm {s t : Tm} (hs : Tm.okay s) (ht : Tm.okay t) (w : World) : (Op.equalIn 10000 30 (tmV s) (tmV t)).run Tryz.prog w = .ok (decide (s = t)) w := by
  obtain ⟨r, h1, h2⟩ := run_equalIn_deep (P := Tryz.prog) 9997 3 30 (by kernel_rfl) w 2 2 (tmV s) (tmV t) _ _ (by kernel_rfl) (by kernel_rfl) (lits_tm 0 s.v hs) (lits_tm 0 t.v ht)
  rw [h1]
  congr 1
  rw [Bool.eq_iff_iff, h2, decide_eq_true_iff]
  exact ⟨tm_lits_inj, fun e => by rw [e]⟩
end Go.Proofs.YtinbfakpjnnagaaGreatDoor
