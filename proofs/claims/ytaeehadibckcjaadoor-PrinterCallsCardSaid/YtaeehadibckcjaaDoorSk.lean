/-
  Chapter 4: when terms, bindings, atoms are equal.
-/
import Derived.Test.YtaeehadibckcjaaDoorSj
import Derived.DeepKeys
namespace Go.Proofs.YtaeehadibckcjaaDoor
open Go.RowKit Go.Vs Go.Maps Go.ChangeMaps Go.WideMaps
set_option maxRecDepth 100000

theorem lits_bool (d : Nat) (b : Bool) : Tryd.prog.keyLits (d + 1) 4 [.bool b] = some [.bool b] := by
  unfold Program.keyLits
  rw [Tryd.underlying4]
theorem lits_str (d : Nat) {s : ByteArray} (h : s.size ≤ maxLen) : Tryd.prog.keyLits (d + 1) 9 [.string s] = some [.string s.data.toList] := by
  unfold Program.keyLits
  rw [Tryd.underlying9]
  simp only [h, if_true]
theorem lits_int (d : Nat) {n : Int} (h : (Lit.int .i64 n).wf = true) : Tryd.prog.keyLits (d + 1) 3 [.int .i64 n] = some [.int .i64 n] := by
  unfold Program.keyLits
  rw [Tryd.underlying3]
  simp only [h, and_self, if_true]
theorem cells_tm : Tryd.prog.cellsOf 39 = 2 := by kernel_rfl
theorem cells_bool : Tryd.prog.cellsOf 4 = 1 := by kernel_rfl
theorem cells_str : Tryd.prog.cellsOf 9 = 1 := by kernel_rfl
theorem cells_int : Tryd.prog.cellsOf 3 = 1 := by kernel_rfl
theorem cells_at : Tryd.prog.cellsOf 42 = 11 := by kernel_rfl
theorem cells_four : Tryd.prog.cellsOf 40 = 8 := by kernel_rfl

theorem lits_tm (d : Nat) (b : Bool) {s : ByteArray} (h : s.size ≤ maxLen) : Tryd.prog.keyLits (d + 2) 39 [.bool b, .string s] = some [.bool b, .string s.data.toList] := by
  unfold Program.keyLits
  rw [Tryd.underlying39]
  simp [cells_tm, cells_bool, cells_str, lits_bool, lits_str d h]

theorem lits_four (d : Nat) (b0 b1 b2 b3 : Bool) {s0 s1 s2 s3 : ByteArray} (h0 : s0.size ≤ maxLen) (h1 : s1.size ≤ maxLen) (h2 : s2.size ≤ maxLen) (h3 : s3.size ≤ maxLen) :
    Tryd.prog.keyLits (d + 3) 40 [.bool b0, .string s0, .bool b1, .string s1, .bool b2, .string s2, .bool b3, .string s3] = some [.bool b0, .string s0.data.toList, .bool b1, .string s1.data.toList, .bool b2, .string s2.data.toList, .bool b3, .string s3.data.toList] := by
  unfold Program.keyLits
  rw [Tryd.underlying40]
  simp [cells_four, cells_tm, lits_tm d _ h0, lits_tm d _ h1, lits_tm d _ h2, lits_tm d _ h3, List.range, List.range.loop]

/-- Strings short enough, a number that is an int. -/
def Tm.okay (t : Tm) : Prop := t.name.size ≤ maxLen
def Bd.okay (b : Bd) : Prop := b.var.size ≤ maxLen ∧ Tm.okay b.t
def Atm.okay (a : Atm) : Prop := a.says.size ≤ maxLen ∧ a.pred.size ≤ maxLen ∧ (Lit.int .i64 a.n).wf = true ∧ Tm.okay a.a0 ∧ Tm.okay a.a1 ∧ Tm.okay a.a2 ∧ Tm.okay a.a3

def Atm.lits (a : Atm) : List Lit := [.string a.says.data.toList, .string a.pred.data.toList, .int .i64 a.n, .bool a.a0.v, .string a.a0.name.data.toList, .bool a.a1.v, .string a.a1.name.data.toList, .bool a.a2.v, .string a.a2.name.data.toList, .bool a.a3.v, .string a.a3.name.data.toList]

theorem lits_at (d : Nat) {a : Atm} (h : Atm.okay a) : Tryd.prog.keyLits (d + 4) 42 a.cells.toList = some (Atm.lits a) := by
  obtain ⟨h1, h2, h3, g0, g1, g2, g3⟩ := h
  unfold Tm.okay at g0 g1 g2 g3
  unfold Program.keyLits
  rw [Tryd.underlying42]
  simp [Atm.cells, Atm.lits, cells_at, cells_str, cells_int, cells_four, lits_str (d + 2) h1, lits_str (d + 2) h2, lits_int (d + 2) h3, lits_four d _ _ _ _ g0 g1 g2 g3]

theorem bytes_inj {a b : ByteArray} (h : a.data.toList = b.data.toList) : a = b := by
  cases a; cases b
  simpa [Array.ext_iff] using h

theorem tm_lits_inj {s t : Tm} (h : [Lit.bool s.v, Lit.string s.name.data.toList] = [Lit.bool t.v, Lit.string t.name.data.toList]) : s = t := by
  obtain ⟨v, n⟩ := s; obtain ⟨v', n'⟩ := t
  simp only [List.cons.injEq, Lit.bool.injEq, Lit.string.injEq, and_true] at h
  rw [h.1, bytes_inj h.2]

theorem eq_tm {s t : Tm} (hs : Tm.okay s) (ht : Tm.okay t) (w : World) : (Op.equalIn 10000 39 (tmV s) (tmV t)).run Tryd.prog w = .ok (decide (s = t)) w := by
  obtain ⟨r, h1, h2⟩ := run_equalIn_deep (P := Tryd.prog) 9997 3 39 (by kernel_rfl) w 2 2 (tmV s) (tmV t) _ _ (by kernel_rfl) (by kernel_rfl) (lits_tm 0 s.v hs) (lits_tm 0 t.v ht)
  rw [h1]
  congr 1
  rw [Bool.eq_iff_iff, h2, decide_eq_true_iff]
  exact ⟨tm_lits_inj, fun e => by rw [e]⟩

theorem at_lits_inj {s t : Atm} (h : Atm.lits s = Atm.lits t) : s = t := by
  obtain ⟨a, b, c, ⟨v0, n0⟩, ⟨v1, n1⟩, ⟨v2, n2⟩, ⟨v3, n3⟩⟩ := s
  obtain ⟨a', b', c', ⟨v0', n0'⟩, ⟨v1', n1'⟩, ⟨v2', n2'⟩, ⟨v3', n3'⟩⟩ := t
  simp only [Atm.lits, List.cons.injEq, Lit.bool.injEq, Lit.string.injEq, Lit.int.injEq, and_true, true_and] at h
  obtain ⟨e1, e2, e3, e4, e5, e6, e7, e8, e9, e10, e11⟩ := h
  rw [bytes_inj e1, bytes_inj e2, e3, e4, bytes_inj e5, e6, bytes_inj e7, e8, bytes_inj e9, e10, bytes_inj e11]

theorem eq_at {s t : Atm} (hs : Atm.okay s) (ht : Atm.okay t) (w : World) : (Op.equalIn 10000 42 (amV s) (amV t)).run Tryd.prog w = .ok (decide (s = t)) w := by
  obtain ⟨r, h1, h2⟩ := run_equalIn_deep (P := Tryd.prog) 9995 5 42 (by kernel_rfl) w 4 4 (amV s) (amV t) _ _ (by kernel_rfl) (by kernel_rfl) (lits_at 0 hs) (lits_at 0 ht)
  rw [h1]
  congr 1
  rw [Bool.eq_iff_iff, h2, decide_eq_true_iff]
  exact ⟨at_lits_inj, fun e => by rw [e]⟩

theorem bd_lits_inj {s t : Bd} (h : [Lit.string s.var.data.toList, Lit.bool s.t.v, Lit.string s.t.name.data.toList] = [Lit.string t.var.data.toList, Lit.bool t.t.v, Lit.string t.t.name.data.toList]) : s = t := by
  obtain ⟨x, ⟨v, n⟩⟩ := s; obtain ⟨x', ⟨v', n'⟩⟩ := t
  simp only [List.cons.injEq, Lit.bool.injEq, Lit.string.injEq, and_true] at h
  rw [bytes_inj h.1, h.2.1, bytes_inj h.2.2]

def bdV (b : Bd) : Value := .agg #[.string b.var, .bool b.t.v, .string b.t.name]

end Go.Proofs.YtaeehadibckcjaaDoor
