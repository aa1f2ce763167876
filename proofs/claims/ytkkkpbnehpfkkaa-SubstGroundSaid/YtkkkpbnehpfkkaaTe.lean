/-
  Chapter 4: '==' of terms, atoms and bindings, on abstract values.
-/
import Derived.Test.YtkkkpbnehpfkkaaTc
set_option linter.unusedSimpArgs false
namespace Go.Proofs.Ytkkkpbnehpfkkaa
open Go.Vs Go.Vs.Ab

theorem ba_beq (a b : ByteArray) : (a == b) = decide (a = b) := by
  have h : (a == b) = (a.data == b.data) := rfl
  rw [h, Bool.eq_iff_iff, beq_iff_eq, decide_eq_true_eq]
  exact ⟨fun h => by cases a; cases b; simp at h; simp [h], fun h => by rw [h]⟩
theorem pv_under {P : Program} {t : TypeId} {d : TypeDesc} (h : P.underlying t = some d) : pureVal P (underlying t) = some d := by
  simp only [underlying, program, pureVal, bind, Sem.bind, h, pure]
theorem pv_prog {P : Program} : pureVal P program = some P := rfl
theorem held_tm : Try.prog.stoodInHeld 24 = false := by kernel_rfl
theorem held_at : Try.prog.stoodInHeld 27 = false := by kernel_rfl
theorem held_bd : Try.prog.stoodInHeld 36 = false := by kernel_rfl

theorem pv_isAgg {P : Program} {t : TypeId} {d : TypeDesc} (h : P.underlying t = some d) : pureVal P (isAgg t) = some (aggD d) := by
  unfold isAgg
  rw [pv_bind, pv_under h]
  cases d <;> rfl
theorem pv_size {P : Program} {t : TypeId} {s : Nat} (h : tsz P t = some s) : pureVal P (sizeOf t) = some s := by
  obtain ⟨i, hi, rfl⟩ := tsz_spec h
  simp only [sizeOf, typeInfo, program, pureVal, bind, Sem.bind, hi, pure]
theorem pv_part1 {P : Program} {t : TypeId} {d : TypeDesc} (h : P.underlying t = some d) (ha : aggD d = false) {cs : Array Value} {off : Nat} {v : Value} (hv : cs[off]? = some v) : pureVal P (part t cs off) = some v := by
  unfold part
  rw [pv_bind, pv_isAgg h, Option.bind_some, ha]
  simp only [Bool.false_eq_true, if_false, hv]
  rfl
theorem pv_partA {P : Program} {t : TypeId} {d : TypeDesc} {s : Nat} (h : P.underlying t = some d) (ha : aggD d = true) (hs : tsz P t = some s) {cs : Array Value} {off : Nat} : pureVal P (part t cs off) = some (.agg (cs.extract off (off + s))) := by
  unfold part
  rw [pv_bind, pv_isAgg h, Option.bind_some, ha]
  simp only [if_true]
  rw [pv_bind, pv_size hs]
  rfl
theorem pv_eq_bool {d : Nat} (a b : Bool) : pureVal Try.prog (Op.equalIn (d + 1) 4 (.bool a) (.bool b)) = some (a == b) := by
  unfold Op.equalIn
  rw [pv_bind, pv_under Try.underlying4]
  rfl
theorem pv_eq_str {d : Nat} (a b : ByteArray) : pureVal Try.prog (Op.equalIn (d + 1) 9 (.string a) (.string b)) = some (decide (a = b)) := by
  unfold Op.equalIn
  rw [pv_bind, pv_under Try.underlying9]
  show some (a == b) = _
  rw [ba_beq]
theorem pv_eq_int {d : Nat} (a b : Int) : pureVal Try.prog (Op.equalIn (d + 1) 3 (.int .i64 a) (.int .i64 b)) = some (decide (a = b)) := by
  unfold Op.equalIn
  rw [pv_bind, pv_under Try.underlying3]
  show some (a == b) = _
  by_cases h : a = b
  · subst h; simp
  · simp [h]
theorem pv_if {α : Type} {P : Program} (c : Prop) [Decidable c] (x y : Sem α) : pureVal P (if c then x else y) = if c then pureVal P x else pureVal P y := by split <;> rfl
theorem pv_eq_tm {d : Nat} (s t : Tm) : pureVal Try.prog (Op.equalIn (d + 2) 24 (.agg #[.bool s.v, .string s.name]) (.agg #[.bool t.v, .string t.name])) = some (decide (s = t)) := by
  unfold Op.equalIn
  rw [pv_bind, pv_under Try.underlying24]
  have p0 : ∀ s : Tm, pureVal Try.prog (part 4 #[.bool s.v, .string s.name] 0) = some (.bool s.v) := fun s => pv_part1 Try.underlying4 rfl rfl
  have p1 : ∀ s : Tm, pureVal Try.prog (part 9 #[.bool s.v, .string s.name] 1) = some (.string s.name) := fun s => pv_part1 Try.underlying9 rfl rfl
  obtain ⟨sv, sn⟩ := s
  obtain ⟨tv, tn⟩ := t
  have q0 := p0 ⟨sv, sn⟩
  have q1 := p0 ⟨tv, tn⟩
  have q2 := p1 ⟨sv, sn⟩
  have q3 := p1 ⟨tv, tn⟩
  simp only at q0 q1 q2 q3
  simp only [Option.bind_some, pv_bind, pv_prog, held_tm, Bool.false_eq_true, if_false, List.forIn_toArray, List.forIn_cons, List.forIn_nil, pv_pure, pv_if, ne_eq, String.reduceEq, not_false_eq_true, if_true, q0, q1, q2, q3, pv_eq_bool, pv_eq_str]
  by_cases h1 : sv = tv
  · by_cases h2 : sn = tn
    · subst h1 h2; simp [pv_pure, pv_bind, q2, pv_eq_str]
    · subst h1; simp [h2, pv_pure, pv_bind, pv_if, q2, q3, pv_eq_str]
  · simp [h1, pv_pure, pv_bind]
theorem bin_eqT (x y : Operand) (s t : Tm) : pureVal Try.prog (do eqGuard .eql 24 x y (.agg #[.bool s.v, .string s.name]) (.agg #[.bool t.v, .string t.name]); binOp .eql 24 (.agg #[.bool s.v, .string s.name]) (.agg #[.bool t.v, .string t.name])) = some (.bool (decide (s = t))) := by
  have hg : Try.prog.eqGuardType Try.prog.depth 24 = false := by kernel_rfl
  have h := pv_eq_tm (d := 9998) s t
  have g : pureVal Try.prog (eqGuard .eql 24 x y (.agg #[.bool s.v, .string s.name]) (.agg #[.bool t.v, .string t.name])) = some () := by
    simp [eqGuard, pv_bind, pv_prog, pv_pure, hg]
  rw [pv_bind, g, Option.bind_some]
  have e : binOp .eql 24 (.agg #[.bool s.v, .string s.name]) (.agg #[.bool t.v, .string t.name]) = (do pure (Value.bool (← Op.equal 24 (.agg #[.bool s.v, .string s.name]) (.agg #[.bool t.v, .string t.name])))) := rfl
  rw [e, pv_bind]
  have h' : pureVal Try.prog (Op.equal 24 (.agg #[.bool s.v, .string s.name]) (.agg #[.bool t.v, .string t.name])) = some (decide (s = t)) := h
  rw [h']
  rfl

abbrev fourV (a b c d : Tm) : Value := .agg #[.bool a.v, .string a.name, .bool b.v, .string b.name, .bool c.v, .string c.name, .bool d.v, .string d.name]
theorem pv_eq_four {d : Nat} (a0 a1 a2 a3 b0 b1 b2 b3 : Tm) : pureVal Try.prog (Op.equalIn (d + 3) 25 (fourV a0 a1 a2 a3) (fourV b0 b1 b2 b3)) = some (decide (a0 = b0 ∧ a1 = b1 ∧ a2 = b2 ∧ a3 = b3)) := by
  unfold Op.equalIn
  rw [pv_bind, pv_under Try.underlying25]
  have p : ∀ (a0 a1 a2 a3 : Tm), (pureVal Try.prog (part 24 #[.bool a0.v, .string a0.name, .bool a1.v, .string a1.name, .bool a2.v, .string a2.name, .bool a3.v, .string a3.name] 0) = some (.agg #[.bool a0.v, .string a0.name])) ∧
      (pureVal Try.prog (part 24 #[.bool a0.v, .string a0.name, .bool a1.v, .string a1.name, .bool a2.v, .string a2.name, .bool a3.v, .string a3.name] 2) = some (.agg #[.bool a1.v, .string a1.name])) ∧
      (pureVal Try.prog (part 24 #[.bool a0.v, .string a0.name, .bool a1.v, .string a1.name, .bool a2.v, .string a2.name, .bool a3.v, .string a3.name] 4) = some (.agg #[.bool a2.v, .string a2.name])) ∧
      (pureVal Try.prog (part 24 #[.bool a0.v, .string a0.name, .bool a1.v, .string a1.name, .bool a2.v, .string a2.name, .bool a3.v, .string a3.name] 6) = some (.agg #[.bool a3.v, .string a3.name])) := fun a0 a1 a2 a3 =>
    ⟨(pv_partA Try.underlying24 rfl sz24).trans rfl, (pv_partA Try.underlying24 rfl sz24).trans rfl, (pv_partA Try.underlying24 rfl sz24).trans rfl, (pv_partA Try.underlying24 rfl sz24).trans rfl⟩
  obtain ⟨p0, p1, p2, p3⟩ := p a0 a1 a2 a3
  obtain ⟨q0, q1, q2, q3⟩ := p b0 b1 b2 b3
  have e0 := pv_eq_tm (d := d) a0 b0
  have e1 := pv_eq_tm (d := d) a1 b1
  have e2 := pv_eq_tm (d := d) a2 b2
  have e3 := pv_eq_tm (d := d) a3 b3
  have hr : List.range' 0 4 1 = [0, 1, 2, 3] := rfl
  simp only [Option.bind_some, pv_bind, pv_size sz24, fourV, Std.Legacy.Range.forIn_eq_forIn_range', Std.Legacy.Range.size, Nat.sub_zero, Nat.reduceAdd, Nat.reduceSub, Nat.reduceDiv, Nat.div_one, hr, List.forIn_cons, List.forIn_nil, pv_pure, pv_if, Nat.zero_mul, Nat.one_mul, Nat.reduceMul, p0, p1, p2, p3, q0, q1, q2, q3, e0, e1, e2, e3]
  rw [Bool.decide_and, Bool.decide_and, Bool.decide_and]
  generalize decide (a0 = b0) = c0 at *
  generalize decide (a1 = b1) = c1 at *
  generalize decide (a2 = b2) = c2 at *
  generalize decide (a3 = b3) = c3 at *
  cases c0 <;> cases c1 <;> cases c2 <;> cases c3 <;> simp [pv_pure, pv_bind, pv_if, p1, p2, p3, q1, q2, q3, e1, e2, e3]

theorem pv_eq_at {d : Nat} (a b : Atm) : pureVal Try.prog (Op.equalIn (d + 4) 27 (.agg a.cells) (.agg b.cells)) = some (decide (a = b)) := by
  have hd : decide (a = b) = (decide (a.says = b.says) && (decide (a.pred = b.pred) && (decide (a.n = b.n) && decide (a.a0 = b.a0 ∧ a.a1 = b.a1 ∧ a.a2 = b.a2 ∧ a.a3 = b.a3)))) := by
    obtain ⟨s, p, n, x0, x1, x2, x3⟩ := a
    obtain ⟨s', p', n', y0, y1, y2, y3⟩ := b
    simp only [Atm.mk.injEq, ← Bool.decide_and]
  rw [hd]
  unfold Op.equalIn
  rw [pv_bind, pv_under Try.underlying27]
  have p : ∀ a : Atm, pureVal Try.prog (part 9 a.cells 0) = some (.string a.says) ∧ pureVal Try.prog (part 9 a.cells 1) = some (.string a.pred) ∧ pureVal Try.prog (part 3 a.cells 2) = some (.int .i64 a.n) ∧ pureVal Try.prog (part 25 a.cells 3) = some (fourV a.a0 a.a1 a.a2 a.a3) := fun a =>
    ⟨pv_part1 Try.underlying9 rfl rfl, pv_part1 Try.underlying9 rfl rfl, pv_part1 Try.underlying3 rfl rfl, (pv_partA Try.underlying25 rfl sz25).trans rfl⟩
  obtain ⟨p0, p1, p2, p3⟩ := p a
  obtain ⟨q0, q1, q2, q3⟩ := p b
  have e0 := pv_eq_str (d := d + 2) a.says b.says
  have e1 := pv_eq_str (d := d + 2) a.pred b.pred
  have e2 := pv_eq_int (d := d + 2) a.n b.n
  have e3 := pv_eq_four (d := d) a.a0 a.a1 a.a2 a.a3 b.a0 b.a1 b.a2 b.a3
  generalize fourV a.a0 a.a1 a.a2 a.a3 = u at *
  generalize fourV b.a0 b.a1 b.a2 b.a3 = v at *
  generalize decide (a.says = b.says) = c0 at *
  generalize decide (a.pred = b.pred) = c1 at *
  generalize decide (a.n = b.n) = c2 at *
  generalize decide (a.a0 = b.a0 ∧ a.a1 = b.a1 ∧ a.a2 = b.a2 ∧ a.a3 = b.a3) = c3 at *
  clear hd p
  generalize a.cells = xs at *
  generalize b.cells = ys at *
  simp only [Option.bind_some, pv_bind, pv_prog, held_at, Bool.false_eq_true, if_false, List.forIn_toArray, List.forIn_cons, List.forIn_nil, pv_pure, pv_if, ne_eq, String.reduceEq, not_false_eq_true, if_true, p0, p1, p2, p3, q0, q1, q2, q3, e0, e1, e2, e3]
  cases c0 <;> cases c1 <;> cases c2 <;> cases c3 <;> simp [pv_pure, pv_bind, pv_if, p1, p2, p3, q1, q2, q3, e1, e2, e3]

theorem bin_eqA (x y : Operand) (s t : Atm) : pureVal Try.prog (do eqGuard .eql 27 x y (.agg s.cells) (.agg t.cells); binOp .eql 27 (.agg s.cells) (.agg t.cells)) = some (.bool (decide (s = t))) := by
  have hg : Try.prog.eqGuardType Try.prog.depth 27 = false := by kernel_rfl
  have h : pureVal Try.prog (Op.equal 27 (.agg s.cells) (.agg t.cells)) = some (decide (s = t)) := pv_eq_at (d := 9996) s t
  generalize s.cells = xs at *
  generalize t.cells = ys at *
  have g : pureVal Try.prog (eqGuard .eql 27 x y (.agg xs) (.agg ys)) = some () := by
    simp [eqGuard, pv_bind, pv_prog, pv_pure, hg]
  rw [pv_bind, g, Option.bind_some]
  have e : binOp .eql 27 (.agg xs) (.agg ys) = (do pure (Value.bool (← Op.equal 27 (.agg xs) (.agg ys)))) := rfl
  rw [e, pv_bind, h]
  rfl
end Go.Proofs.Ytkkkpbnehpfkkaa
