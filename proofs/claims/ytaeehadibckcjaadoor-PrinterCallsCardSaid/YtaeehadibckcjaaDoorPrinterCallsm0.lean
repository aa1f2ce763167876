/-
  Part 0 of the proof's own texts: general lemmas and contracts of functions, laid one behind the other.
-/
import Derived.Test.YtaeehadibckcjaaDoorTy
import Derived.Test.YtaeehadibckcjaaDoorSc
import Derived.Test.YtaeehadibckcjaaDoorSe
import Derived.Test.YtaeehadibckcjaaDoorAo
import Derived.Test.YtaeehadibckcjaaDoorSq
import Derived.Test.YtaeehadibckcjaaDoorAp
import Derived.Test.YtaeehadibckcjaaDoorUd
import Derived.Test.YtaeehadibckcjaaDoorAtm
import Derived.KernelRfl
import Derived.Test.YtaeehadibckcjaaDoorAr
/-
  Chapter 4: contracts on abstract values: names, counts, the reference's Get, Check, Term.
-/
set_option linter.unusedSimpArgs false
namespace Go.Proofs.YtaeehadibckcjaaDoor
open Go.Vs Go.Vs.Ab
set_option maxRecDepth 100000
theorem idxS {ex : Bool} {l : List ByteArray} {k : Nat} (h : k < l.length) : aIndexAddr Tryd.prog 23 (slS ex l) (.c (.v (.int .i64 (k : Int)))) = some (.cptr (stC l[k] ++ (l.drop (k + 1)).flatMap stC)) :=
  idx_R stC 1 (fun _ => rfl) Tryd.underlying23 sz9 (by decide) h
theorem wrap_in {n : Int} (h : -9223372036854775808 ≤ n ∧ n ≤ 9223372036854775807) : IntKind.i64.wrap n = n := Go.IntWalk.i64_in _ h
theorem wrap_succ {k : Nat} (h : k ≤ 1000000000) : IntKind.i64.wrap ((k : Int) + 1) = ((k + 1 : Nat) : Int) := by rw [wrap_in (by omega)]; omega
theorem dec_true {p : Prop} [Decidable p] (h : p) : decide p = true := decide_eq_true h
theorem dec_false {p : Prop} [Decidable p] (h : ¬ p) : decide p = false := decide_eq_false h
theorem bb1 : (true == false) = false := rfl
theorem bb2 : (false == true) = false := rfl
attribute [go_sem] bb1 bb2 bdC tmC atC stC List.flatMap_cons List.flatMap_nil
set_option maxRecDepth 10000
theorem c_does (s : ByteArray) : Does Tryd.prog 51 [sA s] (fun m => (tmA ⟨false, s⟩, m)) := by
  refine does_of' Tryd.func51 rfl (by kernel_rfl) rfl Tryd.ntmps51 rfl rfl fun Q hQ => ?_
  repeat (first
      | refine tr_seq_k fun _ _ => ?_
      | (refine tr_region ?_; simp only [go_sem, List.getElem?_toArray, str_beq, reduceCtorEq, Nat.reduceEqDiff, Nat.reduceLT, Nat.reduceLeDiff, Nat.reduceAdd, Nat.reduceMul, Nat.reduceSub, Nat.reduceBEq, ↓reduceIte, bne_self_eq_false, Bool.and_false, Bool.false_and, Bool.true_or, Bool.false_or])
      | refine k_of (by assumption) ?_
      | refine tr_block ?_
      | refine tr_scope ?_
      | (refine tr_skip ?_; try simp only [ex_seq, ex_block])
      | (refine tr_label ?_; try simp only [ex_seq, ex_block])
      | (refine tr_exit ?_; try simp only [ex_seq_exit, ex_block_exit, Nat.reduceEqDiff, if_true, if_false, ex_seq, ex_block, reduceCtorEq, ↓reduceIte])
      | (refine tr_ret ?_; try simp only [ex_seq_ret, ex_block_ret]))
  refine (hQ _ _ [tmA ⟨false, s⟩] ?_ (fun m => ?_)).2 <;> simp only [go_sem, List.getElem?_toArray, str_beq, reduceCtorEq, Nat.reduceEqDiff, Nat.reduceLT, Nat.reduceLeDiff, Nat.reduceAdd, Nat.reduceMul, Nat.reduceSub, Nat.reduceBEq, ↓reduceIte, bne_self_eq_false, Bool.and_false, Bool.false_and, Bool.true_or, Bool.false_or, Tryd.f51, tmA]
theorem count_if (a : Atm) : (if (4 : Int) < (if (0 : Int) > a.n then 0 else a.n) then (4 : Int) else (if (0 : Int) > a.n then 0 else a.n)) = (a.count : Int) := by
  unfold Atm.count
  split <;> split <;> omega
theorem count_does (a : Atm) : Does Tryd.prog 73 [atA a] (fun m => (iA a.count, m)) := by
  refine does_of' Tryd.func73 rfl (by kernel_rfl) rfl Tryd.ntmps73 rfl rfl fun Q hQ => ?_
  repeat (first
      | refine tr_seq_k fun _ _ => ?_
      | (refine tr_region ?_; simp only [go_sem, List.getElem?_toArray, str_beq, reduceCtorEq, Nat.reduceEqDiff, Nat.reduceLT, Nat.reduceLeDiff, Nat.reduceAdd, Nat.reduceMul, Nat.reduceSub, Nat.reduceBEq, ↓reduceIte, bne_self_eq_false, Bool.and_false, Bool.false_and, Bool.true_or, Bool.false_or, atA, count_if])
      | refine k_of (by assumption) ?_
      | refine tr_block ?_
      | refine tr_scope ?_
      | (refine tr_skip ?_; try simp only [ex_seq, ex_block])
      | (refine tr_label ?_; try simp only [ex_seq, ex_block])
      | (refine tr_exit ?_; try simp only [ex_seq_exit, ex_block_exit, Nat.reduceEqDiff, if_true, if_false, ex_seq, ex_block, reduceCtorEq, ↓reduceIte])
      | (refine tr_ret ?_; try simp only [ex_seq_ret, ex_block_ret]))
  refine (hQ _ _ [iA a.count] ?_ (fun m => ?_)).2 <;> simp only [go_sem, List.getElem?_toArray, str_beq, reduceCtorEq, Nat.reduceEqDiff, Nat.reduceLT, Nat.reduceLeDiff, Nat.reduceAdd, Nat.reduceMul, Nat.reduceSub, Nat.reduceBEq, ↓reduceIte, bne_self_eq_false, Bool.and_false, Bool.false_and, Bool.true_or, Bool.false_or, Tryd.f73, count_if]
end Go.Proofs.YtaeehadibckcjaaDoor

/-
  Chapter 4: contracts on abstract values: the reference's Check, Term, Apply, put.
-/
namespace Go.Proofs.YtaeehadibckcjaaDoor
open Go.Vs Go.Vs.Ab
set_option maxRecDepth 100000
theorem wrap_pred {k : Nat} (h0 : 0 < k) (h : k ≤ 1000000000) : IntKind.i64.wrap ((k : Int) - 1) = ((k - 1 : Nat) : Int) := by rw [wrap_in (by omega)]; omega
set_option maxRecDepth 10000
set_option maxHeartbeats 1000000
end Go.Proofs.YtaeehadibckcjaaDoor

/-
  Chapter 4: contracts on abstract values, of what was shown in the program's own terms; Own.
-/
namespace Go.Proofs.YtaeehadibckcjaaDoor
open Go.Vs Go.Vs.Ab
set_option maxRecDepth 100000
theorem arr1 {vs : Array Value} {v : Value} (h : vs.toList = [v]) : vs = #[v] := by apply Array.ext'; simpa using h
theorem arr2 {vs : Array Value} {v u : Value} (h : vs.toList = [v, u]) : vs = #[v, u] := by apply Array.ext'; simpa using h
theorem callable {F : FuncId} {fn : Func} (h : Tryd.prog.funcs[F]? = some fn) (hb : callableB fn = true) : Callable Tryd.prog F := callable_of h hb
set_option maxRecDepth 10000
theorem lightA_does (a : Atm) : Does Tryd.prog 20 [atA a] (fun m => (bA (lightA a), m)) := by
  refine does_of_calls (v := .bool (lightA a)) (callable Tryd.func20 (by kernel_rfl)) rfl fun X w vs hc hr => ?_
  obtain ⟨v, hv, h1⟩ := reps1 hr
  rw [arr1 hv, val_rep (val_at a) h1]
  exact lightA_any a
end Go.Proofs.YtaeehadibckcjaaDoor

/-
  Chapter 4: '==' of terms, atoms and bindings, on abstract values.
-/
namespace Go.Proofs.YtaeehadibckcjaaDoor
open Go.Vs Go.Vs.Ab
set_option maxRecDepth 100000
theorem ba_beq (a b : ByteArray) : (a == b) = decide (a = b) := by
  have h : (a == b) = (a.data == b.data) := rfl
  rw [h, Bool.eq_iff_iff, beq_iff_eq, decide_eq_true_eq]
  exact ⟨fun h => by cases a; cases b; simp at h; simp [h], fun h => by rw [h]⟩
theorem pv_under {P : Program} {t : TypeId} {d : TypeDesc} (h : P.underlying t = some d) : pureVal P (underlying t) = some d := by
  simp only [underlying, program, pureVal, bind, Sem.bind, h, pure]
theorem pv_prog {P : Program} : pureVal P program = some P := rfl
theorem held_tm : Tryd.prog.stoodInHeld 39 = false := by kernel_rfl
theorem held_at : Tryd.prog.stoodInHeld 42 = false := by kernel_rfl
theorem pv_isAgg {P : Program} {t : TypeId} {d : TypeDesc} (h : P.underlying t = some d) : pureVal P (isAgg t) = some (aggD d) := by
  unfold isAgg
  rw [pv_bind, pv_under h]
  cases d <;> rfl
theorem pv_size {P : Program} {t : TypeId} {s : Nat} (h : tsz P t = some s) : pureVal P (sizeOf t) = some s := by
  obtain ⟨i, hi, rfl⟩ := tsz_spec h
  simp only [sizeOf, typeInfo, program, pureVal, bind, Sem.bind, hi, pure]
theorem pv_part1 {P : Program} {t : TypeId} {d : TypeDesc} (h : P.underlying t = some d) (ha : aggD d = false) {cs : Array Value} {off : Nat} {v : Value} (hv : cs[off]? = some v) : pureVal P (part t cs off) = some v := by
  unfold part
  rw [pv_bind, pv_isAgg h, Option.bind_some, ha]
  simp only [Bool.false_eq_true, if_false, hv]
  rfl
theorem pv_partA {P : Program} {t : TypeId} {d : TypeDesc} {s : Nat} (h : P.underlying t = some d) (ha : aggD d = true) (hs : tsz P t = some s) {cs : Array Value} {off : Nat} : pureVal P (part t cs off) = some (.agg (cs.extract off (off + s))) := by
  unfold part
  rw [pv_bind, pv_isAgg h, Option.bind_some, ha]
  simp only [if_true]
  rw [pv_bind, pv_size hs]
  rfl
theorem pv_eq_bool {d : Nat} (a b : Bool) : pureVal Tryd.prog (Op.equalIn (d + 1) 4 (.bool a) (.bool b)) = some (a == b) := by
  unfold Op.equalIn
  rw [pv_bind, pv_under Tryd.underlying4]
  rfl
theorem pv_eq_str {d : Nat} (a b : ByteArray) : pureVal Tryd.prog (Op.equalIn (d + 1) 9 (.string a) (.string b)) = some (decide (a = b)) := by
  unfold Op.equalIn
  rw [pv_bind, pv_under Tryd.underlying9]
  show some (a == b) = _
  rw [ba_beq]
theorem pv_eq_int {d : Nat} (a b : Int) : pureVal Tryd.prog (Op.equalIn (d + 1) 3 (.int .i64 a) (.int .i64 b)) = some (decide (a = b)) := by
  unfold Op.equalIn
  rw [pv_bind, pv_under Tryd.underlying3]
  show some (a == b) = _
  by_cases h : a = b
  · subst h; simp
  · simp [h]
theorem pv_if {α : Type} {P : Program} (c : Prop) [Decidable c] (x y : Sem α) : pureVal P (if c then x else y) = if c then pureVal P x else pureVal P y := by split <;> rfl
theorem pv_eq_tm {d : Nat} (s t : Tm) : pureVal Tryd.prog (Op.equalIn (d + 2) 39 (.agg #[.bool s.v, .string s.name]) (.agg #[.bool t.v, .string t.name])) = some (decide (s = t)) := by
  unfold Op.equalIn
  rw [pv_bind, pv_under Tryd.underlying39]
  have p0 : ∀ s : Tm, pureVal Tryd.prog (part 4 #[.bool s.v, .string s.name] 0) = some (.bool s.v) := fun s => pv_part1 Tryd.underlying4 rfl rfl
  have p1 : ∀ s : Tm, pureVal Tryd.prog (part 9 #[.bool s.v, .string s.name] 1) = some (.string s.name) := fun s => pv_part1 Tryd.underlying9 rfl rfl
  obtain ⟨sv, sn⟩ := s
  obtain ⟨tv, tn⟩ := t
  have q0 := p0 ⟨sv, sn⟩
  have q1 := p0 ⟨tv, tn⟩
  have q2 := p1 ⟨sv, sn⟩
  have q3 := p1 ⟨tv, tn⟩
  simp only at q0 q1 q2 q3
  simp only [Option.bind_some, pv_bind, pv_prog, held_tm, Bool.false_eq_true, if_false, List.forIn_toArray, List.forIn_cons, List.forIn_nil, pv_pure, pv_if, ne_eq, String.reduceEq, not_false_eq_true, if_true, q0, q1, q2, q3, pv_eq_bool, pv_eq_str]
  by_cases h1 : sv = tv
  · by_cases h2 : sn = tn
    · subst h1 h2; simp [pv_pure, pv_bind, q2, pv_eq_str]
    · subst h1; simp [h2, pv_pure, pv_bind, pv_if, q2, q3, pv_eq_str]
  · simp [h1, pv_pure, pv_bind]
theorem bin_eqT (x y : Operand) (s t : Tm) : pureVal Tryd.prog (do eqGuard .eql 39 x y (.agg #[.bool s.v, .string s.name]) (.agg #[.bool t.v, .string t.name]); binOp .eql 39 (.agg #[.bool s.v, .string s.name]) (.agg #[.bool t.v, .string t.name])) = some (.bool (decide (s = t))) := by
  have hg : Tryd.prog.eqGuardType Tryd.prog.depth 39 = false := by kernel_rfl
  have h := pv_eq_tm (d := 9998) s t
  have g : pureVal Tryd.prog (eqGuard .eql 39 x y (.agg #[.bool s.v, .string s.name]) (.agg #[.bool t.v, .string t.name])) = some () := by
    simp [eqGuard, pv_bind, pv_prog, pv_pure, hg]
  rw [pv_bind, g, Option.bind_some]
  have e : binOp .eql 39 (.agg #[.bool s.v, .string s.name]) (.agg #[.bool t.v, .string t.name]) = (do pure (Value.bool (← Op.equal 39 (.agg #[.bool s.v, .string s.name]) (.agg #[.bool t.v, .string t.name])))) := rfl
  rw [e, pv_bind]
  have h' : pureVal Tryd.prog (Op.equal 39 (.agg #[.bool s.v, .string s.name]) (.agg #[.bool t.v, .string t.name])) = some (decide (s = t)) := h
  rw [h']
  rfl
abbrev fourV (a b c d : Tm) : Value := .agg #[.bool a.v, .string a.name, .bool b.v, .string b.name, .bool c.v, .string c.name, .bool d.v, .string d.name]
theorem pv_eq_four {d : Nat} (a0 a1 a2 a3 b0 b1 b2 b3 : Tm) : pureVal Tryd.prog (Op.equalIn (d + 3) 40 (fourV a0 a1 a2 a3) (fourV b0 b1 b2 b3)) = some (decide (a0 = b0 ∧ a1 = b1 ∧ a2 = b2 ∧ a3 = b3)) := by
  unfold Op.equalIn
  rw [pv_bind, pv_under Tryd.underlying40]
  have p : ∀ (a0 a1 a2 a3 : Tm), (pureVal Tryd.prog (part 39 #[.bool a0.v, .string a0.name, .bool a1.v, .string a1.name, .bool a2.v, .string a2.name, .bool a3.v, .string a3.name] 0) = some (.agg #[.bool a0.v, .string a0.name])) ∧
      (pureVal Tryd.prog (part 39 #[.bool a0.v, .string a0.name, .bool a1.v, .string a1.name, .bool a2.v, .string a2.name, .bool a3.v, .string a3.name] 2) = some (.agg #[.bool a1.v, .string a1.name])) ∧
      (pureVal Tryd.prog (part 39 #[.bool a0.v, .string a0.name, .bool a1.v, .string a1.name, .bool a2.v, .string a2.name, .bool a3.v, .string a3.name] 4) = some (.agg #[.bool a2.v, .string a2.name])) ∧
      (pureVal Tryd.prog (part 39 #[.bool a0.v, .string a0.name, .bool a1.v, .string a1.name, .bool a2.v, .string a2.name, .bool a3.v, .string a3.name] 6) = some (.agg #[.bool a3.v, .string a3.name])) := fun a0 a1 a2 a3 =>
    ⟨(pv_partA Tryd.underlying39 rfl sz39).trans rfl, (pv_partA Tryd.underlying39 rfl sz39).trans rfl, (pv_partA Tryd.underlying39 rfl sz39).trans rfl, (pv_partA Tryd.underlying39 rfl sz39).trans rfl⟩
  obtain ⟨p0, p1, p2, p3⟩ := p a0 a1 a2 a3
  obtain ⟨q0, q1, q2, q3⟩ := p b0 b1 b2 b3
  have e0 := pv_eq_tm (d := d) a0 b0
  have e1 := pv_eq_tm (d := d) a1 b1
  have e2 := pv_eq_tm (d := d) a2 b2
  have e3 := pv_eq_tm (d := d) a3 b3
  have hr : List.range' 0 4 1 = [0, 1, 2, 3] := rfl
  simp only [Option.bind_some, pv_bind, pv_size sz39, fourV, Std.Legacy.Range.forIn_eq_forIn_range', Std.Legacy.Range.size, Nat.sub_zero, Nat.reduceAdd, Nat.reduceSub, Nat.reduceDiv, Nat.div_one, hr, List.forIn_cons, List.forIn_nil, pv_pure, pv_if, Nat.zero_mul, Nat.one_mul, Nat.reduceMul, p0, p1, p2, p3, q0, q1, q2, q3, e0, e1, e2, e3]
  rw [Bool.decide_and, Bool.decide_and, Bool.decide_and]
  generalize decide (a0 = b0) = c0 at *
  generalize decide (a1 = b1) = c1 at *
  generalize decide (a2 = b2) = c2 at *
  generalize decide (a3 = b3) = c3 at *
  cases c0 <;> cases c1 <;> cases c2 <;> cases c3 <;> simp [pv_pure, pv_bind, pv_if, p1, p2, p3, q1, q2, q3, e1, e2, e3]
theorem pv_eq_at {d : Nat} (a b : Atm) : pureVal Tryd.prog (Op.equalIn (d + 4) 42 (.agg a.cells) (.agg b.cells)) = some (decide (a = b)) := by
  have hd : decide (a = b) = (decide (a.says = b.says) && (decide (a.pred = b.pred) && (decide (a.n = b.n) && decide (a.a0 = b.a0 ∧ a.a1 = b.a1 ∧ a.a2 = b.a2 ∧ a.a3 = b.a3)))) := by
    obtain ⟨s, p, n, x0, x1, x2, x3⟩ := a
    obtain ⟨s', p', n', y0, y1, y2, y3⟩ := b
    simp only [Atm.mk.injEq, ← Bool.decide_and]
  rw [hd]
  unfold Op.equalIn
  rw [pv_bind, pv_under Tryd.underlying42]
  have p : ∀ a : Atm, pureVal Tryd.prog (part 9 a.cells 0) = some (.string a.says) ∧ pureVal Tryd.prog (part 9 a.cells 1) = some (.string a.pred) ∧ pureVal Tryd.prog (part 3 a.cells 2) = some (.int .i64 a.n) ∧ pureVal Tryd.prog (part 40 a.cells 3) = some (fourV a.a0 a.a1 a.a2 a.a3) := fun a =>
    ⟨pv_part1 Tryd.underlying9 rfl rfl, pv_part1 Tryd.underlying9 rfl rfl, pv_part1 Tryd.underlying3 rfl rfl, (pv_partA Tryd.underlying40 rfl sz40).trans rfl⟩
  obtain ⟨p0, p1, p2, p3⟩ := p a
  obtain ⟨q0, q1, q2, q3⟩ := p b
  have e0 := pv_eq_str (d := d + 2) a.says b.says
  have e1 := pv_eq_str (d := d + 2) a.pred b.pred
  have e2 := pv_eq_int (d := d + 2) a.n b.n
  have e3 := pv_eq_four (d := d) a.a0 a.a1 a.a2 a.a3 b.a0 b.a1 b.a2 b.a3
  generalize fourV a.a0 a.a1 a.a2 a.a3 = u at *
  generalize fourV b.a0 b.a1 b.a2 b.a3 = v at *
  generalize decide (a.says = b.says) = c0 at *
  generalize decide (a.pred = b.pred) = c1 at *
  generalize decide (a.n = b.n) = c2 at *
  generalize decide (a.a0 = b.a0 ∧ a.a1 = b.a1 ∧ a.a2 = b.a2 ∧ a.a3 = b.a3) = c3 at *
  clear hd p
  generalize a.cells = xs at *
  generalize b.cells = ys at *
  simp only [Option.bind_some, pv_bind, pv_prog, held_at, Bool.false_eq_true, if_false, List.forIn_toArray, List.forIn_cons, List.forIn_nil, pv_pure, pv_if, ne_eq, String.reduceEq, not_false_eq_true, if_true, p0, p1, p2, p3, q0, q1, q2, q3, e0, e1, e2, e3]
  cases c0 <;> cases c1 <;> cases c2 <;> cases c3 <;> simp [pv_pure, pv_bind, pv_if, p1, p2, p3, q1, q2, q3, e1, e2, e3]
theorem bin_eqA (x y : Operand) (s t : Atm) : pureVal Tryd.prog (do eqGuard .eql 42 x y (.agg s.cells) (.agg t.cells); binOp .eql 42 (.agg s.cells) (.agg t.cells)) = some (.bool (decide (s = t))) := by
  have hg : Tryd.prog.eqGuardType Tryd.prog.depth 42 = false := by kernel_rfl
  have h : pureVal Tryd.prog (Op.equal 42 (.agg s.cells) (.agg t.cells)) = some (decide (s = t)) := pv_eq_at (d := 9996) s t
  generalize s.cells = xs at *
  generalize t.cells = ys at *
  have g : pureVal Tryd.prog (eqGuard .eql 42 x y (.agg xs) (.agg ys)) = some () := by
    simp [eqGuard, pv_bind, pv_prog, pv_pure, hg]
  rw [pv_bind, g, Option.bind_some]
  have e : binOp .eql 42 (.agg xs) (.agg ys) = (do pure (Value.bool (← Op.equal 42 (.agg xs) (.agg ys)))) := rfl
  rw [e, pv_bind, h]
  rfl
end Go.Proofs.YtaeehadibckcjaaDoor

/-
  Chapter 4: SubstParts: the walk on abstract values, and its plain law.
-/
namespace Go.Proofs.YtaeehadibckcjaaDoor
open Go.Vs Go.Vs.Ab
def hintTab : List ((Nat × Nat) × Nat × List Nat × List Nat) := [
  ((39, 6), 10000, [], [0, 1, 2, 3, 4, 5, 6, 7, 8]),
  ((53, 1), 10000, [4], [0, 1, 2, 3, 4, 5, 6]),
  ((66, 6), 10000, [], [0, 1, 2, 3, 4, 5, 6, 7, 8])]
set_option maxRecDepth 100000
theorem bin_eqA' (x y : Operand) (s t : Atm) : pureVal Tryd.prog (do eqGuard .eql 42 x y (.agg [.string s.says, .string s.pred, .int .i64 s.n, .bool s.a0.v, .string s.a0.name, .bool s.a1.v, .string s.a1.name, .bool s.a2.v, .string s.a2.name, .bool s.a3.v, .string s.a3.name].toArray) (.agg [.string t.says, .string t.pred, .int .i64 t.n, .bool t.a0.v, .string t.a0.name, .bool t.a1.v, .string t.a1.name, .bool t.a2.v, .string t.a2.name, .bool t.a3.v, .string t.a3.name].toArray); binOp .eql 42 (.agg [.string s.says, .string s.pred, .int .i64 s.n, .bool s.a0.v, .string s.a0.name, .bool s.a1.v, .string s.a1.name, .bool s.a2.v, .string s.a2.name, .bool s.a3.v, .string s.a3.name].toArray) (.agg [.string t.says, .string t.pred, .int .i64 t.n, .bool t.a0.v, .string t.a0.name, .bool t.a1.v, .string t.a1.name, .bool t.a2.v, .string t.a2.name, .bool t.a3.v, .string t.a3.name].toArray)) = some (.bool (decide (s = t))) := bin_eqA x y s t
theorem info_s : info3 Tryd.prog 9 = some (1, 16) := by simp only [info3, sz9, by9, ze9]; rfl
theorem build1S {v : AV} {ds : List CV} (hc : cells v = some ds) (hd : ds.length = 1) : aBuildSlice Tryd.prog 23 1 [(0, v)] = some ds := build1 Tryd.underlying23 sz9 ze9 (by decide) (by decide) (by decide) hc hd
theorem build1S' (s : ByteArray) : aBuildSlice Tryd.prog 23 1 [(0, sA s)] = some [.v (.string s)] := build1S rfl rfl
/-! ### the plain law -/
def others (l : List Bd) (V : List ByteArray) : List ByteArray := (l.filter (fun b => !pin V b.var)).map Bd.var
theorem others_next {l : List Bd} {V : List ByteArray} {k : Nat} (hk : k < l.length) : others (l.take (k + 1)) V = others (l.take k) V ++ (if pin V l[k].var = true then [] else [l[k].var]) := by
  unfold others
  rw [List.take_succ_eq_append_getElem hk, List.filter_append, List.map_append]
  cases h : pin V l[k].var <;> simp [h]
theorem others_len (l : List Bd) (V : List ByteArray) : (others l V).length ≤ l.length := by
  unfold others
  rw [List.length_map]
  exact List.length_filter_le _ _
theorem pin_mem {V : List ByteArray} {s : ByteArray} : pin V s = true ↔ s ∈ V := by
  unfold pin
  rw [List.any_eq_true]
  constructor
  · rintro ⟨x, hx, he⟩
    simp at he
    subst he
    exact hx
  · intro h
    exact ⟨s, h, by simp⟩
theorem pget_filter {x : ByteArray} {p : Bd → Bool} : ∀ {l : List Bd}, (∀ b ∈ l, b.var = x → p b = true) → pget (l.filter p) x = pget l x
  | [], _ => rfl
  | b :: l, h => by
    have ih := pget_filter (l := l) (fun c hc => h c (by simp [hc]))
    unfold pget at ih ⊢
    by_cases hp : p b = true
    · rw [List.filter_cons_of_pos hp, List.find?_cons, List.find?_cons]
      split
      · rfl
      · exact ih
    · have hne : ¬ b.var = x := fun e => hp (h b (by simp) e)
      rw [List.filter_cons_of_neg hp, List.find?_cons, ih]
      simp [hne]
theorem pget_filter_none {l : List Bd} {p : Bd → Bool} {x : ByteArray} (h : ∀ b ∈ l, b.var = x → p b = false) : pget (l.filter p) x = none := by
  unfold pget
  rw [Option.map_eq_none_iff, List.find?_eq_none]
  intro b hb
  rw [List.mem_filter] at hb
  simp only [decide_eq_true_eq]
  intro e
  have := h b hb.1 e
  rw [this] at hb
  exact absurd hb.2 Bool.false_ne_true
theorem pnames_mem (a : Atm) : ∀ (k : Nat), k ≤ 4 → ∀ i, i < k → (a.arg i).v = true → (a.arg i).name ∈ pnamesK a true k
  | 0, _, i, hi, _ => absurd hi (Nat.not_lt_zero _)
  | k + 1, hk, i, hi, hv => by
    unfold pnamesK
    rw [List.mem_append]
    by_cases e : i < k
    · exact Or.inl (pnames_mem a k (by omega) i e hv)
    · obtain rfl : i = k := by omega
      by_cases hs : pseen a i i = true
      · left
        unfold pseen at hs
        rw [List.any_eq_true] at hs
        obtain ⟨t, ht, he⟩ := hs
        simp only [decide_eq_true_eq] at he
        have : ∃ j, j < i ∧ a.arg j = t := by
          obtain ⟨j, hj, h1⟩ := List.mem_iff_getElem.1 ht
          rw [List.length_take] at hj
          refine ⟨j, by omega, ?_⟩
          rw [← h1, List.getElem_take]
          have hj4 : j < 4 := by simp [Atm.args] at hj; omega
          obtain rfl | rfl | rfl | rfl : j = 0 ∨ j = 1 ∨ j = 2 ∨ j = 3 := by omega
          all_goals rfl
        obtain ⟨j, hj, hjt⟩ := this
        have := pnames_mem a i (by omega) j hj (by rw [hjt, he]; exact hv)
        rwa [hjt, he] at this
      · right
        rw [if_pos ⟨hv, by simpa using hs⟩]
        simp
theorem upto_congr {f g : Tm → Tm} {a : Atm} {k : Nat} (h : ∀ i, i < k → i < 4 → f (a.arg i) = g (a.arg i)) : a.upto f k = a.upto g k := by
  unfold Atm.upto
  have h0 := h 0
  have h1 := h 1
  have h2 := h 2
  have h3 := h 3
  simp only [Atm.arg] at h0 h1 h2 h3
  congr 1
  · split
    · exact h0 (by assumption) (by omega)
    · rfl
  · split
    · exact h1 (by assumption) (by omega)
    · rfl
  · split
    · exact h2 (by assumption) (by omega)
    · rfl
  · split
    · exact h3 (by assumption) (by omega)
    · rfl
theorem upto_id (a : Atm) (k : Nat) : a.upto id k = a := by
  unfold Atm.upto
  simp
theorem parts_same (l : List Bd) (a : Atm) : papp (prestrict l (pnames a true)) a = papp l a := by
  unfold papp
  refine upto_congr fun i hi h4 => ?_
  unfold pterm
  split
  · rename_i hv
    unfold prestrict
    rw [pget_filter]
    intro b _ he
    rw [pin_mem, he]
    exact pnames_mem a a.count a.count_le i hi hv
  · rfl
theorem parts_other (l : List Bd) (a : Atm) : papp (prestrict l (others l (pnames a true))) a = a := by
  unfold papp
  refine (upto_congr (g := id) fun i hi h4 => ?_).trans (upto_id a _)
  unfold pterm
  split
  · rename_i hv
    unfold prestrict
    rw [pget_filter_none]
    · rfl
    · intro b _ he
      rw [Bool.eq_false_iff]
      intro h
      rw [pin_mem] at h
      unfold others at h
      rw [List.mem_map] at h
      obtain ⟨c, hc, h1⟩ := h
      rw [List.mem_filter] at hc
      have h2 := hc.2
      simp only [Bool.not_eq_true'] at h2
      have : pin (pnames a true) c.var = true := by
        rw [pin_mem, h1, he]
        exact pnames_mem a a.count a.count_le i hi hv
      rw [this] at h2
      cases h2
  · rfl
theorem parts_len (l : List Bd) (V : List ByteArray) : (prestrict l V).length + (prestrict l (others l V)).length = l.length := by
  have h : prestrict l (others l V) = l.filter (fun b => !pin V b.var) := by
    unfold prestrict
    refine List.filter_congr fun b hb => ?_
    cases hp : pin V b.var with
    | true =>
      simp only [Bool.not_true]
      rw [Bool.eq_false_iff]
      intro h
      rw [pin_mem] at h
      unfold others at h
      rw [List.mem_map] at h
      obtain ⟨c, hc, h1⟩ := h
      rw [List.mem_filter] at hc
      have h2 := hc.2
      rw [h1, hp] at h2
      cases h2
    | false =>
      simp only [Bool.not_false]
      rw [pin_mem]
      unfold others
      rw [List.mem_map]
      exact ⟨b, by rw [List.mem_filter]; exact ⟨hb, by simp [hp]⟩, rfl⟩
  rw [h]
  unfold prestrict
  have key : ∀ (p : Bd → Bool) (l : List Bd), (l.filter p).length + (l.filter (fun b => !p b)).length = l.length := fun p l => by
    induction l with
    | nil => rfl
    | cons b l ih =>
      cases hp : p b
      · rw [List.filter_cons_of_neg (by rw [hp]; exact Bool.false_ne_true), List.filter_cons_of_pos (by rw [hp]; rfl), List.length_cons, List.length_cons]
        omega
      · rw [List.filter_cons_of_pos hp, List.filter_cons_of_neg (by rw [hp]; exact Bool.false_ne_true), List.length_cons, List.length_cons]
        omega
  exact key _ l
end Go.Proofs.YtaeehadibckcjaaDoor

/-
  Chapter 4: contracts on abstract values: own, the reference's put.
-/
namespace Go.Proofs.YtaeehadibckcjaaDoor
open Go.Vs Go.Vs.Ab
set_option maxRecDepth 100000
theorem one_max : (1 ≤ maxLen) = True := eq_true (by decide)
set_option maxRecDepth 10000
/-! ### put -/
theorem gt_blt (x y : ByteArray) : (!(blt x y || decide (x = y))) = blt y x := by
  rcases blt_total x y with h | h | h
  · rw [h, blt_asymm h]; rfl
  · subst h; simp [blt_irrefl]
  · rw [h, blt_asymm h]
    have := blt_ne h
    simp [Ne.symm this]
def putK (b : Bd) (l : List Bd) : List Bd × Bool := l.foldl (fun s x => (s.1 ++ (if !s.2 && blt b.var x.var then [b] else []) ++ [x], s.2 || blt b.var x.var)) ([], false)
theorem putK_next {b : Bd} {l : List Bd} {k : Nat} (h : k < l.length) : putK b (l.take (k + 1)) = ((putK b (l.take k)).1 ++ (if !(putK b (l.take k)).2 && blt b.var l[k].var then [b] else []) ++ [l[k]], (putK b (l.take k)).2 || blt b.var l[k].var) := by
  unfold putK
  rw [List.take_succ_eq_append_getElem h, List.foldl_append]
  rfl
theorem putF_true (b : Bd) : ∀ (l acc : List Bd), l.foldl (fun s x => (s.1 ++ (if !s.2 && blt b.var x.var then [b] else []) ++ [x], s.2 || blt b.var x.var)) (acc, true) = (acc ++ l, true)
  | [], acc => by simp
  | x :: l, acc => by
    rw [List.foldl_cons]
    have := putF_true b l (acc ++ [x])
    simp at this ⊢
    exact this
theorem putF_false (b : Bd) : ∀ (l acc : List Bd), (let r := l.foldl (fun s x => (s.1 ++ (if !s.2 && blt b.var x.var then [b] else []) ++ [x], s.2 || blt b.var x.var)) (acc, false); if r.2 then r.1 else r.1 ++ [b]) = acc ++ pwith l b
  | [], acc => by simp [pwith]
  | x :: l, acc => by
    rw [List.foldl_cons]
    cases h : blt b.var x.var with
    | true =>
      have := putF_true b l (acc ++ [b] ++ [x])
      simp [pwith, h] at this ⊢
      rw [this]
      simp
    | false =>
      have := putF_false b l (acc ++ [x])
      simp [pwith, h] at this ⊢
      rw [this]
theorem putK_end (b : Bd) (l : List Bd) : (if (putK b l).2 then (putK b l).1 else (putK b l).1 ++ [b]) = pwith l b := by
  have := putF_false b l []
  simpa [putK] using this
theorem putK_len (b : Bd) (l : List Bd) : (putK b l).1.length ≤ 2 * l.length := by
  have key : ∀ (l acc : List Bd) (s : Bool), (l.foldl (fun s x => (s.1 ++ (if !s.2 && blt b.var x.var then [b] else []) ++ [x], s.2 || blt b.var x.var)) (acc, s)).1.length ≤ acc.length + 2 * l.length := by
    intro l
    induction l with
    | nil => intro acc s; simp
    | cons x l ih =>
      intro acc s
      rw [List.foldl_cons]
      refine Nat.le_trans (ih _ _) ?_
      rw [List.length_append, List.length_append, List.length_cons, List.length_cons]
      split <;> simp <;> omega
  have := key l [] false
  rw [List.length_nil, Nat.zero_add] at this
  exact this
set_option maxHeartbeats 2000000
end Go.Proofs.YtaeehadibckcjaaDoor

/-
  Chapter 4: the search for a place, on abstract values.
-/
namespace Go.Proofs.YtaeehadibckcjaaDoor
open Go.RowKit Go.Vs Go.Vs.Ab
set_option maxRecDepth 100000
end Go.Proofs.YtaeehadibckcjaaDoor

/-
  Chapter 4: contracts on abstract values: with.
-/
namespace Go.Proofs.YtaeehadibckcjaaDoor
open Go.Vs Go.Vs.Ab
set_option maxRecDepth 100000
theorem pwith_place (l : List Bd) (b : Bd) : l.take (place l b.var) ++ [b] ++ l.drop (place l b.var) = pwith l b := by
  have h := List.takeWhile_append_dropWhile (p := fun x : Bd => !blt b.var x.var) (l := l)
  have h1 : l.take (place l b.var) = l.takeWhile (fun x => !blt b.var x.var) := (congrArg (List.take (place l b.var)) h.symm).trans (List.take_left' rfl)
  have h2 : l.drop (place l b.var) = l.dropWhile (fun x => !blt b.var x.var) := (congrArg (List.drop (place l b.var)) h.symm).trans (List.drop_left' rfl)
  rw [h1, h2]
  simp [pwith]
set_option maxRecDepth 10000
set_option maxHeartbeats 2000000
end Go.Proofs.YtaeehadibckcjaaDoor

/-
  Chapter 4: contracts on abstract values: the reference's Bind.
-/
namespace Go.Proofs.YtaeehadibckcjaaDoor
open Go.Vs Go.Vs.Ab
set_option maxRecDepth 100000
def pbE (l : List Bd) (v : ByteArray) (t : Tm) : Int := if pcheck l = false then 15 else if v = ⟨#[]⟩ ∨ t.name = ⟨#[]⟩ then 2 else if (pget l v).isSome = true then 5 else if pown ⟨v, pterm l t⟩ = true then 2 else 0
def pbL (l : List Bd) (v : ByteArray) (t : Tm) : List Bd := if pbE l v t = 0 then pwith (punder l [⟨v, pterm l t⟩]) ⟨v, pterm l t⟩ else []
theorem pbL_err {l : List Bd} {v : ByteArray} {t : Tm} {e : Int} (h : pbE l v t = e) (h0 : e ≠ 0) : pbL l v t = [] := by unfold pbL; rw [h, if_neg h0]
theorem punder_next {l m : List Bd} {k : Nat} (h : k < l.length) : punder (l.take (k + 1)) m = punder (l.take k) m ++ [⟨l[k].var, pterm m l[k].t⟩] := by
  unfold punder
  rw [List.take_succ_eq_append_getElem h, List.map_append]
  rfl
theorem pwith_len (l : List Bd) (b : Bd) : (pwith l b).length = l.length + 1 := by
  have := congrArg List.length (List.takeWhile_append_dropWhile (p := fun x : Bd => !blt b.var x.var) (l := l))
  unfold pwith
  simp only [List.length_append, List.length_cons] at this ⊢
  omega
set_option maxRecDepth 10000
set_option maxHeartbeats 2000000
end Go.Proofs.YtaeehadibckcjaaDoor

/-
  Chapter 4: contracts on abstract values: under.
-/
namespace Go.Proofs.YtaeehadibckcjaaDoor
open Go.Vs Go.Vs.Ab
set_option maxRecDepth 100000
set_option maxRecDepth 10000
set_option maxHeartbeats 2000000
end Go.Proofs.YtaeehadibckcjaaDoor

/-
  Chapter 4: contracts on abstract values: Bind.
-/
namespace Go.Proofs.YtaeehadibckcjaaDoor
open Go.Vs Go.Vs.Ab
set_option maxRecDepth 100000
theorem punder_len (l m : List Bd) : (punder l m).length = l.length := by simp [punder]
theorem punder_var (l m : List Bd) (i : Nat) (h : i < (punder l m).length) : (punder l m)[i].var = (l[i]'(by rw [punder_len] at h; exact h)).var := by simp [punder]
theorem prises_punder {l m : List Bd} (h : prises l = true) : prises (punder l m) = true := by
  rw [prises_iff] at h ⊢
  intro i hi
  rw [punder_var, punder_var]
  exact h i (by rw [punder_len] at hi; exact hi)
set_option maxRecDepth 10000
set_option maxHeartbeats 2000000
end Go.Proofs.YtaeehadibckcjaaDoor

/-
  Chapter 4: the plain law of binding.
-/
namespace Go.Proofs.YtaeehadibckcjaaDoor
open Go.Vs Go.Vs.Ab
set_option maxRecDepth 100000
theorem pget_cons (b : Bd) (l : List Bd) (n : ByteArray) : pget (b :: l) n = if b.var = n then some b.t else pget l n := by
  unfold pget
  rw [List.find?_cons]
  by_cases h : b.var = n <;> simp [h]
theorem pget_append (a l : List Bd) (n : ByteArray) : pget (a ++ l) n = (pget a n).or (pget l n) := by
  induction a with
  | nil => simp [pget]
  | cons b a ih =>
    rw [List.cons_append, pget_cons, pget_cons, ih]
    split <;> rfl
theorem pget_none_iff {l : List Bd} {n : ByteArray} : pget l n = none ↔ ∀ b ∈ l, b.var ≠ n := by
  unfold pget
  rw [Option.map_eq_none_iff, List.find?_eq_none]
  simp
theorem pget_with {l : List Bd} {b : Bd} (h : pget l b.var = none) (n : ByteArray) : pget (pwith l b) n = if b.var = n then some b.t else pget l n := by
  have e := List.takeWhile_append_dropWhile (p := fun x : Bd => !blt b.var x.var) (l := l)
  unfold pwith
  rw [pget_append, pget_cons]
  have h2 : pget l n = (pget (l.takeWhile (fun x => !blt b.var x.var)) n).or (pget (l.dropWhile (fun x => !blt b.var x.var)) n) := by rw [← pget_append, e]
  by_cases hn : b.var = n
  · subst hn
    rw [h] at h2
    have : pget (l.takeWhile (fun x => !blt b.var x.var)) b.var = none := by
      cases h3 : pget (l.takeWhile (fun x => !blt b.var x.var)) b.var with
      | none => rfl
      | some u => rw [h3] at h2; simp at h2
    rw [this]
    simp
  · rw [if_neg hn, if_neg hn, h2]
theorem pget_under (l m : List Bd) (n : ByteArray) : pget (punder l m) n = (pget l n).map (pterm m) := by
  induction l with
  | nil => rfl
  | cons b l ih =>
    have : punder (b :: l) m = ⟨b.var, pterm m b.t⟩ :: punder l m := rfl
    rw [this, pget_cons, pget_cons, ih]
    split <;> rfl
theorem upto_twice (f g : Tm → Tm) (a : Atm) (k : Nat) : (a.upto f k).upto g k = a.upto (fun t => g (f t)) k := by
  unfold Atm.upto
  congr 1 <;> (split <;> simp_all)
theorem pbE_zero {l : List Bd} {v : ByteArray} {t : Tm} (h : pbE l v t = 0) : pcheck l = true ∧ v ≠ ⟨#[]⟩ ∧ t.name ≠ ⟨#[]⟩ ∧ pget l v = none ∧ pown ⟨v, pterm l t⟩ = false := by
  unfold pbE at h
  split at h
  · cases h
  · rename_i h1
    split at h
    · cases h
    · rename_i h2
      split at h
      · cases h
      · rename_i h3
        split at h
        · cases h
        · rename_i h4
          exact ⟨by simpa using h1, fun e => h2 (Or.inl e), fun e => h2 (Or.inr e), by simpa using h3, by simpa using h4⟩
theorem bind_get {l : List Bd} {v : ByteArray} {t : Tm} (h : pbE l v t = 0) (n : ByteArray) : pget (pbL l v t) n = if v = n then some (pterm l t) else (pget l n).map (pterm [⟨v, pterm l t⟩]) := by
  obtain ⟨_, _, _, hg, _⟩ := pbE_zero h
  unfold pbL
  rw [if_pos h, pget_with (by rw [pget_under, hg]; rfl), pget_under]
theorem bind_term {l : List Bd} {v : ByteArray} {t : Tm} (h : pbE l v t = 0) (s : Tm) : pterm (pbL l v t) s = pterm [⟨v, pterm l t⟩] (pterm l s) := by
  obtain ⟨_, _, _, hg, _⟩ := pbE_zero h
  have one : ∀ n, pget [⟨v, pterm l t⟩] n = if v = n then some (pterm l t) else none := fun n => by rw [pget_cons]; rfl
  unfold pterm
  by_cases hv : s.v = true
  · rw [if_pos hv, if_pos hv]
    have e := bind_get h s.name
    rw [e]
    by_cases hn : v = s.name
    · rw [if_pos hn]
      have : pget l s.name = none := by rw [← hn]; exact hg
      rw [this]
      simp only [Option.getD_none, if_pos hv]
      have o := one s.name
      unfold pterm at o
      rw [o, if_pos hn]
      rfl
    · rw [if_neg hn]
      cases hl : pget l s.name with
      | some u =>
        rfl
      | none =>
        simp only [Option.map_none, Option.getD_none, if_pos hv]
        have o := one s.name
        unfold pterm at o
        rw [o, if_neg hn]
        rfl
  · rw [if_neg hv, if_neg hv, if_neg hv]
theorem bind_app {l : List Bd} {v : ByteArray} {t : Tm} (h : pbE l v t = 0) (a : Atm) : papp (pbL l v t) a = papp [⟨v, pterm l t⟩] (papp l a) := by
  have hc : (papp l a).count = a.count := rfl
  unfold papp at hc ⊢
  rw [hc, upto_twice]
  exact congrArg (fun f => a.upto f a.count) (funext fun s => bind_term h s)
end Go.Proofs.YtaeehadibckcjaaDoor

/-
  Chapter 4: contracts on abstract values: made (bindings, bound one by one).
-/
namespace Go.Proofs.YtaeehadibckcjaaDoor
open Go.Vs Go.Vs.Ab
set_option maxRecDepth 100000
def pmade (l : List Bd) : List Bd := l.foldl (fun o b => if pbE o b.var b.t = 0 then pbL o b.var b.t else o) []
theorem pmade_next {l : List Bd} {k : Nat} (h : k < l.length) : pmade (l.take (k + 1)) = if pbE (pmade (l.take k)) l[k].var l[k].t = 0 then pbL (pmade (l.take k)) l[k].var l[k].t else pmade (l.take k) := by
  unfold pmade
  rw [List.take_succ_eq_append_getElem h, List.foldl_append]
  rfl
theorem pbL_len (l : List Bd) (v : ByteArray) (t : Tm) : (pbL l v t).length ≤ l.length + 1 := by
  unfold pbL
  split
  · rw [pwith_len]; simp [punder]
  · simp
theorem pmade_len (l : List Bd) : (pmade l).length ≤ l.length := by
  have key : ∀ (l acc : List Bd), (l.foldl (fun o b => if pbE o b.var b.t = 0 then pbL o b.var b.t else o) acc).length ≤ acc.length + l.length := by
    intro l
    induction l with
    | nil => intro acc; simp
    | cons x l ih =>
      intro acc
      rw [List.foldl_cons]
      refine Nat.le_trans (ih _) ?_
      rw [List.length_cons]
      split
      · have := pbL_len acc x.var x.t
        omega
      · omega
  have := key l []
  rw [List.length_nil, Nat.zero_add] at this
  exact this
set_option maxRecDepth 10000
set_option maxHeartbeats 2000000
end Go.Proofs.YtaeehadibckcjaaDoor

/-
  Chapter 4: the plain law of binding: what is bound, may be.
-/
namespace Go.Proofs.YtaeehadibckcjaaDoor
open Go.Vs Go.Vs.Ab
set_option maxRecDepth 100000
theorem mem_with {l : List Bd} {b y : Bd} : y ∈ pwith l b ↔ y = b ∨ y ∈ l := by
  have e := List.takeWhile_append_dropWhile (p := fun x : Bd => !blt b.var x.var) (l := l)
  have h : y ∈ l ↔ y ∈ l.takeWhile (fun x => !blt b.var x.var) ∨ y ∈ l.dropWhile (fun x => !blt b.var x.var) := by rw [← List.mem_append, e]
  rw [h]
  unfold pwith
  simp only [List.mem_append, List.mem_cons]
  constructor
  · rintro (a | a | a)
    · exact Or.inr (Or.inl a)
    · exact Or.inl a
    · exact Or.inr (Or.inr a)
  · rintro (a | a | a)
    · exact Or.inr (Or.inl a)
    · exact Or.inl a
    · exact Or.inr (Or.inr a)
theorem with_pair {b : Bd} : ∀ {l : List Bd}, l.Pairwise (fun x y => blt x.var y.var = true) → (∀ x ∈ l, x.var ≠ b.var) → (pwith l b).Pairwise (fun x y => blt x.var y.var = true)
  | [], _, _ => by simp [pwith]
  | x :: r, h, hn => by
    rw [List.pairwise_cons] at h
    cases hx : blt b.var x.var with
    | true =>
      have : pwith (x :: r) b = b :: x :: r := by simp [pwith, hx]
      rw [this, List.pairwise_cons, List.pairwise_cons]
      refine ⟨fun y hy => ?_, h⟩
      rcases List.mem_cons.1 hy with rfl | hy
      · exact hx
      · exact blt_trans hx (h.1 y hy)
    | false =>
      have : pwith (x :: r) b = x :: pwith r b := by simp [pwith, hx]
      rw [this, List.pairwise_cons]
      refine ⟨fun y hy => ?_, with_pair h.2 (fun z hz => hn z (by simp [hz]))⟩
      rcases mem_with.1 hy with rfl | hy
      · rcases blt_total x.var y.var with h1 | h1 | h1
        · exact h1
        · exact absurd h1 (hn x (by simp))
        · rw [h1] at hx; cases hx
      · exact h.1 y hy
theorem pcheck_iff {l : List Bd} : pcheck l = true ↔ l.Pairwise (fun x y => blt x.var y.var = true) ∧ ∀ b ∈ l, b.t.name ≠ ⟨#[]⟩ ∧ (b.t.v = true → pget l b.t.name = none) := by
  unfold pcheck
  rw [Bool.and_eq_true, List.all_eq_true]
  refine and_congr ⟨prises_lt, prises_of⟩ (forall_congr' fun b => forall_congr' fun _ => ?_)
  unfold pbad
  cases hv : b.t.v <;> cases hg : pget l b.t.name <;> simp [hg]
theorem bind_check {l : List Bd} {v : ByteArray} {t : Tm} (h : pbE l v t = 0) : pcheck (pbL l v t) = true := by
  obtain ⟨hc, _, hn, hg, hx⟩ := pbE_zero h
  obtain ⟨h1, h2⟩ := pcheck_iff.1 hc
  have hX : (pterm l t).name ≠ ⟨#[]⟩ ∧ ((pterm l t).v = true → pget l (pterm l t).name = none ∧ v ≠ (pterm l t).name) := by
    have hv : (pterm l t).v = true → v ≠ (pterm l t).name := fun e1 e2 => by simp [pown, e1, ← e2] at hx
    have key : (pterm l t).name ≠ ⟨#[]⟩ ∧ ((pterm l t).v = true → pget l (pterm l t).name = none) := by
      unfold pterm
      split
      · rename_i htv
        cases hl : pget l t.name with
        | none => exact ⟨hn, fun _ => hl⟩
        | some u =>
          have : ∃ b ∈ l, b.t = u := by
            unfold pget at hl
            rw [Option.map_eq_some_iff] at hl
            obtain ⟨b, hb, rfl⟩ := hl
            exact ⟨b, List.mem_of_find?_eq_some hb, rfl⟩
          obtain ⟨b, hb, rfl⟩ := this
          exact h2 b hb
      · rename_i htv
        exact ⟨hn, fun e => absurd e htv⟩
    exact ⟨key.1, fun e => ⟨key.2 e, hv e⟩⟩
  refine pcheck_iff.2 ⟨?_, fun b hb => ?_⟩
  · unfold pbL
    rw [if_pos h]
    refine with_pair ?_ fun x hx' => ?_
    · unfold punder
      rw [List.pairwise_map]
      exact h1
    · obtain ⟨y, hy, rfl⟩ := List.mem_map.1 hx'
      exact pget_none_iff.1 hg y hy
  · have free : ∀ n, pget l n = none → v ≠ n → pget (pbL l v t) n = none := fun n e1 e2 => by rw [bind_get h, if_neg e2, e1]; rfl
    have hXM : (pterm l t).v = true → pget (pbL l v t) (pterm l t).name = none := fun e => free _ (hX.2 e).1 (hX.2 e).2
    unfold pbL at hb
    rw [if_pos h] at hb
    rcases mem_with.1 hb with rfl | hb
    · exact ⟨hX.1, hXM⟩
    · obtain ⟨y, hy, rfl⟩ := List.mem_map.1 hb
      obtain ⟨g1, g2⟩ := h2 y hy
      show (pterm [⟨v, pterm l t⟩] y.t).name ≠ ⟨#[]⟩ ∧ ((pterm [⟨v, pterm l t⟩] y.t).v = true → pget (pbL l v t) (pterm [⟨v, pterm l t⟩] y.t).name = none)
      generalize hXX : pterm l t = X at *
      unfold pterm
      split
      · rename_i hyv
        rw [pget_cons]
        by_cases e : v = y.t.name
        · rw [if_pos e]
          exact ⟨hX.1, hXM⟩
        · rw [if_neg e]
          exact ⟨g1, fun _ => free _ (g2 hyv) e⟩
      · rename_i hyv
        exact ⟨g1, fun e => absurd e hyv⟩
theorem made_check (l : List Bd) : pcheck (pmade l) = true := by
  have key : ∀ (l acc : List Bd), pcheck acc = true → pcheck (l.foldl (fun o b => if pbE o b.var b.t = 0 then pbL o b.var b.t else o) acc) = true := by
    intro l
    induction l with
    | nil => intro acc h; exact h
    | cons x l ih =>
      intro acc h
      rw [List.foldl_cons]
      refine ih _ ?_
      split
      · rename_i e; exact bind_check e
      · exact h
  exact key l [] rfl
theorem bin_neT (x y : Operand) (s t : Tm) : pureVal Tryd.prog (do eqGuard .neq 39 x y (.agg #[.bool s.v, .string s.name]) (.agg #[.bool t.v, .string t.name]); binOp .neq 39 (.agg #[.bool s.v, .string s.name]) (.agg #[.bool t.v, .string t.name])) = some (.bool (!decide (s = t))) := by
  have hg : Tryd.prog.eqGuardType Tryd.prog.depth 39 = false := by kernel_rfl
  have h := pv_eq_tm (d := 9998) s t
  have g : pureVal Tryd.prog (eqGuard .neq 39 x y (.agg #[.bool s.v, .string s.name]) (.agg #[.bool t.v, .string t.name])) = some () := by
    simp [eqGuard, pv_bind, pv_prog, pv_pure, hg]
  rw [pv_bind, g, Option.bind_some]
  have e : binOp .neq 39 (.agg #[.bool s.v, .string s.name]) (.agg #[.bool t.v, .string t.name]) = (do pure (Value.bool (!(← Op.equal 39 (.agg #[.bool s.v, .string s.name]) (.agg #[.bool t.v, .string t.name]))))) := rfl
  rw [e, pv_bind]
  have h' : pureVal Tryd.prog (Op.equal 39 (.agg #[.bool s.v, .string s.name]) (.agg #[.bool t.v, .string t.name])) = some (decide (s = t)) := h
  rw [h']
  rfl
theorem pbL_length {l : List Bd} {v : ByteArray} {t : Tm} (h : pbE l v t = 0) : (pbL l v t).length = l.length + 1 := by
  unfold pbL
  rw [if_pos h, pwith_len, punder_len]
theorem pget_idx {l : List Bd} (hc : pcheck l = true) {k : Nat} (hk : k < l.length) : pget l l[k].var = some l[k].t := by
  refine pget_at hk (fun j hj hjk => ?_) rfl
  have := List.pairwise_iff_getElem.1 (pcheck_iff.1 hc).1 j k hj hk hjk
  exact blt_ne this
theorem bind_get_old {l : List Bd} {v : ByteArray} {t : Tm} (h : pbE l v t = 0) {k : Nat} (hk : k < l.length) : pget (pbL l v t) l[k].var = some (pterm [⟨v, pterm l t⟩] l[k].t) := by
  obtain ⟨hc, _, _, hg, _⟩ := pbE_zero h
  have hne : ¬ v = l[k].var := fun e => pget_none_iff.1 hg l[k] (List.getElem_mem hk) e.symm
  rw [bind_get h, if_neg hne, pget_idx hc hk]
  rfl
end Go.Proofs.YtaeehadibckcjaaDoor

/-
  Words in plain Lean: bytes, constants, variables, valid atoms; no program in sight.
-/
namespace Go.Vs
def lowerB (c : UInt8) : Bool := decide (97 ≤ c.toNat) && decide (c.toNat ≤ 122)
def upperB (c : UInt8) : Bool := decide (65 ≤ c.toNat) && decide (c.toNat ≤ 90)
def digB (c : UInt8) : Bool := decide (48 ≤ c.toNat) && decide (c.toNat ≤ 57)
def underB (c : UInt8) : Bool := decide (c.toNat = 95)
abbrev lts (s : ByteArray) : List UInt8 := s.data.toList
def reservedL : List ByteArray := [⟨#[115, 97, 121, 115]⟩, ⟨#[105, 102]⟩, ⟨#[99, 97, 110, 115, 97, 121]⟩, ⟨#[112, 114, 105, 110, 99, 105, 112, 97, 108]⟩, ⟨#[112, 114, 101, 100]⟩, ⟨#[99, 108, 101, 97, 114]⟩, ⟨#[113, 117, 111, 116, 97]⟩, ⟨#[98, 117, 100, 103, 101, 116]⟩]
def preserved (s : ByteArray) : Bool := reservedL.any fun w => decide (w = s)
def constB (c : UInt8) : Bool := lowerB c || digB c || underB c
def varB (c : UInt8) : Bool := lowerB c || upperB c || digB c || underB c
def headL (p : UInt8 → Bool) : List UInt8 → Bool
  | [] => false
  | c :: _ => p c
def headB (p : UInt8 → Bool) (s : ByteArray) : Bool := headL p (lts s)
def pconst0 (s : ByteArray) : Bool := decide (s.size ≤ 255) && headB (fun c => !underB c) s && (lts s).all constB
def pconstant (s : ByteArray) : Bool := pconst0 s && !preserved s
def pprincipal (s : ByteArray) : Bool := pconstant s && headB lowerB s
def pvariable (s : ByteArray) : Bool := decide (s.size ≤ 255) && headB upperB s && (lts s).all varB
def ptermok (t : Tm) : Bool := if t.v then pvariable t.name else pconstant t.name
theorem lts_len (s : ByteArray) : (lts s).length = s.size := Array.length_toList
theorem size_pos {s : ByteArray} (h : 0 < s.size) : s ≠ ⟨#[]⟩ := by
  rintro rfl
  exact absurd h (by decide)
theorem size_zero {s : ByteArray} (h : s.size = 0) : s = ⟨#[]⟩ := by
  obtain ⟨a⟩ := s
  have : a = #[] := by
    apply Array.eq_empty_of_size_eq_zero
    exact h
  rw [this]
theorem headB_get {p : UInt8 → Bool} {s : ByteArray} (h : 0 < s.size) : headB p s = p ((lts s)[0]'(by rw [lts_len]; exact h)) := by
  have key : ∀ (l : List UInt8) (h : 0 < l.length), headL p l = p l[0] := fun l h => by
    cases l with
    | nil => exact absurd h (Nat.lt_irrefl _)
    | cons c r => rfl
  exact key (lts s) (by rw [lts_len]; exact h)
theorem headB_nil {p : UInt8 → Bool} {s : ByteArray} (h : s.size = 0) : headB p s = false := by
  rw [size_zero h]
  rfl
theorem headB_pos {p : UInt8 → Bool} {s : ByteArray} (h : headB p s = true) : 0 < s.size := by
  rcases Nat.eq_zero_or_pos s.size with h0 | h0
  · rw [headB_nil h0] at h; cases h
  · exact h0
theorem pconstant_ne {s : ByteArray} (h : pconstant s = true) : s ≠ ⟨#[]⟩ := by
  unfold pconstant pconst0 at h
  simp only [Bool.and_eq_true] at h
  exact size_pos (headB_pos h.1.1.2)
theorem pvariable_ne {s : ByteArray} (h : pvariable s = true) : s ≠ ⟨#[]⟩ := by
  unfold pvariable at h
  simp only [Bool.and_eq_true] at h
  exact size_pos (headB_pos h.1.2)
theorem all_next {T : Type} {p : T → Bool} {l : List T} {k : Nat} (h : k < l.length) (h1 : (l.take k).all p = true) (h2 : p l[k] = true) : (l.take (k + 1)).all p = true := by
  rw [List.take_succ_eq_append_getElem h, List.all_append, h1]
  simp [h2]
theorem all_fail {T : Type} {p : T → Bool} {l : List T} {k : Nat} (h : k < l.length) (h2 : p l[k] = false) : l.all p = false := by
  rw [Bool.eq_false_iff]
  intro h3
  rw [List.all_eq_true] at h3
  rw [h3 _ (List.getElem_mem h)] at h2
  cases h2
theorem any_next {T : Type} {p : T → Bool} {l : List T} {k : Nat} (h : k < l.length) (h1 : (l.take k).any p = false) (h2 : p l[k] = false) : (l.take (k + 1)).any p = false := by
  rw [List.take_succ_eq_append_getElem h, List.any_append, h1]
  simp [h2]
theorem any_hit {T : Type} {p : T → Bool} {l : List T} {k : Nat} (h : k < l.length) (h2 : p l[k] = true) : l.any p = true := by
  rw [List.any_eq_true]
  exact ⟨_, List.getElem_mem h, h2⟩
def Atm.restB (a : Atm) : Bool := (List.range 4).all fun k => decide ((k : Int) < a.n) || decide (a.arg k = ⟨false, ⟨#[]⟩⟩)
def Atm.termsB (a : Atm) : Bool := (List.range 4).all fun k => !decide ((k : Int) < a.n) || ptermok (a.arg k)
def pcheck3 (a : Atm) : Int :=
  if (pprincipal a.says && pprincipal a.pred) = false then 3
  else if a.n < 0 ∨ 4 < a.n then 4
  else if a.termsB = false then 3
  else if a.restB = false then 15
  else 0
def Atm.ground (a : Atm) : Bool := (List.range 4).all fun k => !decide (k < a.count) || !(a.arg k).v
end Go.Vs

/-
  Contracts on abstract values: words (reference 1), terms and atoms that may be (reference 3), what the statements share.
-/
namespace Go.Proofs.YtaeehadibckcjaaDoor
open Go.Vs Go.Vs.Ab
set_option maxRecDepth 100000
abbrev uA (c : UInt8) : AV := .c (.v (.int .u8 (c.toNat : Int)))
theorem int_beq (a b : Int) : (a == b) = decide (a = b) := by
  rw [Bool.eq_iff_iff, beq_iff_eq, decide_eq_true_eq]
theorem int_bne (a b : Int) : (a != b) = !decide (a = b) := by
  unfold bne
  rw [int_beq]
attribute [go_sem] int_beq int_bne
theorem idx_str (s : ByteArray) {k : Nat} (h : k < (lts s).length) : pureVal Tryd.prog (Instr.index 9 (.string s) (.int .i64 (k : Int))) = some (.int .u8 ((lts s)[k].toNat : Int)) := by
  have h1 : k < s.size := by rw [← lts_len]; exact h
  have h0 : s[((k : Int)).toNat]? = some (s[k]'h1) := by simp [h1]
  unfold Instr.index
  rw [pv_bind]
  show Option.bind (some (IntKind.i64, (k : Int))) _ = _
  rw [Option.bind_some, pv_bind, pv_under Tryd.underlying9, Option.bind_some]
  simp only [Int.natCast_nonneg, if_true, h0]
  show some (Value.int .u8 ((s[k]'h1).toNat : Int)) = _
  rfl
theorem idx_str0 (s : ByteArray) (h : 0 < (lts s).length) : pureVal Tryd.prog (Instr.index 9 (.string s) (.int .i64 0)) = some (.int .u8 ((lts s)[0].toNat : Int)) := idx_str s h
theorem dec_u8 (a b : Nat) : (decide ((a : Int) ≤ (b : Int))) = decide (a ≤ b) := by
  rw [decide_eq_decide]
  omega
set_option maxRecDepth 10000
theorem small_does (c : UInt8) : Does Tryd.prog 68 [uA c] (fun m => (bA (lowerB c), m)) := by
  have e : lowerB c = (decide ((97 : Int) ≤ (c.toNat : Int)) && decide ((c.toNat : Int) ≤ 122)) := by
    unfold lowerB
    congr 1 <;> rw [decide_eq_decide] <;> omega
  rw [e]
  cases h1 : decide ((97 : Int) ≤ (c.toNat : Int)) <;> cases h2 : decide ((c.toNat : Int) ≤ 122)
  all_goals
    refine does_of' Tryd.func68 rfl (by kernel_rfl) rfl Tryd.ntmps68 rfl rfl fun Q hQ => ?_
    repeat (first
        | refine tr_seq_k fun _ _ => ?_
        | (refine tr_region ?_; simp only [go_sem, List.getElem?_toArray, str_beq, reduceCtorEq, Nat.reduceEqDiff, Nat.reduceLT, Nat.reduceLeDiff, Nat.reduceAdd, Nat.reduceMul, Nat.reduceSub, Nat.reduceBEq, ↓reduceIte, bne_self_eq_false, Bool.and_false, Bool.false_and, Bool.true_or, Bool.false_or, h1, h2])
        | refine k_of (by assumption) ?_
        | refine tr_block ?_
        | refine tr_scope ?_
        | (refine tr_skip ?_; try simp only [ex_seq, ex_block])
        | (refine tr_label ?_; try simp only [ex_seq, ex_block])
        | (refine tr_exit ?_; try simp only [ex_seq_exit, ex_block_exit, Nat.reduceEqDiff, if_true, if_false, ex_seq, ex_block, reduceCtorEq, ↓reduceIte])
        | (refine tr_ret ?_; try simp only [ex_seq_ret, ex_block_ret]))
    refine (hQ _ _ [bA _] ?_ (fun m => rfl)).2 <;> simp only [go_sem, List.getElem?_toArray, str_beq, reduceCtorEq, Nat.reduceEqDiff, Nat.reduceLT, Nat.reduceLeDiff, Nat.reduceAdd, Nat.reduceMul, Nat.reduceSub, Nat.reduceBEq, ↓reduceIte, bne_self_eq_false, Bool.and_false, Bool.false_and, Bool.true_or, Bool.false_or, Tryd.f68]
theorem great_does (c : UInt8) : Does Tryd.prog 86 [uA c] (fun m => (bA (upperB c), m)) := by
  have e : upperB c = (decide ((65 : Int) ≤ (c.toNat : Int)) && decide ((c.toNat : Int) ≤ 90)) := by
    unfold upperB
    congr 1 <;> rw [decide_eq_decide] <;> omega
  rw [e]
  cases h1 : decide ((65 : Int) ≤ (c.toNat : Int)) <;> cases h2 : decide ((c.toNat : Int) ≤ 90)
  all_goals
    refine does_of' Tryd.func86 rfl (by kernel_rfl) rfl Tryd.ntmps86 rfl rfl fun Q hQ => ?_
    repeat (first
        | refine tr_seq_k fun _ _ => ?_
        | (refine tr_region ?_; simp only [go_sem, List.getElem?_toArray, str_beq, reduceCtorEq, Nat.reduceEqDiff, Nat.reduceLT, Nat.reduceLeDiff, Nat.reduceAdd, Nat.reduceMul, Nat.reduceSub, Nat.reduceBEq, ↓reduceIte, bne_self_eq_false, Bool.and_false, Bool.false_and, Bool.true_or, Bool.false_or, h1, h2])
        | refine k_of (by assumption) ?_
        | refine tr_block ?_
        | refine tr_scope ?_
        | (refine tr_skip ?_; try simp only [ex_seq, ex_block])
        | (refine tr_label ?_; try simp only [ex_seq, ex_block])
        | (refine tr_exit ?_; try simp only [ex_seq_exit, ex_block_exit, Nat.reduceEqDiff, if_true, if_false, ex_seq, ex_block, reduceCtorEq, ↓reduceIte])
        | (refine tr_ret ?_; try simp only [ex_seq_ret, ex_block_ret]))
    refine (hQ _ _ [bA _] ?_ (fun m => rfl)).2 <;> simp only [go_sem, List.getElem?_toArray, str_beq, reduceCtorEq, Nat.reduceEqDiff, Nat.reduceLT, Nat.reduceLeDiff, Nat.reduceAdd, Nat.reduceMul, Nat.reduceSub, Nat.reduceBEq, ↓reduceIte, bne_self_eq_false, Bool.and_false, Bool.false_and, Bool.true_or, Bool.false_or, Tryd.f86]
theorem digit_does (c : UInt8) : Does Tryd.prog 79 [uA c] (fun m => (bA (digB c), m)) := by
  have e : digB c = (decide ((48 : Int) ≤ (c.toNat : Int)) && decide ((c.toNat : Int) ≤ 57)) := by
    unfold digB
    congr 1 <;> rw [decide_eq_decide] <;> omega
  rw [e]
  cases h1 : decide ((48 : Int) ≤ (c.toNat : Int)) <;> cases h2 : decide ((c.toNat : Int) ≤ 57)
  all_goals
    refine does_of' Tryd.func79 rfl (by kernel_rfl) rfl Tryd.ntmps79 rfl rfl fun Q hQ => ?_
    repeat (first
        | refine tr_seq_k fun _ _ => ?_
        | (refine tr_region ?_; simp only [go_sem, List.getElem?_toArray, str_beq, reduceCtorEq, Nat.reduceEqDiff, Nat.reduceLT, Nat.reduceLeDiff, Nat.reduceAdd, Nat.reduceMul, Nat.reduceSub, Nat.reduceBEq, ↓reduceIte, bne_self_eq_false, Bool.and_false, Bool.false_and, Bool.true_or, Bool.false_or, h1, h2])
        | refine k_of (by assumption) ?_
        | refine tr_block ?_
        | refine tr_scope ?_
        | (refine tr_skip ?_; try simp only [ex_seq, ex_block])
        | (refine tr_label ?_; try simp only [ex_seq, ex_block])
        | (refine tr_exit ?_; try simp only [ex_seq_exit, ex_block_exit, Nat.reduceEqDiff, if_true, if_false, ex_seq, ex_block, reduceCtorEq, ↓reduceIte])
        | (refine tr_ret ?_; try simp only [ex_seq_ret, ex_block_ret]))
    refine (hQ _ _ [bA _] ?_ (fun m => rfl)).2 <;> simp only [go_sem, List.getElem?_toArray, str_beq, reduceCtorEq, Nat.reduceEqDiff, Nat.reduceLT, Nat.reduceLeDiff, Nat.reduceAdd, Nat.reduceMul, Nat.reduceSub, Nat.reduceBEq, ↓reduceIte, bne_self_eq_false, Bool.and_false, Bool.false_and, Bool.true_or, Bool.false_or, Tryd.f79]
theorem words_build : aBuildSlice Tryd.prog 23 8 [(0, .c (.v (.string ⟨#[115, 97, 121, 115]⟩))), (1, .c (.v (.string ⟨#[105, 102]⟩))), (2, .c (.v (.string ⟨#[99, 97, 110, 115, 97, 121]⟩))), (3, .c (.v (.string ⟨#[112, 114, 105, 110, 99, 105, 112, 97, 108]⟩))), (4, .c (.v (.string ⟨#[112, 114, 101, 100]⟩))), (5, .c (.v (.string ⟨#[99, 108, 101, 97, 114]⟩))), (6, .c (.v (.string ⟨#[113, 117, 111, 116, 97]⟩))), (7, .c (.v (.string ⟨#[98, 117, 100, 103, 101, 116]⟩)))] = some (reservedL.flatMap stC) := by kernel_rfl
theorem eight_max : (8 ≤ maxLen) = True := eq_true (by decide)
theorem words_does : Does Tryd.prog 93 [] (fun m => (slS true reservedL, m)) := by
  refine does_of' Tryd.func93 rfl (by kernel_rfl) rfl Tryd.ntmps93 rfl rfl fun Q hQ => ?_
  repeat (first
      | refine tr_seq_k fun _ _ => ?_
      | (refine tr_region ?_; simp only [go_sem, List.getElem?_toArray, str_beq, reduceCtorEq, Nat.reduceEqDiff, Nat.reduceLT, Nat.reduceLeDiff, Nat.reduceAdd, Nat.reduceMul, Nat.reduceSub, Nat.reduceBEq, ↓reduceIte, bne_self_eq_false, Bool.and_false, Bool.false_and, Bool.true_or, Bool.false_or, words_build, eight_max])
      | refine k_of (by assumption) ?_
      | refine tr_block ?_
      | refine tr_scope ?_
      | (refine tr_skip ?_; try simp only [ex_seq, ex_block])
      | (refine tr_label ?_; try simp only [ex_seq, ex_block])
      | (refine tr_exit ?_; try simp only [ex_seq_exit, ex_block_exit, Nat.reduceEqDiff, if_true, if_false, ex_seq, ex_block, reduceCtorEq, ↓reduceIte])
      | (refine tr_ret ?_; try simp only [ex_seq_ret, ex_block_ret]))
  refine (hQ _ _ [.c (.sl true 8 (reservedL.flatMap stC))] ?_ (fun m => rfl)).2 <;> simp only [go_sem, List.getElem?_toArray, str_beq, reduceCtorEq, Nat.reduceEqDiff, Nat.reduceLT, Nat.reduceLeDiff, Nat.reduceAdd, Nat.reduceMul, Nat.reduceSub, Nat.reduceBEq, ↓reduceIte, bne_self_eq_false, Bool.and_false, Bool.false_and, Bool.true_or, Bool.false_or, Tryd.f93]
theorem under_int (c : UInt8) : underB c = decide ((c.toNat : Int) = 95) := by
  unfold underB
  rw [decide_eq_decide]
  omega
theorem reserved_does (s : ByteArray) : Does Tryd.prog 82 [sA s] (fun m => (bA (preserved s), m)) := by
  refine does_of' Tryd.func82 rfl (by kernel_rfl) rfl Tryd.ntmps82 rfl rfl fun Q hQ => ?_
  repeat (first
      | refine tr_seq_k fun _ _ => ?_
      | (refine tr_region ?_; simp only [go_sem, List.getElem?_toArray, str_beq, reduceCtorEq, Nat.reduceEqDiff, Nat.reduceLT, Nat.reduceLeDiff, Nat.reduceAdd, Nat.reduceMul, Nat.reduceSub, Nat.reduceBEq, ↓reduceIte, bne_self_eq_false, Bool.and_false, Bool.false_and, Bool.true_or, Bool.false_or])
      | (refine call_of (words_does) ?_ ?_
         · first | rfl | simp only [go_sem, List.getElem?_toArray, str_beq, reduceCtorEq, Nat.reduceEqDiff, Nat.reduceLT, Nat.reduceLeDiff, Nat.reduceAdd, Nat.reduceMul, Nat.reduceSub, Nat.reduceBEq, ↓reduceIte, bne_self_eq_false, Bool.and_false, Bool.false_and, Bool.true_or, Bool.false_or, shut_col]
         simp only [go_sem, List.getElem?_toArray, str_beq, reduceCtorEq, Nat.reduceEqDiff, Nat.reduceLT, Nat.reduceLeDiff, Nat.reduceAdd, Nat.reduceMul, Nat.reduceSub, Nat.reduceBEq, ↓reduceIte, bne_self_eq_false, Bool.and_false, Bool.false_and, Bool.true_or, Bool.false_or])
      | refine k_of (by assumption) ?_
      | refine tr_block ?_
      | refine tr_scope ?_
      | (refine tr_skip ?_; try simp only [ex_seq, ex_block])
      | (refine tr_label ?_; try simp only [ex_seq, ex_block])
      | (refine tr_exit ?_; try simp only [ex_seq_exit, ex_block_exit, Nat.reduceEqDiff, if_true, if_false, ex_seq, ex_block, reduceCtorEq, ↓reduceIte])
      | (refine tr_ret ?_; try simp only [ex_seq_ret, ex_block_ret]))
  refine tr_loop_k (σ := Nat) (fun k => [(0, sA s), (3, slS true reservedL), (4, iA k)]) (fun _ => ⟨[], []⟩)
    (fun k => k ≤ reservedL.length ∧ (reservedL.take k).any (fun w => decide (w = s)) = false) (fun k => reservedL.length - k) 0 ⟨by omega, rfl⟩ ⟨rfl, rfl, rfl, trivial⟩ rfl ?_
  rintro k ⟨hk, hp⟩ K hK
  repeat (first
      | refine tr_seq_k fun _ _ => ?_
      | (refine tr_region ?_; simp only [go_sem, List.getElem?_toArray, str_beq, reduceCtorEq, Nat.reduceEqDiff, Nat.reduceLT, Nat.reduceLeDiff, Nat.reduceAdd, Nat.reduceMul, Nat.reduceSub, Nat.reduceBEq, ↓reduceIte, bne_self_eq_false, Bool.and_false, Bool.false_and, Bool.true_or, Bool.false_or])
      | refine k_of (by assumption) ?_
      | refine tr_block ?_
      | refine tr_scope ?_
      | (refine tr_skip ?_; try simp only [ex_seq, ex_block])
      | (refine tr_label ?_; try simp only [ex_seq, ex_block])
      | (refine tr_exit ?_; try simp only [ex_seq_exit, ex_block_exit, Nat.reduceEqDiff, if_true, if_false, ex_seq, ex_block, reduceCtorEq, ↓reduceIte])
      | (refine tr_ret ?_; try simp only [ex_seq_ret, ex_block_ret]))
  refine tr_cond rfl (fun ht => ?_) (fun hf => ?_)
  · have hlt : k < reservedL.length := by simpa using ht
    have h8 : reservedL.length = 8 := rfl
    have ws := wrap_succ (show k ≤ 1000000000 by omega)
    cases he : decide (reservedL[k] = s) with
    | true =>
      have hr : preserved s = true := any_hit hlt he
      repeat (first
          | refine tr_seq_k fun _ _ => ?_
          | (refine tr_region ?_; simp only [go_sem, List.getElem?_toArray, str_beq, reduceCtorEq, Nat.reduceEqDiff, Nat.reduceLT, Nat.reduceLeDiff, Nat.reduceAdd, Nat.reduceMul, Nat.reduceSub, Nat.reduceBEq, ↓reduceIte, bne_self_eq_false, Bool.and_false, Bool.false_and, Bool.true_or, Bool.false_or, idxS hlt, he])
          | refine k_of (by assumption) ?_
          | refine tr_block ?_
          | refine tr_scope ?_
          | (refine tr_skip ?_; try simp only [ex_seq, ex_block])
          | (refine tr_label ?_; try simp only [ex_seq, ex_block])
          | (refine tr_exit ?_; try simp only [ex_seq_exit, ex_block_exit, Nat.reduceEqDiff, if_true, if_false, ex_seq, ex_block, reduceCtorEq, ↓reduceIte])
          | (refine tr_ret ?_; try simp only [ex_seq_ret, ex_block_ret]))
      refine tr_cond rfl (fun ht => ?_) (fun hf => ?_)
      · repeat (first
            | refine tr_seq_k fun _ _ => ?_
            | (refine tr_region ?_; simp only [go_sem, List.getElem?_toArray, str_beq, reduceCtorEq, Nat.reduceEqDiff, Nat.reduceLT, Nat.reduceLeDiff, Nat.reduceAdd, Nat.reduceMul, Nat.reduceSub, Nat.reduceBEq, ↓reduceIte, bne_self_eq_false, Bool.and_false, Bool.false_and, Bool.true_or, Bool.false_or])
            | refine k_of (by assumption) ?_
            | refine tr_block ?_
            | refine tr_scope ?_
            | (refine tr_skip ?_; try simp only [ex_seq, ex_block])
            | (refine tr_label ?_; try simp only [ex_seq, ex_block])
            | (refine tr_exit ?_; try simp only [ex_seq_exit, ex_block_exit, Nat.reduceEqDiff, if_true, if_false, ex_seq, ex_block, reduceCtorEq, ↓reduceIte])
            | (refine tr_ret ?_; try simp only [ex_seq_ret, ex_block_ret]))
        refine (hQ _ _ [bA true] ?_ (fun m => ?_)).2 <;> simp only [go_sem, List.getElem?_toArray, str_beq, reduceCtorEq, Nat.reduceEqDiff, Nat.reduceLT, Nat.reduceLeDiff, Nat.reduceAdd, Nat.reduceMul, Nat.reduceSub, Nat.reduceBEq, ↓reduceIte, bne_self_eq_false, Bool.and_false, Bool.false_and, Bool.true_or, Bool.false_or, Tryd.f82, hr]
      · cases hf
    | false =>
      repeat (first
          | refine tr_seq_k fun _ _ => ?_
          | (refine tr_region ?_; simp only [go_sem, List.getElem?_toArray, str_beq, reduceCtorEq, Nat.reduceEqDiff, Nat.reduceLT, Nat.reduceLeDiff, Nat.reduceAdd, Nat.reduceMul, Nat.reduceSub, Nat.reduceBEq, ↓reduceIte, bne_self_eq_false, Bool.and_false, Bool.false_and, Bool.true_or, Bool.false_or, idxS hlt, he])
          | refine k_of (by assumption) ?_
          | refine tr_block ?_
          | refine tr_scope ?_
          | (refine tr_skip ?_; try simp only [ex_seq, ex_block])
          | (refine tr_label ?_; try simp only [ex_seq, ex_block])
          | (refine tr_exit ?_; try simp only [ex_seq_exit, ex_block_exit, Nat.reduceEqDiff, if_true, if_false, ex_seq, ex_block, reduceCtorEq, ↓reduceIte])
          | (refine tr_ret ?_; try simp only [ex_seq_ret, ex_block_ret]))
      refine tr_cond rfl (fun ht => ?_) (fun hf => ?_)
      · cases ht
      · repeat (first
            | refine tr_seq_k fun _ _ => ?_
            | (refine tr_region ?_; simp only [go_sem, List.getElem?_toArray, str_beq, reduceCtorEq, Nat.reduceEqDiff, Nat.reduceLT, Nat.reduceLeDiff, Nat.reduceAdd, Nat.reduceMul, Nat.reduceSub, Nat.reduceBEq, ↓reduceIte, bne_self_eq_false, Bool.and_false, Bool.false_and, Bool.true_or, Bool.false_or, ws])
            | refine k_of (by assumption) ?_
            | refine tr_block ?_
            | refine tr_scope ?_
            | (refine tr_skip ?_; try simp only [ex_seq, ex_block])
            | (refine tr_label ?_; try simp only [ex_seq, ex_block])
            | (refine tr_exit ?_; try simp only [ex_seq_exit, ex_block_exit, Nat.reduceEqDiff, if_true, if_false, ex_seq, ex_block, reduceCtorEq, ↓reduceIte])
            | (refine tr_ret ?_; try simp only [ex_seq_ret, ex_block_ret]))
        exact hK (k + 1) _ _ ⟨by omega, any_next hlt hp he⟩ ⟨⟨rfl, rfl, rfl, trivial⟩, Keep.refl _, rfl, rfl, Nat.le_refl _, Nat.le_refl _⟩ (by omega)
  · have hkl : k = reservedL.length := by
      have := of_decide_eq_false hf
      omega
    subst hkl
    rw [List.take_length] at hp
    have hr : preserved s = false := hp
    repeat (first
        | refine tr_seq_k fun _ _ => ?_
        | (refine tr_region ?_; simp only [go_sem, List.getElem?_toArray, str_beq, reduceCtorEq, Nat.reduceEqDiff, Nat.reduceLT, Nat.reduceLeDiff, Nat.reduceAdd, Nat.reduceMul, Nat.reduceSub, Nat.reduceBEq, ↓reduceIte, bne_self_eq_false, Bool.and_false, Bool.false_and, Bool.true_or, Bool.false_or])
        | refine k_of (by assumption) ?_
        | refine tr_block ?_
        | refine tr_scope ?_
        | (refine tr_skip ?_; try simp only [ex_seq, ex_block])
        | (refine tr_label ?_; try simp only [ex_seq, ex_block])
        | (refine tr_exit ?_; try simp only [ex_seq_exit, ex_block_exit, Nat.reduceEqDiff, if_true, if_false, ex_seq, ex_block, reduceCtorEq, ↓reduceIte])
        | (refine tr_ret ?_; try simp only [ex_seq_ret, ex_block_ret]))
    refine (hQ _ _ [bA false] ?_ (fun m => ?_)).2 <;> simp only [go_sem, List.getElem?_toArray, str_beq, reduceCtorEq, Nat.reduceEqDiff, Nat.reduceLT, Nat.reduceLeDiff, Nat.reduceAdd, Nat.reduceMul, Nat.reduceSub, Nat.reduceBEq, ↓reduceIte, bne_self_eq_false, Bool.and_false, Bool.false_and, Bool.true_or, Bool.false_or, Tryd.f82, hr]
theorem const0_does (s : ByteArray) : Does Tryd.prog 81 [sA s] (fun m => (bA (pconst0 s), m)) := by
  have lsz := lts_len s
  refine does_of' Tryd.func81 rfl (by kernel_rfl) rfl Tryd.ntmps81 rfl rfl fun Q hQ => ?_
  have lenS := b_lenS (P := Tryd.prog) 9 3 Tryd.underlying9 s
  cases h1 : decide ((s.size : Int) < 1) with
  | true =>
    have hr : pconst0 s = false := by
      have : s.size = 0 := by
        have := of_decide_eq_true h1
        omega
      unfold pconst0
      rw [headB_nil this]
      simp
    repeat (first
        | refine tr_seq_k fun _ _ => ?_
        | (refine tr_region ?_; simp only [go_sem, List.getElem?_toArray, str_beq, reduceCtorEq, Nat.reduceEqDiff, Nat.reduceLT, Nat.reduceLeDiff, Nat.reduceAdd, Nat.reduceMul, Nat.reduceSub, Nat.reduceBEq, ↓reduceIte, bne_self_eq_false, Bool.and_false, Bool.false_and, Bool.true_or, Bool.false_or, lenS, h1])
        | refine k_of (by assumption) ?_
        | refine tr_block ?_
        | refine tr_scope ?_
        | (refine tr_skip ?_; try simp only [ex_seq, ex_block])
        | (refine tr_label ?_; try simp only [ex_seq, ex_block])
        | (refine tr_exit ?_; try simp only [ex_seq_exit, ex_block_exit, Nat.reduceEqDiff, if_true, if_false, ex_seq, ex_block, reduceCtorEq, ↓reduceIte])
        | (refine tr_ret ?_; try simp only [ex_seq_ret, ex_block_ret]))
    refine tr_cond rfl (fun ht => ?_) (fun hf => ?_)
    · repeat (first
          | refine tr_seq_k fun _ _ => ?_
          | (refine tr_region ?_; simp only [go_sem, List.getElem?_toArray, str_beq, reduceCtorEq, Nat.reduceEqDiff, Nat.reduceLT, Nat.reduceLeDiff, Nat.reduceAdd, Nat.reduceMul, Nat.reduceSub, Nat.reduceBEq, ↓reduceIte, bne_self_eq_false, Bool.and_false, Bool.false_and, Bool.true_or, Bool.false_or])
          | refine k_of (by assumption) ?_
          | refine tr_block ?_
          | refine tr_scope ?_
          | (refine tr_skip ?_; try simp only [ex_seq, ex_block])
          | (refine tr_label ?_; try simp only [ex_seq, ex_block])
          | (refine tr_exit ?_; try simp only [ex_seq_exit, ex_block_exit, Nat.reduceEqDiff, if_true, if_false, ex_seq, ex_block, reduceCtorEq, ↓reduceIte])
          | (refine tr_ret ?_; try simp only [ex_seq_ret, ex_block_ret]))
      refine (hQ _ _ [bA false] ?_ (fun m => ?_)).2 <;> simp only [go_sem, List.getElem?_toArray, str_beq, reduceCtorEq, Nat.reduceEqDiff, Nat.reduceLT, Nat.reduceLeDiff, Nat.reduceAdd, Nat.reduceMul, Nat.reduceSub, Nat.reduceBEq, ↓reduceIte, bne_self_eq_false, Bool.and_false, Bool.false_and, Bool.true_or, Bool.false_or, Tryd.f81, hr]
    · cases hf
  | false =>
    cases h2 : decide ((255 : Int) < (s.size : Int)) with
    | true =>
      have hr : pconst0 s = false := by
        have : ¬ s.size ≤ 255 := by
          have := of_decide_eq_true h2
          omega
        unfold pconst0
        simp [this]
      repeat (first
          | refine tr_seq_k fun _ _ => ?_
          | (refine tr_region ?_; simp only [go_sem, List.getElem?_toArray, str_beq, reduceCtorEq, Nat.reduceEqDiff, Nat.reduceLT, Nat.reduceLeDiff, Nat.reduceAdd, Nat.reduceMul, Nat.reduceSub, Nat.reduceBEq, ↓reduceIte, bne_self_eq_false, Bool.and_false, Bool.false_and, Bool.true_or, Bool.false_or, lenS, h1, h2])
          | refine k_of (by assumption) ?_
          | refine tr_block ?_
          | refine tr_scope ?_
          | (refine tr_skip ?_; try simp only [ex_seq, ex_block])
          | (refine tr_label ?_; try simp only [ex_seq, ex_block])
          | (refine tr_exit ?_; try simp only [ex_seq_exit, ex_block_exit, Nat.reduceEqDiff, if_true, if_false, ex_seq, ex_block, reduceCtorEq, ↓reduceIte])
          | (refine tr_ret ?_; try simp only [ex_seq_ret, ex_block_ret]))
      refine tr_cond rfl (fun ht => ?_) (fun hf => ?_)
      · repeat (first
            | refine tr_seq_k fun _ _ => ?_
            | (refine tr_region ?_; simp only [go_sem, List.getElem?_toArray, str_beq, reduceCtorEq, Nat.reduceEqDiff, Nat.reduceLT, Nat.reduceLeDiff, Nat.reduceAdd, Nat.reduceMul, Nat.reduceSub, Nat.reduceBEq, ↓reduceIte, bne_self_eq_false, Bool.and_false, Bool.false_and, Bool.true_or, Bool.false_or])
            | refine k_of (by assumption) ?_
            | refine tr_block ?_
            | refine tr_scope ?_
            | (refine tr_skip ?_; try simp only [ex_seq, ex_block])
            | (refine tr_label ?_; try simp only [ex_seq, ex_block])
            | (refine tr_exit ?_; try simp only [ex_seq_exit, ex_block_exit, Nat.reduceEqDiff, if_true, if_false, ex_seq, ex_block, reduceCtorEq, ↓reduceIte])
            | (refine tr_ret ?_; try simp only [ex_seq_ret, ex_block_ret]))
        refine (hQ _ _ [bA false] ?_ (fun m => ?_)).2 <;> simp only [go_sem, List.getElem?_toArray, str_beq, reduceCtorEq, Nat.reduceEqDiff, Nat.reduceLT, Nat.reduceLeDiff, Nat.reduceAdd, Nat.reduceMul, Nat.reduceSub, Nat.reduceBEq, ↓reduceIte, bne_self_eq_false, Bool.and_false, Bool.false_and, Bool.true_or, Bool.false_or, Tryd.f81, hr]
      · cases hf
    | false =>
      have hpos : 0 < s.size := by
        have := of_decide_eq_false h1
        omega
      have h255 : s.size ≤ 255 := by
        have := of_decide_eq_false h2
        omega
      have hp0 : 0 < (lts s).length := by omega
      have hh : headB (fun c => !underB c) s = !underB ((lts s)[0]'hp0) := headB_get hpos
      rw [under_int] at hh
      cases h3 : decide (((lts s)[0].toNat : Int) = 95) with
      | true =>
        have hr : pconst0 s = false := by
          unfold pconst0
          rw [hh, h3]
          simp
        repeat (first
            | refine tr_seq_k fun _ _ => ?_
            | (refine tr_region ?_; simp only [go_sem, List.getElem?_toArray, str_beq, reduceCtorEq, Nat.reduceEqDiff, Nat.reduceLT, Nat.reduceLeDiff, Nat.reduceAdd, Nat.reduceMul, Nat.reduceSub, Nat.reduceBEq, ↓reduceIte, bne_self_eq_false, Bool.and_false, Bool.false_and, Bool.true_or, Bool.false_or, lenS, h1, h2, idx_str0 s hp0, h3])
            | refine k_of (by assumption) ?_
            | refine tr_block ?_
            | refine tr_scope ?_
            | (refine tr_skip ?_; try simp only [ex_seq, ex_block])
            | (refine tr_label ?_; try simp only [ex_seq, ex_block])
            | (refine tr_exit ?_; try simp only [ex_seq_exit, ex_block_exit, Nat.reduceEqDiff, if_true, if_false, ex_seq, ex_block, reduceCtorEq, ↓reduceIte])
            | (refine tr_ret ?_; try simp only [ex_seq_ret, ex_block_ret]))
        refine tr_cond rfl (fun ht => ?_) (fun hf => ?_)
        · repeat (first
              | refine tr_seq_k fun _ _ => ?_
              | (refine tr_region ?_; simp only [go_sem, List.getElem?_toArray, str_beq, reduceCtorEq, Nat.reduceEqDiff, Nat.reduceLT, Nat.reduceLeDiff, Nat.reduceAdd, Nat.reduceMul, Nat.reduceSub, Nat.reduceBEq, ↓reduceIte, bne_self_eq_false, Bool.and_false, Bool.false_and, Bool.true_or, Bool.false_or])
              | refine k_of (by assumption) ?_
              | refine tr_block ?_
              | refine tr_scope ?_
              | (refine tr_skip ?_; try simp only [ex_seq, ex_block])
              | (refine tr_label ?_; try simp only [ex_seq, ex_block])
              | (refine tr_exit ?_; try simp only [ex_seq_exit, ex_block_exit, Nat.reduceEqDiff, if_true, if_false, ex_seq, ex_block, reduceCtorEq, ↓reduceIte])
              | (refine tr_ret ?_; try simp only [ex_seq_ret, ex_block_ret]))
          refine (hQ _ _ [bA false] ?_ (fun m => ?_)).2 <;> simp only [go_sem, List.getElem?_toArray, str_beq, reduceCtorEq, Nat.reduceEqDiff, Nat.reduceLT, Nat.reduceLeDiff, Nat.reduceAdd, Nat.reduceMul, Nat.reduceSub, Nat.reduceBEq, ↓reduceIte, bne_self_eq_false, Bool.and_false, Bool.false_and, Bool.true_or, Bool.false_or, Tryd.f81, hr]
        · cases hf
      | false =>
        have hc : pconst0 s = (lts s).all constB := by
          unfold pconst0
          rw [hh, h3]
          simp [h255]
        repeat (first
            | refine tr_seq_k fun _ _ => ?_
            | (refine tr_region ?_; simp only [go_sem, List.getElem?_toArray, str_beq, reduceCtorEq, Nat.reduceEqDiff, Nat.reduceLT, Nat.reduceLeDiff, Nat.reduceAdd, Nat.reduceMul, Nat.reduceSub, Nat.reduceBEq, ↓reduceIte, bne_self_eq_false, Bool.and_false, Bool.false_and, Bool.true_or, Bool.false_or, lenS, h1, h2, idx_str0 s hp0, h3])
            | refine k_of (by assumption) ?_
            | refine tr_block ?_
            | refine tr_scope ?_
            | (refine tr_skip ?_; try simp only [ex_seq, ex_block])
            | (refine tr_label ?_; try simp only [ex_seq, ex_block])
            | (refine tr_exit ?_; try simp only [ex_seq_exit, ex_block_exit, Nat.reduceEqDiff, if_true, if_false, ex_seq, ex_block, reduceCtorEq, ↓reduceIte])
            | (refine tr_ret ?_; try simp only [ex_seq_ret, ex_block_ret]))
        refine tr_cond rfl (fun ht => ?_) (fun hf => ?_)
        · cases ht
        · repeat (first
              | refine tr_seq_k fun _ _ => ?_
              | (refine tr_region ?_; simp only [go_sem, List.getElem?_toArray, str_beq, reduceCtorEq, Nat.reduceEqDiff, Nat.reduceLT, Nat.reduceLeDiff, Nat.reduceAdd, Nat.reduceMul, Nat.reduceSub, Nat.reduceBEq, ↓reduceIte, bne_self_eq_false, Bool.and_false, Bool.false_and, Bool.true_or, Bool.false_or])
              | refine k_of (by assumption) ?_
              | refine tr_block ?_
              | refine tr_scope ?_
              | (refine tr_skip ?_; try simp only [ex_seq, ex_block])
              | (refine tr_label ?_; try simp only [ex_seq, ex_block])
              | (refine tr_exit ?_; try simp only [ex_seq_exit, ex_block_exit, Nat.reduceEqDiff, if_true, if_false, ex_seq, ex_block, reduceCtorEq, ↓reduceIte])
              | (refine tr_ret ?_; try simp only [ex_seq_ret, ex_block_ret]))
          refine tr_loop_k (σ := Nat) (fun k => [(0, sA s), (3, iA k)]) (fun _ => ⟨[], []⟩)
            (fun k => k ≤ (lts s).length ∧ ((lts s).take k).all constB = true) (fun k => (lts s).length - k) 0 ⟨by omega, rfl⟩ ⟨rfl, rfl, trivial⟩ rfl ?_
          rintro k ⟨hk, hp⟩ K hK
          repeat (first
              | refine tr_seq_k fun _ _ => ?_
              | (refine tr_region ?_; simp only [go_sem, List.getElem?_toArray, str_beq, reduceCtorEq, Nat.reduceEqDiff, Nat.reduceLT, Nat.reduceLeDiff, Nat.reduceAdd, Nat.reduceMul, Nat.reduceSub, Nat.reduceBEq, ↓reduceIte, bne_self_eq_false, Bool.and_false, Bool.false_and, Bool.true_or, Bool.false_or, lenS])
              | refine k_of (by assumption) ?_
              | refine tr_block ?_
              | refine tr_scope ?_
              | (refine tr_skip ?_; try simp only [ex_seq, ex_block])
              | (refine tr_label ?_; try simp only [ex_seq, ex_block])
              | (refine tr_exit ?_; try simp only [ex_seq_exit, ex_block_exit, Nat.reduceEqDiff, if_true, if_false, ex_seq, ex_block, reduceCtorEq, ↓reduceIte])
              | (refine tr_ret ?_; try simp only [ex_seq_ret, ex_block_ret]))
          refine tr_cond rfl (fun ht => ?_) (fun hf => ?_)
          · have hlt : k < (lts s).length := by
              rw [lsz]
              simpa using ht
            have ws := wrap_succ (show k ≤ 1000000000 by omega)
            have ix := idx_str s hlt
            have cs := small_does (lts s)[k]
            have cd := digit_does (lts s)[k]
            have cu := under_int (lts s)[k]
            generalize hck : (lts s)[k] = c at *
            cases hs : lowerB c with
            | true =>
              rw [hs] at cs
              repeat (first
                  | refine tr_seq_k fun _ _ => ?_
                  | (refine tr_region ?_; simp only [go_sem, List.getElem?_toArray, str_beq, reduceCtorEq, Nat.reduceEqDiff, Nat.reduceLT, Nat.reduceLeDiff, Nat.reduceAdd, Nat.reduceMul, Nat.reduceSub, Nat.reduceBEq, ↓reduceIte, bne_self_eq_false, Bool.and_false, Bool.false_and, Bool.true_or, Bool.false_or, ix])
                  | (refine call_of (cs) ?_ ?_
                     · first | rfl | simp only [go_sem, List.getElem?_toArray, str_beq, reduceCtorEq, Nat.reduceEqDiff, Nat.reduceLT, Nat.reduceLeDiff, Nat.reduceAdd, Nat.reduceMul, Nat.reduceSub, Nat.reduceBEq, ↓reduceIte, bne_self_eq_false, Bool.and_false, Bool.false_and, Bool.true_or, Bool.false_or, ix, shut_col]
                     simp only [go_sem, List.getElem?_toArray, str_beq, reduceCtorEq, Nat.reduceEqDiff, Nat.reduceLT, Nat.reduceLeDiff, Nat.reduceAdd, Nat.reduceMul, Nat.reduceSub, Nat.reduceBEq, ↓reduceIte, bne_self_eq_false, Bool.and_false, Bool.false_and, Bool.true_or, Bool.false_or, ix])
                  | refine k_of (by assumption) ?_
                  | refine tr_block ?_
                  | refine tr_scope ?_
                  | (refine tr_skip ?_; try simp only [ex_seq, ex_block])
                  | (refine tr_label ?_; try simp only [ex_seq, ex_block])
                  | (refine tr_exit ?_; try simp only [ex_seq_exit, ex_block_exit, Nat.reduceEqDiff, if_true, if_false, ex_seq, ex_block, reduceCtorEq, ↓reduceIte])
                  | (refine tr_ret ?_; try simp only [ex_seq_ret, ex_block_ret]))
              refine tr_cond rfl (fun ht => ?_) (fun hf => ?_)
              · cases ht
              · repeat (first
                    | refine tr_seq_k fun _ _ => ?_
                    | (refine tr_region ?_; simp only [go_sem, List.getElem?_toArray, str_beq, reduceCtorEq, Nat.reduceEqDiff, Nat.reduceLT, Nat.reduceLeDiff, Nat.reduceAdd, Nat.reduceMul, Nat.reduceSub, Nat.reduceBEq, ↓reduceIte, bne_self_eq_false, Bool.and_false, Bool.false_and, Bool.true_or, Bool.false_or, ws])
                    | refine k_of (by assumption) ?_
                    | refine tr_block ?_
                    | refine tr_scope ?_
                    | (refine tr_skip ?_; try simp only [ex_seq, ex_block])
                    | (refine tr_label ?_; try simp only [ex_seq, ex_block])
                    | (refine tr_exit ?_; try simp only [ex_seq_exit, ex_block_exit, Nat.reduceEqDiff, if_true, if_false, ex_seq, ex_block, reduceCtorEq, ↓reduceIte])
                    | (refine tr_ret ?_; try simp only [ex_seq_ret, ex_block_ret]))
                exact hK (k + 1) _ _ ⟨by omega, all_next hlt hp (by rw [hck]; simp [constB, hs])⟩ ⟨⟨rfl, rfl, trivial⟩, Keep.refl _, rfl, rfl, Nat.le_refl _, Nat.le_refl _⟩ (by omega)
            | false =>
              rw [hs] at cs
              cases hd : digB c with
              | true =>
                rw [hd] at cd
                repeat (first
                    | refine tr_seq_k fun _ _ => ?_
                    | (refine tr_region ?_; simp only [go_sem, List.getElem?_toArray, str_beq, reduceCtorEq, Nat.reduceEqDiff, Nat.reduceLT, Nat.reduceLeDiff, Nat.reduceAdd, Nat.reduceMul, Nat.reduceSub, Nat.reduceBEq, ↓reduceIte, bne_self_eq_false, Bool.and_false, Bool.false_and, Bool.true_or, Bool.false_or, ix])
                    | (refine call_of (cs) ?_ ?_
                       · first | rfl | simp only [go_sem, List.getElem?_toArray, str_beq, reduceCtorEq, Nat.reduceEqDiff, Nat.reduceLT, Nat.reduceLeDiff, Nat.reduceAdd, Nat.reduceMul, Nat.reduceSub, Nat.reduceBEq, ↓reduceIte, bne_self_eq_false, Bool.and_false, Bool.false_and, Bool.true_or, Bool.false_or, ix, shut_col]
                       simp only [go_sem, List.getElem?_toArray, str_beq, reduceCtorEq, Nat.reduceEqDiff, Nat.reduceLT, Nat.reduceLeDiff, Nat.reduceAdd, Nat.reduceMul, Nat.reduceSub, Nat.reduceBEq, ↓reduceIte, bne_self_eq_false, Bool.and_false, Bool.false_and, Bool.true_or, Bool.false_or, ix])
                    | (refine call_of (cd) ?_ ?_
                       · first | rfl | simp only [go_sem, List.getElem?_toArray, str_beq, reduceCtorEq, Nat.reduceEqDiff, Nat.reduceLT, Nat.reduceLeDiff, Nat.reduceAdd, Nat.reduceMul, Nat.reduceSub, Nat.reduceBEq, ↓reduceIte, bne_self_eq_false, Bool.and_false, Bool.false_and, Bool.true_or, Bool.false_or, ix, shut_col]
                       simp only [go_sem, List.getElem?_toArray, str_beq, reduceCtorEq, Nat.reduceEqDiff, Nat.reduceLT, Nat.reduceLeDiff, Nat.reduceAdd, Nat.reduceMul, Nat.reduceSub, Nat.reduceBEq, ↓reduceIte, bne_self_eq_false, Bool.and_false, Bool.false_and, Bool.true_or, Bool.false_or, ix])
                    | refine k_of (by assumption) ?_
                    | refine tr_block ?_
                    | refine tr_scope ?_
                    | (refine tr_skip ?_; try simp only [ex_seq, ex_block])
                    | (refine tr_label ?_; try simp only [ex_seq, ex_block])
                    | (refine tr_exit ?_; try simp only [ex_seq_exit, ex_block_exit, Nat.reduceEqDiff, if_true, if_false, ex_seq, ex_block, reduceCtorEq, ↓reduceIte])
                    | (refine tr_ret ?_; try simp only [ex_seq_ret, ex_block_ret]))
                refine tr_cond rfl (fun ht => ?_) (fun hf => ?_)
                · cases ht
                · repeat (first
                      | refine tr_seq_k fun _ _ => ?_
                      | (refine tr_region ?_; simp only [go_sem, List.getElem?_toArray, str_beq, reduceCtorEq, Nat.reduceEqDiff, Nat.reduceLT, Nat.reduceLeDiff, Nat.reduceAdd, Nat.reduceMul, Nat.reduceSub, Nat.reduceBEq, ↓reduceIte, bne_self_eq_false, Bool.and_false, Bool.false_and, Bool.true_or, Bool.false_or, ws])
                      | refine k_of (by assumption) ?_
                      | refine tr_block ?_
                      | refine tr_scope ?_
                      | (refine tr_skip ?_; try simp only [ex_seq, ex_block])
                      | (refine tr_label ?_; try simp only [ex_seq, ex_block])
                      | (refine tr_exit ?_; try simp only [ex_seq_exit, ex_block_exit, Nat.reduceEqDiff, if_true, if_false, ex_seq, ex_block, reduceCtorEq, ↓reduceIte])
                      | (refine tr_ret ?_; try simp only [ex_seq_ret, ex_block_ret]))
                  exact hK (k + 1) _ _ ⟨by omega, all_next hlt hp (by rw [hck]; simp [constB, hd])⟩ ⟨⟨rfl, rfl, trivial⟩, Keep.refl _, rfl, rfl, Nat.le_refl _, Nat.le_refl _⟩ (by omega)
              | false =>
                rw [hd] at cd
                cases hu : underB c with
                | true =>
                  rw [hu] at cu
                  repeat (first
                      | refine tr_seq_k fun _ _ => ?_
                      | (refine tr_region ?_; simp only [go_sem, List.getElem?_toArray, str_beq, reduceCtorEq, Nat.reduceEqDiff, Nat.reduceLT, Nat.reduceLeDiff, Nat.reduceAdd, Nat.reduceMul, Nat.reduceSub, Nat.reduceBEq, ↓reduceIte, bne_self_eq_false, Bool.and_false, Bool.false_and, Bool.true_or, Bool.false_or, ix, ← cu])
                      | (refine call_of (cs) ?_ ?_
                         · first | rfl | simp only [go_sem, List.getElem?_toArray, str_beq, reduceCtorEq, Nat.reduceEqDiff, Nat.reduceLT, Nat.reduceLeDiff, Nat.reduceAdd, Nat.reduceMul, Nat.reduceSub, Nat.reduceBEq, ↓reduceIte, bne_self_eq_false, Bool.and_false, Bool.false_and, Bool.true_or, Bool.false_or, ix, ← cu, shut_col]
                         simp only [go_sem, List.getElem?_toArray, str_beq, reduceCtorEq, Nat.reduceEqDiff, Nat.reduceLT, Nat.reduceLeDiff, Nat.reduceAdd, Nat.reduceMul, Nat.reduceSub, Nat.reduceBEq, ↓reduceIte, bne_self_eq_false, Bool.and_false, Bool.false_and, Bool.true_or, Bool.false_or, ix, ← cu])
                      | (refine call_of (cd) ?_ ?_
                         · first | rfl | simp only [go_sem, List.getElem?_toArray, str_beq, reduceCtorEq, Nat.reduceEqDiff, Nat.reduceLT, Nat.reduceLeDiff, Nat.reduceAdd, Nat.reduceMul, Nat.reduceSub, Nat.reduceBEq, ↓reduceIte, bne_self_eq_false, Bool.and_false, Bool.false_and, Bool.true_or, Bool.false_or, ix, ← cu, shut_col]
                         simp only [go_sem, List.getElem?_toArray, str_beq, reduceCtorEq, Nat.reduceEqDiff, Nat.reduceLT, Nat.reduceLeDiff, Nat.reduceAdd, Nat.reduceMul, Nat.reduceSub, Nat.reduceBEq, ↓reduceIte, bne_self_eq_false, Bool.and_false, Bool.false_and, Bool.true_or, Bool.false_or, ix, ← cu])
                      | refine k_of (by assumption) ?_
                      | refine tr_block ?_
                      | refine tr_scope ?_
                      | (refine tr_skip ?_; try simp only [ex_seq, ex_block])
                      | (refine tr_label ?_; try simp only [ex_seq, ex_block])
                      | (refine tr_exit ?_; try simp only [ex_seq_exit, ex_block_exit, Nat.reduceEqDiff, if_true, if_false, ex_seq, ex_block, reduceCtorEq, ↓reduceIte])
                      | (refine tr_ret ?_; try simp only [ex_seq_ret, ex_block_ret]))
                  refine tr_cond rfl (fun ht => ?_) (fun hf => ?_)
                  · cases ht
                  · repeat (first
                        | refine tr_seq_k fun _ _ => ?_
                        | (refine tr_region ?_; simp only [go_sem, List.getElem?_toArray, str_beq, reduceCtorEq, Nat.reduceEqDiff, Nat.reduceLT, Nat.reduceLeDiff, Nat.reduceAdd, Nat.reduceMul, Nat.reduceSub, Nat.reduceBEq, ↓reduceIte, bne_self_eq_false, Bool.and_false, Bool.false_and, Bool.true_or, Bool.false_or, ws])
                        | refine k_of (by assumption) ?_
                        | refine tr_block ?_
                        | refine tr_scope ?_
                        | (refine tr_skip ?_; try simp only [ex_seq, ex_block])
                        | (refine tr_label ?_; try simp only [ex_seq, ex_block])
                        | (refine tr_exit ?_; try simp only [ex_seq_exit, ex_block_exit, Nat.reduceEqDiff, if_true, if_false, ex_seq, ex_block, reduceCtorEq, ↓reduceIte])
                        | (refine tr_ret ?_; try simp only [ex_seq_ret, ex_block_ret]))
                    exact hK (k + 1) _ _ ⟨by omega, all_next hlt hp (by rw [hck]; simp [constB, hu])⟩ ⟨⟨rfl, rfl, trivial⟩, Keep.refl _, rfl, rfl, Nat.le_refl _, Nat.le_refl _⟩ (by omega)
                | false =>
                  rw [hu] at cu
                  have hr : pconst0 s = false := by
                    rw [hc]
                    exact all_fail hlt (by rw [hck]; simp [constB, hs, hd, hu])
                  repeat (first
                      | refine tr_seq_k fun _ _ => ?_
                      | (refine tr_region ?_; simp only [go_sem, List.getElem?_toArray, str_beq, reduceCtorEq, Nat.reduceEqDiff, Nat.reduceLT, Nat.reduceLeDiff, Nat.reduceAdd, Nat.reduceMul, Nat.reduceSub, Nat.reduceBEq, ↓reduceIte, bne_self_eq_false, Bool.and_false, Bool.false_and, Bool.true_or, Bool.false_or, ix, ← cu])
                      | (refine call_of (cs) ?_ ?_
                         · first | rfl | simp only [go_sem, List.getElem?_toArray, str_beq, reduceCtorEq, Nat.reduceEqDiff, Nat.reduceLT, Nat.reduceLeDiff, Nat.reduceAdd, Nat.reduceMul, Nat.reduceSub, Nat.reduceBEq, ↓reduceIte, bne_self_eq_false, Bool.and_false, Bool.false_and, Bool.true_or, Bool.false_or, ix, ← cu, shut_col]
                         simp only [go_sem, List.getElem?_toArray, str_beq, reduceCtorEq, Nat.reduceEqDiff, Nat.reduceLT, Nat.reduceLeDiff, Nat.reduceAdd, Nat.reduceMul, Nat.reduceSub, Nat.reduceBEq, ↓reduceIte, bne_self_eq_false, Bool.and_false, Bool.false_and, Bool.true_or, Bool.false_or, ix, ← cu])
                      | (refine call_of (cd) ?_ ?_
                         · first | rfl | simp only [go_sem, List.getElem?_toArray, str_beq, reduceCtorEq, Nat.reduceEqDiff, Nat.reduceLT, Nat.reduceLeDiff, Nat.reduceAdd, Nat.reduceMul, Nat.reduceSub, Nat.reduceBEq, ↓reduceIte, bne_self_eq_false, Bool.and_false, Bool.false_and, Bool.true_or, Bool.false_or, ix, ← cu, shut_col]
                         simp only [go_sem, List.getElem?_toArray, str_beq, reduceCtorEq, Nat.reduceEqDiff, Nat.reduceLT, Nat.reduceLeDiff, Nat.reduceAdd, Nat.reduceMul, Nat.reduceSub, Nat.reduceBEq, ↓reduceIte, bne_self_eq_false, Bool.and_false, Bool.false_and, Bool.true_or, Bool.false_or, ix, ← cu])
                      | refine k_of (by assumption) ?_
                      | refine tr_block ?_
                      | refine tr_scope ?_
                      | (refine tr_skip ?_; try simp only [ex_seq, ex_block])
                      | (refine tr_label ?_; try simp only [ex_seq, ex_block])
                      | (refine tr_exit ?_; try simp only [ex_seq_exit, ex_block_exit, Nat.reduceEqDiff, if_true, if_false, ex_seq, ex_block, reduceCtorEq, ↓reduceIte])
                      | (refine tr_ret ?_; try simp only [ex_seq_ret, ex_block_ret]))
                  refine tr_cond rfl (fun ht => ?_) (fun hf => ?_)
                  · repeat (first
                        | refine tr_seq_k fun _ _ => ?_
                        | (refine tr_region ?_; simp only [go_sem, List.getElem?_toArray, str_beq, reduceCtorEq, Nat.reduceEqDiff, Nat.reduceLT, Nat.reduceLeDiff, Nat.reduceAdd, Nat.reduceMul, Nat.reduceSub, Nat.reduceBEq, ↓reduceIte, bne_self_eq_false, Bool.and_false, Bool.false_and, Bool.true_or, Bool.false_or])
                        | refine k_of (by assumption) ?_
                        | refine tr_block ?_
                        | refine tr_scope ?_
                        | (refine tr_skip ?_; try simp only [ex_seq, ex_block])
                        | (refine tr_label ?_; try simp only [ex_seq, ex_block])
                        | (refine tr_exit ?_; try simp only [ex_seq_exit, ex_block_exit, Nat.reduceEqDiff, if_true, if_false, ex_seq, ex_block, reduceCtorEq, ↓reduceIte])
                        | (refine tr_ret ?_; try simp only [ex_seq_ret, ex_block_ret]))
                    refine (hQ _ _ [bA false] ?_ (fun m => ?_)).2 <;> simp only [go_sem, List.getElem?_toArray, str_beq, reduceCtorEq, Nat.reduceEqDiff, Nat.reduceLT, Nat.reduceLeDiff, Nat.reduceAdd, Nat.reduceMul, Nat.reduceSub, Nat.reduceBEq, ↓reduceIte, bne_self_eq_false, Bool.and_false, Bool.false_and, Bool.true_or, Bool.false_or, Tryd.f81, hr]
                  · cases hf
          · have hkl : k = (lts s).length := by
              have := of_decide_eq_false hf
              omega
            subst hkl
            rw [List.take_length] at hp
            have hr : pconst0 s = true := hc.trans hp
            repeat (first
                | refine tr_seq_k fun _ _ => ?_
                | (refine tr_region ?_; simp only [go_sem, List.getElem?_toArray, str_beq, reduceCtorEq, Nat.reduceEqDiff, Nat.reduceLT, Nat.reduceLeDiff, Nat.reduceAdd, Nat.reduceMul, Nat.reduceSub, Nat.reduceBEq, ↓reduceIte, bne_self_eq_false, Bool.and_false, Bool.false_and, Bool.true_or, Bool.false_or])
                | refine k_of (by assumption) ?_
                | refine tr_block ?_
                | refine tr_scope ?_
                | (refine tr_skip ?_; try simp only [ex_seq, ex_block])
                | (refine tr_label ?_; try simp only [ex_seq, ex_block])
                | (refine tr_exit ?_; try simp only [ex_seq_exit, ex_block_exit, Nat.reduceEqDiff, if_true, if_false, ex_seq, ex_block, reduceCtorEq, ↓reduceIte])
                | (refine tr_ret ?_; try simp only [ex_seq_ret, ex_block_ret]))
            refine (hQ _ _ [bA true] ?_ (fun m => ?_)).2 <;> simp only [go_sem, List.getElem?_toArray, str_beq, reduceCtorEq, Nat.reduceEqDiff, Nat.reduceLT, Nat.reduceLeDiff, Nat.reduceAdd, Nat.reduceMul, Nat.reduceSub, Nat.reduceBEq, ↓reduceIte, bne_self_eq_false, Bool.and_false, Bool.false_and, Bool.true_or, Bool.false_or, Tryd.f81, hr]
theorem constant_does (s : ByteArray) : Does Tryd.prog 67 [sA s] (fun m => (bA (pconstant s), m)) := by
  have c0 := const0_does s
  have cr := reserved_does s
  unfold pconstant
  cases h1 : pconst0 s <;> cases h2 : preserved s
  all_goals
    rw [h1] at c0
    rw [h2] at cr
    refine does_of' Tryd.func67 rfl (by kernel_rfl) rfl Tryd.ntmps67 rfl rfl fun Q hQ => ?_
    repeat (first
        | refine tr_seq_k fun _ _ => ?_
        | (refine tr_region ?_; simp only [go_sem, List.getElem?_toArray, str_beq, reduceCtorEq, Nat.reduceEqDiff, Nat.reduceLT, Nat.reduceLeDiff, Nat.reduceAdd, Nat.reduceMul, Nat.reduceSub, Nat.reduceBEq, ↓reduceIte, bne_self_eq_false, Bool.and_false, Bool.false_and, Bool.true_or, Bool.false_or])
        | (refine call_of (c0) ?_ ?_
           · first | rfl | simp only [go_sem, List.getElem?_toArray, str_beq, reduceCtorEq, Nat.reduceEqDiff, Nat.reduceLT, Nat.reduceLeDiff, Nat.reduceAdd, Nat.reduceMul, Nat.reduceSub, Nat.reduceBEq, ↓reduceIte, bne_self_eq_false, Bool.and_false, Bool.false_and, Bool.true_or, Bool.false_or, shut_col]
           simp only [go_sem, List.getElem?_toArray, str_beq, reduceCtorEq, Nat.reduceEqDiff, Nat.reduceLT, Nat.reduceLeDiff, Nat.reduceAdd, Nat.reduceMul, Nat.reduceSub, Nat.reduceBEq, ↓reduceIte, bne_self_eq_false, Bool.and_false, Bool.false_and, Bool.true_or, Bool.false_or])
        | (refine call_of (cr) ?_ ?_
           · first | rfl | simp only [go_sem, List.getElem?_toArray, str_beq, reduceCtorEq, Nat.reduceEqDiff, Nat.reduceLT, Nat.reduceLeDiff, Nat.reduceAdd, Nat.reduceMul, Nat.reduceSub, Nat.reduceBEq, ↓reduceIte, bne_self_eq_false, Bool.and_false, Bool.false_and, Bool.true_or, Bool.false_or, shut_col]
           simp only [go_sem, List.getElem?_toArray, str_beq, reduceCtorEq, Nat.reduceEqDiff, Nat.reduceLT, Nat.reduceLeDiff, Nat.reduceAdd, Nat.reduceMul, Nat.reduceSub, Nat.reduceBEq, ↓reduceIte, bne_self_eq_false, Bool.and_false, Bool.false_and, Bool.true_or, Bool.false_or])
        | refine k_of (by assumption) ?_
        | refine tr_block ?_
        | refine tr_scope ?_
        | (refine tr_skip ?_; try simp only [ex_seq, ex_block])
        | (refine tr_label ?_; try simp only [ex_seq, ex_block])
        | (refine tr_exit ?_; try simp only [ex_seq_exit, ex_block_exit, Nat.reduceEqDiff, if_true, if_false, ex_seq, ex_block, reduceCtorEq, ↓reduceIte])
        | (refine tr_ret ?_; try simp only [ex_seq_ret, ex_block_ret]))
    refine (hQ _ _ [bA _] ?_ (fun m => rfl)).2 <;> simp only [go_sem, List.getElem?_toArray, str_beq, reduceCtorEq, Nat.reduceEqDiff, Nat.reduceLT, Nat.reduceLeDiff, Nat.reduceAdd, Nat.reduceMul, Nat.reduceSub, Nat.reduceBEq, ↓reduceIte, bne_self_eq_false, Bool.and_false, Bool.false_and, Bool.true_or, Bool.false_or, Tryd.f67]
theorem principal_does (s : ByteArray) : Does Tryd.prog 44 [sA s] (fun m => (bA (pprincipal s), m)) := by
  have c0 := constant_does s
  unfold pprincipal
  cases h1 : pconstant s with
  | false =>
    rw [h1] at c0
    refine does_of' Tryd.func44 rfl (by kernel_rfl) rfl Tryd.ntmps44 rfl rfl fun Q hQ => ?_
    repeat (first
        | refine tr_seq_k fun _ _ => ?_
        | (refine tr_region ?_; simp only [go_sem, List.getElem?_toArray, str_beq, reduceCtorEq, Nat.reduceEqDiff, Nat.reduceLT, Nat.reduceLeDiff, Nat.reduceAdd, Nat.reduceMul, Nat.reduceSub, Nat.reduceBEq, ↓reduceIte, bne_self_eq_false, Bool.and_false, Bool.false_and, Bool.true_or, Bool.false_or])
        | (refine call_of (c0) ?_ ?_
           · first | rfl | simp only [go_sem, List.getElem?_toArray, str_beq, reduceCtorEq, Nat.reduceEqDiff, Nat.reduceLT, Nat.reduceLeDiff, Nat.reduceAdd, Nat.reduceMul, Nat.reduceSub, Nat.reduceBEq, ↓reduceIte, bne_self_eq_false, Bool.and_false, Bool.false_and, Bool.true_or, Bool.false_or, shut_col]
           simp only [go_sem, List.getElem?_toArray, str_beq, reduceCtorEq, Nat.reduceEqDiff, Nat.reduceLT, Nat.reduceLeDiff, Nat.reduceAdd, Nat.reduceMul, Nat.reduceSub, Nat.reduceBEq, ↓reduceIte, bne_self_eq_false, Bool.and_false, Bool.false_and, Bool.true_or, Bool.false_or])
        | refine k_of (by assumption) ?_
        | refine tr_block ?_
        | refine tr_scope ?_
        | (refine tr_skip ?_; try simp only [ex_seq, ex_block])
        | (refine tr_label ?_; try simp only [ex_seq, ex_block])
        | (refine tr_exit ?_; try simp only [ex_seq_exit, ex_block_exit, Nat.reduceEqDiff, if_true, if_false, ex_seq, ex_block, reduceCtorEq, ↓reduceIte])
        | (refine tr_ret ?_; try simp only [ex_seq_ret, ex_block_ret]))
    refine (hQ _ _ [bA false] ?_ (fun m => rfl)).2 <;> simp only [go_sem, List.getElem?_toArray, str_beq, reduceCtorEq, Nat.reduceEqDiff, Nat.reduceLT, Nat.reduceLeDiff, Nat.reduceAdd, Nat.reduceMul, Nat.reduceSub, Nat.reduceBEq, ↓reduceIte, bne_self_eq_false, Bool.and_false, Bool.false_and, Bool.true_or, Bool.false_or, Tryd.f44]
  | true =>
    have hpos : 0 < s.size := by
      unfold pconstant pconst0 at h1
      simp only [Bool.and_eq_true] at h1
      exact headB_pos h1.1.1.2
    have hp0 : 0 < (lts s).length := by rw [lts_len]; exact hpos
    have cs := small_does ((lts s)[0]'hp0)
    rw [← headB_get (p := lowerB) hpos] at cs
    rw [h1] at c0
    refine does_of' Tryd.func44 rfl (by kernel_rfl) rfl Tryd.ntmps44 rfl rfl fun Q hQ => ?_
    repeat (first
        | refine tr_seq_k fun _ _ => ?_
        | (refine tr_region ?_; simp only [go_sem, List.getElem?_toArray, str_beq, reduceCtorEq, Nat.reduceEqDiff, Nat.reduceLT, Nat.reduceLeDiff, Nat.reduceAdd, Nat.reduceMul, Nat.reduceSub, Nat.reduceBEq, ↓reduceIte, bne_self_eq_false, Bool.and_false, Bool.false_and, Bool.true_or, Bool.false_or, idx_str0 s hp0])
        | (refine call_of (c0) ?_ ?_
           · first | rfl | simp only [go_sem, List.getElem?_toArray, str_beq, reduceCtorEq, Nat.reduceEqDiff, Nat.reduceLT, Nat.reduceLeDiff, Nat.reduceAdd, Nat.reduceMul, Nat.reduceSub, Nat.reduceBEq, ↓reduceIte, bne_self_eq_false, Bool.and_false, Bool.false_and, Bool.true_or, Bool.false_or, idx_str0 s hp0, shut_col]
           simp only [go_sem, List.getElem?_toArray, str_beq, reduceCtorEq, Nat.reduceEqDiff, Nat.reduceLT, Nat.reduceLeDiff, Nat.reduceAdd, Nat.reduceMul, Nat.reduceSub, Nat.reduceBEq, ↓reduceIte, bne_self_eq_false, Bool.and_false, Bool.false_and, Bool.true_or, Bool.false_or, idx_str0 s hp0])
        | (refine call_of (cs) ?_ ?_
           · first | rfl | simp only [go_sem, List.getElem?_toArray, str_beq, reduceCtorEq, Nat.reduceEqDiff, Nat.reduceLT, Nat.reduceLeDiff, Nat.reduceAdd, Nat.reduceMul, Nat.reduceSub, Nat.reduceBEq, ↓reduceIte, bne_self_eq_false, Bool.and_false, Bool.false_and, Bool.true_or, Bool.false_or, idx_str0 s hp0, shut_col]
           simp only [go_sem, List.getElem?_toArray, str_beq, reduceCtorEq, Nat.reduceEqDiff, Nat.reduceLT, Nat.reduceLeDiff, Nat.reduceAdd, Nat.reduceMul, Nat.reduceSub, Nat.reduceBEq, ↓reduceIte, bne_self_eq_false, Bool.and_false, Bool.false_and, Bool.true_or, Bool.false_or, idx_str0 s hp0])
        | refine k_of (by assumption) ?_
        | refine tr_block ?_
        | refine tr_scope ?_
        | (refine tr_skip ?_; try simp only [ex_seq, ex_block])
        | (refine tr_label ?_; try simp only [ex_seq, ex_block])
        | (refine tr_exit ?_; try simp only [ex_seq_exit, ex_block_exit, Nat.reduceEqDiff, if_true, if_false, ex_seq, ex_block, reduceCtorEq, ↓reduceIte])
        | (refine tr_ret ?_; try simp only [ex_seq_ret, ex_block_ret]))
    refine (hQ _ _ [bA (headB lowerB s)] ?_ (fun m => by rw [Bool.true_and]; rfl)).2 <;> simp only [go_sem, List.getElem?_toArray, str_beq, reduceCtorEq, Nat.reduceEqDiff, Nat.reduceLT, Nat.reduceLeDiff, Nat.reduceAdd, Nat.reduceMul, Nat.reduceSub, Nat.reduceBEq, ↓reduceIte, bne_self_eq_false, Bool.and_false, Bool.false_and, Bool.true_or, Bool.false_or, Tryd.f44]
theorem predicate_does (s : ByteArray) : Does Tryd.prog 45 [sA s] (fun m => (bA (pprincipal s), m)) := by
  refine does_of' Tryd.func45 rfl (by kernel_rfl) rfl Tryd.ntmps45 rfl rfl fun Q hQ => ?_
  repeat (first
      | refine tr_seq_k fun _ _ => ?_
      | (refine tr_region ?_; simp only [go_sem, List.getElem?_toArray, str_beq, reduceCtorEq, Nat.reduceEqDiff, Nat.reduceLT, Nat.reduceLeDiff, Nat.reduceAdd, Nat.reduceMul, Nat.reduceSub, Nat.reduceBEq, ↓reduceIte, bne_self_eq_false, Bool.and_false, Bool.false_and, Bool.true_or, Bool.false_or])
      | (refine call_of (principal_does s) ?_ ?_
         · first | rfl | simp only [go_sem, List.getElem?_toArray, str_beq, reduceCtorEq, Nat.reduceEqDiff, Nat.reduceLT, Nat.reduceLeDiff, Nat.reduceAdd, Nat.reduceMul, Nat.reduceSub, Nat.reduceBEq, ↓reduceIte, bne_self_eq_false, Bool.and_false, Bool.false_and, Bool.true_or, Bool.false_or, shut_col]
         simp only [go_sem, List.getElem?_toArray, str_beq, reduceCtorEq, Nat.reduceEqDiff, Nat.reduceLT, Nat.reduceLeDiff, Nat.reduceAdd, Nat.reduceMul, Nat.reduceSub, Nat.reduceBEq, ↓reduceIte, bne_self_eq_false, Bool.and_false, Bool.false_and, Bool.true_or, Bool.false_or])
      | refine k_of (by assumption) ?_
      | refine tr_block ?_
      | refine tr_scope ?_
      | (refine tr_skip ?_; try simp only [ex_seq, ex_block])
      | (refine tr_label ?_; try simp only [ex_seq, ex_block])
      | (refine tr_exit ?_; try simp only [ex_seq_exit, ex_block_exit, Nat.reduceEqDiff, if_true, if_false, ex_seq, ex_block, reduceCtorEq, ↓reduceIte])
      | (refine tr_ret ?_; try simp only [ex_seq_ret, ex_block_ret]))
  refine (hQ _ _ [bA (pprincipal s)] ?_ (fun m => rfl)).2 <;> simp only [go_sem, List.getElem?_toArray, str_beq, reduceCtorEq, Nat.reduceEqDiff, Nat.reduceLT, Nat.reduceLeDiff, Nat.reduceAdd, Nat.reduceMul, Nat.reduceSub, Nat.reduceBEq, ↓reduceIte, bne_self_eq_false, Bool.and_false, Bool.false_and, Bool.true_or, Bool.false_or, Tryd.f45]
end Go.Proofs.YtaeehadibckcjaaDoor

/-
  Contracts on abstract values: variables, terms and atoms that may be (references 1 and 3).
-/
namespace Go.Proofs.YtaeehadibckcjaaDoor
open Go.Vs Go.Vs.Ab
set_option maxRecDepth 100000
set_option maxRecDepth 10000
theorem variable_does (s : ByteArray) : Does Tryd.prog 75 [sA s] (fun m => (bA (pvariable s), m)) := by
  have lsz := lts_len s
  refine does_of' Tryd.func75 rfl (by kernel_rfl) rfl Tryd.ntmps75 rfl rfl fun Q hQ => ?_
  have lenS := b_lenS (P := Tryd.prog) 9 3 Tryd.underlying9 s
  cases h1 : decide ((s.size : Int) < 1) with
  | true =>
    have hr : pvariable s = false := by
      have : s.size = 0 := by
        have := of_decide_eq_true h1
        omega
      unfold pvariable
      rw [headB_nil this]
      simp
    repeat (first
        | refine tr_seq_k fun _ _ => ?_
        | (refine tr_region ?_; simp only [go_sem, List.getElem?_toArray, str_beq, reduceCtorEq, Nat.reduceEqDiff, Nat.reduceLT, Nat.reduceLeDiff, Nat.reduceAdd, Nat.reduceMul, Nat.reduceSub, Nat.reduceBEq, ↓reduceIte, bne_self_eq_false, Bool.and_false, Bool.false_and, Bool.true_or, Bool.false_or, lenS, h1])
        | refine k_of (by assumption) ?_
        | refine tr_block ?_
        | refine tr_scope ?_
        | (refine tr_skip ?_; try simp only [ex_seq, ex_block])
        | (refine tr_label ?_; try simp only [ex_seq, ex_block])
        | (refine tr_exit ?_; try simp only [ex_seq_exit, ex_block_exit, Nat.reduceEqDiff, if_true, if_false, ex_seq, ex_block, reduceCtorEq, ↓reduceIte])
        | (refine tr_ret ?_; try simp only [ex_seq_ret, ex_block_ret]))
    refine tr_cond rfl (fun ht => ?_) (fun hf => ?_)
    · repeat (first
          | refine tr_seq_k fun _ _ => ?_
          | (refine tr_region ?_; simp only [go_sem, List.getElem?_toArray, str_beq, reduceCtorEq, Nat.reduceEqDiff, Nat.reduceLT, Nat.reduceLeDiff, Nat.reduceAdd, Nat.reduceMul, Nat.reduceSub, Nat.reduceBEq, ↓reduceIte, bne_self_eq_false, Bool.and_false, Bool.false_and, Bool.true_or, Bool.false_or])
          | refine k_of (by assumption) ?_
          | refine tr_block ?_
          | refine tr_scope ?_
          | (refine tr_skip ?_; try simp only [ex_seq, ex_block])
          | (refine tr_label ?_; try simp only [ex_seq, ex_block])
          | (refine tr_exit ?_; try simp only [ex_seq_exit, ex_block_exit, Nat.reduceEqDiff, if_true, if_false, ex_seq, ex_block, reduceCtorEq, ↓reduceIte])
          | (refine tr_ret ?_; try simp only [ex_seq_ret, ex_block_ret]))
      refine (hQ _ _ [bA false] ?_ (fun m => ?_)).2 <;> simp only [go_sem, List.getElem?_toArray, str_beq, reduceCtorEq, Nat.reduceEqDiff, Nat.reduceLT, Nat.reduceLeDiff, Nat.reduceAdd, Nat.reduceMul, Nat.reduceSub, Nat.reduceBEq, ↓reduceIte, bne_self_eq_false, Bool.and_false, Bool.false_and, Bool.true_or, Bool.false_or, Tryd.f75, hr]
    · cases hf
  | false =>
    cases h2 : decide ((255 : Int) < (s.size : Int)) with
    | true =>
      have hr : pvariable s = false := by
        have : ¬ s.size ≤ 255 := by
          have := of_decide_eq_true h2
          omega
        unfold pvariable
        simp [this]
      repeat (first
          | refine tr_seq_k fun _ _ => ?_
          | (refine tr_region ?_; simp only [go_sem, List.getElem?_toArray, str_beq, reduceCtorEq, Nat.reduceEqDiff, Nat.reduceLT, Nat.reduceLeDiff, Nat.reduceAdd, Nat.reduceMul, Nat.reduceSub, Nat.reduceBEq, ↓reduceIte, bne_self_eq_false, Bool.and_false, Bool.false_and, Bool.true_or, Bool.false_or, lenS, h1, h2])
          | refine k_of (by assumption) ?_
          | refine tr_block ?_
          | refine tr_scope ?_
          | (refine tr_skip ?_; try simp only [ex_seq, ex_block])
          | (refine tr_label ?_; try simp only [ex_seq, ex_block])
          | (refine tr_exit ?_; try simp only [ex_seq_exit, ex_block_exit, Nat.reduceEqDiff, if_true, if_false, ex_seq, ex_block, reduceCtorEq, ↓reduceIte])
          | (refine tr_ret ?_; try simp only [ex_seq_ret, ex_block_ret]))
      refine tr_cond rfl (fun ht => ?_) (fun hf => ?_)
      · repeat (first
            | refine tr_seq_k fun _ _ => ?_
            | (refine tr_region ?_; simp only [go_sem, List.getElem?_toArray, str_beq, reduceCtorEq, Nat.reduceEqDiff, Nat.reduceLT, Nat.reduceLeDiff, Nat.reduceAdd, Nat.reduceMul, Nat.reduceSub, Nat.reduceBEq, ↓reduceIte, bne_self_eq_false, Bool.and_false, Bool.false_and, Bool.true_or, Bool.false_or])
            | refine k_of (by assumption) ?_
            | refine tr_block ?_
            | refine tr_scope ?_
            | (refine tr_skip ?_; try simp only [ex_seq, ex_block])
            | (refine tr_label ?_; try simp only [ex_seq, ex_block])
            | (refine tr_exit ?_; try simp only [ex_seq_exit, ex_block_exit, Nat.reduceEqDiff, if_true, if_false, ex_seq, ex_block, reduceCtorEq, ↓reduceIte])
            | (refine tr_ret ?_; try simp only [ex_seq_ret, ex_block_ret]))
        refine (hQ _ _ [bA false] ?_ (fun m => ?_)).2 <;> simp only [go_sem, List.getElem?_toArray, str_beq, reduceCtorEq, Nat.reduceEqDiff, Nat.reduceLT, Nat.reduceLeDiff, Nat.reduceAdd, Nat.reduceMul, Nat.reduceSub, Nat.reduceBEq, ↓reduceIte, bne_self_eq_false, Bool.and_false, Bool.false_and, Bool.true_or, Bool.false_or, Tryd.f75, hr]
      · cases hf
    | false =>
      have hpos : 0 < s.size := by
        have := of_decide_eq_false h1
        omega
      have h255 : s.size ≤ 255 := by
        have := of_decide_eq_false h2
        omega
      have hp0 : 0 < (lts s).length := by omega
      have hh : headB upperB s = upperB ((lts s)[0]'hp0) := headB_get hpos
      have cg := great_does ((lts s)[0]'hp0)
      cases h3 : upperB ((lts s)[0]'hp0) with
      | false =>
        rw [h3] at hh cg
        have hr : pvariable s = false := by
          unfold pvariable
          rw [hh]
          simp
        repeat (first
            | refine tr_seq_k fun _ _ => ?_
            | (refine tr_region ?_; simp only [go_sem, List.getElem?_toArray, str_beq, reduceCtorEq, Nat.reduceEqDiff, Nat.reduceLT, Nat.reduceLeDiff, Nat.reduceAdd, Nat.reduceMul, Nat.reduceSub, Nat.reduceBEq, ↓reduceIte, bne_self_eq_false, Bool.and_false, Bool.false_and, Bool.true_or, Bool.false_or, lenS, h1, h2, idx_str0 s hp0])
            | (refine call_of (cg) ?_ ?_
               · first | rfl | simp only [go_sem, List.getElem?_toArray, str_beq, reduceCtorEq, Nat.reduceEqDiff, Nat.reduceLT, Nat.reduceLeDiff, Nat.reduceAdd, Nat.reduceMul, Nat.reduceSub, Nat.reduceBEq, ↓reduceIte, bne_self_eq_false, Bool.and_false, Bool.false_and, Bool.true_or, Bool.false_or, lenS, h1, h2, idx_str0 s hp0, shut_col]
               simp only [go_sem, List.getElem?_toArray, str_beq, reduceCtorEq, Nat.reduceEqDiff, Nat.reduceLT, Nat.reduceLeDiff, Nat.reduceAdd, Nat.reduceMul, Nat.reduceSub, Nat.reduceBEq, ↓reduceIte, bne_self_eq_false, Bool.and_false, Bool.false_and, Bool.true_or, Bool.false_or, lenS, h1, h2, idx_str0 s hp0])
            | refine k_of (by assumption) ?_
            | refine tr_block ?_
            | refine tr_scope ?_
            | (refine tr_skip ?_; try simp only [ex_seq, ex_block])
            | (refine tr_label ?_; try simp only [ex_seq, ex_block])
            | (refine tr_exit ?_; try simp only [ex_seq_exit, ex_block_exit, Nat.reduceEqDiff, if_true, if_false, ex_seq, ex_block, reduceCtorEq, ↓reduceIte])
            | (refine tr_ret ?_; try simp only [ex_seq_ret, ex_block_ret]))
        refine tr_cond rfl (fun ht => ?_) (fun hf => ?_)
        · repeat (first
              | refine tr_seq_k fun _ _ => ?_
              | (refine tr_region ?_; simp only [go_sem, List.getElem?_toArray, str_beq, reduceCtorEq, Nat.reduceEqDiff, Nat.reduceLT, Nat.reduceLeDiff, Nat.reduceAdd, Nat.reduceMul, Nat.reduceSub, Nat.reduceBEq, ↓reduceIte, bne_self_eq_false, Bool.and_false, Bool.false_and, Bool.true_or, Bool.false_or])
              | refine k_of (by assumption) ?_
              | refine tr_block ?_
              | refine tr_scope ?_
              | (refine tr_skip ?_; try simp only [ex_seq, ex_block])
              | (refine tr_label ?_; try simp only [ex_seq, ex_block])
              | (refine tr_exit ?_; try simp only [ex_seq_exit, ex_block_exit, Nat.reduceEqDiff, if_true, if_false, ex_seq, ex_block, reduceCtorEq, ↓reduceIte])
              | (refine tr_ret ?_; try simp only [ex_seq_ret, ex_block_ret]))
          refine (hQ _ _ [bA false] ?_ (fun m => ?_)).2 <;> simp only [go_sem, List.getElem?_toArray, str_beq, reduceCtorEq, Nat.reduceEqDiff, Nat.reduceLT, Nat.reduceLeDiff, Nat.reduceAdd, Nat.reduceMul, Nat.reduceSub, Nat.reduceBEq, ↓reduceIte, bne_self_eq_false, Bool.and_false, Bool.false_and, Bool.true_or, Bool.false_or, Tryd.f75, hr]
        · cases hf
      | true =>
        rw [h3] at hh cg
        have hc : pvariable s = (lts s).all varB := by
          unfold pvariable
          rw [hh]
          simp [h255]
        repeat (first
            | refine tr_seq_k fun _ _ => ?_
            | (refine tr_region ?_; simp only [go_sem, List.getElem?_toArray, str_beq, reduceCtorEq, Nat.reduceEqDiff, Nat.reduceLT, Nat.reduceLeDiff, Nat.reduceAdd, Nat.reduceMul, Nat.reduceSub, Nat.reduceBEq, ↓reduceIte, bne_self_eq_false, Bool.and_false, Bool.false_and, Bool.true_or, Bool.false_or, lenS, h1, h2, idx_str0 s hp0])
            | (refine call_of (cg) ?_ ?_
               · first | rfl | simp only [go_sem, List.getElem?_toArray, str_beq, reduceCtorEq, Nat.reduceEqDiff, Nat.reduceLT, Nat.reduceLeDiff, Nat.reduceAdd, Nat.reduceMul, Nat.reduceSub, Nat.reduceBEq, ↓reduceIte, bne_self_eq_false, Bool.and_false, Bool.false_and, Bool.true_or, Bool.false_or, lenS, h1, h2, idx_str0 s hp0, shut_col]
               simp only [go_sem, List.getElem?_toArray, str_beq, reduceCtorEq, Nat.reduceEqDiff, Nat.reduceLT, Nat.reduceLeDiff, Nat.reduceAdd, Nat.reduceMul, Nat.reduceSub, Nat.reduceBEq, ↓reduceIte, bne_self_eq_false, Bool.and_false, Bool.false_and, Bool.true_or, Bool.false_or, lenS, h1, h2, idx_str0 s hp0])
            | refine k_of (by assumption) ?_
            | refine tr_block ?_
            | refine tr_scope ?_
            | (refine tr_skip ?_; try simp only [ex_seq, ex_block])
            | (refine tr_label ?_; try simp only [ex_seq, ex_block])
            | (refine tr_exit ?_; try simp only [ex_seq_exit, ex_block_exit, Nat.reduceEqDiff, if_true, if_false, ex_seq, ex_block, reduceCtorEq, ↓reduceIte])
            | (refine tr_ret ?_; try simp only [ex_seq_ret, ex_block_ret]))
        refine tr_cond rfl (fun ht => ?_) (fun hf => ?_)
        · cases ht
        · repeat (first
              | refine tr_seq_k fun _ _ => ?_
              | (refine tr_region ?_; simp only [go_sem, List.getElem?_toArray, str_beq, reduceCtorEq, Nat.reduceEqDiff, Nat.reduceLT, Nat.reduceLeDiff, Nat.reduceAdd, Nat.reduceMul, Nat.reduceSub, Nat.reduceBEq, ↓reduceIte, bne_self_eq_false, Bool.and_false, Bool.false_and, Bool.true_or, Bool.false_or])
              | refine k_of (by assumption) ?_
              | refine tr_block ?_
              | refine tr_scope ?_
              | (refine tr_skip ?_; try simp only [ex_seq, ex_block])
              | (refine tr_label ?_; try simp only [ex_seq, ex_block])
              | (refine tr_exit ?_; try simp only [ex_seq_exit, ex_block_exit, Nat.reduceEqDiff, if_true, if_false, ex_seq, ex_block, reduceCtorEq, ↓reduceIte])
              | (refine tr_ret ?_; try simp only [ex_seq_ret, ex_block_ret]))
          refine tr_loop_k (σ := Nat) (fun k => [(0, sA s), (3, iA k)]) (fun _ => ⟨[], []⟩)
            (fun k => k ≤ (lts s).length ∧ ((lts s).take k).all varB = true) (fun k => (lts s).length - k) 0 ⟨by omega, rfl⟩ ⟨rfl, rfl, trivial⟩ rfl ?_
          rintro k ⟨hk, hp⟩ K hK
          repeat (first
              | refine tr_seq_k fun _ _ => ?_
              | (refine tr_region ?_; simp only [go_sem, List.getElem?_toArray, str_beq, reduceCtorEq, Nat.reduceEqDiff, Nat.reduceLT, Nat.reduceLeDiff, Nat.reduceAdd, Nat.reduceMul, Nat.reduceSub, Nat.reduceBEq, ↓reduceIte, bne_self_eq_false, Bool.and_false, Bool.false_and, Bool.true_or, Bool.false_or, lenS])
              | refine k_of (by assumption) ?_
              | refine tr_block ?_
              | refine tr_scope ?_
              | (refine tr_skip ?_; try simp only [ex_seq, ex_block])
              | (refine tr_label ?_; try simp only [ex_seq, ex_block])
              | (refine tr_exit ?_; try simp only [ex_seq_exit, ex_block_exit, Nat.reduceEqDiff, if_true, if_false, ex_seq, ex_block, reduceCtorEq, ↓reduceIte])
              | (refine tr_ret ?_; try simp only [ex_seq_ret, ex_block_ret]))
          refine tr_cond rfl (fun ht => ?_) (fun hf => ?_)
          · have hlt : k < (lts s).length := by
              rw [lsz]
              simpa using ht
            have ws := wrap_succ (show k ≤ 1000000000 by omega)
            have ix := idx_str s hlt
            have cs := small_does (lts s)[k]
            have cg := great_does (lts s)[k]
            have cd := digit_does (lts s)[k]
            have cu := under_int (lts s)[k]
            have step : varB (lts s)[k] = true → ∀ fr' m', Back ⟨[], []⟩ [(0, sA s), (3, iA ((k + 1 : Nat) : Int))] ⟨[], []⟩ fr' m' → K fr' m' := fun hv fr' m' hB => hK (k + 1) fr' m' ⟨by omega, all_next hlt hp hv⟩ hB (by omega)
            generalize hck : (lts s)[k] = c at *
            cases hs : lowerB c with
            | true =>
              rw [hs] at cs
              repeat (first
                  | refine tr_seq_k fun _ _ => ?_
                  | (refine tr_region ?_; simp only [go_sem, List.getElem?_toArray, str_beq, reduceCtorEq, Nat.reduceEqDiff, Nat.reduceLT, Nat.reduceLeDiff, Nat.reduceAdd, Nat.reduceMul, Nat.reduceSub, Nat.reduceBEq, ↓reduceIte, bne_self_eq_false, Bool.and_false, Bool.false_and, Bool.true_or, Bool.false_or, ix])
                  | (refine call_of (cs) ?_ ?_
                     · first | rfl | simp only [go_sem, List.getElem?_toArray, str_beq, reduceCtorEq, Nat.reduceEqDiff, Nat.reduceLT, Nat.reduceLeDiff, Nat.reduceAdd, Nat.reduceMul, Nat.reduceSub, Nat.reduceBEq, ↓reduceIte, bne_self_eq_false, Bool.and_false, Bool.false_and, Bool.true_or, Bool.false_or, ix, shut_col]
                     simp only [go_sem, List.getElem?_toArray, str_beq, reduceCtorEq, Nat.reduceEqDiff, Nat.reduceLT, Nat.reduceLeDiff, Nat.reduceAdd, Nat.reduceMul, Nat.reduceSub, Nat.reduceBEq, ↓reduceIte, bne_self_eq_false, Bool.and_false, Bool.false_and, Bool.true_or, Bool.false_or, ix])
                  | refine k_of (by assumption) ?_
                  | refine tr_block ?_
                  | refine tr_scope ?_
                  | (refine tr_skip ?_; try simp only [ex_seq, ex_block])
                  | (refine tr_label ?_; try simp only [ex_seq, ex_block])
                  | (refine tr_exit ?_; try simp only [ex_seq_exit, ex_block_exit, Nat.reduceEqDiff, if_true, if_false, ex_seq, ex_block, reduceCtorEq, ↓reduceIte])
                  | (refine tr_ret ?_; try simp only [ex_seq_ret, ex_block_ret]))
              refine tr_cond rfl (fun ht => ?_) (fun hf => ?_)
              · cases ht
              · repeat (first
                    | refine tr_seq_k fun _ _ => ?_
                    | (refine tr_region ?_; simp only [go_sem, List.getElem?_toArray, str_beq, reduceCtorEq, Nat.reduceEqDiff, Nat.reduceLT, Nat.reduceLeDiff, Nat.reduceAdd, Nat.reduceMul, Nat.reduceSub, Nat.reduceBEq, ↓reduceIte, bne_self_eq_false, Bool.and_false, Bool.false_and, Bool.true_or, Bool.false_or, ws])
                    | refine k_of (by assumption) ?_
                    | refine tr_block ?_
                    | refine tr_scope ?_
                    | (refine tr_skip ?_; try simp only [ex_seq, ex_block])
                    | (refine tr_label ?_; try simp only [ex_seq, ex_block])
                    | (refine tr_exit ?_; try simp only [ex_seq_exit, ex_block_exit, Nat.reduceEqDiff, if_true, if_false, ex_seq, ex_block, reduceCtorEq, ↓reduceIte])
                    | (refine tr_ret ?_; try simp only [ex_seq_ret, ex_block_ret]))
                exact step (by simp [varB, hs]) _ _ ⟨⟨rfl, rfl, trivial⟩, Keep.refl _, rfl, rfl, Nat.le_refl _, Nat.le_refl _⟩
            | false =>
              rw [hs] at cs
              cases hg : upperB c with
              | true =>
                rw [hg] at cg
                repeat (first
                    | refine tr_seq_k fun _ _ => ?_
                    | (refine tr_region ?_; simp only [go_sem, List.getElem?_toArray, str_beq, reduceCtorEq, Nat.reduceEqDiff, Nat.reduceLT, Nat.reduceLeDiff, Nat.reduceAdd, Nat.reduceMul, Nat.reduceSub, Nat.reduceBEq, ↓reduceIte, bne_self_eq_false, Bool.and_false, Bool.false_and, Bool.true_or, Bool.false_or, ix])
                    | (refine call_of (cs) ?_ ?_
                       · first | rfl | simp only [go_sem, List.getElem?_toArray, str_beq, reduceCtorEq, Nat.reduceEqDiff, Nat.reduceLT, Nat.reduceLeDiff, Nat.reduceAdd, Nat.reduceMul, Nat.reduceSub, Nat.reduceBEq, ↓reduceIte, bne_self_eq_false, Bool.and_false, Bool.false_and, Bool.true_or, Bool.false_or, ix, shut_col]
                       simp only [go_sem, List.getElem?_toArray, str_beq, reduceCtorEq, Nat.reduceEqDiff, Nat.reduceLT, Nat.reduceLeDiff, Nat.reduceAdd, Nat.reduceMul, Nat.reduceSub, Nat.reduceBEq, ↓reduceIte, bne_self_eq_false, Bool.and_false, Bool.false_and, Bool.true_or, Bool.false_or, ix])
                    | (refine call_of (cg) ?_ ?_
                       · first | rfl | simp only [go_sem, List.getElem?_toArray, str_beq, reduceCtorEq, Nat.reduceEqDiff, Nat.reduceLT, Nat.reduceLeDiff, Nat.reduceAdd, Nat.reduceMul, Nat.reduceSub, Nat.reduceBEq, ↓reduceIte, bne_self_eq_false, Bool.and_false, Bool.false_and, Bool.true_or, Bool.false_or, ix, shut_col]
                       simp only [go_sem, List.getElem?_toArray, str_beq, reduceCtorEq, Nat.reduceEqDiff, Nat.reduceLT, Nat.reduceLeDiff, Nat.reduceAdd, Nat.reduceMul, Nat.reduceSub, Nat.reduceBEq, ↓reduceIte, bne_self_eq_false, Bool.and_false, Bool.false_and, Bool.true_or, Bool.false_or, ix])
                    | refine k_of (by assumption) ?_
                    | refine tr_block ?_
                    | refine tr_scope ?_
                    | (refine tr_skip ?_; try simp only [ex_seq, ex_block])
                    | (refine tr_label ?_; try simp only [ex_seq, ex_block])
                    | (refine tr_exit ?_; try simp only [ex_seq_exit, ex_block_exit, Nat.reduceEqDiff, if_true, if_false, ex_seq, ex_block, reduceCtorEq, ↓reduceIte])
                    | (refine tr_ret ?_; try simp only [ex_seq_ret, ex_block_ret]))
                refine tr_cond rfl (fun ht => ?_) (fun hf => ?_)
                · cases ht
                · repeat (first
                      | refine tr_seq_k fun _ _ => ?_
                      | (refine tr_region ?_; simp only [go_sem, List.getElem?_toArray, str_beq, reduceCtorEq, Nat.reduceEqDiff, Nat.reduceLT, Nat.reduceLeDiff, Nat.reduceAdd, Nat.reduceMul, Nat.reduceSub, Nat.reduceBEq, ↓reduceIte, bne_self_eq_false, Bool.and_false, Bool.false_and, Bool.true_or, Bool.false_or, ws])
                      | refine k_of (by assumption) ?_
                      | refine tr_block ?_
                      | refine tr_scope ?_
                      | (refine tr_skip ?_; try simp only [ex_seq, ex_block])
                      | (refine tr_label ?_; try simp only [ex_seq, ex_block])
                      | (refine tr_exit ?_; try simp only [ex_seq_exit, ex_block_exit, Nat.reduceEqDiff, if_true, if_false, ex_seq, ex_block, reduceCtorEq, ↓reduceIte])
                      | (refine tr_ret ?_; try simp only [ex_seq_ret, ex_block_ret]))
                  exact step (by simp [varB, hg]) _ _ ⟨⟨rfl, rfl, trivial⟩, Keep.refl _, rfl, rfl, Nat.le_refl _, Nat.le_refl _⟩
              | false =>
                rw [hg] at cg
                cases hd : digB c with
                | true =>
                  rw [hd] at cd
                  repeat (first
                      | refine tr_seq_k fun _ _ => ?_
                      | (refine tr_region ?_; simp only [go_sem, List.getElem?_toArray, str_beq, reduceCtorEq, Nat.reduceEqDiff, Nat.reduceLT, Nat.reduceLeDiff, Nat.reduceAdd, Nat.reduceMul, Nat.reduceSub, Nat.reduceBEq, ↓reduceIte, bne_self_eq_false, Bool.and_false, Bool.false_and, Bool.true_or, Bool.false_or, ix])
                      | (refine call_of (cs) ?_ ?_
                         · first | rfl | simp only [go_sem, List.getElem?_toArray, str_beq, reduceCtorEq, Nat.reduceEqDiff, Nat.reduceLT, Nat.reduceLeDiff, Nat.reduceAdd, Nat.reduceMul, Nat.reduceSub, Nat.reduceBEq, ↓reduceIte, bne_self_eq_false, Bool.and_false, Bool.false_and, Bool.true_or, Bool.false_or, ix, shut_col]
                         simp only [go_sem, List.getElem?_toArray, str_beq, reduceCtorEq, Nat.reduceEqDiff, Nat.reduceLT, Nat.reduceLeDiff, Nat.reduceAdd, Nat.reduceMul, Nat.reduceSub, Nat.reduceBEq, ↓reduceIte, bne_self_eq_false, Bool.and_false, Bool.false_and, Bool.true_or, Bool.false_or, ix])
                      | (refine call_of (cg) ?_ ?_
                         · first | rfl | simp only [go_sem, List.getElem?_toArray, str_beq, reduceCtorEq, Nat.reduceEqDiff, Nat.reduceLT, Nat.reduceLeDiff, Nat.reduceAdd, Nat.reduceMul, Nat.reduceSub, Nat.reduceBEq, ↓reduceIte, bne_self_eq_false, Bool.and_false, Bool.false_and, Bool.true_or, Bool.false_or, ix, shut_col]
                         simp only [go_sem, List.getElem?_toArray, str_beq, reduceCtorEq, Nat.reduceEqDiff, Nat.reduceLT, Nat.reduceLeDiff, Nat.reduceAdd, Nat.reduceMul, Nat.reduceSub, Nat.reduceBEq, ↓reduceIte, bne_self_eq_false, Bool.and_false, Bool.false_and, Bool.true_or, Bool.false_or, ix])
                      | (refine call_of (cd) ?_ ?_
                         · first | rfl | simp only [go_sem, List.getElem?_toArray, str_beq, reduceCtorEq, Nat.reduceEqDiff, Nat.reduceLT, Nat.reduceLeDiff, Nat.reduceAdd, Nat.reduceMul, Nat.reduceSub, Nat.reduceBEq, ↓reduceIte, bne_self_eq_false, Bool.and_false, Bool.false_and, Bool.true_or, Bool.false_or, ix, shut_col]
                         simp only [go_sem, List.getElem?_toArray, str_beq, reduceCtorEq, Nat.reduceEqDiff, Nat.reduceLT, Nat.reduceLeDiff, Nat.reduceAdd, Nat.reduceMul, Nat.reduceSub, Nat.reduceBEq, ↓reduceIte, bne_self_eq_false, Bool.and_false, Bool.false_and, Bool.true_or, Bool.false_or, ix])
                      | refine k_of (by assumption) ?_
                      | refine tr_block ?_
                      | refine tr_scope ?_
                      | (refine tr_skip ?_; try simp only [ex_seq, ex_block])
                      | (refine tr_label ?_; try simp only [ex_seq, ex_block])
                      | (refine tr_exit ?_; try simp only [ex_seq_exit, ex_block_exit, Nat.reduceEqDiff, if_true, if_false, ex_seq, ex_block, reduceCtorEq, ↓reduceIte])
                      | (refine tr_ret ?_; try simp only [ex_seq_ret, ex_block_ret]))
                  refine tr_cond rfl (fun ht => ?_) (fun hf => ?_)
                  · cases ht
                  · repeat (first
                        | refine tr_seq_k fun _ _ => ?_
                        | (refine tr_region ?_; simp only [go_sem, List.getElem?_toArray, str_beq, reduceCtorEq, Nat.reduceEqDiff, Nat.reduceLT, Nat.reduceLeDiff, Nat.reduceAdd, Nat.reduceMul, Nat.reduceSub, Nat.reduceBEq, ↓reduceIte, bne_self_eq_false, Bool.and_false, Bool.false_and, Bool.true_or, Bool.false_or, ws])
                        | refine k_of (by assumption) ?_
                        | refine tr_block ?_
                        | refine tr_scope ?_
                        | (refine tr_skip ?_; try simp only [ex_seq, ex_block])
                        | (refine tr_label ?_; try simp only [ex_seq, ex_block])
                        | (refine tr_exit ?_; try simp only [ex_seq_exit, ex_block_exit, Nat.reduceEqDiff, if_true, if_false, ex_seq, ex_block, reduceCtorEq, ↓reduceIte])
                        | (refine tr_ret ?_; try simp only [ex_seq_ret, ex_block_ret]))
                    exact step (by simp [varB, hd]) _ _ ⟨⟨rfl, rfl, trivial⟩, Keep.refl _, rfl, rfl, Nat.le_refl _, Nat.le_refl _⟩
                | false =>
                  rw [hd] at cd
                  cases hu : underB c with
                  | true =>
                    rw [hu] at cu
                    repeat (first
                        | refine tr_seq_k fun _ _ => ?_
                        | (refine tr_region ?_; simp only [go_sem, List.getElem?_toArray, str_beq, reduceCtorEq, Nat.reduceEqDiff, Nat.reduceLT, Nat.reduceLeDiff, Nat.reduceAdd, Nat.reduceMul, Nat.reduceSub, Nat.reduceBEq, ↓reduceIte, bne_self_eq_false, Bool.and_false, Bool.false_and, Bool.true_or, Bool.false_or, ix, ← cu])
                        | (refine call_of (cs) ?_ ?_
                           · first | rfl | simp only [go_sem, List.getElem?_toArray, str_beq, reduceCtorEq, Nat.reduceEqDiff, Nat.reduceLT, Nat.reduceLeDiff, Nat.reduceAdd, Nat.reduceMul, Nat.reduceSub, Nat.reduceBEq, ↓reduceIte, bne_self_eq_false, Bool.and_false, Bool.false_and, Bool.true_or, Bool.false_or, ix, ← cu, shut_col]
                           simp only [go_sem, List.getElem?_toArray, str_beq, reduceCtorEq, Nat.reduceEqDiff, Nat.reduceLT, Nat.reduceLeDiff, Nat.reduceAdd, Nat.reduceMul, Nat.reduceSub, Nat.reduceBEq, ↓reduceIte, bne_self_eq_false, Bool.and_false, Bool.false_and, Bool.true_or, Bool.false_or, ix, ← cu])
                        | (refine call_of (cg) ?_ ?_
                           · first | rfl | simp only [go_sem, List.getElem?_toArray, str_beq, reduceCtorEq, Nat.reduceEqDiff, Nat.reduceLT, Nat.reduceLeDiff, Nat.reduceAdd, Nat.reduceMul, Nat.reduceSub, Nat.reduceBEq, ↓reduceIte, bne_self_eq_false, Bool.and_false, Bool.false_and, Bool.true_or, Bool.false_or, ix, ← cu, shut_col]
                           simp only [go_sem, List.getElem?_toArray, str_beq, reduceCtorEq, Nat.reduceEqDiff, Nat.reduceLT, Nat.reduceLeDiff, Nat.reduceAdd, Nat.reduceMul, Nat.reduceSub, Nat.reduceBEq, ↓reduceIte, bne_self_eq_false, Bool.and_false, Bool.false_and, Bool.true_or, Bool.false_or, ix, ← cu])
                        | (refine call_of (cd) ?_ ?_
                           · first | rfl | simp only [go_sem, List.getElem?_toArray, str_beq, reduceCtorEq, Nat.reduceEqDiff, Nat.reduceLT, Nat.reduceLeDiff, Nat.reduceAdd, Nat.reduceMul, Nat.reduceSub, Nat.reduceBEq, ↓reduceIte, bne_self_eq_false, Bool.and_false, Bool.false_and, Bool.true_or, Bool.false_or, ix, ← cu, shut_col]
                           simp only [go_sem, List.getElem?_toArray, str_beq, reduceCtorEq, Nat.reduceEqDiff, Nat.reduceLT, Nat.reduceLeDiff, Nat.reduceAdd, Nat.reduceMul, Nat.reduceSub, Nat.reduceBEq, ↓reduceIte, bne_self_eq_false, Bool.and_false, Bool.false_and, Bool.true_or, Bool.false_or, ix, ← cu])
                        | refine k_of (by assumption) ?_
                        | refine tr_block ?_
                        | refine tr_scope ?_
                        | (refine tr_skip ?_; try simp only [ex_seq, ex_block])
                        | (refine tr_label ?_; try simp only [ex_seq, ex_block])
                        | (refine tr_exit ?_; try simp only [ex_seq_exit, ex_block_exit, Nat.reduceEqDiff, if_true, if_false, ex_seq, ex_block, reduceCtorEq, ↓reduceIte])
                        | (refine tr_ret ?_; try simp only [ex_seq_ret, ex_block_ret]))
                    refine tr_cond rfl (fun ht => ?_) (fun hf => ?_)
                    · cases ht
                    · repeat (first
                          | refine tr_seq_k fun _ _ => ?_
                          | (refine tr_region ?_; simp only [go_sem, List.getElem?_toArray, str_beq, reduceCtorEq, Nat.reduceEqDiff, Nat.reduceLT, Nat.reduceLeDiff, Nat.reduceAdd, Nat.reduceMul, Nat.reduceSub, Nat.reduceBEq, ↓reduceIte, bne_self_eq_false, Bool.and_false, Bool.false_and, Bool.true_or, Bool.false_or, ws])
                          | refine k_of (by assumption) ?_
                          | refine tr_block ?_
                          | refine tr_scope ?_
                          | (refine tr_skip ?_; try simp only [ex_seq, ex_block])
                          | (refine tr_label ?_; try simp only [ex_seq, ex_block])
                          | (refine tr_exit ?_; try simp only [ex_seq_exit, ex_block_exit, Nat.reduceEqDiff, if_true, if_false, ex_seq, ex_block, reduceCtorEq, ↓reduceIte])
                          | (refine tr_ret ?_; try simp only [ex_seq_ret, ex_block_ret]))
                      exact step (by simp [varB, hu]) _ _ ⟨⟨rfl, rfl, trivial⟩, Keep.refl _, rfl, rfl, Nat.le_refl _, Nat.le_refl _⟩
                  | false =>
                    rw [hu] at cu
                    have hr : pvariable s = false := by
                      rw [hc]
                      exact all_fail hlt (by rw [hck]; simp [varB, hs, hg, hd, hu])
                    repeat (first
                        | refine tr_seq_k fun _ _ => ?_
                        | (refine tr_region ?_; simp only [go_sem, List.getElem?_toArray, str_beq, reduceCtorEq, Nat.reduceEqDiff, Nat.reduceLT, Nat.reduceLeDiff, Nat.reduceAdd, Nat.reduceMul, Nat.reduceSub, Nat.reduceBEq, ↓reduceIte, bne_self_eq_false, Bool.and_false, Bool.false_and, Bool.true_or, Bool.false_or, ix, ← cu])
                        | (refine call_of (cs) ?_ ?_
                           · first | rfl | simp only [go_sem, List.getElem?_toArray, str_beq, reduceCtorEq, Nat.reduceEqDiff, Nat.reduceLT, Nat.reduceLeDiff, Nat.reduceAdd, Nat.reduceMul, Nat.reduceSub, Nat.reduceBEq, ↓reduceIte, bne_self_eq_false, Bool.and_false, Bool.false_and, Bool.true_or, Bool.false_or, ix, ← cu, shut_col]
                           simp only [go_sem, List.getElem?_toArray, str_beq, reduceCtorEq, Nat.reduceEqDiff, Nat.reduceLT, Nat.reduceLeDiff, Nat.reduceAdd, Nat.reduceMul, Nat.reduceSub, Nat.reduceBEq, ↓reduceIte, bne_self_eq_false, Bool.and_false, Bool.false_and, Bool.true_or, Bool.false_or, ix, ← cu])
                        | (refine call_of (cg) ?_ ?_
                           · first | rfl | simp only [go_sem, List.getElem?_toArray, str_beq, reduceCtorEq, Nat.reduceEqDiff, Nat.reduceLT, Nat.reduceLeDiff, Nat.reduceAdd, Nat.reduceMul, Nat.reduceSub, Nat.reduceBEq, ↓reduceIte, bne_self_eq_false, Bool.and_false, Bool.false_and, Bool.true_or, Bool.false_or, ix, ← cu, shut_col]
                           simp only [go_sem, List.getElem?_toArray, str_beq, reduceCtorEq, Nat.reduceEqDiff, Nat.reduceLT, Nat.reduceLeDiff, Nat.reduceAdd, Nat.reduceMul, Nat.reduceSub, Nat.reduceBEq, ↓reduceIte, bne_self_eq_false, Bool.and_false, Bool.false_and, Bool.true_or, Bool.false_or, ix, ← cu])
                        | (refine call_of (cd) ?_ ?_
                           · first | rfl | simp only [go_sem, List.getElem?_toArray, str_beq, reduceCtorEq, Nat.reduceEqDiff, Nat.reduceLT, Nat.reduceLeDiff, Nat.reduceAdd, Nat.reduceMul, Nat.reduceSub, Nat.reduceBEq, ↓reduceIte, bne_self_eq_false, Bool.and_false, Bool.false_and, Bool.true_or, Bool.false_or, ix, ← cu, shut_col]
                           simp only [go_sem, List.getElem?_toArray, str_beq, reduceCtorEq, Nat.reduceEqDiff, Nat.reduceLT, Nat.reduceLeDiff, Nat.reduceAdd, Nat.reduceMul, Nat.reduceSub, Nat.reduceBEq, ↓reduceIte, bne_self_eq_false, Bool.and_false, Bool.false_and, Bool.true_or, Bool.false_or, ix, ← cu])
                        | refine k_of (by assumption) ?_
                        | refine tr_block ?_
                        | refine tr_scope ?_
                        | (refine tr_skip ?_; try simp only [ex_seq, ex_block])
                        | (refine tr_label ?_; try simp only [ex_seq, ex_block])
                        | (refine tr_exit ?_; try simp only [ex_seq_exit, ex_block_exit, Nat.reduceEqDiff, if_true, if_false, ex_seq, ex_block, reduceCtorEq, ↓reduceIte])
                        | (refine tr_ret ?_; try simp only [ex_seq_ret, ex_block_ret]))
                    refine tr_cond rfl (fun ht => ?_) (fun hf => ?_)
                    · repeat (first
                          | refine tr_seq_k fun _ _ => ?_
                          | (refine tr_region ?_; simp only [go_sem, List.getElem?_toArray, str_beq, reduceCtorEq, Nat.reduceEqDiff, Nat.reduceLT, Nat.reduceLeDiff, Nat.reduceAdd, Nat.reduceMul, Nat.reduceSub, Nat.reduceBEq, ↓reduceIte, bne_self_eq_false, Bool.and_false, Bool.false_and, Bool.true_or, Bool.false_or])
                          | refine k_of (by assumption) ?_
                          | refine tr_block ?_
                          | refine tr_scope ?_
                          | (refine tr_skip ?_; try simp only [ex_seq, ex_block])
                          | (refine tr_label ?_; try simp only [ex_seq, ex_block])
                          | (refine tr_exit ?_; try simp only [ex_seq_exit, ex_block_exit, Nat.reduceEqDiff, if_true, if_false, ex_seq, ex_block, reduceCtorEq, ↓reduceIte])
                          | (refine tr_ret ?_; try simp only [ex_seq_ret, ex_block_ret]))
                      refine (hQ _ _ [bA false] ?_ (fun m => ?_)).2 <;> simp only [go_sem, List.getElem?_toArray, str_beq, reduceCtorEq, Nat.reduceEqDiff, Nat.reduceLT, Nat.reduceLeDiff, Nat.reduceAdd, Nat.reduceMul, Nat.reduceSub, Nat.reduceBEq, ↓reduceIte, bne_self_eq_false, Bool.and_false, Bool.false_and, Bool.true_or, Bool.false_or, Tryd.f75, hr]
                    · cases hf
          · have hkl : k = (lts s).length := by
              have := of_decide_eq_false hf
              omega
            subst hkl
            rw [List.take_length] at hp
            have hr : pvariable s = true := hc.trans hp
            repeat (first
                | refine tr_seq_k fun _ _ => ?_
                | (refine tr_region ?_; simp only [go_sem, List.getElem?_toArray, str_beq, reduceCtorEq, Nat.reduceEqDiff, Nat.reduceLT, Nat.reduceLeDiff, Nat.reduceAdd, Nat.reduceMul, Nat.reduceSub, Nat.reduceBEq, ↓reduceIte, bne_self_eq_false, Bool.and_false, Bool.false_and, Bool.true_or, Bool.false_or])
                | refine k_of (by assumption) ?_
                | refine tr_block ?_
                | refine tr_scope ?_
                | (refine tr_skip ?_; try simp only [ex_seq, ex_block])
                | (refine tr_label ?_; try simp only [ex_seq, ex_block])
                | (refine tr_exit ?_; try simp only [ex_seq_exit, ex_block_exit, Nat.reduceEqDiff, if_true, if_false, ex_seq, ex_block, reduceCtorEq, ↓reduceIte])
                | (refine tr_ret ?_; try simp only [ex_seq_ret, ex_block_ret]))
            refine (hQ _ _ [bA true] ?_ (fun m => ?_)).2 <;> simp only [go_sem, List.getElem?_toArray, str_beq, reduceCtorEq, Nat.reduceEqDiff, Nat.reduceLT, Nat.reduceLeDiff, Nat.reduceAdd, Nat.reduceMul, Nat.reduceSub, Nat.reduceBEq, ↓reduceIte, bne_self_eq_false, Bool.and_false, Bool.false_and, Bool.true_or, Bool.false_or, Tryd.f75, hr]
theorem term3_does (t : Tm) : Does Tryd.prog 57 [tmA t] (fun m => (bA (ptermok t), m)) := by
  obtain ⟨b, s⟩ := t
  have c1 := variable_does s
  have c2 := constant_does s
  cases b with
  | true =>
    have hr : ptermok ⟨true, s⟩ = pvariable s := rfl
    refine does_of' Tryd.func57 rfl (by kernel_rfl) rfl Tryd.ntmps57 rfl rfl fun Q hQ => ?_
    repeat (first
        | refine tr_seq_k fun _ _ => ?_
        | (refine tr_region ?_; simp only [go_sem, List.getElem?_toArray, str_beq, reduceCtorEq, Nat.reduceEqDiff, Nat.reduceLT, Nat.reduceLeDiff, Nat.reduceAdd, Nat.reduceMul, Nat.reduceSub, Nat.reduceBEq, ↓reduceIte, bne_self_eq_false, Bool.and_false, Bool.false_and, Bool.true_or, Bool.false_or])
        | (refine call_of (c1) ?_ ?_
           · first | rfl | simp only [go_sem, List.getElem?_toArray, str_beq, reduceCtorEq, Nat.reduceEqDiff, Nat.reduceLT, Nat.reduceLeDiff, Nat.reduceAdd, Nat.reduceMul, Nat.reduceSub, Nat.reduceBEq, ↓reduceIte, bne_self_eq_false, Bool.and_false, Bool.false_and, Bool.true_or, Bool.false_or, shut_col]
           simp only [go_sem, List.getElem?_toArray, str_beq, reduceCtorEq, Nat.reduceEqDiff, Nat.reduceLT, Nat.reduceLeDiff, Nat.reduceAdd, Nat.reduceMul, Nat.reduceSub, Nat.reduceBEq, ↓reduceIte, bne_self_eq_false, Bool.and_false, Bool.false_and, Bool.true_or, Bool.false_or])
        | (refine call_of (c2) ?_ ?_
           · first | rfl | simp only [go_sem, List.getElem?_toArray, str_beq, reduceCtorEq, Nat.reduceEqDiff, Nat.reduceLT, Nat.reduceLeDiff, Nat.reduceAdd, Nat.reduceMul, Nat.reduceSub, Nat.reduceBEq, ↓reduceIte, bne_self_eq_false, Bool.and_false, Bool.false_and, Bool.true_or, Bool.false_or, shut_col]
           simp only [go_sem, List.getElem?_toArray, str_beq, reduceCtorEq, Nat.reduceEqDiff, Nat.reduceLT, Nat.reduceLeDiff, Nat.reduceAdd, Nat.reduceMul, Nat.reduceSub, Nat.reduceBEq, ↓reduceIte, bne_self_eq_false, Bool.and_false, Bool.false_and, Bool.true_or, Bool.false_or])
        | refine k_of (by assumption) ?_
        | refine tr_block ?_
        | refine tr_scope ?_
        | (refine tr_skip ?_; try simp only [ex_seq, ex_block])
        | (refine tr_label ?_; try simp only [ex_seq, ex_block])
        | (refine tr_exit ?_; try simp only [ex_seq_exit, ex_block_exit, Nat.reduceEqDiff, if_true, if_false, ex_seq, ex_block, reduceCtorEq, ↓reduceIte])
        | (refine tr_ret ?_; try simp only [ex_seq_ret, ex_block_ret]))
    refine tr_cond rfl (fun ht => ?_) (fun hf => ?_)
    · repeat (first
          | refine tr_seq_k fun _ _ => ?_
          | (refine tr_region ?_; simp only [go_sem, List.getElem?_toArray, str_beq, reduceCtorEq, Nat.reduceEqDiff, Nat.reduceLT, Nat.reduceLeDiff, Nat.reduceAdd, Nat.reduceMul, Nat.reduceSub, Nat.reduceBEq, ↓reduceIte, bne_self_eq_false, Bool.and_false, Bool.false_and, Bool.true_or, Bool.false_or])
          | (refine call_of (c1) ?_ ?_
             · first | rfl | simp only [go_sem, List.getElem?_toArray, str_beq, reduceCtorEq, Nat.reduceEqDiff, Nat.reduceLT, Nat.reduceLeDiff, Nat.reduceAdd, Nat.reduceMul, Nat.reduceSub, Nat.reduceBEq, ↓reduceIte, bne_self_eq_false, Bool.and_false, Bool.false_and, Bool.true_or, Bool.false_or, shut_col]
             simp only [go_sem, List.getElem?_toArray, str_beq, reduceCtorEq, Nat.reduceEqDiff, Nat.reduceLT, Nat.reduceLeDiff, Nat.reduceAdd, Nat.reduceMul, Nat.reduceSub, Nat.reduceBEq, ↓reduceIte, bne_self_eq_false, Bool.and_false, Bool.false_and, Bool.true_or, Bool.false_or])
          | refine k_of (by assumption) ?_
          | refine tr_block ?_
          | refine tr_scope ?_
          | (refine tr_skip ?_; try simp only [ex_seq, ex_block])
          | (refine tr_label ?_; try simp only [ex_seq, ex_block])
          | (refine tr_exit ?_; try simp only [ex_seq_exit, ex_block_exit, Nat.reduceEqDiff, if_true, if_false, ex_seq, ex_block, reduceCtorEq, ↓reduceIte])
          | (refine tr_ret ?_; try simp only [ex_seq_ret, ex_block_ret]))
      refine (hQ _ _ [bA (pvariable s)] ?_ (fun m => ?_)).2 <;> simp only [go_sem, List.getElem?_toArray, str_beq, reduceCtorEq, Nat.reduceEqDiff, Nat.reduceLT, Nat.reduceLeDiff, Nat.reduceAdd, Nat.reduceMul, Nat.reduceSub, Nat.reduceBEq, ↓reduceIte, bne_self_eq_false, Bool.and_false, Bool.false_and, Bool.true_or, Bool.false_or, Tryd.f57, hr]
    · cases hf
  | false =>
    have hr : ptermok ⟨false, s⟩ = pconstant s := rfl
    refine does_of' Tryd.func57 rfl (by kernel_rfl) rfl Tryd.ntmps57 rfl rfl fun Q hQ => ?_
    repeat (first
        | refine tr_seq_k fun _ _ => ?_
        | (refine tr_region ?_; simp only [go_sem, List.getElem?_toArray, str_beq, reduceCtorEq, Nat.reduceEqDiff, Nat.reduceLT, Nat.reduceLeDiff, Nat.reduceAdd, Nat.reduceMul, Nat.reduceSub, Nat.reduceBEq, ↓reduceIte, bne_self_eq_false, Bool.and_false, Bool.false_and, Bool.true_or, Bool.false_or])
        | (refine call_of (c1) ?_ ?_
           · first | rfl | simp only [go_sem, List.getElem?_toArray, str_beq, reduceCtorEq, Nat.reduceEqDiff, Nat.reduceLT, Nat.reduceLeDiff, Nat.reduceAdd, Nat.reduceMul, Nat.reduceSub, Nat.reduceBEq, ↓reduceIte, bne_self_eq_false, Bool.and_false, Bool.false_and, Bool.true_or, Bool.false_or, shut_col]
           simp only [go_sem, List.getElem?_toArray, str_beq, reduceCtorEq, Nat.reduceEqDiff, Nat.reduceLT, Nat.reduceLeDiff, Nat.reduceAdd, Nat.reduceMul, Nat.reduceSub, Nat.reduceBEq, ↓reduceIte, bne_self_eq_false, Bool.and_false, Bool.false_and, Bool.true_or, Bool.false_or])
        | (refine call_of (c2) ?_ ?_
           · first | rfl | simp only [go_sem, List.getElem?_toArray, str_beq, reduceCtorEq, Nat.reduceEqDiff, Nat.reduceLT, Nat.reduceLeDiff, Nat.reduceAdd, Nat.reduceMul, Nat.reduceSub, Nat.reduceBEq, ↓reduceIte, bne_self_eq_false, Bool.and_false, Bool.false_and, Bool.true_or, Bool.false_or, shut_col]
           simp only [go_sem, List.getElem?_toArray, str_beq, reduceCtorEq, Nat.reduceEqDiff, Nat.reduceLT, Nat.reduceLeDiff, Nat.reduceAdd, Nat.reduceMul, Nat.reduceSub, Nat.reduceBEq, ↓reduceIte, bne_self_eq_false, Bool.and_false, Bool.false_and, Bool.true_or, Bool.false_or])
        | refine k_of (by assumption) ?_
        | refine tr_block ?_
        | refine tr_scope ?_
        | (refine tr_skip ?_; try simp only [ex_seq, ex_block])
        | (refine tr_label ?_; try simp only [ex_seq, ex_block])
        | (refine tr_exit ?_; try simp only [ex_seq_exit, ex_block_exit, Nat.reduceEqDiff, if_true, if_false, ex_seq, ex_block, reduceCtorEq, ↓reduceIte])
        | (refine tr_ret ?_; try simp only [ex_seq_ret, ex_block_ret]))
    refine tr_cond rfl (fun ht => ?_) (fun hf => ?_)
    · cases ht
    · repeat (first
          | refine tr_seq_k fun _ _ => ?_
          | (refine tr_region ?_; simp only [go_sem, List.getElem?_toArray, str_beq, reduceCtorEq, Nat.reduceEqDiff, Nat.reduceLT, Nat.reduceLeDiff, Nat.reduceAdd, Nat.reduceMul, Nat.reduceSub, Nat.reduceBEq, ↓reduceIte, bne_self_eq_false, Bool.and_false, Bool.false_and, Bool.true_or, Bool.false_or])
          | (refine call_of (c2) ?_ ?_
             · first | rfl | simp only [go_sem, List.getElem?_toArray, str_beq, reduceCtorEq, Nat.reduceEqDiff, Nat.reduceLT, Nat.reduceLeDiff, Nat.reduceAdd, Nat.reduceMul, Nat.reduceSub, Nat.reduceBEq, ↓reduceIte, bne_self_eq_false, Bool.and_false, Bool.false_and, Bool.true_or, Bool.false_or, shut_col]
             simp only [go_sem, List.getElem?_toArray, str_beq, reduceCtorEq, Nat.reduceEqDiff, Nat.reduceLT, Nat.reduceLeDiff, Nat.reduceAdd, Nat.reduceMul, Nat.reduceSub, Nat.reduceBEq, ↓reduceIte, bne_self_eq_false, Bool.and_false, Bool.false_and, Bool.true_or, Bool.false_or])
          | refine k_of (by assumption) ?_
          | refine tr_block ?_
          | refine tr_scope ?_
          | (refine tr_skip ?_; try simp only [ex_seq, ex_block])
          | (refine tr_label ?_; try simp only [ex_seq, ex_block])
          | (refine tr_exit ?_; try simp only [ex_seq_exit, ex_block_exit, Nat.reduceEqDiff, if_true, if_false, ex_seq, ex_block, reduceCtorEq, ↓reduceIte])
          | (refine tr_ret ?_; try simp only [ex_seq_ret, ex_block_ret]))
      refine (hQ _ _ [bA (pconstant s)] ?_ (fun m => ?_)).2 <;> simp only [go_sem, List.getElem?_toArray, str_beq, reduceCtorEq, Nat.reduceEqDiff, Nat.reduceLT, Nat.reduceLeDiff, Nat.reduceAdd, Nat.reduceMul, Nat.reduceSub, Nat.reduceBEq, ↓reduceIte, bne_self_eq_false, Bool.and_false, Bool.false_and, Bool.true_or, Bool.false_or, Tryd.f57, hr]
end Go.Proofs.YtaeehadibckcjaaDoor

/-
  Contracts on abstract values: atoms that may be, ground atoms (reference 3); what the statements share.
-/
namespace Go.Proofs.YtaeehadibckcjaaDoor
open Go.Vs Go.Vs.Ab
set_option maxRecDepth 100000
theorem arrT {b off k : Nat} (h : k < 4) : aIndexAddr Tryd.prog 40 (.ptr b off) (.c (.v (.int .i64 (k : Int)))) = some (.ptr b (off + k * 2)) := by
  have h1 : Nat.blt k 4 = true := by simpa using h
  have hn : ¬ ((k : Int) < 0) := by omega
  simp only [aIndexAddr, intV, Tryd.underlying40, sz39, Int.toNat_natCast, h1, if_true, hn, decide_false, Bool.false_eq_true, if_false]
theorem atV (a : Atm) {k : Nat} (h : k < 4) : ([.c (.v (.string a.says)), .c (.v (.string a.pred)), .c (.v (.int .i64 a.n)), .c (.v (.bool a.a0.v)), .c (.v (.string a.a0.name)), .c (.v (.bool a.a1.v)), .c (.v (.string a.a1.name)), .c (.v (.bool a.a2.v)), .c (.v (.string a.a2.name)), .c (.v (.bool a.a3.v)), .c (.v (.string a.a3.name))] : List AV)[3 + k * 2]? = some (.c (.v (.bool (a.arg k).v))) := by
  obtain rfl | rfl | rfl | rfl : k = 0 ∨ k = 1 ∨ k = 2 ∨ k = 3 := by omega
  all_goals rfl
theorem atS (a : Atm) {k : Nat} (h : k < 4) : ([.c (.v (.string a.says)), .c (.v (.string a.pred)), .c (.v (.int .i64 a.n)), .c (.v (.bool a.a0.v)), .c (.v (.string a.a0.name)), .c (.v (.bool a.a1.v)), .c (.v (.string a.a1.name)), .c (.v (.bool a.a2.v)), .c (.v (.string a.a2.name)), .c (.v (.bool a.a3.v)), .c (.v (.string a.a3.name))] : List AV)[3 + k * 2 + 1]? = some (.c (.v (.string (a.arg k).name))) := by
  obtain rfl | rfl | rfl | rfl : k = 0 ∨ k = 1 ∨ k = 2 ∨ k = 3 := by omega
  all_goals rfl
theorem atD2 (a : Atm) {k : Nat} (h : k < 4) : List.drop (3 + k * 2) ([.c (.v (.string a.says)), .c (.v (.string a.pred)), .c (.v (.int .i64 a.n)), .c (.v (.bool a.a0.v)), .c (.v (.string a.a0.name)), .c (.v (.bool a.a1.v)), .c (.v (.string a.a1.name)), .c (.v (.bool a.a2.v)), .c (.v (.string a.a2.name)), .c (.v (.bool a.a3.v)), .c (.v (.string a.a3.name))] : List AV) = .c (.v (.bool (a.arg k).v)) :: .c (.v (.string (a.arg k).name)) :: List.drop (3 + k * 2 + 2) ([.c (.v (.string a.says)), .c (.v (.string a.pred)), .c (.v (.int .i64 a.n)), .c (.v (.bool a.a0.v)), .c (.v (.string a.a0.name)), .c (.v (.bool a.a1.v)), .c (.v (.string a.a1.name)), .c (.v (.bool a.a2.v)), .c (.v (.string a.a2.name)), .c (.v (.bool a.a3.v)), .c (.v (.string a.a3.name))] : List AV) := by
  obtain rfl | rfl | rfl | rfl : k = 0 ∨ k = 1 ∨ k = 2 ∨ k = 3 := by omega
  all_goals rfl
theorem atLe {k : Nat} (h : k < 4) : (3 + k * 2 + 2 ≤ 11) = True := eq_true (by omega)
set_option maxRecDepth 10000
end Go.Proofs.YtaeehadibckcjaaDoor

/-
  Chapter 4: the plain law of SubstGround.
-/
set_option linter.unusedSectionVars false
namespace Go.Proofs.YtaeehadibckcjaaDoor
open Go.Vs Go.Vs.Ab
set_option maxRecDepth 100000
theorem pbE_ok {l : List Bd} {v s : ByteArray} (hc : pcheck l = true) (hv : v ≠ ⟨#[]⟩) (hs : s ≠ ⟨#[]⟩) (hg : pget l v = none) : pbE l v ⟨false, s⟩ = 0 := by
  unfold pbE
  simp [hc, hv, hs, hg, pown, pterm]
theorem pterm_c (l : List Bd) (s : ByteArray) : pterm l ⟨false, s⟩ = ⟨false, s⟩ := rfl
def gL (V : List ByteArray) (f : Nat → ByteArray) : Nat → List Bd
  | 0 => []
  | k + 1 => pbL (gL V f k) ((V[k]?).getD ⟨#[]⟩) ⟨false, f k⟩
structure GInv (V : List ByteArray) (f : Nat → ByteArray) (k : Nat) : Prop where
  check : pcheck (gL V f k) = true
  len : (gL V f k).length = k
  get : ∀ j (h : j < V.length), j < k → pget (gL V f k) V[j] = some ⟨false, f j⟩
  none : ∀ n, n ∉ V.take k → pget (gL V f k) n = none
theorem gL_next {V : List ByteArray} {f : Nat → ByteArray} (hn : V.Nodup) (hV : ∀ x ∈ V, x ≠ ⟨#[]⟩) {k : Nat} (hk : k < V.length) (hf : f k ≠ ⟨#[]⟩) (h : GInv V f k) :
    pbE (gL V f k) V[k] ⟨false, f k⟩ = 0 ∧ gL V f (k + 1) = pbL (gL V f k) V[k] ⟨false, f k⟩ ∧ GInv V f (k + 1) := by
  have hnm : V[k] ∉ V.take k := by
    intro hm
    obtain ⟨j, hj, he⟩ := List.mem_iff_getElem.1 hm
    rw [List.length_take] at hj
    rw [List.getElem_take] at he
    have := (List.getElem_inj hn).1 he
    omega
  have hE : pbE (gL V f k) V[k] ⟨false, f k⟩ = 0 := pbE_ok h.check (hV _ (List.getElem_mem hk)) hf (h.none _ hnm)
  have hL : gL V f (k + 1) = pbL (gL V f k) V[k] ⟨false, f k⟩ := by
    show pbL (gL V f k) ((V[k]?).getD ⟨#[]⟩) ⟨false, f k⟩ = _
    rw [List.getElem?_eq_getElem hk]
    rfl
  refine ⟨hE, hL, ?_, ?_, fun j hj hjk => ?_, fun n hm => ?_⟩
  · rw [hL]; exact bind_check hE
  · rw [hL, pbL_length hE, h.len]
  · rw [hL, bind_get hE]
    by_cases e : V[k] = V[j]
    · have := (List.getElem_inj hn).1 e
      subst this
      rw [if_pos rfl]
      rfl
    · have hjk' : j < k := by
        have : j ≠ k := fun e' => e (by subst e'; rfl)
        omega
      rw [if_neg e, h.get j hj hjk']
      rfl
  · rw [List.take_succ_eq_append_getElem hk, List.mem_append, List.mem_singleton] at hm
    have h1 : V[k] ≠ n := fun e => hm (Or.inr e.symm)
    rw [hL, bind_get hE, if_neg h1, h.none n (fun h => hm (Or.inl h))]
    rfl
theorem gL_zero (V : List ByteArray) (f : Nat → ByteArray) : GInv V f 0 := ⟨rfl, rfl, fun j _ h => absurd h (Nat.not_lt_zero _), fun _ _ => rfl⟩
theorem upto_arg (f : Tm → Tm) (a : Atm) (n : Nat) {k : Nat} (hk : k < 4) : (a.upto f n).arg k = if k < n then f (a.arg k) else a.arg k := by
  obtain rfl | rfl | rfl | rfl : k = 0 ∨ k = 1 ∨ k = 2 ∨ k = 3 := by omega
  all_goals rfl
theorem papp_arg (l : List Bd) (a : Atm) {k : Nat} (hk : k < 4) : (papp l a).arg k = if k < a.count then pterm l (a.arg k) else a.arg k := upto_arg _ _ _ hk
theorem pseen_iff (a : Atm) (i : Nat) : ∀ {j : Nat}, j ≤ 4 → (pseen a i j = true ↔ ∃ m, m < j ∧ a.arg m = a.arg i)
  | 0, _ => by simp [pseen]
  | j + 1, h => by
    rw [pseen_next a i (by omega), Bool.or_eq_true, pseen_iff a i (by omega), decide_eq_true_eq]
    constructor
    · rintro (⟨m, h1, h2⟩ | h1)
      · exact ⟨m, by omega, h2⟩
      · exact ⟨j, by omega, h1⟩
    · rintro ⟨m, h1, h2⟩
      by_cases e : m = j
      · subst e; exact Or.inr h2
      · exact Or.inl ⟨m, by omega, h2⟩
theorem mem_pnames {a : Atm} {b : Bool} {x : ByteArray} : ∀ {k : Nat}, x ∈ pnamesK a b k → ∃ i, i < k ∧ (a.arg i).v = b ∧ (a.arg i).name = x
  | 0, h => by simp [pnamesK] at h
  | k + 1, h => by
    unfold pnamesK at h
    rw [List.mem_append] at h
    rcases h with h | h
    · obtain ⟨i, h1, h2⟩ := mem_pnames h
      exact ⟨i, by omega, h2⟩
    · split at h
      · rename_i hc
        rw [List.mem_singleton] at h
        exact ⟨k, by omega, hc.1, h.symm⟩
      · cases h
theorem pnames_nodup (a : Atm) (b : Bool) : ∀ (k : Nat), k ≤ 4 → (pnamesK a b k).Nodup
  | 0, _ => List.nodup_nil
  | k + 1, hk => by
    unfold pnamesK
    split
    · rename_i hc
      rw [List.nodup_append]
      refine ⟨pnames_nodup a b k (by omega), by simp, fun x hx y hy => ?_⟩
      rw [List.mem_singleton] at hy
      subst hy
      rintro rfl
      obtain ⟨i, h1, h2, h3⟩ := mem_pnames hx
      have : pseen a k k = true := (pseen_iff a k (by omega)).2 ⟨i, h1, by
        have e1 : a.arg i = ⟨(a.arg i).v, (a.arg i).name⟩ := rfl
        have e2 : a.arg k = ⟨(a.arg k).v, (a.arg k).name⟩ := rfl
        rw [e1, e2, h2, h3, hc.1]⟩
      rw [hc.2] at this
      cases this
    · rw [List.append_nil]
      exact pnames_nodup a b k (by omega)
theorem pnames_one {a : Atm} {x : ByteArray} : ∀ {k : Nat}, k ≤ 4 → (∀ i, i < k → (a.arg i).v = true → (a.arg i).name = x) → ((∃ i, i < k ∧ (a.arg i).v = true) → pnamesK a true k = [x]) ∧ ((¬ ∃ i, i < k ∧ (a.arg i).v = true) → pnamesK a true k = [])
  | 0, _, _ => ⟨fun ⟨i, h, _⟩ => absurd h (Nat.not_lt_zero _), fun _ => rfl⟩
  | k + 1, hk, h => by
    have ih := pnames_one (a := a) (x := x) (k := k) (by omega) (fun i hi => h i (by omega))
    have tm : ∀ i, i < k + 1 → (a.arg i).v = true → a.arg i = ⟨true, x⟩ := fun i hi hv => by
      have e1 : a.arg i = ⟨(a.arg i).v, (a.arg i).name⟩ := rfl
      rw [e1, hv, h i hi hv]
    unfold pnamesK
    by_cases hp : ∃ i, i < k ∧ (a.arg i).v = true
    · have e := ih.1 hp
      obtain ⟨i, h1, h2⟩ := hp
      refine ⟨fun _ => ?_, fun hn => absurd ⟨i, by omega, h2⟩ hn⟩
      rw [e, if_neg]
      · rfl
      · rintro ⟨g1, g2⟩
        have : pseen a k k = true := (pseen_iff a k (by omega)).2 ⟨i, h1, by rw [tm i (by omega) h2, tm k (by omega) g1]⟩
        rw [g2] at this
        cases this
    · have e := ih.2 hp
      have hs : pseen a k k = false ∨ (a.arg k).v = false := by
        cases hv : (a.arg k).v with
        | false => exact Or.inr rfl
        | true =>
          left
          rw [Bool.eq_false_iff]
          intro hs
          obtain ⟨m, h1, h2⟩ := (pseen_iff a k (by omega)).1 hs
          exact hp ⟨m, h1, by rw [h2]; exact hv⟩
      rw [e, List.nil_append]
      cases hv : (a.arg k).v with
      | false =>
        rw [if_neg (by simp)]
        refine ⟨fun ⟨i, h1, h2⟩ => ?_, fun _ => rfl⟩
        by_cases ek : i = k
        · subst ek; rw [hv] at h2; cases h2
        · exact absurd ⟨i, by omega, h2⟩ hp
      | true =>
        rcases hs with hs | hs
        · rw [if_pos ⟨rfl, hs⟩, h k (by omega) hv]
          exact ⟨fun _ => rfl, fun hn => absurd ⟨k, by omega, hv⟩ hn⟩
        · rw [hs] at hv; cases hv
theorem check3_zero {a : Atm} (h : pcheck3 a = 0) : pprincipal a.says = true ∧ pprincipal a.pred = true ∧ 0 ≤ a.n ∧ a.n ≤ 4 ∧ a.termsB = true ∧ a.restB = true := by
  unfold pcheck3 at h
  split at h
  · cases h
  · rename_i h1
    split at h
    · cases h
    · rename_i h2
      split at h
      · cases h
      · rename_i h3
        split at h
        · cases h
        · rename_i h4
          simp only [Bool.not_eq_false, Bool.and_eq_true] at h1 h3 h4
          exact ⟨h1.1, h1.2, by omega, by omega, h3, h4⟩
theorem termsB_iff {a : Atm} : a.termsB = true ↔ ∀ k : Nat, k < 4 → (k : Int) < a.n → ptermok (a.arg k) = true := by
  unfold Atm.termsB
  rw [List.all_eq_true]
  constructor
  · intro h k hk hn
    have := h k (List.mem_range.2 hk)
    simpa [hn] using this
  · intro h k hk
    by_cases hn : (k : Int) < a.n
    · simp [hn, h k (List.mem_range.1 hk) hn]
    · simp [hn]
theorem restB_iff {a : Atm} : a.restB = true ↔ ∀ k : Nat, k < 4 → ¬ (k : Int) < a.n → a.arg k = ⟨false, ⟨#[]⟩⟩ := by
  unfold Atm.restB
  rw [List.all_eq_true]
  constructor
  · intro h k hk hn
    have := h k (List.mem_range.2 hk)
    simpa [hn] using this
  · intro h k hk
    by_cases hn : (k : Int) < a.n
    · simp [hn]
    · simp [hn, h k (List.mem_range.1 hk) hn]
theorem check3_ok {a : Atm} (h1 : pprincipal a.says = true) (h2 : pprincipal a.pred = true) (h3 : 0 ≤ a.n) (h4 : a.n ≤ 4) (h5 : a.termsB = true) (h6 : a.restB = true) : pcheck3 a = 0 := by
  unfold pcheck3
  rw [if_neg (by simp [h1, h2]), if_neg (by omega), if_neg (by simp [h5]), if_neg (by simp [h6])]
theorem ground_iff {a : Atm} : a.ground = true ↔ ∀ k, k < a.count → (a.arg k).v = false := by
  unfold Atm.ground
  rw [List.all_eq_true]
  constructor
  · intro h k hk
    have := h k (List.mem_range.2 (Nat.lt_of_lt_of_le hk a.count_le))
    simpa [hk] using this
  · intro h k hk
    by_cases hn : k < a.count
    · simp [hn, h k hn]
    · simp [hn]
theorem count_n {a : Atm} (h3 : 0 ≤ a.n) (h4 : a.n ≤ 4) : (a.count : Int) = a.n := by
  rw [a.count_int]
  omega
theorem vars_ne {a : Atm} (h : pcheck3 a = 0) : ∀ x ∈ pnames a true, x ≠ ⟨#[]⟩ := fun x hx => by
  obtain ⟨_, _, h3, h4, h5, _⟩ := check3_zero h
  obtain ⟨i, hi, hv, rfl⟩ := mem_pnames hx
  have hc := a.count_le
  have := count_n h3 h4
  have := termsB_iff.1 h5 i (by omega) (by omega)
  unfold ptermok at this
  rw [if_pos hv] at this
  exact pvariable_ne this
section
variable {a : Atm} {f : Nat → ByteArray} (h : pcheck3 a = 0) (G : GInv (pnames a true) f (pnames a true).length) (hf : ∀ k, k < (pnames a true).length → pconstant (f k) = true)
include h G hf
theorem gr_term {i : Nat} (hi : i < a.count) : ((a.arg i).v = true ∧ ∃ j, j < (pnames a true).length ∧ (pnames a true)[j]? = some (a.arg i).name ∧ pterm (gL (pnames a true) f (pnames a true).length) (a.arg i) = ⟨false, f j⟩) ∨ ((a.arg i).v = false ∧ pterm (gL (pnames a true) f (pnames a true).length) (a.arg i) = a.arg i) := by
  cases hv : (a.arg i).v with
  | false =>
    refine Or.inr ⟨rfl, ?_⟩
    unfold pterm
    rw [hv]
    rfl
  | true =>
    refine Or.inl ⟨rfl, ?_⟩
    have hm := pnames_mem a a.count a.count_le i hi hv
    obtain ⟨j, hj, he⟩ := List.mem_iff_getElem.1 hm
    refine ⟨j, hj, by rw [← he]; exact List.getElem?_eq_getElem hj, ?_⟩
    unfold pterm
    rw [if_pos hv]
    have := G.get j hj hj
    have e : (pnames a true)[j] = (a.arg i).name := he
    rw [e] at this
    rw [this]
    rfl
theorem gr_ground : (papp (gL (pnames a true) f (pnames a true).length) a).ground = true := by
  rw [ground_iff]
  intro k hk
  have hk' : k < a.count := hk
  have h4 : k < 4 := Nat.lt_of_lt_of_le hk' a.count_le
  rw [papp_arg _ _ h4, if_pos hk']
  rcases gr_term h G hf hk' with ⟨_, j, _, _, e⟩ | ⟨hv, e⟩
  · rw [e]
  · rw [e]; exact hv
theorem gr_check : pcheck3 (papp (gL (pnames a true) f (pnames a true).length) a) = 0 := by
  obtain ⟨h1, h2, h3, h4, h5, h6⟩ := check3_zero h
  have hn := count_n h3 h4
  refine check3_ok h1 h2 h3 h4 (termsB_iff.2 fun k hk hkn => ?_) (restB_iff.2 fun k hk hkn => ?_)
  · have hkn' : (k : Int) < a.n := hkn
    have hk' : k < a.count := by omega
    rw [papp_arg _ _ hk, if_pos hk']
    rcases gr_term h G hf hk' with ⟨_, j, hj, _, e⟩ | ⟨hv, e⟩
    · rw [e]
      exact hf j hj
    · rw [e]
      exact termsB_iff.1 h5 k hk hkn'
  · have hkn' : ¬ (k : Int) < a.n := hkn
    have hk' : ¬ k < a.count := by omega
    rw [papp_arg _ _ hk, if_neg hk']
    exact restB_iff.1 h6 k hk hkn'
theorem gr_left {k : Nat} (hk : k < (pnames a true).length) : pnames (papp (prestrict (gL (pnames a true) f (pnames a true).length) ((pnames a true).take k ++ (pnames a true).drop (k + 1))) a) true = [(pnames a true)[k]] := by
  have hnd : (pnames a true).Nodup := pnames_nodup a true a.count a.count_le
  obtain ⟨i0, hi0, hv0, hn0⟩ := mem_pnames (List.getElem_mem hk)
  have hgt := fun {i : Nat} (hi : i < a.count) => gr_term (i := i) h G hf hi
  generalize hL : gL (pnames a true) f (pnames a true).length = L at *
  generalize hV : pnames a true = V at *
  have hin : ∀ j (hj : j < V.length), pin (V.take k ++ V.drop (k + 1)) V[j] = !decide (j = k) := fun j hj => by
    by_cases e : j = k
    · subst e
      simp only [decide_true, Bool.not_true]
      rw [Bool.eq_false_iff]
      intro hp
      rw [pin_mem, List.mem_append] at hp
      rcases hp with hp | hp
      · obtain ⟨m, hm, he⟩ := List.mem_iff_getElem.1 hp
        rw [List.length_take] at hm
        rw [List.getElem_take] at he
        have := (List.getElem_inj hnd).1 he
        omega
      · obtain ⟨m, hm, he⟩ := List.mem_iff_getElem.1 hp
        rw [List.length_drop] at hm
        rw [List.getElem_drop] at he
        have := (List.getElem_inj hnd).1 he
        omega
    · simp only [e, decide_false, Bool.not_false]
      rw [pin_mem, List.mem_append]
      rcases Nat.lt_or_gt_of_ne e with h1 | h1
      · exact Or.inl (List.mem_iff_getElem.2 ⟨j, by rw [List.length_take]; omega, by rw [List.getElem_take]⟩)
      · exact Or.inr (List.mem_iff_getElem.2 ⟨j - (k + 1), by rw [List.length_drop]; omega, by rw [List.getElem_drop]; congr 1; omega⟩)
  have hterm : ∀ i, i < a.count → ((a.arg i = ⟨true, V[k]⟩ ∧ pterm (prestrict L (V.take k ++ V.drop (k + 1))) (a.arg i) = ⟨true, V[k]⟩) ∨ (a.arg i ≠ ⟨true, V[k]⟩ ∧ (pterm (prestrict L (V.take k ++ V.drop (k + 1))) (a.arg i)).v = false)) := fun i hi => by
    rcases hgt hi with ⟨hv, j, hj, hjn, e⟩ | ⟨hv, e⟩
    · rw [List.getElem?_eq_getElem hj] at hjn
      injection hjn with hjn
      have et : a.arg i = ⟨true, V[j]⟩ := by
        have e1 : a.arg i = ⟨(a.arg i).v, (a.arg i).name⟩ := rfl
        rw [e1, hv, hjn]
      have hp := hin j hj
      by_cases ejk : j = k
      · subst ejk
        refine Or.inl ⟨et, ?_⟩
        rw [et]
        unfold pterm prestrict
        rw [if_pos rfl, pget_filter_none]
        · rfl
        · intro b _ he
          simp only at he
          rw [he, hp]
          simp
      · refine Or.inr ⟨fun e1 => ?_, ?_⟩
        · rw [et] at e1
          injection e1 with _ e1
          exact ejk ((List.getElem_inj hnd).1 e1)
        · rw [et] at e ⊢
          unfold pterm prestrict
          unfold pterm at e
          rw [if_pos rfl] at e ⊢
          rw [pget_filter]
          · rw [e]
          · intro b _ he
            simp only at he
            rw [he, hp]
            simp [ejk]
    · refine Or.inr ⟨fun e1 => (by rw [e1] at hv; cases hv), ?_⟩
      unfold pterm
      rw [hv]
      exact hv
  have hcnt : (papp (prestrict L (V.take k ++ V.drop (k + 1))) a).count = a.count := rfl
  unfold pnames
  rw [hcnt]
  have hone := pnames_one (a := papp (prestrict L (V.take k ++ V.drop (k + 1))) a) (x := V[k]) a.count_le (fun i hi hv => by
    rw [papp_arg _ _ (Nat.lt_of_lt_of_le hi a.count_le), if_pos hi] at hv ⊢
    rcases hterm i hi with ⟨_, e⟩ | ⟨_, e⟩
    · rw [e]
    · rw [e] at hv; cases hv)
  refine hone.1 ⟨i0, hi0, ?_⟩
  rw [papp_arg _ _ (Nat.lt_of_lt_of_le hi0 a.count_le), if_pos hi0]
  have e1 : a.arg i0 = ⟨(a.arg i0).v, (a.arg i0).name⟩ := rfl
  rcases hterm i0 hi0 with ⟨_, e⟩ | ⟨e, _⟩
  · rw [e]
  · exact absurd (by rw [e1, hv0, hn0]) e
end
end Go.Proofs.YtaeehadibckcjaaDoor

/-
  Contracts on abstract values: the check of an atom (reference 3); what the statements share.
-/
namespace Go.Proofs.YtaeehadibckcjaaDoor
open Go.Vs Go.Vs.Ab
set_option maxRecDepth 100000
set_option maxRecDepth 10000
theorem check3_does (a : Atm) : Does Tryd.prog 26 [atA a] (fun m => (iA (pcheck3 a), m)) := by
  have c1 := principal_does a.says
  have c2 := predicate_does a.pred
  cases h12 : (pprincipal a.says && pprincipal a.pred) with
  | false =>
    have hr : pcheck3 a = 3 := by unfold pcheck3; rw [if_pos h12]
    refine does_of' Tryd.func26 rfl (by kernel_rfl) rfl Tryd.ntmps26 rfl rfl fun Q hQ => ?_
    cases h1 : pprincipal a.says with
    | false =>
      rw [h1] at c1
      repeat (first
          | refine tr_seq_k fun _ _ => ?_
          | (refine tr_region ?_; simp only [go_sem, List.getElem?_toArray, str_beq, reduceCtorEq, Nat.reduceEqDiff, Nat.reduceLT, Nat.reduceLeDiff, Nat.reduceAdd, Nat.reduceMul, Nat.reduceSub, Nat.reduceBEq, ↓reduceIte, bne_self_eq_false, Bool.and_false, Bool.false_and, Bool.true_or, Bool.false_or])
          | (refine call_of (c1) ?_ ?_
             · first | rfl | simp only [go_sem, List.getElem?_toArray, str_beq, reduceCtorEq, Nat.reduceEqDiff, Nat.reduceLT, Nat.reduceLeDiff, Nat.reduceAdd, Nat.reduceMul, Nat.reduceSub, Nat.reduceBEq, ↓reduceIte, bne_self_eq_false, Bool.and_false, Bool.false_and, Bool.true_or, Bool.false_or, shut_col]
             simp only [go_sem, List.getElem?_toArray, str_beq, reduceCtorEq, Nat.reduceEqDiff, Nat.reduceLT, Nat.reduceLeDiff, Nat.reduceAdd, Nat.reduceMul, Nat.reduceSub, Nat.reduceBEq, ↓reduceIte, bne_self_eq_false, Bool.and_false, Bool.false_and, Bool.true_or, Bool.false_or])
          | refine k_of (by assumption) ?_
          | refine tr_block ?_
          | refine tr_scope ?_
          | (refine tr_skip ?_; try simp only [ex_seq, ex_block])
          | (refine tr_label ?_; try simp only [ex_seq, ex_block])
          | (refine tr_exit ?_; try simp only [ex_seq_exit, ex_block_exit, Nat.reduceEqDiff, if_true, if_false, ex_seq, ex_block, reduceCtorEq, ↓reduceIte])
          | (refine tr_ret ?_; try simp only [ex_seq_ret, ex_block_ret]))
      refine tr_cond rfl (fun ht => ?_) (fun hf => ?_)
      · repeat (first
            | refine tr_seq_k fun _ _ => ?_
            | (refine tr_region ?_; simp only [go_sem, List.getElem?_toArray, str_beq, reduceCtorEq, Nat.reduceEqDiff, Nat.reduceLT, Nat.reduceLeDiff, Nat.reduceAdd, Nat.reduceMul, Nat.reduceSub, Nat.reduceBEq, ↓reduceIte, bne_self_eq_false, Bool.and_false, Bool.false_and, Bool.true_or, Bool.false_or])
            | refine k_of (by assumption) ?_
            | refine tr_block ?_
            | refine tr_scope ?_
            | (refine tr_skip ?_; try simp only [ex_seq, ex_block])
            | (refine tr_label ?_; try simp only [ex_seq, ex_block])
            | (refine tr_exit ?_; try simp only [ex_seq_exit, ex_block_exit, Nat.reduceEqDiff, if_true, if_false, ex_seq, ex_block, reduceCtorEq, ↓reduceIte])
            | (refine tr_ret ?_; try simp only [ex_seq_ret, ex_block_ret]))
        refine (hQ _ _ [iA 3] ?_ (fun m => ?_)).2 <;> simp only [go_sem, List.getElem?_toArray, str_beq, reduceCtorEq, Nat.reduceEqDiff, Nat.reduceLT, Nat.reduceLeDiff, Nat.reduceAdd, Nat.reduceMul, Nat.reduceSub, Nat.reduceBEq, ↓reduceIte, bne_self_eq_false, Bool.and_false, Bool.false_and, Bool.true_or, Bool.false_or, Tryd.f26, hr]
      · cases hf
    | true =>
      rw [h1] at c1 h12
      rw [Bool.true_and] at h12
      rw [h12] at c2
      repeat (first
          | refine tr_seq_k fun _ _ => ?_
          | (refine tr_region ?_; simp only [go_sem, List.getElem?_toArray, str_beq, reduceCtorEq, Nat.reduceEqDiff, Nat.reduceLT, Nat.reduceLeDiff, Nat.reduceAdd, Nat.reduceMul, Nat.reduceSub, Nat.reduceBEq, ↓reduceIte, bne_self_eq_false, Bool.and_false, Bool.false_and, Bool.true_or, Bool.false_or])
          | (refine call_of (c1) ?_ ?_
             · first | rfl | simp only [go_sem, List.getElem?_toArray, str_beq, reduceCtorEq, Nat.reduceEqDiff, Nat.reduceLT, Nat.reduceLeDiff, Nat.reduceAdd, Nat.reduceMul, Nat.reduceSub, Nat.reduceBEq, ↓reduceIte, bne_self_eq_false, Bool.and_false, Bool.false_and, Bool.true_or, Bool.false_or, shut_col]
             simp only [go_sem, List.getElem?_toArray, str_beq, reduceCtorEq, Nat.reduceEqDiff, Nat.reduceLT, Nat.reduceLeDiff, Nat.reduceAdd, Nat.reduceMul, Nat.reduceSub, Nat.reduceBEq, ↓reduceIte, bne_self_eq_false, Bool.and_false, Bool.false_and, Bool.true_or, Bool.false_or])
          | (refine call_of (c2) ?_ ?_
             · first | rfl | simp only [go_sem, List.getElem?_toArray, str_beq, reduceCtorEq, Nat.reduceEqDiff, Nat.reduceLT, Nat.reduceLeDiff, Nat.reduceAdd, Nat.reduceMul, Nat.reduceSub, Nat.reduceBEq, ↓reduceIte, bne_self_eq_false, Bool.and_false, Bool.false_and, Bool.true_or, Bool.false_or, shut_col]
             simp only [go_sem, List.getElem?_toArray, str_beq, reduceCtorEq, Nat.reduceEqDiff, Nat.reduceLT, Nat.reduceLeDiff, Nat.reduceAdd, Nat.reduceMul, Nat.reduceSub, Nat.reduceBEq, ↓reduceIte, bne_self_eq_false, Bool.and_false, Bool.false_and, Bool.true_or, Bool.false_or])
          | refine k_of (by assumption) ?_
          | refine tr_block ?_
          | refine tr_scope ?_
          | (refine tr_skip ?_; try simp only [ex_seq, ex_block])
          | (refine tr_label ?_; try simp only [ex_seq, ex_block])
          | (refine tr_exit ?_; try simp only [ex_seq_exit, ex_block_exit, Nat.reduceEqDiff, if_true, if_false, ex_seq, ex_block, reduceCtorEq, ↓reduceIte])
          | (refine tr_ret ?_; try simp only [ex_seq_ret, ex_block_ret]))
      refine tr_cond rfl (fun ht => ?_) (fun hf => ?_)
      · repeat (first
            | refine tr_seq_k fun _ _ => ?_
            | (refine tr_region ?_; simp only [go_sem, List.getElem?_toArray, str_beq, reduceCtorEq, Nat.reduceEqDiff, Nat.reduceLT, Nat.reduceLeDiff, Nat.reduceAdd, Nat.reduceMul, Nat.reduceSub, Nat.reduceBEq, ↓reduceIte, bne_self_eq_false, Bool.and_false, Bool.false_and, Bool.true_or, Bool.false_or])
            | refine k_of (by assumption) ?_
            | refine tr_block ?_
            | refine tr_scope ?_
            | (refine tr_skip ?_; try simp only [ex_seq, ex_block])
            | (refine tr_label ?_; try simp only [ex_seq, ex_block])
            | (refine tr_exit ?_; try simp only [ex_seq_exit, ex_block_exit, Nat.reduceEqDiff, if_true, if_false, ex_seq, ex_block, reduceCtorEq, ↓reduceIte])
            | (refine tr_ret ?_; try simp only [ex_seq_ret, ex_block_ret]))
        refine (hQ _ _ [iA 3] ?_ (fun m => ?_)).2 <;> simp only [go_sem, List.getElem?_toArray, str_beq, reduceCtorEq, Nat.reduceEqDiff, Nat.reduceLT, Nat.reduceLeDiff, Nat.reduceAdd, Nat.reduceMul, Nat.reduceSub, Nat.reduceBEq, ↓reduceIte, bne_self_eq_false, Bool.and_false, Bool.false_and, Bool.true_or, Bool.false_or, Tryd.f26, hr]
      · cases hf
  | true =>
    have h12' := h12
    rw [Bool.and_eq_true] at h12'
    rw [h12'.1] at c1
    rw [h12'.2] at c2
    have n12 : ¬ (pprincipal a.says && pprincipal a.pred) = false := by rw [h12]; exact fun e => Bool.noConfusion e
    by_cases hn : a.n < 0 ∨ 4 < a.n
    · have hr : pcheck3 a = 4 := by unfold pcheck3; rw [if_neg n12, if_pos hn]
      refine does_of' Tryd.func26 rfl (by kernel_rfl) rfl Tryd.ntmps26 rfl rfl fun Q hQ => ?_
      cases g1 : decide (a.n < 0) with
      | true =>
        repeat (first
            | refine tr_seq_k fun _ _ => ?_
            | (refine tr_region ?_; simp only [go_sem, List.getElem?_toArray, str_beq, reduceCtorEq, Nat.reduceEqDiff, Nat.reduceLT, Nat.reduceLeDiff, Nat.reduceAdd, Nat.reduceMul, Nat.reduceSub, Nat.reduceBEq, ↓reduceIte, bne_self_eq_false, Bool.and_false, Bool.false_and, Bool.true_or, Bool.false_or, g1])
            | (refine call_of (c1) ?_ ?_
               · first | rfl | simp only [go_sem, List.getElem?_toArray, str_beq, reduceCtorEq, Nat.reduceEqDiff, Nat.reduceLT, Nat.reduceLeDiff, Nat.reduceAdd, Nat.reduceMul, Nat.reduceSub, Nat.reduceBEq, ↓reduceIte, bne_self_eq_false, Bool.and_false, Bool.false_and, Bool.true_or, Bool.false_or, g1, shut_col]
               simp only [go_sem, List.getElem?_toArray, str_beq, reduceCtorEq, Nat.reduceEqDiff, Nat.reduceLT, Nat.reduceLeDiff, Nat.reduceAdd, Nat.reduceMul, Nat.reduceSub, Nat.reduceBEq, ↓reduceIte, bne_self_eq_false, Bool.and_false, Bool.false_and, Bool.true_or, Bool.false_or, g1])
            | (refine call_of (c2) ?_ ?_
               · first | rfl | simp only [go_sem, List.getElem?_toArray, str_beq, reduceCtorEq, Nat.reduceEqDiff, Nat.reduceLT, Nat.reduceLeDiff, Nat.reduceAdd, Nat.reduceMul, Nat.reduceSub, Nat.reduceBEq, ↓reduceIte, bne_self_eq_false, Bool.and_false, Bool.false_and, Bool.true_or, Bool.false_or, g1, shut_col]
               simp only [go_sem, List.getElem?_toArray, str_beq, reduceCtorEq, Nat.reduceEqDiff, Nat.reduceLT, Nat.reduceLeDiff, Nat.reduceAdd, Nat.reduceMul, Nat.reduceSub, Nat.reduceBEq, ↓reduceIte, bne_self_eq_false, Bool.and_false, Bool.false_and, Bool.true_or, Bool.false_or, g1])
            | refine k_of (by assumption) ?_
            | refine tr_block ?_
            | refine tr_scope ?_
            | (refine tr_skip ?_; try simp only [ex_seq, ex_block])
            | (refine tr_label ?_; try simp only [ex_seq, ex_block])
            | (refine tr_exit ?_; try simp only [ex_seq_exit, ex_block_exit, Nat.reduceEqDiff, if_true, if_false, ex_seq, ex_block, reduceCtorEq, ↓reduceIte])
            | (refine tr_ret ?_; try simp only [ex_seq_ret, ex_block_ret]))
        refine tr_cond rfl (fun ht => ?_) (fun hf => ?_)
        · cases ht
        · repeat (first
              | refine tr_seq_k fun _ _ => ?_
              | (refine tr_region ?_; simp only [go_sem, List.getElem?_toArray, str_beq, reduceCtorEq, Nat.reduceEqDiff, Nat.reduceLT, Nat.reduceLeDiff, Nat.reduceAdd, Nat.reduceMul, Nat.reduceSub, Nat.reduceBEq, ↓reduceIte, bne_self_eq_false, Bool.and_false, Bool.false_and, Bool.true_or, Bool.false_or, g1])
              | refine k_of (by assumption) ?_
              | refine tr_block ?_
              | refine tr_scope ?_
              | (refine tr_skip ?_; try simp only [ex_seq, ex_block])
              | (refine tr_label ?_; try simp only [ex_seq, ex_block])
              | (refine tr_exit ?_; try simp only [ex_seq_exit, ex_block_exit, Nat.reduceEqDiff, if_true, if_false, ex_seq, ex_block, reduceCtorEq, ↓reduceIte])
              | (refine tr_ret ?_; try simp only [ex_seq_ret, ex_block_ret]))
          refine tr_cond rfl (fun ht => ?_) (fun hf => ?_)
          · repeat (first
                | refine tr_seq_k fun _ _ => ?_
                | (refine tr_region ?_; simp only [go_sem, List.getElem?_toArray, str_beq, reduceCtorEq, Nat.reduceEqDiff, Nat.reduceLT, Nat.reduceLeDiff, Nat.reduceAdd, Nat.reduceMul, Nat.reduceSub, Nat.reduceBEq, ↓reduceIte, bne_self_eq_false, Bool.and_false, Bool.false_and, Bool.true_or, Bool.false_or])
                | refine k_of (by assumption) ?_
                | refine tr_block ?_
                | refine tr_scope ?_
                | (refine tr_skip ?_; try simp only [ex_seq, ex_block])
                | (refine tr_label ?_; try simp only [ex_seq, ex_block])
                | (refine tr_exit ?_; try simp only [ex_seq_exit, ex_block_exit, Nat.reduceEqDiff, if_true, if_false, ex_seq, ex_block, reduceCtorEq, ↓reduceIte])
                | (refine tr_ret ?_; try simp only [ex_seq_ret, ex_block_ret]))
            refine (hQ _ _ [iA 4] ?_ (fun m => ?_)).2 <;> simp only [go_sem, List.getElem?_toArray, str_beq, reduceCtorEq, Nat.reduceEqDiff, Nat.reduceLT, Nat.reduceLeDiff, Nat.reduceAdd, Nat.reduceMul, Nat.reduceSub, Nat.reduceBEq, ↓reduceIte, bne_self_eq_false, Bool.and_false, Bool.false_and, Bool.true_or, Bool.false_or, Tryd.f26, hr]
          · cases hf
      | false =>
        have g2 : decide ((4 : Int) < a.n) = true := by
          have := of_decide_eq_false g1
          exact decide_eq_true (by omega)
        repeat (first
            | refine tr_seq_k fun _ _ => ?_
            | (refine tr_region ?_; simp only [go_sem, List.getElem?_toArray, str_beq, reduceCtorEq, Nat.reduceEqDiff, Nat.reduceLT, Nat.reduceLeDiff, Nat.reduceAdd, Nat.reduceMul, Nat.reduceSub, Nat.reduceBEq, ↓reduceIte, bne_self_eq_false, Bool.and_false, Bool.false_and, Bool.true_or, Bool.false_or, g1])
            | (refine call_of (c1) ?_ ?_
               · first | rfl | simp only [go_sem, List.getElem?_toArray, str_beq, reduceCtorEq, Nat.reduceEqDiff, Nat.reduceLT, Nat.reduceLeDiff, Nat.reduceAdd, Nat.reduceMul, Nat.reduceSub, Nat.reduceBEq, ↓reduceIte, bne_self_eq_false, Bool.and_false, Bool.false_and, Bool.true_or, Bool.false_or, g1, shut_col]
               simp only [go_sem, List.getElem?_toArray, str_beq, reduceCtorEq, Nat.reduceEqDiff, Nat.reduceLT, Nat.reduceLeDiff, Nat.reduceAdd, Nat.reduceMul, Nat.reduceSub, Nat.reduceBEq, ↓reduceIte, bne_self_eq_false, Bool.and_false, Bool.false_and, Bool.true_or, Bool.false_or, g1])
            | (refine call_of (c2) ?_ ?_
               · first | rfl | simp only [go_sem, List.getElem?_toArray, str_beq, reduceCtorEq, Nat.reduceEqDiff, Nat.reduceLT, Nat.reduceLeDiff, Nat.reduceAdd, Nat.reduceMul, Nat.reduceSub, Nat.reduceBEq, ↓reduceIte, bne_self_eq_false, Bool.and_false, Bool.false_and, Bool.true_or, Bool.false_or, g1, shut_col]
               simp only [go_sem, List.getElem?_toArray, str_beq, reduceCtorEq, Nat.reduceEqDiff, Nat.reduceLT, Nat.reduceLeDiff, Nat.reduceAdd, Nat.reduceMul, Nat.reduceSub, Nat.reduceBEq, ↓reduceIte, bne_self_eq_false, Bool.and_false, Bool.false_and, Bool.true_or, Bool.false_or, g1])
            | refine k_of (by assumption) ?_
            | refine tr_block ?_
            | refine tr_scope ?_
            | (refine tr_skip ?_; try simp only [ex_seq, ex_block])
            | (refine tr_label ?_; try simp only [ex_seq, ex_block])
            | (refine tr_exit ?_; try simp only [ex_seq_exit, ex_block_exit, Nat.reduceEqDiff, if_true, if_false, ex_seq, ex_block, reduceCtorEq, ↓reduceIte])
            | (refine tr_ret ?_; try simp only [ex_seq_ret, ex_block_ret]))
        refine tr_cond rfl (fun ht => ?_) (fun hf => ?_)
        · cases ht
        · repeat (first
              | refine tr_seq_k fun _ _ => ?_
              | (refine tr_region ?_; simp only [go_sem, List.getElem?_toArray, str_beq, reduceCtorEq, Nat.reduceEqDiff, Nat.reduceLT, Nat.reduceLeDiff, Nat.reduceAdd, Nat.reduceMul, Nat.reduceSub, Nat.reduceBEq, ↓reduceIte, bne_self_eq_false, Bool.and_false, Bool.false_and, Bool.true_or, Bool.false_or, g1, g2])
              | refine k_of (by assumption) ?_
              | refine tr_block ?_
              | refine tr_scope ?_
              | (refine tr_skip ?_; try simp only [ex_seq, ex_block])
              | (refine tr_label ?_; try simp only [ex_seq, ex_block])
              | (refine tr_exit ?_; try simp only [ex_seq_exit, ex_block_exit, Nat.reduceEqDiff, if_true, if_false, ex_seq, ex_block, reduceCtorEq, ↓reduceIte])
              | (refine tr_ret ?_; try simp only [ex_seq_ret, ex_block_ret]))
          refine tr_cond rfl (fun ht => ?_) (fun hf => ?_)
          · repeat (first
                | refine tr_seq_k fun _ _ => ?_
                | (refine tr_region ?_; simp only [go_sem, List.getElem?_toArray, str_beq, reduceCtorEq, Nat.reduceEqDiff, Nat.reduceLT, Nat.reduceLeDiff, Nat.reduceAdd, Nat.reduceMul, Nat.reduceSub, Nat.reduceBEq, ↓reduceIte, bne_self_eq_false, Bool.and_false, Bool.false_and, Bool.true_or, Bool.false_or])
                | refine k_of (by assumption) ?_
                | refine tr_block ?_
                | refine tr_scope ?_
                | (refine tr_skip ?_; try simp only [ex_seq, ex_block])
                | (refine tr_label ?_; try simp only [ex_seq, ex_block])
                | (refine tr_exit ?_; try simp only [ex_seq_exit, ex_block_exit, Nat.reduceEqDiff, if_true, if_false, ex_seq, ex_block, reduceCtorEq, ↓reduceIte])
                | (refine tr_ret ?_; try simp only [ex_seq_ret, ex_block_ret]))
            refine (hQ _ _ [iA 4] ?_ (fun m => ?_)).2 <;> simp only [go_sem, List.getElem?_toArray, str_beq, reduceCtorEq, Nat.reduceEqDiff, Nat.reduceLT, Nat.reduceLeDiff, Nat.reduceAdd, Nat.reduceMul, Nat.reduceSub, Nat.reduceBEq, ↓reduceIte, bne_self_eq_false, Bool.and_false, Bool.false_and, Bool.true_or, Bool.false_or, Tryd.f26, hr]
          · cases hf
    · have g1 : decide (a.n < 0) = false := decide_eq_false (by omega)
      have g2 : decide ((4 : Int) < a.n) = false := decide_eq_false (by omega)
      obtain ⟨n, hN⟩ : ∃ n : Nat, a.n = (n : Int) := ⟨a.n.toNat, by omega⟩
      have hn4 : n ≤ 4 := by omega
      have hz : pcheck3 a = if a.termsB = false then 3 else if a.restB = false then 15 else 0 := by
        unfold pcheck3
        rw [if_neg n12, if_neg hn]
      refine does_of' Tryd.func26 rfl (by kernel_rfl) rfl Tryd.ntmps26 rfl rfl fun Q hQ => ?_
      repeat (first
          | refine tr_seq_k fun _ _ => ?_
          | (refine tr_region ?_; simp only [go_sem, List.getElem?_toArray, str_beq, reduceCtorEq, Nat.reduceEqDiff, Nat.reduceLT, Nat.reduceLeDiff, Nat.reduceAdd, Nat.reduceMul, Nat.reduceSub, Nat.reduceBEq, ↓reduceIte, bne_self_eq_false, Bool.and_false, Bool.false_and, Bool.true_or, Bool.false_or])
          | (refine call_of (c1) ?_ ?_
             · first | rfl | simp only [go_sem, List.getElem?_toArray, str_beq, reduceCtorEq, Nat.reduceEqDiff, Nat.reduceLT, Nat.reduceLeDiff, Nat.reduceAdd, Nat.reduceMul, Nat.reduceSub, Nat.reduceBEq, ↓reduceIte, bne_self_eq_false, Bool.and_false, Bool.false_and, Bool.true_or, Bool.false_or, shut_col]
             simp only [go_sem, List.getElem?_toArray, str_beq, reduceCtorEq, Nat.reduceEqDiff, Nat.reduceLT, Nat.reduceLeDiff, Nat.reduceAdd, Nat.reduceMul, Nat.reduceSub, Nat.reduceBEq, ↓reduceIte, bne_self_eq_false, Bool.and_false, Bool.false_and, Bool.true_or, Bool.false_or])
          | (refine call_of (c2) ?_ ?_
             · first | rfl | simp only [go_sem, List.getElem?_toArray, str_beq, reduceCtorEq, Nat.reduceEqDiff, Nat.reduceLT, Nat.reduceLeDiff, Nat.reduceAdd, Nat.reduceMul, Nat.reduceSub, Nat.reduceBEq, ↓reduceIte, bne_self_eq_false, Bool.and_false, Bool.false_and, Bool.true_or, Bool.false_or, shut_col]
             simp only [go_sem, List.getElem?_toArray, str_beq, reduceCtorEq, Nat.reduceEqDiff, Nat.reduceLT, Nat.reduceLeDiff, Nat.reduceAdd, Nat.reduceMul, Nat.reduceSub, Nat.reduceBEq, ↓reduceIte, bne_self_eq_false, Bool.and_false, Bool.false_and, Bool.true_or, Bool.false_or])
          | refine k_of (by assumption) ?_
          | refine tr_block ?_
          | refine tr_scope ?_
          | (refine tr_skip ?_; try simp only [ex_seq, ex_block])
          | (refine tr_label ?_; try simp only [ex_seq, ex_block])
          | (refine tr_exit ?_; try simp only [ex_seq_exit, ex_block_exit, Nat.reduceEqDiff, if_true, if_false, ex_seq, ex_block, reduceCtorEq, ↓reduceIte])
          | (refine tr_ret ?_; try simp only [ex_seq_ret, ex_block_ret]))
      refine tr_cond rfl (fun ht => ?_) (fun hf => ?_)
      · cases ht
      · repeat (first
            | refine tr_seq_k fun _ _ => ?_
            | (refine tr_region ?_; simp only [go_sem, List.getElem?_toArray, str_beq, reduceCtorEq, Nat.reduceEqDiff, Nat.reduceLT, Nat.reduceLeDiff, Nat.reduceAdd, Nat.reduceMul, Nat.reduceSub, Nat.reduceBEq, ↓reduceIte, bne_self_eq_false, Bool.and_false, Bool.false_and, Bool.true_or, Bool.false_or, g1, g2])
            | refine k_of (by assumption) ?_
            | refine tr_block ?_
            | refine tr_scope ?_
            | (refine tr_skip ?_; try simp only [ex_seq, ex_block])
            | (refine tr_label ?_; try simp only [ex_seq, ex_block])
            | (refine tr_exit ?_; try simp only [ex_seq_exit, ex_block_exit, Nat.reduceEqDiff, if_true, if_false, ex_seq, ex_block, reduceCtorEq, ↓reduceIte])
            | (refine tr_ret ?_; try simp only [ex_seq_ret, ex_block_ret]))
        refine tr_cond rfl (fun ht => ?_) (fun hf => ?_)
        · cases ht
        · repeat (first
              | refine tr_seq_k fun _ _ => ?_
              | (refine tr_region ?_; simp only [go_sem, List.getElem?_toArray, str_beq, reduceCtorEq, Nat.reduceEqDiff, Nat.reduceLT, Nat.reduceLeDiff, Nat.reduceAdd, Nat.reduceMul, Nat.reduceSub, Nat.reduceBEq, ↓reduceIte, bne_self_eq_false, Bool.and_false, Bool.false_and, Bool.true_or, Bool.false_or])
              | refine k_of (by assumption) ?_
              | refine tr_block ?_
              | refine tr_scope ?_
              | (refine tr_skip ?_; try simp only [ex_seq, ex_block])
              | (refine tr_label ?_; try simp only [ex_seq, ex_block])
              | (refine tr_exit ?_; try simp only [ex_seq_exit, ex_block_exit, Nat.reduceEqDiff, if_true, if_false, ex_seq, ex_block, reduceCtorEq, ↓reduceIte])
              | (refine tr_ret ?_; try simp only [ex_seq_ret, ex_block_ret]))
          refine tr_loop_k (σ := Nat) (fun k => [(1, .ptr 0 0), (3, iA k)]) (fun _ => ⟨[⟨false, (atC a).map .c⟩], []⟩)
            (fun k => k ≤ n ∧ ∀ j, j < k → ptermok (a.arg j) = true) (fun k => n - k) 0 ⟨by omega, fun j h => absurd h (Nat.not_lt_zero _)⟩ ⟨rfl, rfl, trivial⟩ rfl ?_
          rintro k ⟨hk, hp⟩ K hK
          repeat (first
              | refine tr_seq_k fun _ _ => ?_
              | (refine tr_region ?_; simp only [go_sem, List.getElem?_toArray, str_beq, reduceCtorEq, Nat.reduceEqDiff, Nat.reduceLT, Nat.reduceLeDiff, Nat.reduceAdd, Nat.reduceMul, Nat.reduceSub, Nat.reduceBEq, ↓reduceIte, bne_self_eq_false, Bool.and_false, Bool.false_and, Bool.true_or, Bool.false_or])
              | refine k_of (by assumption) ?_
              | refine tr_block ?_
              | refine tr_scope ?_
              | (refine tr_skip ?_; try simp only [ex_seq, ex_block])
              | (refine tr_label ?_; try simp only [ex_seq, ex_block])
              | (refine tr_exit ?_; try simp only [ex_seq_exit, ex_block_exit, Nat.reduceEqDiff, if_true, if_false, ex_seq, ex_block, reduceCtorEq, ↓reduceIte])
              | (refine tr_ret ?_; try simp only [ex_seq_ret, ex_block_ret]))
          refine tr_cond rfl (fun ht => ?_) (fun hf => ?_)
          · have hlt : k < n := by
              have := of_decide_eq_true ht
              omega
            have hk4 : k < 4 := by omega
            have ws := wrap_succ (show k ≤ 1000000000 by omega)
            have ct := term3_does (a.arg k)
            cases hv : ptermok (a.arg k) with
            | false =>
              rw [hv] at ct
              have hr : pcheck3 a = 3 := by
                rw [hz, if_pos]
                rw [Bool.eq_false_iff]
                intro h
                have := termsB_iff.1 h k hk4 (by omega)
                rw [hv] at this
                cases this
              repeat (first
                  | refine tr_seq_k fun _ _ => ?_
                  | (refine tr_region ?_; simp only [go_sem, List.getElem?_toArray, str_beq, reduceCtorEq, Nat.reduceEqDiff, Nat.reduceLT, Nat.reduceLeDiff, Nat.reduceAdd, Nat.reduceMul, Nat.reduceSub, Nat.reduceBEq, ↓reduceIte, bne_self_eq_false, Bool.and_false, Bool.false_and, Bool.true_or, Bool.false_or, arrT hk4, atD2 a hk4, atLe hk4])
                  | (refine call_of (ct) ?_ ?_
                     · first | rfl | simp only [go_sem, List.getElem?_toArray, str_beq, reduceCtorEq, Nat.reduceEqDiff, Nat.reduceLT, Nat.reduceLeDiff, Nat.reduceAdd, Nat.reduceMul, Nat.reduceSub, Nat.reduceBEq, ↓reduceIte, bne_self_eq_false, Bool.and_false, Bool.false_and, Bool.true_or, Bool.false_or, arrT hk4, atD2 a hk4, atLe hk4, shut_col]
                     simp only [go_sem, List.getElem?_toArray, str_beq, reduceCtorEq, Nat.reduceEqDiff, Nat.reduceLT, Nat.reduceLeDiff, Nat.reduceAdd, Nat.reduceMul, Nat.reduceSub, Nat.reduceBEq, ↓reduceIte, bne_self_eq_false, Bool.and_false, Bool.false_and, Bool.true_or, Bool.false_or, arrT hk4, atD2 a hk4, atLe hk4])
                  | refine k_of (by assumption) ?_
                  | refine tr_block ?_
                  | refine tr_scope ?_
                  | (refine tr_skip ?_; try simp only [ex_seq, ex_block])
                  | (refine tr_label ?_; try simp only [ex_seq, ex_block])
                  | (refine tr_exit ?_; try simp only [ex_seq_exit, ex_block_exit, Nat.reduceEqDiff, if_true, if_false, ex_seq, ex_block, reduceCtorEq, ↓reduceIte])
                  | (refine tr_ret ?_; try simp only [ex_seq_ret, ex_block_ret]))
              refine tr_cond rfl (fun ht => ?_) (fun hf => ?_)
              · repeat (first
                    | refine tr_seq_k fun _ _ => ?_
                    | (refine tr_region ?_; simp only [go_sem, List.getElem?_toArray, str_beq, reduceCtorEq, Nat.reduceEqDiff, Nat.reduceLT, Nat.reduceLeDiff, Nat.reduceAdd, Nat.reduceMul, Nat.reduceSub, Nat.reduceBEq, ↓reduceIte, bne_self_eq_false, Bool.and_false, Bool.false_and, Bool.true_or, Bool.false_or])
                    | refine k_of (by assumption) ?_
                    | refine tr_block ?_
                    | refine tr_scope ?_
                    | (refine tr_skip ?_; try simp only [ex_seq, ex_block])
                    | (refine tr_label ?_; try simp only [ex_seq, ex_block])
                    | (refine tr_exit ?_; try simp only [ex_seq_exit, ex_block_exit, Nat.reduceEqDiff, if_true, if_false, ex_seq, ex_block, reduceCtorEq, ↓reduceIte])
                    | (refine tr_ret ?_; try simp only [ex_seq_ret, ex_block_ret]))
                refine (hQ _ _ [iA 3] ?_ (fun m => ?_)).2 <;> simp only [go_sem, List.getElem?_toArray, str_beq, reduceCtorEq, Nat.reduceEqDiff, Nat.reduceLT, Nat.reduceLeDiff, Nat.reduceAdd, Nat.reduceMul, Nat.reduceSub, Nat.reduceBEq, ↓reduceIte, bne_self_eq_false, Bool.and_false, Bool.false_and, Bool.true_or, Bool.false_or, Tryd.f26, hr]
              · cases hf
            | true =>
              rw [hv] at ct
              repeat (first
                  | refine tr_seq_k fun _ _ => ?_
                  | (refine tr_region ?_; simp only [go_sem, List.getElem?_toArray, str_beq, reduceCtorEq, Nat.reduceEqDiff, Nat.reduceLT, Nat.reduceLeDiff, Nat.reduceAdd, Nat.reduceMul, Nat.reduceSub, Nat.reduceBEq, ↓reduceIte, bne_self_eq_false, Bool.and_false, Bool.false_and, Bool.true_or, Bool.false_or, arrT hk4, atD2 a hk4, atLe hk4])
                  | (refine call_of (ct) ?_ ?_
                     · first | rfl | simp only [go_sem, List.getElem?_toArray, str_beq, reduceCtorEq, Nat.reduceEqDiff, Nat.reduceLT, Nat.reduceLeDiff, Nat.reduceAdd, Nat.reduceMul, Nat.reduceSub, Nat.reduceBEq, ↓reduceIte, bne_self_eq_false, Bool.and_false, Bool.false_and, Bool.true_or, Bool.false_or, arrT hk4, atD2 a hk4, atLe hk4, shut_col]
                     simp only [go_sem, List.getElem?_toArray, str_beq, reduceCtorEq, Nat.reduceEqDiff, Nat.reduceLT, Nat.reduceLeDiff, Nat.reduceAdd, Nat.reduceMul, Nat.reduceSub, Nat.reduceBEq, ↓reduceIte, bne_self_eq_false, Bool.and_false, Bool.false_and, Bool.true_or, Bool.false_or, arrT hk4, atD2 a hk4, atLe hk4])
                  | refine k_of (by assumption) ?_
                  | refine tr_block ?_
                  | refine tr_scope ?_
                  | (refine tr_skip ?_; try simp only [ex_seq, ex_block])
                  | (refine tr_label ?_; try simp only [ex_seq, ex_block])
                  | (refine tr_exit ?_; try simp only [ex_seq_exit, ex_block_exit, Nat.reduceEqDiff, if_true, if_false, ex_seq, ex_block, reduceCtorEq, ↓reduceIte])
                  | (refine tr_ret ?_; try simp only [ex_seq_ret, ex_block_ret]))
              refine tr_cond rfl (fun ht => ?_) (fun hf => ?_)
              · cases ht
              · repeat (first
                    | refine tr_seq_k fun _ _ => ?_
                    | (refine tr_region ?_; simp only [go_sem, List.getElem?_toArray, str_beq, reduceCtorEq, Nat.reduceEqDiff, Nat.reduceLT, Nat.reduceLeDiff, Nat.reduceAdd, Nat.reduceMul, Nat.reduceSub, Nat.reduceBEq, ↓reduceIte, bne_self_eq_false, Bool.and_false, Bool.false_and, Bool.true_or, Bool.false_or, ws])
                    | refine k_of (by assumption) ?_
                    | refine tr_block ?_
                    | refine tr_scope ?_
                    | (refine tr_skip ?_; try simp only [ex_seq, ex_block])
                    | (refine tr_label ?_; try simp only [ex_seq, ex_block])
                    | (refine tr_exit ?_; try simp only [ex_seq_exit, ex_block_exit, Nat.reduceEqDiff, if_true, if_false, ex_seq, ex_block, reduceCtorEq, ↓reduceIte])
                    | (refine tr_ret ?_; try simp only [ex_seq_ret, ex_block_ret]))
                exact hK (k + 1) _ _ ⟨by omega, fun j hj => by
                  by_cases e : j = k
                  · subst e; exact hv
                  · exact hp j (by omega)⟩ ⟨⟨rfl, rfl, trivial⟩, Keep.refl _, rfl, rfl, Nat.le_refl _, Nat.le_refl _⟩ (by omega)
          · have hkn : k = n := by
              have := of_decide_eq_false hf
              omega
            have hT : a.termsB = true := termsB_iff.2 fun j hj hjn => hp j (by omega)
            have hz' : pcheck3 a = if a.restB = false then 15 else 0 := by
              rw [hz, if_neg (by rw [hT]; exact fun e => Bool.noConfusion e)]
            repeat (first
                | refine tr_seq_k fun _ _ => ?_
                | (refine tr_region ?_; simp only [go_sem, List.getElem?_toArray, str_beq, reduceCtorEq, Nat.reduceEqDiff, Nat.reduceLT, Nat.reduceLeDiff, Nat.reduceAdd, Nat.reduceMul, Nat.reduceSub, Nat.reduceBEq, ↓reduceIte, bne_self_eq_false, Bool.and_false, Bool.false_and, Bool.true_or, Bool.false_or])
                | refine k_of (by assumption) ?_
                | refine tr_block ?_
                | refine tr_scope ?_
                | (refine tr_skip ?_; try simp only [ex_seq, ex_block])
                | (refine tr_label ?_; try simp only [ex_seq, ex_block])
                | (refine tr_exit ?_; try simp only [ex_seq_exit, ex_block_exit, Nat.reduceEqDiff, if_true, if_false, ex_seq, ex_block, reduceCtorEq, ↓reduceIte])
                | (refine tr_ret ?_; try simp only [ex_seq_ret, ex_block_ret]))
            refine tr_loop_k (σ := Nat) (fun k => [(1, .ptr 0 0), (4, iA k)]) (fun _ => ⟨[⟨false, (atC a).map .c⟩], []⟩)
              (fun k => n ≤ k ∧ k ≤ 4 ∧ ∀ j, n ≤ j → j < k → a.arg j = ⟨false, ⟨#[]⟩⟩) (fun k => 4 - k) n ⟨Nat.le_refl _, hn4, fun j h1 h2 => absurd h1 (by omega)⟩ ⟨rfl, congrArg (fun x => some (iA x)) hN, trivial⟩ rfl ?_
            rintro q ⟨hq1, hq2, hq⟩ K2 hK2
            repeat (first
                | refine tr_seq_k fun _ _ => ?_
                | (refine tr_region ?_; simp only [go_sem, List.getElem?_toArray, str_beq, reduceCtorEq, Nat.reduceEqDiff, Nat.reduceLT, Nat.reduceLeDiff, Nat.reduceAdd, Nat.reduceMul, Nat.reduceSub, Nat.reduceBEq, ↓reduceIte, bne_self_eq_false, Bool.and_false, Bool.false_and, Bool.true_or, Bool.false_or])
                | refine k_of (by assumption) ?_
                | refine tr_block ?_
                | refine tr_scope ?_
                | (refine tr_skip ?_; try simp only [ex_seq, ex_block])
                | (refine tr_label ?_; try simp only [ex_seq, ex_block])
                | (refine tr_exit ?_; try simp only [ex_seq_exit, ex_block_exit, Nat.reduceEqDiff, if_true, if_false, ex_seq, ex_block, reduceCtorEq, ↓reduceIte])
                | (refine tr_ret ?_; try simp only [ex_seq_ret, ex_block_ret]))
            refine tr_cond rfl (fun ht => ?_) (fun hf => ?_)
            · have hq4 : q < 4 := by
                have := of_decide_eq_true ht
                omega
              have ws := wrap_succ (show q ≤ 1000000000 by omega)
              have ne := fun x y => bin_neT x y (a.arg q) ⟨false, ⟨#[]⟩⟩
              simp only [pv_bind] at ne
              cases hv : decide (a.arg q = ⟨false, ⟨#[]⟩⟩) with
              | false =>
                have hr : pcheck3 a = 15 := by
                  rw [hz', if_pos]
                  rw [Bool.eq_false_iff]
                  intro h
                  exact of_decide_eq_false hv (restB_iff.1 h q hq4 (by omega))
                simp only [hv, Bool.not_false] at ne
                repeat (first
                    | refine tr_seq_k fun _ _ => ?_
                    | (refine tr_region ?_; simp only [go_sem, List.getElem?_toArray, str_beq, reduceCtorEq, Nat.reduceEqDiff, Nat.reduceLT, Nat.reduceLeDiff, Nat.reduceAdd, Nat.reduceMul, Nat.reduceSub, Nat.reduceBEq, ↓reduceIte, bne_self_eq_false, Bool.and_false, Bool.false_and, Bool.true_or, Bool.false_or, arrT hq4, atD2 a hq4, atLe hq4, ne])
                    | refine k_of (by assumption) ?_
                    | refine tr_block ?_
                    | refine tr_scope ?_
                    | (refine tr_skip ?_; try simp only [ex_seq, ex_block])
                    | (refine tr_label ?_; try simp only [ex_seq, ex_block])
                    | (refine tr_exit ?_; try simp only [ex_seq_exit, ex_block_exit, Nat.reduceEqDiff, if_true, if_false, ex_seq, ex_block, reduceCtorEq, ↓reduceIte])
                    | (refine tr_ret ?_; try simp only [ex_seq_ret, ex_block_ret]))
                refine tr_cond rfl (fun ht => ?_) (fun hf => ?_)
                · repeat (first
                      | refine tr_seq_k fun _ _ => ?_
                      | (refine tr_region ?_; simp only [go_sem, List.getElem?_toArray, str_beq, reduceCtorEq, Nat.reduceEqDiff, Nat.reduceLT, Nat.reduceLeDiff, Nat.reduceAdd, Nat.reduceMul, Nat.reduceSub, Nat.reduceBEq, ↓reduceIte, bne_self_eq_false, Bool.and_false, Bool.false_and, Bool.true_or, Bool.false_or])
                      | refine k_of (by assumption) ?_
                      | refine tr_block ?_
                      | refine tr_scope ?_
                      | (refine tr_skip ?_; try simp only [ex_seq, ex_block])
                      | (refine tr_label ?_; try simp only [ex_seq, ex_block])
                      | (refine tr_exit ?_; try simp only [ex_seq_exit, ex_block_exit, Nat.reduceEqDiff, if_true, if_false, ex_seq, ex_block, reduceCtorEq, ↓reduceIte])
                      | (refine tr_ret ?_; try simp only [ex_seq_ret, ex_block_ret]))
                  refine (hQ _ _ [iA 15] ?_ (fun m => ?_)).2 <;> simp only [go_sem, List.getElem?_toArray, str_beq, reduceCtorEq, Nat.reduceEqDiff, Nat.reduceLT, Nat.reduceLeDiff, Nat.reduceAdd, Nat.reduceMul, Nat.reduceSub, Nat.reduceBEq, ↓reduceIte, bne_self_eq_false, Bool.and_false, Bool.false_and, Bool.true_or, Bool.false_or, Tryd.f26, hr]
                · cases hf
              | true =>
                simp only [hv, Bool.not_true] at ne
                repeat (first
                    | refine tr_seq_k fun _ _ => ?_
                    | (refine tr_region ?_; simp only [go_sem, List.getElem?_toArray, str_beq, reduceCtorEq, Nat.reduceEqDiff, Nat.reduceLT, Nat.reduceLeDiff, Nat.reduceAdd, Nat.reduceMul, Nat.reduceSub, Nat.reduceBEq, ↓reduceIte, bne_self_eq_false, Bool.and_false, Bool.false_and, Bool.true_or, Bool.false_or, arrT hq4, atD2 a hq4, atLe hq4, ne])
                    | refine k_of (by assumption) ?_
                    | refine tr_block ?_
                    | refine tr_scope ?_
                    | (refine tr_skip ?_; try simp only [ex_seq, ex_block])
                    | (refine tr_label ?_; try simp only [ex_seq, ex_block])
                    | (refine tr_exit ?_; try simp only [ex_seq_exit, ex_block_exit, Nat.reduceEqDiff, if_true, if_false, ex_seq, ex_block, reduceCtorEq, ↓reduceIte])
                    | (refine tr_ret ?_; try simp only [ex_seq_ret, ex_block_ret]))
                refine tr_cond rfl (fun ht => ?_) (fun hf => ?_)
                · cases ht
                · repeat (first
                      | refine tr_seq_k fun _ _ => ?_
                      | (refine tr_region ?_; simp only [go_sem, List.getElem?_toArray, str_beq, reduceCtorEq, Nat.reduceEqDiff, Nat.reduceLT, Nat.reduceLeDiff, Nat.reduceAdd, Nat.reduceMul, Nat.reduceSub, Nat.reduceBEq, ↓reduceIte, bne_self_eq_false, Bool.and_false, Bool.false_and, Bool.true_or, Bool.false_or, ws])
                      | refine k_of (by assumption) ?_
                      | refine tr_block ?_
                      | refine tr_scope ?_
                      | (refine tr_skip ?_; try simp only [ex_seq, ex_block])
                      | (refine tr_label ?_; try simp only [ex_seq, ex_block])
                      | (refine tr_exit ?_; try simp only [ex_seq_exit, ex_block_exit, Nat.reduceEqDiff, if_true, if_false, ex_seq, ex_block, reduceCtorEq, ↓reduceIte])
                      | (refine tr_ret ?_; try simp only [ex_seq_ret, ex_block_ret]))
                  exact hK2 (q + 1) _ _ ⟨by omega, by omega, fun j h1 h2 => by
                    by_cases e : j = q
                    · subst e; exact of_decide_eq_true hv
                    · exact hq j h1 (by omega)⟩ ⟨⟨rfl, rfl, trivial⟩, Keep.refl _, rfl, rfl, Nat.le_refl _, Nat.le_refl _⟩ (by omega)
            · have hq4 : q = 4 := by
                have := of_decide_eq_false hf
                omega
              have hr : pcheck3 a = 0 := by
                rw [hz', if_neg]
                rw [restB_iff.2 fun j hj hjn => hq j (by omega) (by omega)]
                exact fun e => Bool.noConfusion e
              repeat (first
                  | refine tr_seq_k fun _ _ => ?_
                  | (refine tr_region ?_; simp only [go_sem, List.getElem?_toArray, str_beq, reduceCtorEq, Nat.reduceEqDiff, Nat.reduceLT, Nat.reduceLeDiff, Nat.reduceAdd, Nat.reduceMul, Nat.reduceSub, Nat.reduceBEq, ↓reduceIte, bne_self_eq_false, Bool.and_false, Bool.false_and, Bool.true_or, Bool.false_or])
                  | refine k_of (by assumption) ?_
                  | refine tr_block ?_
                  | refine tr_scope ?_
                  | (refine tr_skip ?_; try simp only [ex_seq, ex_block])
                  | (refine tr_label ?_; try simp only [ex_seq, ex_block])
                  | (refine tr_exit ?_; try simp only [ex_seq_exit, ex_block_exit, Nat.reduceEqDiff, if_true, if_false, ex_seq, ex_block, reduceCtorEq, ↓reduceIte])
                  | (refine tr_ret ?_; try simp only [ex_seq_ret, ex_block_ret]))
              refine (hQ _ _ [iA 0] ?_ (fun m => ?_)).2 <;> simp only [go_sem, List.getElem?_toArray, str_beq, reduceCtorEq, Nat.reduceEqDiff, Nat.reduceLT, Nat.reduceLeDiff, Nat.reduceAdd, Nat.reduceMul, Nat.reduceSub, Nat.reduceBEq, ↓reduceIte, bne_self_eq_false, Bool.and_false, Bool.false_and, Bool.true_or, Bool.false_or, Tryd.f26, hr]
end Go.Proofs.YtaeehadibckcjaaDoor

/-
  Contracts on abstract values: what the statements share: Pick, LightTexts, Own and Same of strings.
-/
namespace Go.Proofs.YtaeehadibckcjaaDoor
open Go.Vs Go.Vs.Ab
set_option maxRecDepth 100000
def pickN (n m : Int) : Int := if m < 1 then 0 else if n.tmod m < 0 then n.tmod m + m else n.tmod m
theorem pickN_in (n : Int) {m : Int} (h : 1 ≤ m) : 0 ≤ pickN n m ∧ pickN n m < m := by
  unfold pickN
  rw [if_neg (by omega)]
  have h1 := Int.tmod_lt_of_pos n (show 0 < m by omega)
  have h2 := Int.lt_tmod_of_pos n (show 0 < m by omega)
  split <;> omega
set_option maxRecDepth 10000
def ltx (bytes : Int) : Int → List ByteArray → Bool
  | _, [] => true
  | n, s :: r => if bytes < IntKind.i64.wrap (n + (s.size : Int)) then false else ltx bytes (IntKind.i64.wrap (n + (s.size : Int))) r
def lightTx (l : List ByteArray) (most bytes : Int) : Bool := !decide (most < (l.length : Int)) && ltx bytes 0 l
theorem lightTx_len {l : List ByteArray} {most bytes : Int} (h : lightTx l most bytes = true) : (l.length : Int) ≤ most := by
  unfold lightTx at h
  simp only [Bool.and_eq_true, Bool.not_eq_true', decide_eq_false_iff_not] at h
  omega
theorem lightTexts_does (l : List ByteArray) (most bytes : Int) (ex : Bool) (hmost : most ≤ 1000000) : Does Tryd.prog 42 [slS ex l, iA most, iA bytes] (fun m => (bA (lightTx l most bytes), m)) := by
  have lenS := fun s => b_lenS (P := Tryd.prog) 9 3 Tryd.underlying9 s
  cases h1 : decide (most < (l.length : Int)) with
  | true =>
    have hr : lightTx l most bytes = false := by unfold lightTx; rw [h1]; rfl
    refine does_of' Tryd.func42 rfl (by kernel_rfl) rfl Tryd.ntmps42 rfl rfl fun Q hQ => ?_
    repeat (first
        | refine tr_seq_k fun _ _ => ?_
        | (refine tr_region ?_; simp only [go_sem, List.getElem?_toArray, str_beq, reduceCtorEq, Nat.reduceEqDiff, Nat.reduceLT, Nat.reduceLeDiff, Nat.reduceAdd, Nat.reduceMul, Nat.reduceSub, Nat.reduceBEq, ↓reduceIte, bne_self_eq_false, Bool.and_false, Bool.false_and, Bool.true_or, Bool.false_or, h1])
        | refine k_of (by assumption) ?_
        | refine tr_block ?_
        | refine tr_scope ?_
        | (refine tr_skip ?_; try simp only [ex_seq, ex_block])
        | (refine tr_label ?_; try simp only [ex_seq, ex_block])
        | (refine tr_exit ?_; try simp only [ex_seq_exit, ex_block_exit, Nat.reduceEqDiff, if_true, if_false, ex_seq, ex_block, reduceCtorEq, ↓reduceIte])
        | (refine tr_ret ?_; try simp only [ex_seq_ret, ex_block_ret]))
    refine tr_cond rfl (fun ht => ?_) (fun hf => ?_)
    · repeat (first
          | refine tr_seq_k fun _ _ => ?_
          | (refine tr_region ?_; simp only [go_sem, List.getElem?_toArray, str_beq, reduceCtorEq, Nat.reduceEqDiff, Nat.reduceLT, Nat.reduceLeDiff, Nat.reduceAdd, Nat.reduceMul, Nat.reduceSub, Nat.reduceBEq, ↓reduceIte, bne_self_eq_false, Bool.and_false, Bool.false_and, Bool.true_or, Bool.false_or])
          | refine k_of (by assumption) ?_
          | refine tr_block ?_
          | refine tr_scope ?_
          | (refine tr_skip ?_; try simp only [ex_seq, ex_block])
          | (refine tr_label ?_; try simp only [ex_seq, ex_block])
          | (refine tr_exit ?_; try simp only [ex_seq_exit, ex_block_exit, Nat.reduceEqDiff, if_true, if_false, ex_seq, ex_block, reduceCtorEq, ↓reduceIte])
          | (refine tr_ret ?_; try simp only [ex_seq_ret, ex_block_ret]))
      refine (hQ _ _ [bA false] ?_ (fun m => ?_)).2 <;> simp only [go_sem, List.getElem?_toArray, str_beq, reduceCtorEq, Nat.reduceEqDiff, Nat.reduceLT, Nat.reduceLeDiff, Nat.reduceAdd, Nat.reduceMul, Nat.reduceSub, Nat.reduceBEq, ↓reduceIte, bne_self_eq_false, Bool.and_false, Bool.false_and, Bool.true_or, Bool.false_or, Tryd.f42, hr]
    · cases hf
  | false =>
    have hz : lightTx l most bytes = ltx bytes 0 l := by unfold lightTx; rw [h1]; rfl
    have hlm : (l.length : Int) ≤ most := by
      have := of_decide_eq_false h1
      omega
    refine does_of' Tryd.func42 rfl (by kernel_rfl) rfl Tryd.ntmps42 rfl rfl fun Q hQ => ?_
    repeat (first
        | refine tr_seq_k fun _ _ => ?_
        | (refine tr_region ?_; simp only [go_sem, List.getElem?_toArray, str_beq, reduceCtorEq, Nat.reduceEqDiff, Nat.reduceLT, Nat.reduceLeDiff, Nat.reduceAdd, Nat.reduceMul, Nat.reduceSub, Nat.reduceBEq, ↓reduceIte, bne_self_eq_false, Bool.and_false, Bool.false_and, Bool.true_or, Bool.false_or, h1])
        | refine k_of (by assumption) ?_
        | refine tr_block ?_
        | refine tr_scope ?_
        | (refine tr_skip ?_; try simp only [ex_seq, ex_block])
        | (refine tr_label ?_; try simp only [ex_seq, ex_block])
        | (refine tr_exit ?_; try simp only [ex_seq_exit, ex_block_exit, Nat.reduceEqDiff, if_true, if_false, ex_seq, ex_block, reduceCtorEq, ↓reduceIte])
        | (refine tr_ret ?_; try simp only [ex_seq_ret, ex_block_ret]))
    refine tr_cond rfl (fun ht => ?_) (fun hf => ?_)
    · cases ht
    · repeat (first
          | refine tr_seq_k fun _ _ => ?_
          | (refine tr_region ?_; simp only [go_sem, List.getElem?_toArray, str_beq, reduceCtorEq, Nat.reduceEqDiff, Nat.reduceLT, Nat.reduceLeDiff, Nat.reduceAdd, Nat.reduceMul, Nat.reduceSub, Nat.reduceBEq, ↓reduceIte, bne_self_eq_false, Bool.and_false, Bool.false_and, Bool.true_or, Bool.false_or])
          | refine k_of (by assumption) ?_
          | refine tr_block ?_
          | refine tr_scope ?_
          | (refine tr_skip ?_; try simp only [ex_seq, ex_block])
          | (refine tr_label ?_; try simp only [ex_seq, ex_block])
          | (refine tr_exit ?_; try simp only [ex_seq_exit, ex_block_exit, Nat.reduceEqDiff, if_true, if_false, ex_seq, ex_block, reduceCtorEq, ↓reduceIte])
          | (refine tr_ret ?_; try simp only [ex_seq_ret, ex_block_ret]))
      refine tr_loop_k (σ := Nat × Int) (fun s => [(0, slS ex l), (1, iA most), (2, iA bytes), (7, iA s.2), (8, iA s.1)]) (fun _ => ⟨[], []⟩)
        (fun s => s.1 ≤ l.length ∧ ltx bytes 0 l = ltx bytes s.2 (l.drop s.1)) (fun s => l.length - s.1) (0, 0) ⟨Nat.zero_le _, rfl⟩ ⟨rfl, rfl, rfl, rfl, rfl, trivial⟩ rfl ?_
      rintro ⟨k, n⟩ ⟨hk, hp⟩ K hK
      simp only at hk hp
      repeat (first
          | refine tr_seq_k fun _ _ => ?_
          | (refine tr_region ?_; simp only [go_sem, List.getElem?_toArray, str_beq, reduceCtorEq, Nat.reduceEqDiff, Nat.reduceLT, Nat.reduceLeDiff, Nat.reduceAdd, Nat.reduceMul, Nat.reduceSub, Nat.reduceBEq, ↓reduceIte, bne_self_eq_false, Bool.and_false, Bool.false_and, Bool.true_or, Bool.false_or])
          | refine k_of (by assumption) ?_
          | refine tr_block ?_
          | refine tr_scope ?_
          | (refine tr_skip ?_; try simp only [ex_seq, ex_block])
          | (refine tr_label ?_; try simp only [ex_seq, ex_block])
          | (refine tr_exit ?_; try simp only [ex_seq_exit, ex_block_exit, Nat.reduceEqDiff, if_true, if_false, ex_seq, ex_block, reduceCtorEq, ↓reduceIte])
          | (refine tr_ret ?_; try simp only [ex_seq_ret, ex_block_ret]))
      refine tr_cond rfl (fun ht => ?_) (fun hf => ?_)
      · have hlt : k < l.length := by simpa using ht
        have ws := wrap_succ (show k ≤ 1000000000 by omega)
        have hd : l.drop k = l[k] :: l.drop (k + 1) := (List.drop_eq_getElem_cons hlt)
        have hu : ltx bytes n (l[k] :: l.drop (k + 1)) = if bytes < IntKind.i64.wrap (n + (l[k].size : Int)) then false else ltx bytes (IntKind.i64.wrap (n + (l[k].size : Int))) (l.drop (k + 1)) := rfl
        rw [hd, hu] at hp
        cases h2 : decide (bytes < IntKind.i64.wrap (n + (l[k].size : Int))) with
        | true =>
          rw [if_pos (of_decide_eq_true h2)] at hp
          have hr : lightTx l most bytes = false := hz.trans hp
          repeat (first
              | refine tr_seq_k fun _ _ => ?_
              | (refine tr_region ?_; simp only [go_sem, List.getElem?_toArray, str_beq, reduceCtorEq, Nat.reduceEqDiff, Nat.reduceLT, Nat.reduceLeDiff, Nat.reduceAdd, Nat.reduceMul, Nat.reduceSub, Nat.reduceBEq, ↓reduceIte, bne_self_eq_false, Bool.and_false, Bool.false_and, Bool.true_or, Bool.false_or, idxS hlt, lenS, h2])
              | refine k_of (by assumption) ?_
              | refine tr_block ?_
              | refine tr_scope ?_
              | (refine tr_skip ?_; try simp only [ex_seq, ex_block])
              | (refine tr_label ?_; try simp only [ex_seq, ex_block])
              | (refine tr_exit ?_; try simp only [ex_seq_exit, ex_block_exit, Nat.reduceEqDiff, if_true, if_false, ex_seq, ex_block, reduceCtorEq, ↓reduceIte])
              | (refine tr_ret ?_; try simp only [ex_seq_ret, ex_block_ret]))
          refine tr_cond rfl (fun ht => ?_) (fun hf => ?_)
          · repeat (first
                | refine tr_seq_k fun _ _ => ?_
                | (refine tr_region ?_; simp only [go_sem, List.getElem?_toArray, str_beq, reduceCtorEq, Nat.reduceEqDiff, Nat.reduceLT, Nat.reduceLeDiff, Nat.reduceAdd, Nat.reduceMul, Nat.reduceSub, Nat.reduceBEq, ↓reduceIte, bne_self_eq_false, Bool.and_false, Bool.false_and, Bool.true_or, Bool.false_or])
                | refine k_of (by assumption) ?_
                | refine tr_block ?_
                | refine tr_scope ?_
                | (refine tr_skip ?_; try simp only [ex_seq, ex_block])
                | (refine tr_label ?_; try simp only [ex_seq, ex_block])
                | (refine tr_exit ?_; try simp only [ex_seq_exit, ex_block_exit, Nat.reduceEqDiff, if_true, if_false, ex_seq, ex_block, reduceCtorEq, ↓reduceIte])
                | (refine tr_ret ?_; try simp only [ex_seq_ret, ex_block_ret]))
            refine (hQ _ _ [bA false] ?_ (fun m => ?_)).2 <;> simp only [go_sem, List.getElem?_toArray, str_beq, reduceCtorEq, Nat.reduceEqDiff, Nat.reduceLT, Nat.reduceLeDiff, Nat.reduceAdd, Nat.reduceMul, Nat.reduceSub, Nat.reduceBEq, ↓reduceIte, bne_self_eq_false, Bool.and_false, Bool.false_and, Bool.true_or, Bool.false_or, Tryd.f42, hr]
          · cases hf
        | false =>
          rw [if_neg (of_decide_eq_false h2)] at hp
          repeat (first
              | refine tr_seq_k fun _ _ => ?_
              | (refine tr_region ?_; simp only [go_sem, List.getElem?_toArray, str_beq, reduceCtorEq, Nat.reduceEqDiff, Nat.reduceLT, Nat.reduceLeDiff, Nat.reduceAdd, Nat.reduceMul, Nat.reduceSub, Nat.reduceBEq, ↓reduceIte, bne_self_eq_false, Bool.and_false, Bool.false_and, Bool.true_or, Bool.false_or, idxS hlt, lenS, h2])
              | refine k_of (by assumption) ?_
              | refine tr_block ?_
              | refine tr_scope ?_
              | (refine tr_skip ?_; try simp only [ex_seq, ex_block])
              | (refine tr_label ?_; try simp only [ex_seq, ex_block])
              | (refine tr_exit ?_; try simp only [ex_seq_exit, ex_block_exit, Nat.reduceEqDiff, if_true, if_false, ex_seq, ex_block, reduceCtorEq, ↓reduceIte])
              | (refine tr_ret ?_; try simp only [ex_seq_ret, ex_block_ret]))
          refine tr_cond rfl (fun ht => ?_) (fun hf => ?_)
          · cases ht
          · repeat (first
                | refine tr_seq_k fun _ _ => ?_
                | (refine tr_region ?_; simp only [go_sem, List.getElem?_toArray, str_beq, reduceCtorEq, Nat.reduceEqDiff, Nat.reduceLT, Nat.reduceLeDiff, Nat.reduceAdd, Nat.reduceMul, Nat.reduceSub, Nat.reduceBEq, ↓reduceIte, bne_self_eq_false, Bool.and_false, Bool.false_and, Bool.true_or, Bool.false_or, ws])
                | refine k_of (by assumption) ?_
                | refine tr_block ?_
                | refine tr_scope ?_
                | (refine tr_skip ?_; try simp only [ex_seq, ex_block])
                | (refine tr_label ?_; try simp only [ex_seq, ex_block])
                | (refine tr_exit ?_; try simp only [ex_seq_exit, ex_block_exit, Nat.reduceEqDiff, if_true, if_false, ex_seq, ex_block, reduceCtorEq, ↓reduceIte])
                | (refine tr_ret ?_; try simp only [ex_seq_ret, ex_block_ret]))
            exact hK (k + 1, IntKind.i64.wrap (n + (l[k].size : Int))) _ _ ⟨hlt, hp⟩ ⟨⟨rfl, rfl, rfl, rfl, rfl, trivial⟩, Keep.refl _, rfl, rfl, Nat.le_refl _, Nat.le_refl _⟩ (by simp only; omega)
      · have hkl : k = l.length := by
          have := of_decide_eq_false hf
          omega
        subst hkl
        rw [List.drop_length] at hp
        have hr : lightTx l most bytes = true := hz.trans hp
        repeat (first
            | refine tr_seq_k fun _ _ => ?_
            | (refine tr_region ?_; simp only [go_sem, List.getElem?_toArray, str_beq, reduceCtorEq, Nat.reduceEqDiff, Nat.reduceLT, Nat.reduceLeDiff, Nat.reduceAdd, Nat.reduceMul, Nat.reduceSub, Nat.reduceBEq, ↓reduceIte, bne_self_eq_false, Bool.and_false, Bool.false_and, Bool.true_or, Bool.false_or])
            | refine k_of (by assumption) ?_
            | refine tr_block ?_
            | refine tr_scope ?_
            | (refine tr_skip ?_; try simp only [ex_seq, ex_block])
            | (refine tr_label ?_; try simp only [ex_seq, ex_block])
            | (refine tr_exit ?_; try simp only [ex_seq_exit, ex_block_exit, Nat.reduceEqDiff, if_true, if_false, ex_seq, ex_block, reduceCtorEq, ↓reduceIte])
            | (refine tr_ret ?_; try simp only [ex_seq_ret, ex_block_ret]))
        refine (hQ _ _ [bA true] ?_ (fun m => ?_)).2 <;> simp only [go_sem, List.getElem?_toArray, str_beq, reduceCtorEq, Nat.reduceEqDiff, Nat.reduceLT, Nat.reduceLeDiff, Nat.reduceAdd, Nat.reduceMul, Nat.reduceSub, Nat.reduceBEq, ↓reduceIte, bne_self_eq_false, Bool.and_false, Bool.false_and, Bool.true_or, Bool.false_or, Tryd.f42, hr]
theorem build0S : aBuildSlice Tryd.prog 23 0 [] = some [] := by kernel_rfl
theorem zero_max : (0 ≤ maxLen) = True := eq_true (Nat.zero_le _)
theorem take_next_eq {T : Type} {a b : List T} {k : Nat} (ha : k < a.length) (hb : k < b.length) (h : a.take k = b.take k) (e : a[k] = b[k]) : a.take (k + 1) = b.take (k + 1) := by
  rw [List.take_succ_eq_append_getElem ha, List.take_succ_eq_append_getElem hb, h, e]
theorem sameS_does (a b : List ByteArray) (ex ex2 : Bool) (hl : a.length ≤ 1000000) : Does Tryd.prog 39 [slS ex a, slS ex2 b] (fun m => (bA (decide (a = b)), m)) := by
  cases h1 : decide ((a.length : Int) = (b.length : Int)) with
  | false =>
    have hr : decide (a = b) = false := decide_eq_false fun e => of_decide_eq_false h1 (by rw [e])
    refine does_of' Tryd.func39 rfl (by kernel_rfl) rfl Tryd.ntmps39 rfl rfl fun Q hQ => ?_
    repeat (first
        | refine tr_seq_k fun _ _ => ?_
        | (refine tr_region ?_; simp only [go_sem, List.getElem?_toArray, str_beq, reduceCtorEq, Nat.reduceEqDiff, Nat.reduceLT, Nat.reduceLeDiff, Nat.reduceAdd, Nat.reduceMul, Nat.reduceSub, Nat.reduceBEq, ↓reduceIte, bne_self_eq_false, Bool.and_false, Bool.false_and, Bool.true_or, Bool.false_or, h1])
        | (refine tr_drawC (id := 6) follows 10000 (by kernel_rfl) ?_; simp only [go_sem, List.getElem?_toArray, str_beq, reduceCtorEq, Nat.reduceEqDiff, Nat.reduceLT, Nat.reduceLeDiff, Nat.reduceAdd, Nat.reduceMul, Nat.reduceSub, Nat.reduceBEq, ↓reduceIte, bne_self_eq_false, Bool.and_false, Bool.false_and, Bool.true_or, Bool.false_or, h1])
        | refine k_of (by assumption) ?_
        | refine tr_block ?_
        | refine tr_scope ?_
        | (refine tr_skip ?_; try simp only [ex_seq, ex_block])
        | (refine tr_label ?_; try simp only [ex_seq, ex_block])
        | (refine tr_exit ?_; try simp only [ex_seq_exit, ex_block_exit, Nat.reduceEqDiff, if_true, if_false, ex_seq, ex_block, reduceCtorEq, ↓reduceIte])
        | (refine tr_ret ?_; try simp only [ex_seq_ret, ex_block_ret]))
    refine tr_cond rfl (fun ht => ?_) (fun hf => ?_)
    · repeat (first
          | refine tr_seq_k fun _ _ => ?_
          | (refine tr_region ?_; simp only [go_sem, List.getElem?_toArray, str_beq, reduceCtorEq, Nat.reduceEqDiff, Nat.reduceLT, Nat.reduceLeDiff, Nat.reduceAdd, Nat.reduceMul, Nat.reduceSub, Nat.reduceBEq, ↓reduceIte, bne_self_eq_false, Bool.and_false, Bool.false_and, Bool.true_or, Bool.false_or])
          | (refine tr_drawC (id := 6) follows 10000 (by kernel_rfl) ?_; simp only [go_sem, List.getElem?_toArray, str_beq, reduceCtorEq, Nat.reduceEqDiff, Nat.reduceLT, Nat.reduceLeDiff, Nat.reduceAdd, Nat.reduceMul, Nat.reduceSub, Nat.reduceBEq, ↓reduceIte, bne_self_eq_false, Bool.and_false, Bool.false_and, Bool.true_or, Bool.false_or])
          | refine k_of (by assumption) ?_
          | refine tr_block ?_
          | refine tr_scope ?_
          | (refine tr_skip ?_; try simp only [ex_seq, ex_block])
          | (refine tr_label ?_; try simp only [ex_seq, ex_block])
          | (refine tr_exit ?_; try simp only [ex_seq_exit, ex_block_exit, Nat.reduceEqDiff, if_true, if_false, ex_seq, ex_block, reduceCtorEq, ↓reduceIte])
          | (refine tr_ret ?_; try simp only [ex_seq_ret, ex_block_ret]))
      refine (hQ _ _ [bA false] ?_ (fun m => ?_)).2 <;> simp only [go_sem, List.getElem?_toArray, str_beq, reduceCtorEq, Nat.reduceEqDiff, Nat.reduceLT, Nat.reduceLeDiff, Nat.reduceAdd, Nat.reduceMul, Nat.reduceSub, Nat.reduceBEq, ↓reduceIte, bne_self_eq_false, Bool.and_false, Bool.false_and, Bool.true_or, Bool.false_or, Tryd.f39, hr]
    · cases hf
  | true =>
    have hlen : a.length = b.length := by
      have := of_decide_eq_true h1
      omega
    refine does_of' Tryd.func39 rfl (by kernel_rfl) rfl Tryd.ntmps39 rfl rfl fun Q hQ => ?_
    repeat (first
        | refine tr_seq_k fun _ _ => ?_
        | (refine tr_region ?_; simp only [go_sem, List.getElem?_toArray, str_beq, reduceCtorEq, Nat.reduceEqDiff, Nat.reduceLT, Nat.reduceLeDiff, Nat.reduceAdd, Nat.reduceMul, Nat.reduceSub, Nat.reduceBEq, ↓reduceIte, bne_self_eq_false, Bool.and_false, Bool.false_and, Bool.true_or, Bool.false_or, h1])
        | (refine tr_drawC (id := 6) follows 10000 (by kernel_rfl) ?_; simp only [go_sem, List.getElem?_toArray, str_beq, reduceCtorEq, Nat.reduceEqDiff, Nat.reduceLT, Nat.reduceLeDiff, Nat.reduceAdd, Nat.reduceMul, Nat.reduceSub, Nat.reduceBEq, ↓reduceIte, bne_self_eq_false, Bool.and_false, Bool.false_and, Bool.true_or, Bool.false_or, h1])
        | refine k_of (by assumption) ?_
        | refine tr_block ?_
        | refine tr_scope ?_
        | (refine tr_skip ?_; try simp only [ex_seq, ex_block])
        | (refine tr_label ?_; try simp only [ex_seq, ex_block])
        | (refine tr_exit ?_; try simp only [ex_seq_exit, ex_block_exit, Nat.reduceEqDiff, if_true, if_false, ex_seq, ex_block, reduceCtorEq, ↓reduceIte])
        | (refine tr_ret ?_; try simp only [ex_seq_ret, ex_block_ret]))
    refine tr_cond rfl (fun ht => ?_) (fun hf => ?_)
    · cases ht
    · repeat (first
          | refine tr_seq_k fun _ _ => ?_
          | (refine tr_region ?_; simp only [go_sem, List.getElem?_toArray, str_beq, reduceCtorEq, Nat.reduceEqDiff, Nat.reduceLT, Nat.reduceLeDiff, Nat.reduceAdd, Nat.reduceMul, Nat.reduceSub, Nat.reduceBEq, ↓reduceIte, bne_self_eq_false, Bool.and_false, Bool.false_and, Bool.true_or, Bool.false_or])
          | (refine tr_drawC (id := 6) follows 10000 (by kernel_rfl) ?_; simp only [go_sem, List.getElem?_toArray, str_beq, reduceCtorEq, Nat.reduceEqDiff, Nat.reduceLT, Nat.reduceLeDiff, Nat.reduceAdd, Nat.reduceMul, Nat.reduceSub, Nat.reduceBEq, ↓reduceIte, bne_self_eq_false, Bool.and_false, Bool.false_and, Bool.true_or, Bool.false_or])
          | refine k_of (by assumption) ?_
          | refine tr_block ?_
          | refine tr_scope ?_
          | (refine tr_skip ?_; try simp only [ex_seq, ex_block])
          | (refine tr_label ?_; try simp only [ex_seq, ex_block])
          | (refine tr_exit ?_; try simp only [ex_seq_exit, ex_block_exit, Nat.reduceEqDiff, if_true, if_false, ex_seq, ex_block, reduceCtorEq, ↓reduceIte])
          | (refine tr_ret ?_; try simp only [ex_seq_ret, ex_block_ret]))
      refine tr_loop_k (σ := Nat) (fun k => [(0, slS ex a), (1, slS ex2 b), (5, iA k)]) (fun _ => ⟨[], []⟩)
        (fun k => k ≤ a.length ∧ a.take k = b.take k) (fun k => a.length - k) 0 ⟨Nat.zero_le _, rfl⟩ ⟨rfl, rfl, rfl, trivial⟩ rfl ?_
      rintro k ⟨hk, hp⟩ K hK
      repeat (first
          | refine tr_seq_k fun _ _ => ?_
          | (refine tr_region ?_; simp only [go_sem, List.getElem?_toArray, str_beq, reduceCtorEq, Nat.reduceEqDiff, Nat.reduceLT, Nat.reduceLeDiff, Nat.reduceAdd, Nat.reduceMul, Nat.reduceSub, Nat.reduceBEq, ↓reduceIte, bne_self_eq_false, Bool.and_false, Bool.false_and, Bool.true_or, Bool.false_or])
          | (refine tr_drawC (id := 6) follows 10000 (by kernel_rfl) ?_; simp only [go_sem, List.getElem?_toArray, str_beq, reduceCtorEq, Nat.reduceEqDiff, Nat.reduceLT, Nat.reduceLeDiff, Nat.reduceAdd, Nat.reduceMul, Nat.reduceSub, Nat.reduceBEq, ↓reduceIte, bne_self_eq_false, Bool.and_false, Bool.false_and, Bool.true_or, Bool.false_or])
          | refine k_of (by assumption) ?_
          | refine tr_block ?_
          | refine tr_scope ?_
          | (refine tr_skip ?_; try simp only [ex_seq, ex_block])
          | (refine tr_label ?_; try simp only [ex_seq, ex_block])
          | (refine tr_exit ?_; try simp only [ex_seq_exit, ex_block_exit, Nat.reduceEqDiff, if_true, if_false, ex_seq, ex_block, reduceCtorEq, ↓reduceIte])
          | (refine tr_ret ?_; try simp only [ex_seq_ret, ex_block_ret]))
      refine tr_cond rfl (fun ht => ?_) (fun hf => ?_)
      · have hlt : k < a.length := by simpa using ht
        have hlb : k < b.length := by omega
        have ws := wrap_succ (show k ≤ 1000000000 by omega)
        cases h2 : decide (a[k] = b[k]) with
        | false =>
          have hr : decide (a = b) = false := decide_eq_false fun e => of_decide_eq_false h2 (by subst e; rfl)
          repeat (first
              | refine tr_seq_k fun _ _ => ?_
              | (refine tr_region ?_; simp only [go_sem, List.getElem?_toArray, str_beq, reduceCtorEq, Nat.reduceEqDiff, Nat.reduceLT, Nat.reduceLeDiff, Nat.reduceAdd, Nat.reduceMul, Nat.reduceSub, Nat.reduceBEq, ↓reduceIte, bne_self_eq_false, Bool.and_false, Bool.false_and, Bool.true_or, Bool.false_or, idxS hlt, idxS hlb, h2])
              | (refine tr_drawC (id := 6) follows 10000 (by kernel_rfl) ?_; simp only [go_sem, List.getElem?_toArray, str_beq, reduceCtorEq, Nat.reduceEqDiff, Nat.reduceLT, Nat.reduceLeDiff, Nat.reduceAdd, Nat.reduceMul, Nat.reduceSub, Nat.reduceBEq, ↓reduceIte, bne_self_eq_false, Bool.and_false, Bool.false_and, Bool.true_or, Bool.false_or, idxS hlt, idxS hlb, h2])
              | refine k_of (by assumption) ?_
              | refine tr_block ?_
              | refine tr_scope ?_
              | (refine tr_skip ?_; try simp only [ex_seq, ex_block])
              | (refine tr_label ?_; try simp only [ex_seq, ex_block])
              | (refine tr_exit ?_; try simp only [ex_seq_exit, ex_block_exit, Nat.reduceEqDiff, if_true, if_false, ex_seq, ex_block, reduceCtorEq, ↓reduceIte])
              | (refine tr_ret ?_; try simp only [ex_seq_ret, ex_block_ret]))
          refine tr_cond rfl (fun ht => ?_) (fun hf => ?_)
          · repeat (first
                | refine tr_seq_k fun _ _ => ?_
                | (refine tr_region ?_; simp only [go_sem, List.getElem?_toArray, str_beq, reduceCtorEq, Nat.reduceEqDiff, Nat.reduceLT, Nat.reduceLeDiff, Nat.reduceAdd, Nat.reduceMul, Nat.reduceSub, Nat.reduceBEq, ↓reduceIte, bne_self_eq_false, Bool.and_false, Bool.false_and, Bool.true_or, Bool.false_or])
                | (refine tr_drawC (id := 6) follows 10000 (by kernel_rfl) ?_; simp only [go_sem, List.getElem?_toArray, str_beq, reduceCtorEq, Nat.reduceEqDiff, Nat.reduceLT, Nat.reduceLeDiff, Nat.reduceAdd, Nat.reduceMul, Nat.reduceSub, Nat.reduceBEq, ↓reduceIte, bne_self_eq_false, Bool.and_false, Bool.false_and, Bool.true_or, Bool.false_or])
                | refine k_of (by assumption) ?_
                | refine tr_block ?_
                | refine tr_scope ?_
                | (refine tr_skip ?_; try simp only [ex_seq, ex_block])
                | (refine tr_label ?_; try simp only [ex_seq, ex_block])
                | (refine tr_exit ?_; try simp only [ex_seq_exit, ex_block_exit, Nat.reduceEqDiff, if_true, if_false, ex_seq, ex_block, reduceCtorEq, ↓reduceIte])
                | (refine tr_ret ?_; try simp only [ex_seq_ret, ex_block_ret]))
            refine (hQ _ _ [bA false] ?_ (fun m => ?_)).2 <;> simp only [go_sem, List.getElem?_toArray, str_beq, reduceCtorEq, Nat.reduceEqDiff, Nat.reduceLT, Nat.reduceLeDiff, Nat.reduceAdd, Nat.reduceMul, Nat.reduceSub, Nat.reduceBEq, ↓reduceIte, bne_self_eq_false, Bool.and_false, Bool.false_and, Bool.true_or, Bool.false_or, Tryd.f39, hr]
          · cases hf
        | true =>
          repeat (first
              | refine tr_seq_k fun _ _ => ?_
              | (refine tr_region ?_; simp only [go_sem, List.getElem?_toArray, str_beq, reduceCtorEq, Nat.reduceEqDiff, Nat.reduceLT, Nat.reduceLeDiff, Nat.reduceAdd, Nat.reduceMul, Nat.reduceSub, Nat.reduceBEq, ↓reduceIte, bne_self_eq_false, Bool.and_false, Bool.false_and, Bool.true_or, Bool.false_or, idxS hlt, idxS hlb, h2])
              | (refine tr_drawC (id := 6) follows 10000 (by kernel_rfl) ?_; simp only [go_sem, List.getElem?_toArray, str_beq, reduceCtorEq, Nat.reduceEqDiff, Nat.reduceLT, Nat.reduceLeDiff, Nat.reduceAdd, Nat.reduceMul, Nat.reduceSub, Nat.reduceBEq, ↓reduceIte, bne_self_eq_false, Bool.and_false, Bool.false_and, Bool.true_or, Bool.false_or, idxS hlt, idxS hlb, h2])
              | refine k_of (by assumption) ?_
              | refine tr_block ?_
              | refine tr_scope ?_
              | (refine tr_skip ?_; try simp only [ex_seq, ex_block])
              | (refine tr_label ?_; try simp only [ex_seq, ex_block])
              | (refine tr_exit ?_; try simp only [ex_seq_exit, ex_block_exit, Nat.reduceEqDiff, if_true, if_false, ex_seq, ex_block, reduceCtorEq, ↓reduceIte])
              | (refine tr_ret ?_; try simp only [ex_seq_ret, ex_block_ret]))
          refine tr_cond rfl (fun ht => ?_) (fun hf => ?_)
          · cases ht
          · repeat (first
                | refine tr_seq_k fun _ _ => ?_
                | (refine tr_region ?_; simp only [go_sem, List.getElem?_toArray, str_beq, reduceCtorEq, Nat.reduceEqDiff, Nat.reduceLT, Nat.reduceLeDiff, Nat.reduceAdd, Nat.reduceMul, Nat.reduceSub, Nat.reduceBEq, ↓reduceIte, bne_self_eq_false, Bool.and_false, Bool.false_and, Bool.true_or, Bool.false_or, ws])
                | (refine tr_drawC (id := 6) follows 10000 (by kernel_rfl) ?_; simp only [go_sem, List.getElem?_toArray, str_beq, reduceCtorEq, Nat.reduceEqDiff, Nat.reduceLT, Nat.reduceLeDiff, Nat.reduceAdd, Nat.reduceMul, Nat.reduceSub, Nat.reduceBEq, ↓reduceIte, bne_self_eq_false, Bool.and_false, Bool.false_and, Bool.true_or, Bool.false_or, ws])
                | refine k_of (by assumption) ?_
                | refine tr_block ?_
                | refine tr_scope ?_
                | (refine tr_skip ?_; try simp only [ex_seq, ex_block])
                | (refine tr_label ?_; try simp only [ex_seq, ex_block])
                | (refine tr_exit ?_; try simp only [ex_seq_exit, ex_block_exit, Nat.reduceEqDiff, if_true, if_false, ex_seq, ex_block, reduceCtorEq, ↓reduceIte])
                | (refine tr_ret ?_; try simp only [ex_seq_ret, ex_block_ret]))
            exact hK (k + 1) _ _ ⟨hlt, take_next_eq hlt hlb hp (of_decide_eq_true h2)⟩ ⟨⟨rfl, rfl, rfl, trivial⟩, Keep.refl _, rfl, rfl, Nat.le_refl _, Nat.le_refl _⟩ (by omega)
      · have hkl : k = a.length := by
          have := of_decide_eq_false hf
          omega
        have hr : decide (a = b) = true := by
          rw [hkl, List.take_length, hlen, List.take_length] at hp
          exact decide_eq_true hp
        repeat (first
            | refine tr_seq_k fun _ _ => ?_
            | (refine tr_region ?_; simp only [go_sem, List.getElem?_toArray, str_beq, reduceCtorEq, Nat.reduceEqDiff, Nat.reduceLT, Nat.reduceLeDiff, Nat.reduceAdd, Nat.reduceMul, Nat.reduceSub, Nat.reduceBEq, ↓reduceIte, bne_self_eq_false, Bool.and_false, Bool.false_and, Bool.true_or, Bool.false_or])
            | (refine tr_drawC (id := 6) follows 10000 (by kernel_rfl) ?_; simp only [go_sem, List.getElem?_toArray, str_beq, reduceCtorEq, Nat.reduceEqDiff, Nat.reduceLT, Nat.reduceLeDiff, Nat.reduceAdd, Nat.reduceMul, Nat.reduceSub, Nat.reduceBEq, ↓reduceIte, bne_self_eq_false, Bool.and_false, Bool.false_and, Bool.true_or, Bool.false_or])
            | refine k_of (by assumption) ?_
            | refine tr_block ?_
            | refine tr_scope ?_
            | (refine tr_skip ?_; try simp only [ex_seq, ex_block])
            | (refine tr_label ?_; try simp only [ex_seq, ex_block])
            | (refine tr_exit ?_; try simp only [ex_seq_exit, ex_block_exit, Nat.reduceEqDiff, if_true, if_false, ex_seq, ex_block, reduceCtorEq, ↓reduceIte])
            | (refine tr_ret ?_; try simp only [ex_seq_ret, ex_block_ret]))
        refine (hQ _ _ [bA true] ?_ (fun m => ?_)).2 <;> simp only [go_sem, List.getElem?_toArray, str_beq, reduceCtorEq, Nat.reduceEqDiff, Nat.reduceLT, Nat.reduceLeDiff, Nat.reduceAdd, Nat.reduceMul, Nat.reduceSub, Nat.reduceBEq, ↓reduceIte, bne_self_eq_false, Bool.and_false, Bool.false_and, Bool.true_or, Bool.false_or, Tryd.f39, hr]
end Go.Proofs.YtaeehadibckcjaaDoor

/-
  Chapter 5: matching in plain Lean, and its law.
-/
namespace Go.Proofs.YtaeehadibckcjaaDoor
open Go.Vs Go.Vs.Ab
set_option maxRecDepth 100000
def palike (a b : Atm) : Bool := decide (a.says = b.says) && decide (a.pred = b.pred) && decide (a.n = b.n) && decide (0 ≤ a.n) && decide (a.n ≤ 4)
def pfit (l : List Bd) (p : Atm) (i : Nat) : Bool := !(decide ((i : Int) < p.n) && (p.arg i).v && (decide ((p.arg i).name = ⟨#[]⟩) || ((pget l (p.arg i).name).isSome && ((pget l (p.arg i).name).getD noTm).v)))
def pstep (out : List Bd) (x y : Tm) : Option (List Bd) :=
  if x.v = false then (if x = y then some out else none)
  else if (pget out x.name).isSome then (if (pget out x.name).getD noTm = y then some out else none)
  else if pbE out x.name y = 0 then some (pbL out x.name y) else none
def pextK (l : List Bd) (p g : Atm) : Nat → Option (List Bd)
  | 0 => some l
  | k + 1 => (pextK l p g k).bind fun out => pstep out (p.arg k) (g.arg k)
def pextend (l : List Bd) (p g : Atm) : Option (List Bd) :=
  if (pcheck l && palike p g && g.ground) = false then none
  else if ((List.range 4).all (pfit l p)) = false then none
  else pextK l p g p.count
theorem palike_iff {a b : Atm} : palike a b = true ↔ a.says = b.says ∧ a.pred = b.pred ∧ a.n = b.n ∧ 0 ≤ a.n ∧ a.n ≤ 4 := by
  unfold palike
  simp only [Bool.and_eq_true, decide_eq_true_eq]
  exact ⟨fun ⟨⟨⟨⟨a, b⟩, c⟩, d⟩, e⟩ => ⟨a, b, c, d, e⟩, fun ⟨a, b, c, d, e⟩ => ⟨⟨⟨⟨a, b⟩, c⟩, d⟩, e⟩⟩
theorem Tm.eta (t : Tm) : t = ⟨t.v, t.name⟩ := rfl
def gr (l : List Bd) : Prop := ∀ n t, pget l n = some t → t.v = false
theorem pterm_gr {l : List Bd} {u : Tm} (h : u.v = false) : pterm l u = u := by
  unfold pterm
  rw [h]
  rfl
theorem pstep_some {out out' : List Bd} {x y : Tm} (hg : gr out) (hy : y.v = false) (h : pstep out x y = some out') :
    (x.v = false → x = y ∧ out' = out) ∧ (x.v = true → pget out' x.name = some y ∧ (∀ n, n ≠ x.name → pget out' n = pget out n) ∧ (∀ z, pget out x.name = some z → z = y ∧ out' = out) ∧ (pget out x.name = none → y.name ≠ ⟨#[]⟩ ∧ x.name ≠ ⟨#[]⟩ ∧ pcheck out' = true ∧ out'.length = out.length + 1)) := by
  unfold pstep at h
  split at h
  · rename_i hv
    split at h
    · rename_i he
      injection h with h
      exact ⟨fun _ => ⟨he, h.symm⟩, fun e => by rw [hv] at e; cases e⟩
    · cases h
  · rename_i hv
    split at h
    · rename_i hs
      split at h
      · rename_i he
        injection h with h
        subst h
        refine ⟨fun e => absurd e hv, fun _ => ?_⟩
        cases hz : pget out x.name with
        | none => rw [hz] at hs; cases hs
        | some z =>
          rw [hz] at he
          have he : z = y := he
          refine ⟨by rw [he], fun _ _ => rfl, fun w hw => ?_, fun e => by cases e⟩
          injection hw with hw
          exact ⟨hw ▸ he, rfl⟩
      · cases h
    · rename_i hs
      split at h
      · rename_i hE
        injection h with h
        subst h
        refine ⟨fun e => absurd e hv, fun _ => ?_⟩
        obtain ⟨g1, g2, g3, g4, g5⟩ := pbE_zero hE
        have hpt : pterm out y = y := pterm_gr hy
        refine ⟨by rw [bind_get hE, if_pos rfl, hpt], fun n hn => ?_, fun z hz => (by rw [g4] at hz; cases hz), fun _ => ⟨g3, g2, bind_check hE, pbL_length hE⟩⟩
        rw [bind_get hE, if_neg (fun e => hn e.symm)]
        cases hz : pget out n with
        | none => rfl
        | some z => exact congrArg some (pterm_gr (hg n z hz))
      · cases h
theorem pstep_ok {out : List Bd} {x y : Tm} (hc : pcheck out = true) (hy : y.v = false) (h0 : x.v = false → x = y) (h1 : x.v = true → x.name ≠ ⟨#[]⟩ ∧ (∀ z, pget out x.name = some z → z = y) ∧ (pget out x.name = none → y.name ≠ ⟨#[]⟩)) : ∃ out', pstep out x y = some out' := by
  unfold pstep
  by_cases hv : x.v = false
  · rw [if_pos hv, if_pos (h0 hv)]
    exact ⟨_, rfl⟩
  · rw [if_neg hv]
    have hv' : x.v = true := by simpa using hv
    obtain ⟨g1, g2, g3⟩ := h1 hv'
    cases hz : pget out x.name with
    | some z =>
      rw [if_pos (show (some z).isSome = true from rfl), if_pos (show (some z).getD noTm = y from g2 z hz)]
      exact ⟨_, rfl⟩
    | none =>
      have hyv : y = ⟨false, y.name⟩ := by rw [← hy]
      have hE : pbE out x.name y = 0 := by
        rw [hyv]
        exact pbE_ok hc g1 (g3 hz) hz
      rw [if_neg (by simp), if_pos hE]
      exact ⟨_, rfl⟩
structure MInv (l : List Bd) (p g : Atm) (k : Nat) (out : List Bd) : Prop where
  check : pcheck out = true
  gr : gr out
  fix : ∀ i, i < k → (p.arg i).v = false → p.arg i = g.arg i
  got : ∀ i, i < k → (p.arg i).v = true → pget out (p.arg i).name = some (g.arg i)
  old : ∀ n z, pget l n = some z → pget out n = some z
  new : ∀ n, pget l n = none → (∀ i, i < k → (p.arg i).v = true → (p.arg i).name ≠ n) → pget out n = none
  ne : ∀ i, i < k → (p.arg i).v = true → pget l (p.arg i).name = none → (g.arg i).name ≠ ⟨#[]⟩ ∧ (p.arg i).name ≠ ⟨#[]⟩
theorem minv_next {l : List Bd} {p g : Atm} {k : Nat} {out out' : List Bd} (hgk : (g.arg k).v = false) (I : MInv l p g k out) (h : pstep out (p.arg k) (g.arg k) = some out') : MInv l p g (k + 1) out' := by
  obtain ⟨s0, s1⟩ := pstep_some I.gr hgk h
  cases hv : (p.arg k).v with
  | false =>
    obtain ⟨e1, rfl⟩ := s0 hv
    refine ⟨I.check, I.gr, fun i hi hiv => ?_, fun i hi hiv => ?_, I.old, fun n hn hi => I.new n hn fun i h1 h2 => hi i (by omega) h2, fun i hi hiv => ?_⟩
    · by_cases e : i = k
      · subst e; exact e1
      · exact I.fix i (by omega) hiv
    · by_cases e : i = k
      · subst e; rw [hv] at hiv; cases hiv
      · exact I.got i (by omega) hiv
    · by_cases e : i = k
      · subst e; rw [hv] at hiv; cases hiv
      · exact I.ne i (by omega) hiv
  | true =>
    obtain ⟨t1, t2, t3, t4⟩ := s1 hv
    have hchk : pcheck out' = true := by
      cases hz : pget out (p.arg k).name with
      | none => exact (t4 hz).2.2.1
      | some z => rw [(t3 z hz).2]; exact I.check
    have same : ∀ n z, pget out n = some z → pget out' n = some z := fun n z hz => by
      by_cases e : n = (p.arg k).name
      · subst e
        rw [(t3 z hz).2]
        exact hz
      · rw [t2 n e]; exact hz
    refine ⟨hchk, fun n t ht => ?_, fun i hi hiv => ?_, fun i hi hiv => ?_, fun n z hz => same n z (I.old n z hz), fun n hn hi => ?_, fun i hi hiv hl => ?_⟩
    · by_cases e : n = (p.arg k).name
      · subst e
        rw [t1] at ht
        injection ht with ht
        rw [← ht]; exact hgk
      · rw [t2 n e] at ht
        exact I.gr n t ht
    · by_cases e : i = k
      · subst e; rw [hv] at hiv; cases hiv
      · exact I.fix i (by omega) hiv
    · by_cases e : i = k
      · subst e; exact t1
      · exact same _ _ (I.got i (by omega) hiv)
    · have e : n ≠ (p.arg k).name := fun e => hi k (by omega) hv e.symm
      rw [t2 n e]
      exact I.new n hn fun i h1 h2 => hi i (by omega) h2
    · by_cases e : i = k
      · subst e
        cases hz : pget out (p.arg i).name with
        | none => exact ⟨(t4 hz).1, (t4 hz).2.1⟩
        | some z =>
          by_cases hex : ∃ j, j < i ∧ (p.arg j).v = true ∧ (p.arg j).name = (p.arg i).name
          · obtain ⟨j, h1, h2, h3⟩ := hex
            have hj := I.ne j h1 h2 (by rw [h3]; exact hl)
            have hjg := I.got j h1 h2
            rw [h3, hz] at hjg
            injection hjg with hjg
            have := (t3 z hz).1
            rw [← h3]
            refine ⟨?_, hj.2⟩
            rw [← this, hjg]
            exact hj.1
          · have := I.new (p.arg i).name hl fun j h1 h2 h3 => hex ⟨j, h1, h2, h3⟩
            rw [this] at hz
            cases hz
      · exact I.ne i (by omega) hiv hl
theorem minv_all {l : List Bd} {p g : Atm} (hc : pcheck l = true) (hl : gr l) : ∀ {k : Nat} {out : List Bd}, (∀ i, i < k → (g.arg i).v = false) → pextK l p g k = some out → MInv l p g k out
  | 0, out, _, h => by
    injection h with h
    subst h
    exact ⟨hc, hl, fun i hi => absurd hi (Nat.not_lt_zero _), fun i hi => absurd hi (Nat.not_lt_zero _), fun _ _ h => h, fun n hn _ => hn, fun i hi => absurd hi (Nat.not_lt_zero _)⟩
  | k + 1, out, hg, h => by
    unfold pextK at h
    rw [Option.bind_eq_some_iff] at h
    obtain ⟨o, h1, h2⟩ := h
    exact minv_next (hg k (by omega)) (minv_all hc hl (fun i hi => hg i (by omega)) h1) h2
theorem pextK_ok {l : List Bd} {p g : Atm} (hc : pcheck l = true) (hl : gr l) : ∀ {k : Nat}, (∀ i, i < k → (g.arg i).v = false) → (∀ i, i < k → (p.arg i).v = false → p.arg i = g.arg i) →
    (∀ i, i < k → (p.arg i).v = true → (p.arg i).name ≠ ⟨#[]⟩ ∧ (∀ z, pget l (p.arg i).name = some z → z = g.arg i) ∧ (pget l (p.arg i).name = none → (g.arg i).name ≠ ⟨#[]⟩)) →
    (∀ i j, i < k → j < k → (p.arg i).v = true → (p.arg j).v = true → (p.arg i).name = (p.arg j).name → g.arg i = g.arg j) → ∃ out, pextK l p g k = some out
  | 0, _, _, _, _ => ⟨l, rfl⟩
  | k + 1, hg, h1, h2, h3 => by
    obtain ⟨o, ho⟩ := pextK_ok (k := k) hc hl (fun i hi => hg i (by omega)) (fun i hi => h1 i (by omega)) (fun i hi => h2 i (by omega)) (fun i j hi hj => h3 i j (by omega) (by omega))
    have I := minv_all hc hl (fun i hi => hg i (by omega)) ho
    obtain ⟨o', ho'⟩ := pstep_ok (out := o) (x := p.arg k) (y := g.arg k) I.check (hg k (by omega)) (h1 k (by omega)) (fun hv => by
      obtain ⟨g1, g2, g3⟩ := h2 k (by omega) hv
      refine ⟨g1, fun z hz => ?_, fun hz => ?_⟩
      · cases hz0 : pget l (p.arg k).name with
        | some w =>
          rw [I.old _ w hz0] at hz
          injection hz with hz
          rw [← hz]
          exact g2 w hz0
        | none =>
          by_cases hex : ∃ j, j < k ∧ (p.arg j).v = true ∧ (p.arg j).name = (p.arg k).name
          · obtain ⟨j, q1, q2, q3⟩ := hex
            have := I.got j q1 q2
            rw [q3, hz] at this
            injection this with this
            rw [this]
            exact h3 j k (by omega) (by omega) q2 hv q3
          · rw [I.new _ hz0 fun j q1 q2 q3 => hex ⟨j, q1, q2, q3⟩] at hz
            cases hz
      · cases hz0 : pget l (p.arg k).name with
        | some w => rw [I.old _ w hz0] at hz; cases hz
        | none => exact g3 hz0)
    refine ⟨o', ?_⟩
    unfold pextK
    rw [ho]
    exact ho'
theorem pfit_all {l : List Bd} {p : Atm} : (List.range 4).all (pfit l p) = true ↔ ∀ i : Nat, i < 4 → (i : Int) < p.n → (p.arg i).v = true → (p.arg i).name ≠ ⟨#[]⟩ ∧ ∀ z, pget l (p.arg i).name = some z → z.v = false := by
  rw [List.all_eq_true]
  constructor
  · intro h i hi hn hv
    have := h i (List.mem_range.2 hi)
    unfold pfit at this
    simp only [hn, hv, decide_true, Bool.true_and, Bool.not_eq_true', Bool.or_eq_false_iff, decide_eq_false_iff_not, Bool.and_eq_false_iff] at this
    refine ⟨this.1, fun z hz => ?_⟩
    rw [hz] at this
    rcases this.2 with h | h
    · cases h
    · exact h
  · intro h i hi
    have h4 := List.mem_range.1 hi
    unfold pfit
    by_cases hn : (i : Int) < p.n
    · cases hv : (p.arg i).v with
      | false => simp
      | true =>
        obtain ⟨g1, g2⟩ := h i h4 hn hv
        cases hz : pget l (p.arg i).name with
        | none => simp [g1]
        | some z => simp [g1, g2 z hz]
    · simp [hn]
theorem pextend_some {l : List Bd} {p g : Atm} {out : List Bd} (hl : gr l) (h : pextend l p g = some out) : pcheck l = true ∧ palike p g = true ∧ g.ground = true ∧ (p.count : Int) = p.n ∧ MInv l p g p.count out := by
  unfold pextend at h
  split at h
  · cases h
  · rename_i h1
    split at h
    · cases h
    · rename_i h2
      simp only [Bool.not_eq_false, Bool.and_eq_true] at h1
      obtain ⟨⟨a1, a2⟩, a3⟩ := h1
      obtain ⟨b1, b2, b3, b4, b5⟩ := palike_iff.1 a2
      have hn := count_n b4 b5
      have hgc : g.count = p.count := by unfold Atm.count; rw [b3]
      exact ⟨a1, a2, a3, hn, minv_all a1 hl (fun i hi => ground_iff.1 a3 i (by rw [hgc]; exact hi)) h⟩
theorem pextend_ok {l : List Bd} {p g : Atm} (hl : gr l) (hc : pcheck l = true) (ha : palike p g = true) (hg : g.ground = true) (h1 : ∀ i, i < p.count → (p.arg i).v = false → p.arg i = g.arg i)
    (h2 : ∀ i, i < p.count → (p.arg i).v = true → (p.arg i).name ≠ ⟨#[]⟩ ∧ (∀ z, pget l (p.arg i).name = some z → z = g.arg i) ∧ (pget l (p.arg i).name = none → (g.arg i).name ≠ ⟨#[]⟩))
    (h3 : ∀ i j, i < p.count → j < p.count → (p.arg i).v = true → (p.arg j).v = true → (p.arg i).name = (p.arg j).name → g.arg i = g.arg j) : ∃ out, pextend l p g = some out := by
  obtain ⟨b1, b2, b3, b4, b5⟩ := palike_iff.1 ha
  have hn := count_n b4 b5
  have hgc : g.count = p.count := by unfold Atm.count; rw [b3]
  obtain ⟨out, ho⟩ := pextK_ok (l := l) (p := p) (g := g) hc hl (fun i hi => ground_iff.1 hg i (by rw [hgc]; exact hi)) h1 h2 h3
  refine ⟨out, ?_⟩
  unfold pextend
  rw [if_neg (by simp [hc, ha, hg]), if_neg]
  · exact ho
  · rw [pfit_all.2 fun i hi hin hv => ⟨(h2 i (by omega) hv).1, fun z hz => hl _ z hz⟩]
    exact fun e => Bool.noConfusion e
end Go.Proofs.YtaeehadibckcjaaDoor

/-
  Chapter 5: the plain laws of matching.
-/
namespace Go.Proofs.YtaeehadibckcjaaDoor
open Go.Vs Go.Vs.Ab
set_option maxRecDepth 100000
/-! ### under -/
def pidx (p : Atm) (i : Nat) : Option Nat := (List.range i).find? fun j => decide (p.arg j = p.arg i)
def pundAt (a p : Atm) (i : Nat) : Bool :=
  if (p.arg i).v = false then decide (p.arg i = a.arg i) else match pidx p i with
    | some j => decide (a.arg j = a.arg i)
    | none => true
def pund (a p : Atm) : Bool := palike a p && (List.range 4).all fun i => !decide (i < a.count) || pundAt a p i
theorem pidx_some {p : Atm} {i j : Nat} (h : pidx p i = some j) : j < i ∧ p.arg j = p.arg i := by
  unfold pidx at h
  have h1 := List.mem_of_find?_eq_some h
  have h2 := List.find?_some h
  exact ⟨List.mem_range.1 h1, by simpa using h2⟩
theorem pidx_none {p : Atm} {i : Nat} (h : pidx p i = none) : ∀ j, j < i → p.arg j ≠ p.arg i := fun j hj e => by
  unfold pidx at h
  rw [List.find?_eq_none] at h
  have := h j (List.mem_range.2 hj)
  simp [e] at this
theorem pund_iff {a p : Atm} : pund a p = true ↔ palike a p = true ∧ (∀ i, i < a.count → (p.arg i).v = false → p.arg i = a.arg i) ∧ ∀ i j, i < a.count → j < a.count → (p.arg i).v = true → p.arg i = p.arg j → a.arg i = a.arg j := by
  have c4 := a.count_le
  unfold pund
  rw [Bool.and_eq_true, List.all_eq_true]
  constructor
  · rintro ⟨h1, h2⟩
    have at_ : ∀ i, i < a.count → pundAt a p i = true := fun i hi => by
      have := h2 i (List.mem_range.2 (by omega))
      simpa [hi] using this
    have low : ∀ i, i < a.count → (p.arg i).v = true → ∀ j, j < i → p.arg j = p.arg i → a.arg j = a.arg i := by
      intro i
      induction i using Nat.strongRecOn with
      | _ i ih =>
        intro hi hv j hj he
        have ha := at_ i hi
        unfold pundAt at ha
        rw [if_neg (by rw [hv]; exact fun e => Bool.noConfusion e)] at ha
        cases hp : pidx p i with
        | none => exact absurd he (pidx_none hp j hj)
        | some f =>
          rw [hp] at ha
          have ha := of_decide_eq_true ha
          obtain ⟨hf, hfe⟩ := pidx_some hp
          rcases Nat.lt_trichotomy f j with h | h | h
          · have := ih j hj (by omega) (by rw [he]; exact hv) f h (by rw [hfe, he])
            rw [← this, ha]
          · subst h; exact ha
          · -- f is the first one
            exfalso
            unfold pidx at hp
            obtain ⟨_, xs, ys, e1, e2⟩ := List.find?_eq_some_iff_append.1 hp
            have hjm : j ∈ xs ++ f :: ys := by rw [← e1]; exact List.mem_range.2 hj
            rw [List.mem_append, List.mem_cons] at hjm
            rcases hjm with hjm | hjm | hjm
            · have := e2 j hjm
              simp [he] at this
            · omega
            · have hs : (xs ++ f :: ys).Pairwise (· < ·) := by rw [← e1]; exact List.pairwise_lt_range
              rw [List.pairwise_append, List.pairwise_cons] at hs
              have := hs.2.1.1 j hjm
              omega
    refine ⟨h1, fun i hi hv => ?_, fun i j hi hj hv he => ?_⟩
    · have := at_ i hi
      unfold pundAt at this
      rw [if_pos hv] at this
      exact of_decide_eq_true this
    · rcases Nat.lt_trichotomy i j with h | h | h
      · exact low j hj (by rw [← he]; exact hv) i h he
      · subst h; rfl
      · exact (low i hi hv j h he.symm).symm
  · rintro ⟨h1, h2, h3⟩
    refine ⟨h1, fun i hi => ?_⟩
    by_cases hc : i < a.count
    · simp only [hc, decide_true, Bool.not_true, Bool.false_or]
      unfold pundAt
      cases hv : (p.arg i).v with
      | false =>
        rw [if_pos rfl]
        exact decide_eq_true (h2 i hc hv)
      | true =>
        rw [if_neg (fun e => Bool.noConfusion e)]
        cases hp : pidx p i with
        | none => rfl
        | some f =>
          obtain ⟨hf, hfe⟩ := pidx_some hp
          exact decide_eq_true (h3 i f hc (by omega) hv hfe.symm).symm
    · simp [hc]
theorem alike_count {a b : Atm} (h : palike a b = true) : a.count = b.count := by
  obtain ⟨_, _, h3, _⟩ := palike_iff.1 h
  unfold Atm.count
  rw [h3]
theorem pund_refl {a : Atm} (h : pcheck3 a = 0) : pund a a = true := by
  obtain ⟨_, _, h3, h4, _⟩ := check3_zero h
  exact pund_iff.2 ⟨palike_iff.2 ⟨rfl, rfl, rfl, h3, h4⟩, fun _ _ _ => rfl, fun i j _ _ _ e => e⟩
theorem palike_trans {a b c : Atm} (h : palike a b = true) (k : palike b c = true) : palike a c = true := by
  obtain ⟨a1, a2, a3, a4, a5⟩ := palike_iff.1 h
  obtain ⟨b1, b2, b3, _⟩ := palike_iff.1 k
  exact palike_iff.2 ⟨a1.trans b1, a2.trans b2, a3.trans b3, a4, a5⟩
theorem palike_symm {a b : Atm} (h : palike a b = true) : palike b a = true := by
  obtain ⟨a1, a2, a3, a4, a5⟩ := palike_iff.1 h
  exact palike_iff.2 ⟨a1.symm, a2.symm, a3.symm, a3 ▸ a4, a3 ▸ a5⟩
theorem pund_trans {a b c : Atm} (h : pund a b = true) (k : pund b c = true) : pund a c = true := by
  obtain ⟨h1, h2, h3⟩ := pund_iff.1 h
  obtain ⟨k1, k2, k3⟩ := pund_iff.1 k
  have e := alike_count h1
  refine pund_iff.2 ⟨palike_trans h1 k1, fun i hi hv => ?_, fun i j hi hj hv he => ?_⟩
  · have := k2 i (by omega) hv
    rw [this] at hv
    rw [this, h2 i hi hv]
  · have hb := k3 i j (by omega) (by omega) hv he
    cases hbv : (b.arg i).v with
    | true => exact h3 i j hi hj hbv hb
    | false =>
      rw [← h2 i hi hbv, ← h2 j hj (by rw [← hb]; exact hbv)]
      exact hb
theorem pund_app (l : List Bd) {a : Atm} (h : pcheck3 a = 0) : pund (papp l a) a = true := by
  obtain ⟨_, _, h3, h4, _⟩ := check3_zero h
  have c4 := a.count_le
  have e : (papp l a).count = a.count := rfl
  refine pund_iff.2 ⟨palike_iff.2 ⟨rfl, rfl, rfl, h3, h4⟩, fun i hi hv => ?_, fun i j hi hj hv he => ?_⟩
  · rw [e] at hi
    rw [papp_arg _ _ (by omega), if_pos hi]
    exact (pterm_gr hv).symm
  · rw [e] at hi hj
    rw [papp_arg _ _ (by omega), papp_arg _ _ (by omega), if_pos hi, if_pos hj, he]
/-! ### what is matched -/
theorem gr_nil : gr [] := fun n t h => by cases h
theorem atm_ext {a b : Atm} (h1 : a.says = b.says) (h2 : a.pred = b.pred) (h3 : a.n = b.n) (h4 : ∀ i, i < 4 → a.arg i = b.arg i) : a = b := by
  obtain ⟨s, p, n, t0, t1, t2, t3⟩ := a
  obtain ⟨s', p', n', u0, u1, u2, u3⟩ := b
  have g0 := h4 0 (by omega)
  have g1 := h4 1 (by omega)
  have g2 := h4 2 (by omega)
  have g3 := h4 3 (by omega)
  simp only [Atm.arg] at g0 g1 g2 g3
  simp only at h1 h2 h3
  subst h1 h2 h3 g0 g1 g2 g3
  rfl
theorem match_app {p g : Atm} {m : List Bd} (hp : pcheck3 p = 0) (hg : pcheck3 g = 0) (h : pextend [] p g = some m) : papp m p = g := by
  obtain ⟨_, ha, _, hn, I⟩ := pextend_some gr_nil h
  obtain ⟨a1, a2, a3, a4, a5⟩ := palike_iff.1 ha
  obtain ⟨_, _, _, _, _, r1⟩ := check3_zero hp
  obtain ⟨_, _, _, _, _, r2⟩ := check3_zero hg
  refine atm_ext a1 a2 a3 fun i hi => ?_
  rw [papp_arg _ _ hi]
  split
  · rename_i hc
    cases hv : (p.arg i).v with
    | false => rw [pterm_gr hv, I.fix i hc hv]
    | true =>
      unfold pterm
      rw [if_pos hv, I.got i hc hv]
      rfl
  · rename_i hc
    rw [restB_iff.1 r1 i hi (by omega), restB_iff.1 r2 i hi (by omega)]
theorem match_len {p g : Atm} : ∀ {k : Nat} {m : List Bd}, k ≤ 4 → (∀ i, i < k → (g.arg i).v = false) → pextK [] p g k = some m → m.length = (pnamesK p true k).length
  | 0, m, _, _, h => by
    injection h with h
    subst h
    rfl
  | k + 1, m, hk, hg, h => by
    unfold pextK at h
    rw [Option.bind_eq_some_iff] at h
    obtain ⟨o, h1, h2⟩ := h
    have ih := match_len (k := k) (by omega) (fun i hi => hg i (by omega)) h1
    have I := minv_all (l := []) rfl gr_nil (fun i hi => hg i (by omega)) h1
    obtain ⟨s0, s1⟩ := pstep_some I.gr (hg k (by omega)) h2
    unfold pnamesK
    rw [List.length_append, ← ih]
    cases hv : (p.arg k).v with
    | false =>
      obtain ⟨_, rfl⟩ := s0 hv
      simp
    | true =>
      obtain ⟨t1, t2, t3, t4⟩ := s1 hv
      cases hs : pseen p k k with
      | true =>
        obtain ⟨i, h3, h4⟩ := (pseen_iff p k (by omega)).1 hs
        have := I.got i h3 (by rw [h4]; exact hv)
        rw [h4] at this
        rw [(t3 _ this).2]
        simp
      | false =>
        have hz : pget o (p.arg k).name = none := I.new _ rfl fun i h3 h4 h5 => by
          have : pseen p k k = true := (pseen_iff p k (by omega)).2 ⟨i, h3, by
            rw [Tm.eta (p.arg i), Tm.eta (p.arg k), h4, hv, h5]⟩
          rw [hs] at this
          cases this
        rw [(t4 hz).2.2.2]
        simp
theorem match_vars {p g : Atm} {m : List Bd} (h : pextend [] p g = some m) : m.length = (pnames p true).length := by
  obtain ⟨_, ha, hgr, hn, _⟩ := pextend_some gr_nil h
  have e := alike_count ha
  have hk : pextK [] p g p.count = some m := by
    unfold pextend at h
    split at h
    · cases h
    · split at h
      · cases h
      · exact h
  exact match_len p.count_le (fun i hi => ground_iff.1 hgr i (by omega)) hk
theorem name_ne {a : Atm} (h : pcheck3 a = 0) {i : Nat} (hi : i < a.count) : (a.arg i).name ≠ ⟨#[]⟩ := by
  obtain ⟨_, _, h3, h4, h5, _⟩ := check3_zero h
  have hc := a.count_le
  have hn := count_n h3 h4
  have := termsB_iff.1 h5 i (by omega) (by omega)
  unfold ptermok at this
  split at this
  · exact pvariable_ne this
  · exact pconstant_ne this
theorem makes_made {p : Atm} {l : List Bd} (hp : pcheck3 p = 0) (hm : pcheck3 (papp l p) = 0) (hg : (papp l p).ground = true) : ∃ n, pextend [] p (papp l p) = some n ∧ papp n p = papp l p := by
  obtain ⟨_, _, h3, h4, _⟩ := check3_zero hp
  have c4 := p.count_le
  have e : (papp l p).count = p.count := rfl
  obtain ⟨n, hn⟩ := pextend_ok (l := []) (p := p) (g := papp l p) gr_nil rfl (palike_iff.2 ⟨rfl, rfl, rfl, h3, h4⟩) hg
    (fun i hi hv => by rw [papp_arg _ _ (by omega), if_pos hi]; exact (pterm_gr hv).symm)
    (fun i hi hv => ⟨name_ne hp hi, fun z hz => (by cases hz), fun _ => name_ne hm (by rw [e]; exact hi)⟩)
    (fun i j hi hj hvi hvj he => by
      rw [papp_arg _ _ (by omega), papp_arg _ _ (by omega), if_pos hi, if_pos hj, Tm.eta (p.arg i), Tm.eta (p.arg j), hvi, hvj, he])
  exact ⟨n, hn, match_app hp hm hn⟩
/-! ### one atom, then another -/
def palikeB (l m : List Bd) : Bool := m.all fun b => !(pget l b.var).isSome || decide ((pget l b.var).getD noTm = b.t)
theorem minv_mem {q h : Atm} {m : List Bd} {k : Nat} (I : MInv [] q h k m) {n : ByteArray} {z : Tm} (hz : pget m n = some z) : ∃ i, i < k ∧ (q.arg i).v = true ∧ (q.arg i).name = n ∧ z = h.arg i := by
  by_cases hex : ∃ i, i < k ∧ (q.arg i).v = true ∧ (q.arg i).name = n
  · obtain ⟨i, h1, h2, h3⟩ := hex
    have := I.got i h1 h2
    rw [h3, hz] at this
    injection this with this
    exact ⟨i, h1, h2, h3, this⟩
  · rw [I.new n rfl fun i h1 h2 h3 => hex ⟨i, h1, h2, h3⟩] at hz
    cases hz
theorem pget_mem {m : List Bd} (hc : pcheck m = true) {b : Bd} (hb : b ∈ m) : pget m b.var = some b.t := by
  obtain ⟨k, hk, rfl⟩ := List.mem_iff_getElem.1 hb
  exact pget_idx hc hk
theorem mem_of_pget {m : List Bd} {n : ByteArray} {z : Tm} (h : pget m n = some z) : ∃ b ∈ m, b.var = n ∧ b.t = z := by
  unfold pget at h
  rw [Option.map_eq_some_iff] at h
  obtain ⟨b, hb, rfl⟩ := h
  exact ⟨b, List.mem_of_find?_eq_some hb, by simpa using List.find?_some hb, rfl⟩
theorem extends_iff {p q g h : Atm} {l m : List Bd} (hl : pextend [] p g = some l) (hm : pextend [] q h = some m) : (pextend l q h).isSome = palikeB l m := by
  obtain ⟨_, _, _, _, L⟩ := pextend_some gr_nil hl
  obtain ⟨_, ha, hgr, _, I⟩ := pextend_some gr_nil hm
  rw [Bool.eq_iff_iff]
  constructor
  · intro hs
    obtain ⟨n, hn⟩ := Option.isSome_iff_exists.1 hs
    obtain ⟨_, _, _, _, J⟩ := pextend_some L.gr hn
    unfold palikeB
    rw [List.all_eq_true]
    intro b hb
    obtain ⟨i, h1, h2, h3, h4⟩ := minv_mem I (pget_mem I.check hb)
    cases hz : pget l b.var with
    | none => rfl
    | some z =>
      have g1 := J.old _ z hz
      have g2 := J.got i h1 h2
      rw [h3, g1] at g2
      injection g2 with g2
      simp [h4, g2]
  · intro hs
    unfold palikeB at hs
    rw [List.all_eq_true] at hs
    rw [Option.isSome_iff_exists]
    refine pextend_ok L.gr L.check ha hgr I.fix (fun i hi hv => ⟨(I.ne i hi hv rfl).2, fun z hz => ?_, fun _ => (I.ne i hi hv rfl).1⟩) (fun i j hi hj hvi hvj he => ?_)
    · obtain ⟨b, hb, e1, e2⟩ := mem_of_pget (I.got i hi hv)
      have := hs b hb
      rw [e1, hz] at this
      simp only [Option.isSome_some, Bool.not_true, Bool.false_or, Option.getD_some, decide_eq_true_eq] at this
      rw [this, e2]
    · have g1 := I.got i hi hvi
      have g2 := I.got j hj hvj
      rw [he, g2] at g1
      injection g1 with g1
      exact g1.symm
theorem papp_congr {l m : List Bd} {p : Atm} (h : ∀ i, i < p.count → (p.arg i).v = true → pget l (p.arg i).name = pget m (p.arg i).name) : papp l p = papp m p := by
  unfold papp
  refine upto_congr fun i hi h4 => ?_
  unfold pterm
  split
  · rename_i hv
    rw [h i hi hv]
  · rfl
theorem extends_apps {p q g h : Atm} {l m n : List Bd} (hl : pextend [] p g = some l) (hm : pextend [] q h = some m) (hn : pextend l q h = some n) : papp n p = papp l p ∧ papp n q = papp m q := by
  obtain ⟨_, _, _, _, L⟩ := pextend_some gr_nil hl
  obtain ⟨_, _, _, _, I⟩ := pextend_some gr_nil hm
  obtain ⟨_, _, _, _, J⟩ := pextend_some L.gr hn
  refine ⟨papp_congr fun i hi hv => ?_, papp_congr fun i hi hv => ?_⟩
  · have := L.got i hi hv
    rw [this]
    exact J.old _ _ this
  · rw [I.got i hi hv, J.got i hi hv]
/-! ### of a list -/
def pmatch (p a : Atm) : Bool := (pextend [] p a).isSome
def pall (p : Atm) (l : List Atm) : List Atm := l.filter (pmatch p)
theorem pall_all (p : Atm) (l : List Atm) : pall p (pall p l) = pall p l := by
  unfold pall
  rw [List.filter_filter]
  simp
theorem match_ground {p a : Atm} (h : pmatch p a = true) : a.ground = true := by
  obtain ⟨m, hm⟩ := Option.isSome_iff_exists.1 h
  exact (pextend_some gr_nil hm).2.2.1
theorem match_under {p q a : Atm} (hq : pcheck3 q = 0) (ha : pcheck3 a = 0) (hu : pund p q = true) (h : pmatch p a = true) : pmatch q a = true := by
  obtain ⟨m, hm⟩ := Option.isSome_iff_exists.1 h
  obtain ⟨_, al, hgr, _, I⟩ := pextend_some gr_nil hm
  obtain ⟨u1, u2, u3⟩ := pund_iff.1 hu
  have e1 := alike_count u1
  have e2 := alike_count al
  refine Option.isSome_iff_exists.2 (pextend_ok gr_nil rfl (palike_trans (palike_symm u1) al) hgr (fun i hi hv => ?_) (fun i hi hv => ⟨name_ne hq hi, fun z hz => (by cases hz), fun _ => name_ne ha (by omega)⟩) (fun i j hi hj hvi hvj he => ?_))
  · have := u2 i (by omega) hv
    rw [this] at hv
    rw [this, I.fix i (by omega) hv]
  · have hp := u3 i j (by omega) (by omega) hvi (by rw [Tm.eta (q.arg i), Tm.eta (q.arg j), hvi, hvj, he])
    cases hv : (p.arg i).v with
    | true =>
      have g1 := I.got i (by omega) hv
      have g2 := I.got j (by omega) (by rw [← hp]; exact hv)
      rw [hp, g2] at g1
      injection g1 with g1
      exact g1.symm
    | false =>
      rw [← I.fix i (by omega) hv, ← I.fix j (by omega) (by rw [← hp]; exact hv)]
      exact hp
theorem pall_under {p q : Atm} {l : List Atm} (hq : pcheck3 q = 0) (hl : ∀ a ∈ l, pcheck3 a = 0) (hu : pund p q = true) : pall q (pall p l) = pall p l ∧ (pall p l).length ≤ (pall q l).length := by
  constructor
  · unfold pall
    rw [List.filter_eq_self]
    intro a ha
    rw [List.mem_filter] at ha
    exact match_under hq (hl a ha.1) hu ha.2
  · unfold pall
    have key : ∀ l : List Atm, (∀ a ∈ l, pcheck3 a = 0) → (l.filter (pmatch p)).length ≤ (l.filter (pmatch q)).length := by
      intro l
      induction l with
      | nil => intro _; exact Nat.le_refl _
      | cons a l ih =>
        intro h
        have ih := ih fun b hb => h b (by simp [hb])
        cases hp : pmatch p a with
        | true =>
          rw [List.filter_cons_of_pos hp, List.filter_cons_of_pos (match_under hq (h a (by simp)) hu hp), List.length_cons, List.length_cons]
          omega
        | false =>
          rw [List.filter_cons_of_neg (by rw [hp]; exact fun e => Bool.noConfusion e)]
          cases hq' : pmatch q a with
          | true => rw [List.filter_cons_of_pos hq', List.length_cons]; omega
          | false => rw [List.filter_cons_of_neg (by rw [hq']; exact fun e => Bool.noConfusion e)]; exact ih
    exact key l hl
end Go.Proofs.YtaeehadibckcjaaDoor

/-
  Chapter 5: contracts on abstract values: atoms of the same form, their terms, ground atoms, copies, the search for a term.
-/
namespace Go.Proofs.YtaeehadibckcjaaDoor
open Go.Vs Go.Vs.Ab
set_option maxRecDepth 100000
abbrev slM (ex : Bool) (l : List Tm) : AV := slR tmC ex l
theorem idxM {ex : Bool} {l : List Tm} {k : Nat} (h : k < l.length) : aIndexAddr Tryd.prog 111 (slM ex l) (.c (.v (.int .i64 (k : Int)))) = some (.cptr (tmC l[k] ++ (l.drop (k + 1)).flatMap tmC)) :=
  idx_R tmC 2 (fun _ => rfl) Tryd.underlying111 sz39 (by decide) h
set_option maxRecDepth 10000
theorem arrB {n : Nat} (h : n ≤ 4) : bnds 4 none (some (n : Int)) none = some (0, n, none) := by
  unfold bnds
  simp [natI_nat, h]
theorem arrL {n : Nat} (h : n ≤ 4) : (n * 2 ≤ 8) = True := eq_true (by omega)
theorem four_max : (4 ≤ maxLen) = True := eq_true (by decide)
theorem arrC (p : Atm) {n : Nat} (h : n ≤ 4) : List.take (n * 2) ([.v (.bool p.a0.v), .v (.string p.a0.name), .v (.bool p.a1.v), .v (.string p.a1.name), .v (.bool p.a2.v), .v (.string p.a2.name), .v (.bool p.a3.v), .v (.string p.a3.name)] : List CV) = (p.args.take n).flatMap tmC := by
  obtain rfl | rfl | rfl | rfl | rfl : n = 0 ∨ n = 1 ∨ n = 2 ∨ n = 3 ∨ n = 4 := by omega
  all_goals rfl
theorem arrF (p : Atm) {n : Nat} (h : n ≤ 4) (b : Bool) : AV.c (.sl b n ((p.args.take n).flatMap tmC)) = slM b (p.args.take n) := by
  have e : (p.args.take n).length = n := by rw [List.length_take, Nat.min_eq_left (by show n ≤ 4; exact h)]
  show _ = AV.c (.sl b (p.args.take n).length ((p.args.take n).flatMap tmC))
  rw [e]
theorem args_does (a : Atm) : Does Tryd.prog 70 [atA a] (fun m => (slM (Nat.beq 4 a.count) (a.args.take a.count), m)) := by
  have h := a.count_le
  refine does_of' Tryd.func70 rfl (by kernel_rfl) rfl Tryd.ntmps70 rfl rfl fun Q hQ => ?_
  repeat (first
      | refine tr_seq_k fun _ _ => ?_
      | (refine tr_region ?_; simp only [go_sem, List.getElem?_toArray, str_beq, reduceCtorEq, Nat.reduceEqDiff, Nat.reduceLT, Nat.reduceLeDiff, Nat.reduceAdd, Nat.reduceMul, Nat.reduceSub, Nat.reduceBEq, ↓reduceIte, bne_self_eq_false, Bool.and_false, Bool.false_and, Bool.true_or, Bool.false_or, count_if, arrB h, arrL h, four_max, arrC a h, arrF a h, Option.getD_none, Nat.sub_zero])
      | refine k_of (by assumption) ?_
      | refine tr_block ?_
      | refine tr_scope ?_
      | (refine tr_skip ?_; try simp only [ex_seq, ex_block])
      | (refine tr_label ?_; try simp only [ex_seq, ex_block])
      | (refine tr_exit ?_; try simp only [ex_seq_exit, ex_block_exit, Nat.reduceEqDiff, if_true, if_false, ex_seq, ex_block, reduceCtorEq, ↓reduceIte])
      | (refine tr_ret ?_; try simp only [ex_seq_ret, ex_block_ret]))
  refine (hQ _ _ [slM (Nat.beq 4 a.count) (a.args.take a.count)] ?_ (fun m => rfl)).2 <;> simp only [go_sem, List.getElem?_toArray, str_beq, reduceCtorEq, Nat.reduceEqDiff, Nat.reduceLT, Nat.reduceLeDiff, Nat.reduceAdd, Nat.reduceMul, Nat.reduceSub, Nat.reduceBEq, ↓reduceIte, bne_self_eq_false, Bool.and_false, Bool.false_and, Bool.true_or, Bool.false_or, Tryd.f70]
def pvarAt (l : List Tm) : Int := match l.findIdx? (fun t => t.v) with
  | some i => (i : Int)
  | none => -1
theorem findIdx_hit {T : Type} {p : T → Bool} {l : List T} {k : Nat} (h : k < l.length) (h1 : (l.take k).any p = false) (h2 : p l[k] = true) : l.findIdx? p = some k := by
  rw [List.findIdx?_eq_some_iff_getElem]
  refine ⟨h, h2, fun j hj => ?_⟩
  rw [List.any_eq_false] at h1
  exact h1 _ (List.mem_iff_getElem.2 ⟨j, by rw [List.length_take]; omega, by rw [List.getElem_take]⟩)
theorem findIdx_none {T : Type} {p : T → Bool} {l : List T} (h1 : l.any p = false) : l.findIdx? p = none := by
  rw [List.findIdx?_eq_none_iff]
  intro x hx
  rw [List.any_eq_false] at h1
  simpa using h1 x hx
theorem pvar_any (l : List Tm) : decide ((0 : Int) ≤ pvarAt l) = l.any (fun t => t.v) := by
  unfold pvarAt
  cases h : l.findIdx? (fun t => t.v) with
  | none =>
    rw [List.findIdx?_eq_none_iff] at h
    have : l.any (fun t => t.v) = false := by
      rw [List.any_eq_false]
      intro x hx
      simp [h x hx]
    rw [this]
    rfl
  | some i =>
    obtain ⟨h1, h2, _⟩ := List.findIdx?_eq_some_iff_getElem.1 h
    rw [any_hit h1 h2]
    exact decide_eq_true (Int.natCast_nonneg i)
theorem ground_args (a : Atm) : a.ground = !((a.args.take a.count).any fun t => t.v) := by
  have h4 := a.count_le
  unfold Atm.ground
  generalize a.count = n at *
  obtain rfl | rfl | rfl | rfl | rfl : n = 0 ∨ n = 1 ∨ n = 2 ∨ n = 3 ∨ n = 4 := by omega
  all_goals
    rw [Bool.eq_iff_iff]
    simp [Atm.args, Atm.arg, List.range, List.range.loop]
/-! ### a copy; where a term stands -/
def ptmAt (l : List Tm) (x : Tm) : Int := match l.findIdx? (fun t => decide (x = t)) with
  | some i => (i : Int)
  | none => -1
end Go.Proofs.YtaeehadibckcjaaDoor

/-
  Chapter 5: contracts on abstract values: Extend, Match, All.
-/
namespace Go.Proofs.YtaeehadibckcjaaDoor
open Go.Vs Go.Vs.Ab
set_option maxRecDepth 100000
theorem ixC (p : Atm) {k : Nat} (h : k < 4) : aIndex Tryd.prog 40 (.agg ([.v (.bool p.a0.v), .v (.string p.a0.name), .v (.bool p.a1.v), .v (.string p.a1.name), .v (.bool p.a2.v), .v (.string p.a2.name), .v (.bool p.a3.v), .v (.string p.a3.name)] : List CV)) (.c (.v (.int .i64 (k : Int)))) = some (.agg [.v (.bool (p.arg k).v), .v (.string (p.arg k).name)]) := by
  obtain rfl | rfl | rfl | rfl : k = 0 ∨ k = 1 ∨ k = 2 ∨ k = 3 := by omega
  all_goals
    simp only [aIndex, intV, Tryd.underlying40, sz39]
    rfl
theorem e15 : ((15 : Int) != 0) = true := rfl
theorem e15' : decide ((15 : Int) = 0) = false := rfl
def pextL (l : List Bd) (p g : Atm) : List Bd := (pextend l p g).getD []
theorem pextK_none {l : List Bd} {p g : Atm} {k : Nat} (h : pextK l p g k = none) : ∀ {n : Nat}, k ≤ n → pextK l p g n = none
  | 0, hn => by
    obtain rfl : k = 0 := by omega
    exact h
  | n + 1, hn => by
    by_cases e : k = n + 1
    · subst e; exact h
    · unfold pextK
      rw [pextK_none h (show k ≤ n by omega)]
      rfl
theorem pstep_len {out out' : List Bd} {x y : Tm} (h : pstep out x y = some out') : out'.length ≤ out.length + 1 := by
  unfold pstep at h
  split at h
  · split at h
    · injection h with h; subst h; omega
    · cases h
  · split at h
    · split at h
      · injection h with h; subst h; omega
      · cases h
    · split at h
      · injection h with h; subst h; exact pbL_len _ _ _
      · cases h
theorem pextK_next {l : List Bd} {p g : Atm} {k : Nat} {out : List Bd} (h : pextK l p g k = some out) : pextK l p g (k + 1) = pstep out (p.arg k) (g.arg k) := by
  show (pextK l p g k).bind _ = _
  rw [h]
  rfl
set_option maxRecDepth 100000
set_option maxHeartbeats 2000000
end Go.Proofs.YtaeehadibckcjaaDoor
