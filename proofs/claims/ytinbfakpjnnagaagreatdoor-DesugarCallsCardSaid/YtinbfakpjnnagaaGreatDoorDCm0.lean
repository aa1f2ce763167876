/-
  Part 0 of the proof's own texts: general lemmas and contracts of functions, laid one behind the other.
-/
import Derived.Test.YtinbfakpjnnagaaGreatDoorDCTy
import Derived.Test.YtinbfakpjnnagaaGreatDoorDCSc
import Derived.Test.YtinbfakpjnnagaaGreatDoorDCSe
import Derived.Test.YtinbfakpjnnagaaGreatDoorDCAo
import Derived.Test.YtinbfakpjnnagaaGreatDoorDCSq
import Derived.Test.YtinbfakpjnnagaaGreatDoorDCUd
import Derived.Test.YtinbfakpjnnagaaGreatDoorDCAtm
import Derived.KernelRfl
import Derived.Test.YtinbfakpjnnagaaGreatDoorDCBb
import Derived.Shelf.Strings.Builder1
import Derived.Shelf.Strings.Builder2
import Derived.Shelf.Strings.OnBuilder
import Derived.Shelf.Small.Strs
import Derived.Shelf.Strconv.Itoa0
import Derived.Shelf.Strconv.Itoa1
import Derived.Shelf.LaysM
import Derived.Shelf.Strconv.Itoa2
import Derived.Shelf.Strconv.Itoa3
import Derived.Test.YtinbfakpjnnagaaGreatDoorProg
set_option linter.unusedSimpArgs false
set_option linter.unusedVariables false
namespace Go.Proofs.YtinbfakpjnnagaaGreatDoor
open Go.Vs Go.Vs.Ab
set_option maxRecDepth 100000
theorem idxS {ex : Bool} {l : List ByteArray} {k : Nat} (h : k < l.length) : aIndexAddr Tryz.prog 22 (slS ex l) (.c (.v (.int .i64 (k : Int)))) = some (.cptr (stC l[k] ++ (l.drop (k + 1)).flatMap stC)) :=
  idx_R stC 1 (fun _ => rfl) Tryz.underlying22 sz9 (by decide) h
theorem wrap_in {n : Int} (h : -9223372036854775808 ≤ n ∧ n ≤ 9223372036854775807) : IntKind.i64.wrap n = n := Go.IntWalk.i64_in _ h
theorem wrap_succ {k : Nat} (h : k ≤ 1000000000) : IntKind.i64.wrap ((k : Int) + 1) = ((k + 1 : Nat) : Int) := by rw [wrap_in (by omega)]; omega
theorem bb1 : (true == false) = false := rfl
theorem bb2 : (false == true) = false := rfl
attribute [go_sem] bb1 bb2 bdC tmC atC stC List.flatMap_cons List.flatMap_nil
set_option maxRecDepth 10000
theorem count_if (a : Atm) : (if (4 : Int) < (if (0 : Int) > a.n then 0 else a.n) then (4 : Int) else (if (0 : Int) > a.n then 0 else a.n)) = (a.count : Int) := by
  unfold Atm.count
  split <;> split <;> omega
theorem count_does (a : Atm) : Does Tryz.prog 36 [atA a] (fun m => (iA a.count, m)) := by
  refine does_of' Tryz.func36 rfl (by kernel_rfl) rfl Tryz.ntmps36 rfl rfl fun Q hQ => ?_
  repeat (first | refine tr_seq_k fun _ _ => ?_ | (refine tr_region ?_; simp only [go_sem, List.getElem?_toArray, reduceCtorEq, Nat.reduceEqDiff, Nat.reduceLT, ↓reduceIte, atA, count_if]) | refine k_of (by assumption) ?_ | (refine tr_ret ?_; try simp only [ex_seq_ret, ex_block_ret]))
  refine (hQ _ _ [iA a.count] ?_ (fun m => ?_)).2 <;> simp only [go_sem, reduceCtorEq, Nat.reduceEqDiff, ↓reduceIte, Tryz.f36]
end Go.Proofs.YtinbfakpjnnagaaGreatDoor
namespace Go.Proofs.YtinbfakpjnnagaaGreatDoor
open Go.Vs Go.Vs.Ab
set_option maxRecDepth 100000
set_option maxRecDepth 10000
set_option maxHeartbeats 1000000
end Go.Proofs.YtinbfakpjnnagaaGreatDoor
namespace Go.Proofs.YtinbfakpjnnagaaGreatDoor
open Go.Vs Go.Vs.Ab
set_option maxRecDepth 100000
theorem arr1 {vs : Array Value} {v : Value} (h : vs.toList = [v]) : vs = #[v] := by apply Array.ext'; simpa using h
theorem callable {F : FuncId} {fn : Func} (h : Tryz.prog.funcs[F]? = some fn) (hb : callableB fn = true) : Callable Tryz.prog F := callable_of h hb
set_option maxRecDepth 10000
theorem lightA_does (a : Atm) : Does Tryz.prog 7 [atA a] (fun m => (bA (lightA a), m)) := by
  refine does_of_calls (v := .bool (lightA a)) (callable Tryz.func7 (by kernel_rfl)) rfl fun X w vs hc hr => ?_
  obtain ⟨v, hv, h1⟩ := reps1 hr
  rw [arr1 hv, val_rep (val_at a) h1]
  exact lightA_any a
end Go.Proofs.YtinbfakpjnnagaaGreatDoor
namespace Go.Proofs.YtinbfakpjnnagaaGreatDoor
open Go.Vs Go.Vs.Ab
set_option maxRecDepth 100000
theorem ba_beq (a b : ByteArray) : (a == b) = decide (a = b) := by
  have h : (a == b) = (a.data == b.data) := rfl
  rw [h, Bool.eq_iff_iff, beq_iff_eq, decide_eq_true_eq]
  exact ⟨fun h => by cases a; cases b; simp at h; simp [h], fun h => by rw [h]⟩
theorem pv_under {P : Program} {t : TypeId} {d : TypeDesc} (h : P.underlying t = some d) : pureVal P (underlying t) = some d := by
  simp only [underlying, program, pureVal, bind, Sem.bind, h, pure]
theorem pv_prog {P : Program} : pureVal P program = some P := rfl
theorem held_tm : Tryz.prog.stoodInHeld 30 = false := by kernel_rfl
theorem held_at : Tryz.prog.stoodInHeld 33 = false := by kernel_rfl
theorem pv_isAgg {P : Program} {t : TypeId} {d : TypeDesc} (h : P.underlying t = some d) : pureVal P (isAgg t) = some (aggD d) := by
  unfold isAgg
  rw [pv_bind, pv_under h]
  cases d <;> rfl
theorem pv_size {P : Program} {t : TypeId} {s : Nat} (h : tsz P t = some s) : pureVal P (sizeOf t) = some s := by
  obtain ⟨i, hi, rfl⟩ := tsz_spec h
  simp only [sizeOf, typeInfo, program, pureVal, bind, Sem.bind, hi, pure]
theorem pv_part1 {P : Program} {t : TypeId} {d : TypeDesc} (h : P.underlying t = some d) (ha : aggD d = false) {cs : Array Value} {off : Nat} {v : Value} (hv : cs[off]? = some v) : pureVal P (part t cs off) = some v := by
  unfold part
  rw [pv_bind, pv_isAgg h, Option.bind_some, ha]
  simp only [Bool.false_eq_true, if_false, hv]
  rfl
theorem pv_partA {P : Program} {t : TypeId} {d : TypeDesc} {s : Nat} (h : P.underlying t = some d) (ha : aggD d = true) (hs : tsz P t = some s) {cs : Array Value} {off : Nat} : pureVal P (part t cs off) = some (.agg (cs.extract off (off + s))) := by
  unfold part
  rw [pv_bind, pv_isAgg h, Option.bind_some, ha]
  simp only [if_true]
  rw [pv_bind, pv_size hs]
  rfl
theorem pv_eq_bool {d : Nat} (a b : Bool) : pureVal Tryz.prog (Op.equalIn (d + 1) 4 (.bool a) (.bool b)) = some (a == b) := by
  unfold Op.equalIn
  rw [pv_bind, pv_under Tryz.underlying4]
  rfl
theorem pv_eq_str {d : Nat} (a b : ByteArray) : pureVal Tryz.prog (Op.equalIn (d + 1) 9 (.string a) (.string b)) = some (decide (a = b)) := by
  unfold Op.equalIn
  rw [pv_bind, pv_under Tryz.underlying9]
  show some (a == b) = _
  rw [ba_beq]
theorem pv_eq_int {d : Nat} (a b : Int) : pureVal Tryz.prog (Op.equalIn (d + 1) 3 (.int .i64 a) (.int .i64 b)) = some (decide (a = b)) := by
  unfold Op.equalIn
  rw [pv_bind, pv_under Tryz.underlying3]
  show some (a == b) = _
  by_cases h : a = b
  · subst h; simp
  · simp [h]
theorem pv_if {α : Type} {P : Program} (c : Prop) [Decidable c] (x y : Sem α) : pureVal P (if c then x else y) = if c then pureVal P x else pureVal P y := by split <;> rfl
theorem pv_eq_tm {d : Nat} (s t : Tm) : pureVal Tryz.prog (Op.equalIn (d + 2) 30 (.agg #[.bool s.v, .string s.name]) (.agg #[.bool t.v, .string t.name])) = some (decide (s = t)) := by
  unfold Op.equalIn
  rw [pv_bind, pv_under Tryz.underlying30]
  have p0 : ∀ s : Tm, pureVal Tryz.prog (part 4 #[.bool s.v, .string s.name] 0) = some (.bool s.v) := fun s => pv_part1 Tryz.underlying4 rfl rfl
  have p1 : ∀ s : Tm, pureVal Tryz.prog (part 9 #[.bool s.v, .string s.name] 1) = some (.string s.name) := fun s => pv_part1 Tryz.underlying9 rfl rfl
  obtain ⟨sv, sn⟩ := s
  obtain ⟨tv, tn⟩ := t
  have q0 := p0 ⟨sv, sn⟩
  have q1 := p0 ⟨tv, tn⟩
  have q2 := p1 ⟨sv, sn⟩
  have q3 := p1 ⟨tv, tn⟩
  simp only at q0 q1 q2 q3
  simp only [Option.bind_some, pv_bind, pv_prog, held_tm, Bool.false_eq_true, if_false, List.forIn_toArray, List.forIn_cons, List.forIn_nil, pv_pure, pv_if, ne_eq, String.reduceEq, not_false_eq_true, if_true, q0, q1, pv_eq_bool]
  by_cases h1 : sv = tv
  · by_cases h2 : sn = tn
    · subst h1 h2; simp [pv_pure, pv_bind, q2, pv_eq_str]
    · subst h1; simp [h2, pv_pure, pv_bind, pv_if, q2, q3, pv_eq_str]
  · simp [h1, pv_pure]
theorem bin_eqT (x y : Operand) (s t : Tm) : pureVal Tryz.prog (do eqGuard .eql 30 x y (.agg #[.bool s.v, .string s.name]) (.agg #[.bool t.v, .string t.name]); binOp .eql 30 (.agg #[.bool s.v, .string s.name]) (.agg #[.bool t.v, .string t.name])) = some (.bool (decide (s = t))) := by
  have hg : Tryz.prog.eqGuardType Tryz.prog.depth 30 = false := by kernel_rfl
  have h := pv_eq_tm (d := 9998) s t
  have g : pureVal Tryz.prog (eqGuard .eql 30 x y (.agg #[.bool s.v, .string s.name]) (.agg #[.bool t.v, .string t.name])) = some () := by
    simp [eqGuard, pv_bind, pv_prog, pv_pure, hg]
  rw [pv_bind, g, Option.bind_some]
  have e : binOp .eql 30 (.agg #[.bool s.v, .string s.name]) (.agg #[.bool t.v, .string t.name]) = (do pure (Value.bool (← Op.equal 30 (.agg #[.bool s.v, .string s.name]) (.agg #[.bool t.v, .string t.name])))) := rfl
  rw [e, pv_bind]
  have h' : pureVal Tryz.prog (Op.equal 30 (.agg #[.bool s.v, .string s.name]) (.agg #[.bool t.v, .string t.name])) = some (decide (s = t)) := h
  rw [h']
  rfl
abbrev fourV (a b c d : Tm) : Value := .agg #[.bool a.v, .string a.name, .bool b.v, .string b.name, .bool c.v, .string c.name, .bool d.v, .string d.name]
theorem pv_eq_four {d : Nat} (a0 a1 a2 a3 b0 b1 b2 b3 : Tm) : pureVal Tryz.prog (Op.equalIn (d + 3) 31 (fourV a0 a1 a2 a3) (fourV b0 b1 b2 b3)) = some (decide (a0 = b0 ∧ a1 = b1 ∧ a2 = b2 ∧ a3 = b3)) := by
  unfold Op.equalIn
  rw [pv_bind, pv_under Tryz.underlying31]
  have p : ∀ (a0 a1 a2 a3 : Tm), (pureVal Tryz.prog (part 30 #[.bool a0.v, .string a0.name, .bool a1.v, .string a1.name, .bool a2.v, .string a2.name, .bool a3.v, .string a3.name] 0) = some (.agg #[.bool a0.v, .string a0.name])) ∧
      (pureVal Tryz.prog (part 30 #[.bool a0.v, .string a0.name, .bool a1.v, .string a1.name, .bool a2.v, .string a2.name, .bool a3.v, .string a3.name] 2) = some (.agg #[.bool a1.v, .string a1.name])) ∧
      (pureVal Tryz.prog (part 30 #[.bool a0.v, .string a0.name, .bool a1.v, .string a1.name, .bool a2.v, .string a2.name, .bool a3.v, .string a3.name] 4) = some (.agg #[.bool a2.v, .string a2.name])) ∧
      (pureVal Tryz.prog (part 30 #[.bool a0.v, .string a0.name, .bool a1.v, .string a1.name, .bool a2.v, .string a2.name, .bool a3.v, .string a3.name] 6) = some (.agg #[.bool a3.v, .string a3.name])) := fun a0 a1 a2 a3 =>
    ⟨(pv_partA Tryz.underlying30 rfl sz30).trans rfl, (pv_partA Tryz.underlying30 rfl sz30).trans rfl, (pv_partA Tryz.underlying30 rfl sz30).trans rfl, (pv_partA Tryz.underlying30 rfl sz30).trans rfl⟩
  obtain ⟨p0, p1, p2, p3⟩ := p a0 a1 a2 a3
  obtain ⟨q0, q1, q2, q3⟩ := p b0 b1 b2 b3
  have e0 := pv_eq_tm (d := d) a0 b0
  have e1 := pv_eq_tm (d := d) a1 b1
  have e2 := pv_eq_tm (d := d) a2 b2
  have e3 := pv_eq_tm (d := d) a3 b3
  have hr : List.range' 0 4 1 = [0, 1, 2, 3] := rfl
  simp only [Option.bind_some, pv_bind, pv_size sz30, fourV, Std.Legacy.Range.forIn_eq_forIn_range', Std.Legacy.Range.size, Nat.sub_zero, Nat.reduceAdd, Nat.reduceSub, Nat.div_one, hr, List.forIn_cons, List.forIn_nil, pv_pure, pv_if, Nat.zero_mul, Nat.one_mul, Nat.reduceMul, p0, q0, e0]
  rw [Bool.decide_and, Bool.decide_and, Bool.decide_and]
  generalize decide (a0 = b0) = c0 at *
  generalize decide (a1 = b1) = c1 at *
  generalize decide (a2 = b2) = c2 at *
  generalize decide (a3 = b3) = c3 at *
  cases c0 <;> cases c1 <;> cases c2 <;> cases c3 <;> simp [pv_pure, pv_bind, pv_if, p1, p2, p3, q1, q2, q3, e1, e2, e3]
theorem pv_eq_at {d : Nat} (a b : Atm) : pureVal Tryz.prog (Op.equalIn (d + 4) 33 (.agg a.cells) (.agg b.cells)) = some (decide (a = b)) := by
  have hd : decide (a = b) = (decide (a.says = b.says) && (decide (a.pred = b.pred) && (decide (a.n = b.n) && decide (a.a0 = b.a0 ∧ a.a1 = b.a1 ∧ a.a2 = b.a2 ∧ a.a3 = b.a3)))) := by
    obtain ⟨s, p, n, x0, x1, x2, x3⟩ := a
    obtain ⟨s', p', n', y0, y1, y2, y3⟩ := b
    simp only [Atm.mk.injEq, ← Bool.decide_and]
  rw [hd]
  unfold Op.equalIn
  rw [pv_bind, pv_under Tryz.underlying33]
  have p : ∀ a : Atm, pureVal Tryz.prog (part 9 a.cells 0) = some (.string a.says) ∧ pureVal Tryz.prog (part 9 a.cells 1) = some (.string a.pred) ∧ pureVal Tryz.prog (part 3 a.cells 2) = some (.int .i64 a.n) ∧ pureVal Tryz.prog (part 31 a.cells 3) = some (fourV a.a0 a.a1 a.a2 a.a3) := fun a =>
    ⟨pv_part1 Tryz.underlying9 rfl rfl, pv_part1 Tryz.underlying9 rfl rfl, pv_part1 Tryz.underlying3 rfl rfl, (pv_partA Tryz.underlying31 rfl sz31).trans rfl⟩
  obtain ⟨p0, p1, p2, p3⟩ := p a
  obtain ⟨q0, q1, q2, q3⟩ := p b
  have e0 := pv_eq_str (d := d + 2) a.says b.says
  have e1 := pv_eq_str (d := d + 2) a.pred b.pred
  have e2 := pv_eq_int (d := d + 2) a.n b.n
  have e3 := pv_eq_four (d := d) a.a0 a.a1 a.a2 a.a3 b.a0 b.a1 b.a2 b.a3
  generalize fourV a.a0 a.a1 a.a2 a.a3 = u at *
  generalize fourV b.a0 b.a1 b.a2 b.a3 = v at *
  generalize decide (a.says = b.says) = c0 at *
  generalize decide (a.pred = b.pred) = c1 at *
  generalize decide (a.n = b.n) = c2 at *
  generalize decide (a.a0 = b.a0 ∧ a.a1 = b.a1 ∧ a.a2 = b.a2 ∧ a.a3 = b.a3) = c3 at *
  clear hd p
  generalize a.cells = xs at *
  generalize b.cells = ys at *
  simp only [Option.bind_some, pv_bind, pv_prog, held_at, Bool.false_eq_true, if_false, List.forIn_toArray, List.forIn_cons, List.forIn_nil, pv_pure, pv_if, ne_eq, String.reduceEq, not_false_eq_true, if_true, p0, q0, e0]
  cases c0 <;> cases c1 <;> cases c2 <;> cases c3 <;> simp [pv_pure, pv_bind, pv_if, p1, p2, p3, q1, q2, q3, e1, e2, e3]
theorem bin_eqA (x y : Operand) (s t : Atm) : pureVal Tryz.prog (do eqGuard .eql 33 x y (.agg s.cells) (.agg t.cells); binOp .eql 33 (.agg s.cells) (.agg t.cells)) = some (.bool (decide (s = t))) := by
  have hg : Tryz.prog.eqGuardType Tryz.prog.depth 33 = false := by kernel_rfl
  have h : pureVal Tryz.prog (Op.equal 33 (.agg s.cells) (.agg t.cells)) = some (decide (s = t)) := pv_eq_at (d := 9996) s t
  generalize s.cells = xs at *
  generalize t.cells = ys at *
  have g : pureVal Tryz.prog (eqGuard .eql 33 x y (.agg xs) (.agg ys)) = some () := by
    simp [eqGuard, pv_bind, pv_prog, pv_pure, hg]
  rw [pv_bind, g, Option.bind_some]
  have e : binOp .eql 33 (.agg xs) (.agg ys) = (do pure (Value.bool (← Op.equal 33 (.agg xs) (.agg ys)))) := rfl
  rw [e, pv_bind, h]
  rfl
end Go.Proofs.YtinbfakpjnnagaaGreatDoor
namespace Go.Proofs.YtinbfakpjnnagaaGreatDoor
open Go.Vs Go.Vs.Ab
set_option maxRecDepth 100000
theorem bin_eqA' (x y : Operand) (s t : Atm) : pureVal Tryz.prog (do eqGuard .eql 33 x y (.agg [.string s.says, .string s.pred, .int .i64 s.n, .bool s.a0.v, .string s.a0.name, .bool s.a1.v, .string s.a1.name, .bool s.a2.v, .string s.a2.name, .bool s.a3.v, .string s.a3.name].toArray) (.agg [.string t.says, .string t.pred, .int .i64 t.n, .bool t.a0.v, .string t.a0.name, .bool t.a1.v, .string t.a1.name, .bool t.a2.v, .string t.a2.name, .bool t.a3.v, .string t.a3.name].toArray); binOp .eql 33 (.agg [.string s.says, .string s.pred, .int .i64 s.n, .bool s.a0.v, .string s.a0.name, .bool s.a1.v, .string s.a1.name, .bool s.a2.v, .string s.a2.name, .bool s.a3.v, .string s.a3.name].toArray) (.agg [.string t.says, .string t.pred, .int .i64 t.n, .bool t.a0.v, .string t.a0.name, .bool t.a1.v, .string t.a1.name, .bool t.a2.v, .string t.a2.name, .bool t.a3.v, .string t.a3.name].toArray)) = some (.bool (decide (s = t))) := bin_eqA x y s t
theorem info_s : info3 Tryz.prog 9 = some (1, 16) := by simp only [info3, sz9, by9, ze9]; rfl
/-! ### the plain law -/
end Go.Proofs.YtinbfakpjnnagaaGreatDoor
namespace Go.Vs.Ab
open Go.RowKit
variable {P : Program}
theorem reps_no {X : Mem} {c : AV} {xs : List Value} (h : Reps X [c] xs) (hc : ∀ x, ¬ Rep X c x) : False := by
  obtain ⟨v, _, hv⟩ := reps1 h
  exact hc v hv
theorem BlkIs.keep {base : Nat} {X Y Z : Mem} {w w' : World} {β : Nat} {blk : Blk} (h1 : BlkIs X w β blk) (h2 : BlkIs Y w' β blk) (hZ : X.Le base Z) (hc : Z.cell = Y.cell) (hw : w'.heap[β]? = w.heap[β]?) : BlkIs Z w' β blk := by
  cases h2 with
  | dead h => exact .dead h
  | ent a b c d e => exact .ent a b c d (fun o => by rw [hc]; exact e o)
  | byt a b c d e f => exact .byt a b c d e (fun o => by rw [hc]; exact f o)
  | bld a b c d e =>
    cases h1 with
    | byt h => rw [a] at h; simp at h
    | dead h => rw [a] at h; simp at h
    | ent h => rw [a] at h; simp at h
    | bld a1 b1 c1 =>
      rw [a] at a1
      simp only [List.cons.injEq, AV.bld.injEq, and_true] at a1
      obtain ⟨rfl, rfl, rfl⟩ := a1
      rw [hw, b1] at b
      have e1 := Option.some.inj b
      injection e1 with e1 e2
      have e3 := congrArg (fun x : Array Value => x[1]?) e1
      simp at e3
      subst e3
      exact .bld a (by rw [hw]; exact b1) (c1.mono hZ) d (fun o => by rw [hc]; exact e o)
    | cells _ _ b3 =>
      rw [a] at b3
      exact (reps_no b3 (fun x hx => by cases hx)).elim
  | cells b1 b2 b3 b4 b5 =>
    cases h1 with
    | dead h => exact .dead h
    | ent a =>
      rw [a] at b3
      exact (reps_no b3 (fun x hx => by cases hx)).elim
    | bld a =>
      rw [a] at b3
      exact (reps_no b3 (fun x hx => by cases hx)).elim
    | byt a =>
      rw [a] at b3
      exact (reps_no b3 (fun x hx => by cases hx)).elim
    | cells a1 a2 a3 =>
      rw [hw, a1] at b1
      have e1 := Option.some.inj b1
      injection e1 with e1 e2
      subst e1
      exact .cells (by rw [hw]; exact a1) a2 (a3.mono hZ) (fun hf o x ho => by rw [hc]; exact b4 hf o x ho) (fun hf o => by rw [hc]; exact b5 hf o)
theorem Does.drop {F : FuncId} {args : List AV} {f : Mm → AV × Mm} {d : AV} (h : Does P F args f) (hw : ∀ m, ∃ ew, (f m).2 = { m with hw := m.hw ++ ew })
    (hd : ∀ (m : Mm) (X Y : Mem) (v : Value), Y.cell = X.cell → Rep X (f m).1 v → Rep Y d v) : Does P F args (fun m => (d, m)) := by
  refine ⟨h.1, fun X W0 m w vs M hargs => (h.2 X W0 m w vs M hargs).mono ?_⟩
  rintro e w' ⟨v, X', rfl, k1, k2, k3, k4⟩
  obtain ⟨ew, he⟩ := hw m
  rw [he] at k3
  have hL : ∀ b β, (X'.cut m.hp.length m.hw.length).loc b = some β → b < m.hp.length ∧ X'.loc b = some β := fun b β h => by
    simp only [Mem.cut] at h
    split at h
    · rename_i e; exact ⟨e, h⟩
    · cases h
  have hO : ∀ b β, (X'.cut m.hp.length m.hw.length).own b = some β → b < m.hw.length ∧ X'.own b = some β := fun b β h => by
    simp only [Mem.cut] at h
    split at h
    · rename_i e; exact ⟨e, h⟩
    · cases h
  have hLe : X.Le W0.heap.size (X'.cut m.hp.length m.hw.length) := ⟨k1.cell, k1.old, fun i β hi => by
      simp only [Mem.cut]
      rw [if_pos (M.ldom i β hi)]
      exact k1.loc i β hi, fun k T hk => by
      simp only [Mem.cut]
      rw [if_pos (M.odom k T hk)]
      exact k1.own k T hk, k1.room⟩
  refine ⟨v, X'.cut m.hp.length m.hw.length, rfl, hLe, hd m X' _ v rfl k2, ?_, k4⟩
  refine ⟨k3.below, k3.cell, fun i β h => (hL i β h).1, fun i blk h => ?_, fun i k β bi bj g1 g2 q1 q2 => M.inj i k β bi bj ?_ ?_ q1 q2, fun k T h => (hO k T h).1, fun k n h => ?_, fun i k S T g1 g2 he => k3.oinj i k S T (hO i S g1).2 (hO k T g2).2 he, k3.gl, k3.rm⟩
  · obtain ⟨β, g1, g2, g3, hB⟩ := M.locs i blk h
    obtain ⟨β', e1, e2, e3, hB'⟩ := k3.locs i blk h
    have : β' = β := by
      have := k1.loc i β g1
      rw [e1] at this
      exact Option.some.inj this
    subst this
    have hi := (List.getElem?_eq_some_iff.1 h).1
    exact ⟨β', by simp only [Mem.cut]; rw [if_pos hi]; exact e1, g2, e3, hB.keep hB' hLe rfl (k4 i β' g1)⟩
  · obtain ⟨β0, g3, _⟩ := M.locs i bi q1
    have := k1.loc i β0 g3
    rw [(hL i β g1).2] at this
    rw [Option.some.inj this]
    exact g3
  · obtain ⟨β0, g3, _⟩ := M.locs k bj q2
    have := k1.loc k β0 g3
    rw [(hL k β g2).2] at this
    rw [Option.some.inj this]
    exact g3
  · have hk := (List.getElem?_eq_some_iff.1 h).1
    obtain ⟨T, g1, g2, g3, g4, g5, g6, g7, g8, g9⟩ := k3.toks k n (by
      show (m.hw ++ ew)[k]? = some n
      rw [List.getElem?_append_left hk]; exact h)
    exact ⟨T, by simp only [Mem.cut]; rw [if_pos hk]; exact g1, g2, g3, g4, g5, g6, g7, g8, fun i hi => g9 i (hL i _ hi).2⟩
theorem Does.shut {F : FuncId} {args : List AV} {T : Type} {enc : T → List CV} {e : TypeId} {size : Nat} {l : List T} (h : Does P F args (freshA enc e size l)) : Does P F args (fun m => (slR enc l.isEmpty l, m)) :=
  h.drop (fun m => ⟨_, rfl⟩) fun m X Y v hY hr => shut_rep hY (shut_col enc _ l) hr
/-! ### parts of a slice, and what is appended to them -/
theorem flat_cut {T : Type} (enc : T → List CV) (k : Nat) (hk : ∀ x, (enc x).length = k) {l : List T} {i : Nat} (hi : i ≤ l.length) : (l.flatMap enc).take (i * k) = (l.take i).flatMap enc ∧ (l.flatMap enc).drop (i * k) = (l.drop i).flatMap enc := by
  have h1 : ((l.take i).flatMap enc).length = i * k := by rw [flat_length enc k hk, List.length_take, Nat.min_eq_left hi]
  have h2 : l.flatMap enc = (l.take i).flatMap enc ++ (l.drop i).flatMap enc := by rw [← List.flatMap_append, List.take_append_drop]
  rw [h2]
  exact ⟨List.take_left' h1, List.drop_left' h1⟩
theorem natI_nat (i : Nat) : natI (i : Int) = some i := by
  rfl
theorem app_more {T : Type} (enc : T → List CV) {t e : TypeId} {size bytes : Nat} (hk : ∀ x, (enc x).length = size) (ht : P.underlying t = some (.slice e)) (hi : info3 P e = some (size, bytes)) {hp : List Blk} {l r : List T} {ex : Bool} (hne : l ≠ [])
    (hl : l.length + r.length ≤ maxLen) (hb : (l.length + r.length) * bytes ≤ 140737488355328) :
    aAppend P ⟨hp, colH e size l⟩ t (colA enc 0 l) (slR enc ex r) = some (colA enc 0 (l ++ r), ⟨hp, colH e size (l ++ r)⟩) := by
  have hf : fits l.length r.length size bytes (l.flatMap enc).length (r.flatMap enc).length = true := by
    have h1 : Nat.ble (l.length + r.length) maxLen = true := by simpa using hl
    have h2 : Nat.ble ((l.length + r.length) * bytes) 140737488355328 = true := by simpa using hb
    simp only [fits, flat_length enc size hk, h1, h2, Nat.beq_refl, Bool.and_self]
  have hne2 : l ++ r ≠ [] := by simp [hne]
  rw [colA_ne enc 0 hne, colH_ne e size hne, colA_ne enc 0 hne2, colH_ne e size hne2]
  have hv : slV (slR enc ex r) = some (r.length, r.flatMap enc) := rfl
  have hd : dst (.own 0 l.length (l.flatMap enc)) = .own 0 l.length (l.flatMap enc) := rfl
  have h5 : ([(⟨l.length, e, size⟩ : Hw)])[0]? = some ⟨l.length, e, size⟩ := rfl
  simp only [aAppend, ht, hi, hv, hd, h5, hf, Nat.beq_refl, Bool.and_self, if_true]
  by_cases h0 : r = []
  · subst h0
    simp
  · have : Nat.beq r.length 0 = false := by
      rw [Bool.eq_false_iff]
      exact fun h => h0 (List.eq_nil_of_length_eq_zero (Nat.eq_of_beq_eq_true h))
    rw [this]
    simp
end Go.Vs.Ab
namespace Go.Proofs.YtinbfakpjnnagaaGreatDoor
open Go.Vs Go.Vs.Ab
set_option maxRecDepth 100000
theorem one_max : (1 ≤ maxLen) = True := eq_true (by decide)
set_option maxRecDepth 10000
/-! ### put -/
theorem gt_blt (x y : ByteArray) : (!(blt x y || decide (x = y))) = blt y x := by
  rcases blt_total x y with h | h | h
  · rw [h, blt_asymm h]; rfl
  · subst h; simp [blt_irrefl]
  · rw [h, blt_asymm h]
    have := blt_ne h
    simp [Ne.symm this]
set_option maxHeartbeats 2000000
end Go.Proofs.YtinbfakpjnnagaaGreatDoor
namespace Go.Proofs.YtinbfakpjnnagaaGreatDoor
open Go.RowKit Go.Vs Go.Vs.Ab
set_option maxRecDepth 100000
end Go.Proofs.YtinbfakpjnnagaaGreatDoor
namespace Go.Proofs.YtinbfakpjnnagaaGreatDoor
open Go.Vs Go.Vs.Ab
set_option maxRecDepth 100000
set_option maxRecDepth 10000
set_option maxHeartbeats 2000000
end Go.Proofs.YtinbfakpjnnagaaGreatDoor
namespace Go.Proofs.YtinbfakpjnnagaaGreatDoor
open Go.Vs Go.Vs.Ab
set_option maxRecDepth 100000
def pbE (l : List Bd) (v : ByteArray) (t : Tm) : Int := if pcheck l = false then 15 else if v = ⟨#[]⟩ ∨ t.name = ⟨#[]⟩ then 2 else if (pget l v).isSome = true then 5 else if pown ⟨v, pterm l t⟩ = true then 2 else 0
def pbL (l : List Bd) (v : ByteArray) (t : Tm) : List Bd := if pbE l v t = 0 then pwith (punder l [⟨v, pterm l t⟩]) ⟨v, pterm l t⟩ else []
set_option maxRecDepth 10000
set_option maxHeartbeats 2000000
end Go.Proofs.YtinbfakpjnnagaaGreatDoor
namespace Go.Proofs.YtinbfakpjnnagaaGreatDoor
open Go.Vs Go.Vs.Ab
set_option maxRecDepth 100000
set_option maxRecDepth 10000
set_option maxHeartbeats 2000000
end Go.Proofs.YtinbfakpjnnagaaGreatDoor
namespace Go.Proofs.YtinbfakpjnnagaaGreatDoor
open Go.Vs Go.Vs.Ab
set_option maxRecDepth 100000
set_option maxRecDepth 10000
set_option maxHeartbeats 2000000
end Go.Proofs.YtinbfakpjnnagaaGreatDoor
namespace Go.Proofs.YtinbfakpjnnagaaGreatDoor
open Go.Vs Go.Vs.Ab
set_option maxRecDepth 100000
end Go.Proofs.YtinbfakpjnnagaaGreatDoor
namespace Go.Proofs.YtinbfakpjnnagaaGreatDoor
open Go.Vs Go.Vs.Ab
set_option maxRecDepth 100000
set_option maxRecDepth 10000
set_option maxHeartbeats 2000000
end Go.Proofs.YtinbfakpjnnagaaGreatDoor
namespace Go.Proofs.YtinbfakpjnnagaaGreatDoor
open Go.Vs Go.Vs.Ab
set_option maxRecDepth 100000
end Go.Proofs.YtinbfakpjnnagaaGreatDoor
namespace Go.Vs
def lowerB (c : UInt8) : Bool := decide (97 ≤ c.toNat) && decide (c.toNat ≤ 122)
def upperB (c : UInt8) : Bool := decide (65 ≤ c.toNat) && decide (c.toNat ≤ 90)
def digB (c : UInt8) : Bool := decide (48 ≤ c.toNat) && decide (c.toNat ≤ 57)
def underB (c : UInt8) : Bool := decide (c.toNat = 95)
abbrev lts (s : ByteArray) : List UInt8 := s.data.toList
def reservedL : List ByteArray := [⟨#[115, 97, 121, 115]⟩, ⟨#[105, 102]⟩, ⟨#[99, 97, 110, 115, 97, 121]⟩, ⟨#[112, 114, 105, 110, 99, 105, 112, 97, 108]⟩, ⟨#[112, 114, 101, 100]⟩, ⟨#[99, 108, 101, 97, 114]⟩, ⟨#[113, 117, 111, 116, 97]⟩, ⟨#[98, 117, 100, 103, 101, 116]⟩]
def preserved (s : ByteArray) : Bool := reservedL.any fun w => decide (w = s)
def constB (c : UInt8) : Bool := lowerB c || digB c || underB c
def varB (c : UInt8) : Bool := lowerB c || upperB c || digB c || underB c
def headL (p : UInt8 → Bool) : List UInt8 → Bool
  | [] => false
  | c :: _ => p c
def headB (p : UInt8 → Bool) (s : ByteArray) : Bool := headL p (lts s)
def pconst0 (s : ByteArray) : Bool := decide (s.size ≤ 255) && headB (fun c => !underB c) s && (lts s).all constB
def pconstant (s : ByteArray) : Bool := pconst0 s && !preserved s
def pprincipal (s : ByteArray) : Bool := pconstant s && headB lowerB s
def pvariable (s : ByteArray) : Bool := decide (s.size ≤ 255) && headB upperB s && (lts s).all varB
def ptermok (t : Tm) : Bool := if t.v then pvariable t.name else pconstant t.name
theorem all_next {T : Type} {p : T → Bool} {l : List T} {k : Nat} (h : k < l.length) (h1 : (l.take k).all p = true) (h2 : p l[k] = true) : (l.take (k + 1)).all p = true := by
  rw [List.take_succ_eq_append_getElem h, List.all_append, h1]
  simp [h2]
theorem all_fail {T : Type} {p : T → Bool} {l : List T} {k : Nat} (h : k < l.length) (h2 : p l[k] = false) : l.all p = false := by
  rw [Bool.eq_false_iff]
  intro h3
  rw [List.all_eq_true] at h3
  rw [h3 _ (List.getElem_mem h)] at h2
  cases h2
def Atm.restB (a : Atm) : Bool := (List.range 4).all fun k => decide ((k : Int) < a.n) || decide (a.arg k = ⟨false, ⟨#[]⟩⟩)
def Atm.termsB (a : Atm) : Bool := (List.range 4).all fun k => !decide ((k : Int) < a.n) || ptermok (a.arg k)
def pcheck3 (a : Atm) : Int :=
  if (pprincipal a.says && pprincipal a.pred) = false then 3
  else if a.n < 0 ∨ 4 < a.n then 4
  else if a.termsB = false then 3
  else if a.restB = false then 15
  else 0
end Go.Vs
namespace Go.Proofs.YtinbfakpjnnagaaGreatDoor
open Go.Vs Go.Vs.Ab
set_option maxRecDepth 100000
theorem int_beq (a b : Int) : (a == b) = decide (a = b) := by
  rw [Bool.eq_iff_iff, beq_iff_eq, decide_eq_true_eq]
theorem int_bne (a b : Int) : (a != b) = !decide (a = b) := by
  unfold bne
  rw [int_beq]
attribute [go_sem] int_beq int_bne
set_option maxRecDepth 10000
end Go.Proofs.YtinbfakpjnnagaaGreatDoor
namespace Go.Proofs.YtinbfakpjnnagaaGreatDoor
open Go.Vs Go.Vs.Ab
set_option maxRecDepth 100000
set_option maxRecDepth 10000
end Go.Proofs.YtinbfakpjnnagaaGreatDoor
namespace Go.Proofs.YtinbfakpjnnagaaGreatDoor
open Go.Vs Go.Vs.Ab
set_option maxRecDepth 100000
theorem arrT {b off k : Nat} (h : k < 4) : aIndexAddr Tryz.prog 31 (.ptr b off) (.c (.v (.int .i64 (k : Int)))) = some (.ptr b (off + k * 2)) := by
  have h1 : Nat.blt k 4 = true := by simpa using h
  have hn : ¬ ((k : Int) < 0) := by omega
  simp only [aIndexAddr, intV, Tryz.underlying31, sz30, Int.toNat_natCast, h1, if_true, hn, decide_false, Bool.false_eq_true, if_false]
theorem atV (a : Atm) {k : Nat} (h : k < 4) : ([.c (.v (.string a.says)), .c (.v (.string a.pred)), .c (.v (.int .i64 a.n)), .c (.v (.bool a.a0.v)), .c (.v (.string a.a0.name)), .c (.v (.bool a.a1.v)), .c (.v (.string a.a1.name)), .c (.v (.bool a.a2.v)), .c (.v (.string a.a2.name)), .c (.v (.bool a.a3.v)), .c (.v (.string a.a3.name))] : List AV)[3 + k * 2]? = some (.c (.v (.bool (a.arg k).v))) := by
  obtain rfl | rfl | rfl | rfl : k = 0 ∨ k = 1 ∨ k = 2 ∨ k = 3 := by omega
  all_goals rfl
theorem atS (a : Atm) {k : Nat} (h : k < 4) : ([.c (.v (.string a.says)), .c (.v (.string a.pred)), .c (.v (.int .i64 a.n)), .c (.v (.bool a.a0.v)), .c (.v (.string a.a0.name)), .c (.v (.bool a.a1.v)), .c (.v (.string a.a1.name)), .c (.v (.bool a.a2.v)), .c (.v (.string a.a2.name)), .c (.v (.bool a.a3.v)), .c (.v (.string a.a3.name))] : List AV)[3 + k * 2 + 1]? = some (.c (.v (.string (a.arg k).name))) := by
  obtain rfl | rfl | rfl | rfl : k = 0 ∨ k = 1 ∨ k = 2 ∨ k = 3 := by omega
  all_goals rfl
theorem atD2 (a : Atm) {k : Nat} (h : k < 4) : List.drop (3 + k * 2) ([.c (.v (.string a.says)), .c (.v (.string a.pred)), .c (.v (.int .i64 a.n)), .c (.v (.bool a.a0.v)), .c (.v (.string a.a0.name)), .c (.v (.bool a.a1.v)), .c (.v (.string a.a1.name)), .c (.v (.bool a.a2.v)), .c (.v (.string a.a2.name)), .c (.v (.bool a.a3.v)), .c (.v (.string a.a3.name))] : List AV) = .c (.v (.bool (a.arg k).v)) :: .c (.v (.string (a.arg k).name)) :: List.drop (3 + k * 2 + 2) ([.c (.v (.string a.says)), .c (.v (.string a.pred)), .c (.v (.int .i64 a.n)), .c (.v (.bool a.a0.v)), .c (.v (.string a.a0.name)), .c (.v (.bool a.a1.v)), .c (.v (.string a.a1.name)), .c (.v (.bool a.a2.v)), .c (.v (.string a.a2.name)), .c (.v (.bool a.a3.v)), .c (.v (.string a.a3.name))] : List AV) := by
  obtain rfl | rfl | rfl | rfl : k = 0 ∨ k = 1 ∨ k = 2 ∨ k = 3 := by omega
  all_goals rfl
theorem atLe {k : Nat} (h : k < 4) : (3 + k * 2 + 2 ≤ 11) = True := eq_true (by omega)
set_option maxRecDepth 10000
end Go.Proofs.YtinbfakpjnnagaaGreatDoor
set_option linter.unusedSectionVars false
namespace Go.Proofs.YtinbfakpjnnagaaGreatDoor
open Go.Vs Go.Vs.Ab
set_option maxRecDepth 100000
def gL (V : List ByteArray) (f : Nat → ByteArray) : Nat → List Bd
  | 0 => []
  | k + 1 => pbL (gL V f k) ((V[k]?).getD ⟨#[]⟩) ⟨false, f k⟩
structure GInv (V : List ByteArray) (f : Nat → ByteArray) (k : Nat) : Prop where
  check : pcheck (gL V f k) = true
  len : (gL V f k).length = k
  get : ∀ j (h : j < V.length), j < k → pget (gL V f k) V[j] = some ⟨false, f j⟩
  none : ∀ n, n ∉ V.take k → pget (gL V f k) n = none
theorem pseen_iff (a : Atm) (i : Nat) : ∀ {j : Nat}, j ≤ 4 → (pseen a i j = true ↔ ∃ m, m < j ∧ a.arg m = a.arg i)
  | 0, _ => by simp [pseen]
  | j + 1, h => by
    rw [pseen_next a i (by omega), Bool.or_eq_true, pseen_iff a i (by omega), decide_eq_true_eq]
    constructor
    · rintro (⟨m, h1, h2⟩ | h1)
      · exact ⟨m, by omega, h2⟩
      · exact ⟨j, by omega, h1⟩
    · rintro ⟨m, h1, h2⟩
      by_cases e : m = j
      · subst e; exact Or.inr h2
      · exact Or.inl ⟨m, by omega, h2⟩
section
variable {a : Atm} {f : Nat → ByteArray} (h : pcheck3 a = 0) (G : GInv (pnames a true) f (pnames a true).length) (hf : ∀ k, k < (pnames a true).length → pconstant (f k) = true)
include h G hf
end
end Go.Proofs.YtinbfakpjnnagaaGreatDoor
namespace Go.Proofs.YtinbfakpjnnagaaGreatDoor
open Go.Vs Go.Vs.Ab
set_option maxRecDepth 100000
set_option maxRecDepth 10000
end Go.Proofs.YtinbfakpjnnagaaGreatDoor
namespace Go.Vs.Ab
open Go.RowKit
variable {P : Program}
theorem app_any {T : Type} (enc : T → List CV) {t e : TypeId} {size bytes : Nat} (hk : ∀ x, (enc x).length = size) (ht : P.underlying t = some (.slice e)) (hi : info3 P e = some (size, bytes)) {hp : List Blk} {l r : List T} {ex : Bool}
    (hl : l.length + r.length ≤ maxLen) (hb : (l.length + r.length) * bytes ≤ 140737488355328) :
    aAppend P ⟨hp, colH e size l⟩ t (colA enc 0 l) (slR enc ex r) = some (colA enc 0 (l ++ r), ⟨hp, colH e size (l ++ r)⟩) := by
  by_cases hne : l = []
  · subst hne
    have hf : fits 0 r.length size bytes 0 (r.flatMap enc).length = true := by
      have h1 : Nat.ble (0 + r.length) maxLen = true := by simpa using hl
      have h2 : Nat.ble ((0 + r.length) * bytes) 140737488355328 = true := by simpa using hb
      simp only [fits, flat_length enc size hk, h1, h2, Nat.beq_refl, Bool.and_self, Nat.zero_mul]
    have hv : slV (slR enc ex r) = some (r.length, r.flatMap enc) := rfl
    have hd : dst (colA enc 0 ([] : List T)) = .exact 0 [] := rfl
    have hn : Nat.beq 0 0 = true := rfl
    rw [List.nil_append]
    show aAppend P ⟨hp, []⟩ t (colA enc 0 []) (slR enc ex r) = _
    simp only [aAppend, ht, hi, hv, hd, List.length_nil, hf, if_true]
    by_cases h0 : r = []
    · subst h0
      rfl
    · have : Nat.beq r.length 0 = false := by
        rw [Bool.eq_false_iff]
        exact fun h => h0 (List.eq_nil_of_length_eq_zero (Nat.eq_of_beq_eq_true h))
      rw [this, colA_ne enc 0 h0, colH_ne e size h0]
      simp
  · exact app_more enc hk ht hi hne hl hb
/-! ### is a slice nil? -/
theorem bin_nil {t e : TypeId} (ht : P.underlying t = some (.slice e)) (a : Option Addr) (n cap : Nat) : pureVal P (binOp .eql t (.slice a n cap) (.slice none 0 0)) = some (.bool a.isNone) := by
  have e1 : binOp .eql t (.slice a n cap) (.slice none 0 0) = (do pure (Value.bool (← Op.equal t (.slice a n cap) (.slice none 0 0)))) := rfl
  rw [e1, pv_bind]
  have h' : pureVal P (Op.equal t (.slice a n cap) (.slice none 0 0)) = some a.isNone := by
    show pureVal P (Op.equalIn (9999 + 1) t (.slice a n cap) (.slice none 0 0)) = some a.isNone
    unfold Op.equalIn
    rw [pv_bind]
    have hu : pureVal P (underlying t) = some (.slice e) := by
      simp only [underlying, program, pureVal, bind, Sem.bind, ht, pure]
    rw [hu]
    cases a <;> rfl
  rw [h']
  rfl
theorem tr_nil2 {R : MRel} [hR : RelOk R] {nt id s d1 n : Nat} {fr : Fr} {m : Mm} {Q : Ex → Fr → Mm → Prop} {o1 : Oper} {l : List Oper} {ex : Bool} {cs : List CV} (ho1 : o1.op = .move (.tmp s)) (hd1 : o1.dst = some d1) (hg1 : o1.guard = none) (hnt : Nat.blt d1 nt = true)
    (hf : find fr s = some (.c (.sl ex n cs))) (h : ∀ a cap, (a = none → n = 0 ∧ cap = 0) → SeqW P nt (o1 :: l).toArray l ((d1, .c (.v (.slice a n cap))) :: fr) m (Q .nrm)) : Tr R P nt (.region id (o1 :: l).toArray false) fr m Q := fun X W0 w ac F M => by
  obtain ⟨x, hx, hr⟩ := F.slot s _ hf
  cases hr with
  | c hr =>
    cases hr with
    | sl hl hh hn hc he hax =>
      rename_i xs a cap
      have key := h a cap (fun e => by
        have := hc.2 e
        omega)
      refine wp_region ?_
      rw [show List.range (o1 :: l).toArray.size = 0 :: List.range' 1 l.length from by
        rw [List.size_toArray, List.length_cons, List.range_eq_range', List.range'_succ]]
      rw [wpOps_cons]
      unfold wpOp
      simp only [List.getElem?_toArray, List.getElem?_cons_zero]
      rw [if_pos (aWanted_ok F (show aWanted (o1 :: l).toArray fr o1 = some true by unfold aWanted; rw [hg1]))]
      refine Or.inl ?_
      have hv : ac.eval (.tmp s) = .slice a n cap := by
        show ac.tmps.getD s undef = _
        rw [Array.getD_eq_getD_getElem?, hx]
        rfl
      have g2 : (execOp ac.eval o1).run P w = .ok (.value (.slice a n cap)) w := by
        obtain ⟨dst, op, type, pos, after, guard⟩ := o1
        simp only at ho1
        subst ho1
        show (Sem.pure (Next.value (ac.eval (.tmp s)))).run P w = _
        rw [hv]
        rfl
      unfold Oper.wp
      rw [g2]
      have F1 : FR X nt ((d1, .c (.v (.slice a n cap))) :: fr) (ac.put (some d1) (.slice a n cap)) := F.put (by simpa using hnt) (.c (.v rfl))
      show wpOps P (o1 :: l).toArray _ (List.range' 1 l.length) (ac.put o1.dst (.slice a n cap)) w
      rw [hd1]
      refine seqW_wp l 1 (fun j => by simp [Nat.add_comm 1 j]) F1 M key ?_
      exact fun fr' m' a' w' X' k0 k1 k2 k3 => ⟨.nrm, fr', m', X', rfl, k0, hR.of k1, k2, k3⟩
end Go.Vs.Ab
namespace Go.Proofs.YtinbfakpjnnagaaGreatDoor
open Go.Vs Go.Vs.Ab
set_option maxRecDepth 100000
set_option maxRecDepth 10000
def ltx (bytes : Int) : Int → List ByteArray → Bool
  | _, [] => true
  | n, s :: r => if bytes < IntKind.i64.wrap (n + (s.size : Int)) then false else ltx bytes (IntKind.i64.wrap (n + (s.size : Int))) r
def lightTx (l : List ByteArray) (most bytes : Int) : Bool := !decide (most < (l.length : Int)) && ltx bytes 0 l
theorem lightTx_len {l : List ByteArray} {most bytes : Int} (h : lightTx l most bytes = true) : (l.length : Int) ≤ most := by
  unfold lightTx at h
  simp only [Bool.and_eq_true, Bool.not_eq_true', decide_eq_false_iff_not] at h
  omega
theorem lightTexts_does (l : List ByteArray) (most bytes : Int) (ex : Bool) (hmost : most ≤ 1000000) : Does Tryz.prog 29 [slS ex l, iA most, iA bytes] (fun m => (bA (lightTx l most bytes), m)) := by
  have lenS := fun s => b_lenS (P := Tryz.prog) 9 3 Tryz.underlying9 s
  cases h1 : decide (most < (l.length : Int)) with
  | true =>
    have hr : lightTx l most bytes = false := by unfold lightTx; rw [h1]; rfl
    refine does_of' Tryz.func29 rfl (by kernel_rfl) rfl Tryz.ntmps29 rfl rfl fun Q hQ => ?_
    repeat (first | refine tr_seq_k fun _ _ => ?_ | (refine tr_region ?_; simp only [go_sem, List.getElem?_toArray, reduceCtorEq, Nat.reduceEqDiff, Nat.reduceLT, Nat.reduceAdd, ↓reduceIte, h1]) | refine k_of (by assumption) ?_)
    refine tr_cond rfl (fun ht => ?_) (fun hf => ?_)
    · repeat (first | refine tr_seq_k fun _ _ => ?_ | (refine tr_region ?_; simp only [go_sem, reduceCtorEq, Nat.reduceEqDiff, Nat.reduceLT, ↓reduceIte]) | refine k_of (by assumption) ?_ | (refine tr_ret ?_; try simp only [ex_seq_ret]))
      refine (hQ _ _ [bA false] ?_ (fun m => ?_)).2 <;> simp only [go_sem, reduceCtorEq, Nat.reduceEqDiff, ↓reduceIte, Tryz.f29, hr]
    · cases hf
  | false =>
    have hz : lightTx l most bytes = ltx bytes 0 l := by unfold lightTx; rw [h1]; rfl
    have hlm : (l.length : Int) ≤ most := by
      have := of_decide_eq_false h1
      omega
    refine does_of' Tryz.func29 rfl (by kernel_rfl) rfl Tryz.ntmps29 rfl rfl fun Q hQ => ?_
    repeat (first | refine tr_seq_k fun _ _ => ?_ | (refine tr_region ?_; simp only [go_sem, List.getElem?_toArray, reduceCtorEq, Nat.reduceEqDiff, Nat.reduceLT, Nat.reduceAdd, ↓reduceIte, h1]) | refine k_of (by assumption) ?_)
    refine tr_cond rfl (fun ht => ?_) (fun hf => ?_)
    · cases ht
    · repeat (first | refine tr_seq_k fun _ _ => ?_ | (refine tr_region ?_; simp only [go_sem, reduceCtorEq, Nat.reduceEqDiff, Nat.reduceLT, ↓reduceIte]) | refine k_of (by assumption) ?_ | refine tr_block ?_ | (refine tr_skip ?_; try simp only [ex_seq]))
      refine tr_loop_k (σ := Nat × Int) (fun s => [(0, slS ex l), (1, iA most), (2, iA bytes), (7, iA s.2), (8, iA s.1)]) (fun _ => ⟨[], []⟩)
        (fun s => s.1 ≤ l.length ∧ ltx bytes 0 l = ltx bytes s.2 (l.drop s.1)) (fun s => l.length - s.1) (0, 0) ⟨Nat.zero_le _, rfl⟩ ⟨rfl, rfl, rfl, rfl, rfl, trivial⟩ rfl ?_
      rintro ⟨k, n⟩ ⟨hk, hp⟩ K hK
      simp only at hk hp
      repeat (first | refine tr_seq_k fun _ _ => ?_ | (refine tr_region ?_; simp only [go_sem, List.getElem?_toArray, reduceCtorEq, Nat.reduceEqDiff, Nat.reduceLT, ↓reduceIte]) | refine k_of (by assumption) ?_)
      refine tr_cond rfl (fun ht => ?_) (fun hf => ?_)
      · have hlt : k < l.length := by simpa using ht
        have ws := wrap_succ (show k ≤ 1000000000 by omega)
        have hd : l.drop k = l[k] :: l.drop (k + 1) := (List.drop_eq_getElem_cons hlt)
        have hu : ltx bytes n (l[k] :: l.drop (k + 1)) = if bytes < IntKind.i64.wrap (n + (l[k].size : Int)) then false else ltx bytes (IntKind.i64.wrap (n + (l[k].size : Int))) (l.drop (k + 1)) := rfl
        rw [hd, hu] at hp
        cases h2 : decide (bytes < IntKind.i64.wrap (n + (l[k].size : Int))) with
        | true =>
          rw [if_pos (of_decide_eq_true h2)] at hp
          have hr : lightTx l most bytes = false := hz.trans hp
          repeat (first | refine tr_seq_k fun _ _ => ?_ | (refine tr_region ?_; simp only [go_sem, List.getElem?_toArray, reduceCtorEq, Nat.reduceEqDiff, Nat.reduceLT, ↓reduceIte, idxS hlt, lenS, h2]) | refine k_of (by assumption) ?_ | refine tr_block ?_ | (refine tr_skip ?_; try simp only [ex_seq]))
          refine tr_cond rfl (fun ht => ?_) (fun hf => ?_)
          · repeat (first | refine tr_seq_k fun _ _ => ?_ | (refine tr_region ?_; simp only [go_sem, reduceCtorEq, Nat.reduceEqDiff, Nat.reduceLT, ↓reduceIte]) | refine k_of (by assumption) ?_ | (refine tr_ret ?_; try simp only [ex_seq_ret, ex_block_ret]))
            refine (hQ _ _ [bA false] ?_ (fun m => ?_)).2 <;> simp only [go_sem, reduceCtorEq, Nat.reduceEqDiff, ↓reduceIte, Tryz.f29, hr]
          · cases hf
        | false =>
          rw [if_neg (of_decide_eq_false h2)] at hp
          repeat (first | refine tr_seq_k fun _ _ => ?_ | (refine tr_region ?_; simp only [go_sem, List.getElem?_toArray, reduceCtorEq, Nat.reduceEqDiff, Nat.reduceLT, ↓reduceIte, idxS hlt, lenS, h2]) | refine k_of (by assumption) ?_ | refine tr_block ?_ | (refine tr_skip ?_; try simp only [ex_seq]))
          refine tr_cond rfl (fun ht => ?_) (fun hf => ?_)
          · cases ht
          · repeat (first | (refine tr_region ?_; simp only [go_sem, reduceCtorEq, Nat.reduceEqDiff, Nat.reduceLT, ↓reduceIte, ws]) | refine k_of (by assumption) ?_ | (refine tr_skip ?_; try simp only [ex_seq, ex_block]))
            exact hK (k + 1, IntKind.i64.wrap (n + (l[k].size : Int))) _ _ ⟨hlt, hp⟩ ⟨⟨rfl, rfl, rfl, rfl, rfl, trivial⟩, Keep.refl _, rfl, rfl, Nat.le_refl _, Nat.le_refl _⟩ (by simp only; omega)
      · have hkl : k = l.length := by
          have := of_decide_eq_false hf
          omega
        subst hkl
        rw [List.drop_length] at hp
        have hr : lightTx l most bytes = true := hz.trans hp
        repeat (first | refine tr_seq_k fun _ _ => ?_ | (refine tr_region ?_; simp only [go_sem, reduceCtorEq, Nat.reduceEqDiff, Nat.reduceLT, ↓reduceIte]) | refine k_of (by assumption) ?_ | (refine tr_exit ?_; try simp only [ex_seq_exit, ex_block_exit, ex_seq, ↓reduceIte]) | (refine tr_ret ?_; try simp only [ex_seq_ret, ex_block_ret]))
        refine (hQ _ _ [bA true] ?_ (fun m => ?_)).2 <;> simp only [go_sem, reduceCtorEq, Nat.reduceEqDiff, ↓reduceIte, Tryz.f29, hr]
theorem build0S : aBuildSlice Tryz.prog 22 0 [] = some [] := by kernel_rfl
theorem zero_max : (0 ≤ maxLen) = True := eq_true (Nat.zero_le _)
theorem take_next_eq {T : Type} {a b : List T} {k : Nat} (ha : k < a.length) (hb : k < b.length) (h : a.take k = b.take k) (e : a[k] = b[k]) : a.take (k + 1) = b.take (k + 1) := by
  rw [List.take_succ_eq_append_getElem ha, List.take_succ_eq_append_getElem hb, h, e]
theorem sameS_does (a b : List ByteArray) (ex ex2 : Bool) (hl : a.length ≤ 1000000) : Does Tryz.prog 18 [slS ex a, slS ex2 b] (fun m => (bA (decide (a = b)), m)) := by
  cases h1 : decide ((a.length : Int) = (b.length : Int)) with
  | false =>
    have hr : decide (a = b) = false := decide_eq_false fun e => of_decide_eq_false h1 (by rw [e])
    refine does_of' Tryz.func18 rfl (by kernel_rfl) rfl Tryz.ntmps18 rfl rfl fun Q hQ => ?_
    repeat (first | refine tr_seq_k fun _ _ => ?_ | (refine tr_region ?_; simp only [go_sem, List.getElem?_toArray, reduceCtorEq, Nat.reduceEqDiff, Nat.reduceLT, ↓reduceIte, h1]) | refine k_of (by assumption) ?_)
    refine tr_cond rfl (fun ht => ?_) (fun hf => ?_)
    · repeat (first | refine tr_seq_k fun _ _ => ?_ | (refine tr_region ?_; simp only [go_sem, reduceCtorEq, Nat.reduceEqDiff, Nat.reduceLT, ↓reduceIte]) | refine k_of (by assumption) ?_ | (refine tr_ret ?_; try simp only [ex_seq_ret]))
      refine (hQ _ _ [bA false] ?_ (fun m => ?_)).2 <;> simp only [go_sem, reduceCtorEq, Nat.reduceEqDiff, ↓reduceIte, Tryz.f18, hr]
    · cases hf
  | true =>
    have hlen : a.length = b.length := by
      have := of_decide_eq_true h1
      omega
    refine does_of' Tryz.func18 rfl (by kernel_rfl) rfl Tryz.ntmps18 rfl rfl fun Q hQ => ?_
    repeat (first | refine tr_seq_k fun _ _ => ?_ | (refine tr_region ?_; simp only [go_sem, List.getElem?_toArray, reduceCtorEq, Nat.reduceEqDiff, Nat.reduceLT, ↓reduceIte, h1]) | refine k_of (by assumption) ?_)
    refine tr_cond rfl (fun ht => ?_) (fun hf => ?_)
    · cases ht
    · repeat (first | refine tr_seq_k fun _ _ => ?_ | (refine tr_region ?_; simp only [go_sem, reduceCtorEq, Nat.reduceEqDiff, Nat.reduceLT, ↓reduceIte]) | refine k_of (by assumption) ?_ | refine tr_block ?_ | (refine tr_skip ?_; try simp only [ex_seq]))
      refine tr_loop_k (σ := Nat) (fun k => [(0, slS ex a), (1, slS ex2 b), (5, iA k)]) (fun _ => ⟨[], []⟩)
        (fun k => k ≤ a.length ∧ a.take k = b.take k) (fun k => a.length - k) 0 ⟨Nat.zero_le _, rfl⟩ ⟨rfl, rfl, rfl, trivial⟩ rfl ?_
      rintro k ⟨hk, hp⟩ K hK
      repeat (first | refine tr_seq_k fun _ _ => ?_ | (refine tr_region ?_; simp only [go_sem, List.getElem?_toArray, reduceCtorEq, Nat.reduceEqDiff, Nat.reduceLT, ↓reduceIte]) | refine k_of (by assumption) ?_)
      refine tr_cond rfl (fun ht => ?_) (fun hf => ?_)
      · have hlt : k < a.length := by simpa using ht
        have hlb : k < b.length := by omega
        have ws := wrap_succ (show k ≤ 1000000000 by omega)
        cases h2 : decide (a[k] = b[k]) with
        | false =>
          have hr : decide (a = b) = false := decide_eq_false fun e => of_decide_eq_false h2 (by subst e; rfl)
          repeat (first | refine tr_seq_k fun _ _ => ?_ | (refine tr_drawC (id := 6) follows 10000 (by kernel_rfl) ?_; simp only [go_sem, str_beq, reduceCtorEq, Nat.reduceEqDiff, Nat.reduceLT, ↓reduceIte, idxS hlt, idxS hlb, h2]) | refine k_of (by assumption) ?_ | refine tr_block ?_ | (refine tr_skip ?_; try simp only [ex_seq]))
          refine tr_cond rfl (fun ht => ?_) (fun hf => ?_)
          · repeat (first | refine tr_seq_k fun _ _ => ?_ | (refine tr_region ?_; simp only [go_sem, reduceCtorEq, Nat.reduceEqDiff, Nat.reduceLT, ↓reduceIte]) | refine k_of (by assumption) ?_ | (refine tr_ret ?_; try simp only [ex_seq_ret, ex_block_ret]))
            refine (hQ _ _ [bA false] ?_ (fun m => ?_)).2 <;> simp only [go_sem, reduceCtorEq, Nat.reduceEqDiff, ↓reduceIte, Tryz.f18, hr]
          · cases hf
        | true =>
          repeat (first | refine tr_seq_k fun _ _ => ?_ | (refine tr_drawC (id := 6) follows 10000 (by kernel_rfl) ?_; simp only [go_sem, str_beq, reduceCtorEq, Nat.reduceEqDiff, Nat.reduceLT, ↓reduceIte, idxS hlt, idxS hlb, h2]) | refine k_of (by assumption) ?_ | refine tr_block ?_ | (refine tr_skip ?_; try simp only [ex_seq]))
          refine tr_cond rfl (fun ht => ?_) (fun hf => ?_)
          · cases ht
          · repeat (first | (refine tr_region ?_; simp only [go_sem, reduceCtorEq, Nat.reduceEqDiff, Nat.reduceLT, ↓reduceIte, ws]) | refine k_of (by assumption) ?_ | (refine tr_skip ?_; try simp only [ex_seq, ex_block]))
            exact hK (k + 1) _ _ ⟨hlt, take_next_eq hlt hlb hp (of_decide_eq_true h2)⟩ ⟨⟨rfl, rfl, rfl, trivial⟩, Keep.refl _, rfl, rfl, Nat.le_refl _, Nat.le_refl _⟩ (by omega)
      · have hkl : k = a.length := by
          have := of_decide_eq_false hf
          omega
        have hr : decide (a = b) = true := by
          rw [hkl, List.take_length, hlen, List.take_length] at hp
          exact decide_eq_true hp
        repeat (first | refine tr_seq_k fun _ _ => ?_ | (refine tr_region ?_; simp only [go_sem, reduceCtorEq, Nat.reduceEqDiff, Nat.reduceLT, ↓reduceIte]) | refine k_of (by assumption) ?_ | (refine tr_exit ?_; try simp only [ex_seq_exit, ex_block_exit, ex_seq, ↓reduceIte]) | (refine tr_ret ?_; try simp only [ex_seq_ret, ex_block_ret]))
        refine (hQ _ _ [bA true] ?_ (fun m => ?_)).2 <;> simp only [go_sem, reduceCtorEq, Nat.reduceEqDiff, ↓reduceIte, Tryz.f18, hr]
end Go.Proofs.YtinbfakpjnnagaaGreatDoor
namespace Go.Proofs.YtinbfakpjnnagaaGreatDoor
open Go.Vs Go.Vs.Ab
set_option maxRecDepth 100000
end Go.Proofs.YtinbfakpjnnagaaGreatDoor
namespace Go.Proofs.YtinbfakpjnnagaaGreatDoor
open Go.Vs Go.Vs.Ab
set_option maxRecDepth 100000
/-! ### under -/
/-! ### what is matched -/
/-! ### one atom, then another -/
/-! ### of a list -/
end Go.Proofs.YtinbfakpjnnagaaGreatDoor
namespace Go.Proofs.YtinbfakpjnnagaaGreatDoor
open Go.Vs Go.Vs.Ab
set_option maxRecDepth 100000
abbrev slM (ex : Bool) (l : List Tm) : AV := slR tmC ex l
theorem idxM {ex : Bool} {l : List Tm} {k : Nat} (h : k < l.length) : aIndexAddr Tryz.prog 99 (slM ex l) (.c (.v (.int .i64 (k : Int)))) = some (.cptr (tmC l[k] ++ (l.drop (k + 1)).flatMap tmC)) :=
  idx_R tmC 2 (fun _ => rfl) Tryz.underlying99 sz30 (by decide) h
set_option maxRecDepth 10000
theorem arrB {n : Nat} (h : n ≤ 4) : bnds 4 none (some (n : Int)) none = some (0, n, none) := by
  unfold bnds
  simp [natI_nat, h]
theorem arrL {n : Nat} (h : n ≤ 4) : (n * 2 ≤ 8) = True := eq_true (by omega)
theorem four_max : (4 ≤ maxLen) = True := eq_true (by decide)
theorem arrC (p : Atm) {n : Nat} (h : n ≤ 4) : List.take (n * 2) ([.v (.bool p.a0.v), .v (.string p.a0.name), .v (.bool p.a1.v), .v (.string p.a1.name), .v (.bool p.a2.v), .v (.string p.a2.name), .v (.bool p.a3.v), .v (.string p.a3.name)] : List CV) = (p.args.take n).flatMap tmC := by
  obtain rfl | rfl | rfl | rfl | rfl : n = 0 ∨ n = 1 ∨ n = 2 ∨ n = 3 ∨ n = 4 := by omega
  all_goals rfl
theorem arrF (p : Atm) {n : Nat} (h : n ≤ 4) (b : Bool) : AV.c (.sl b n ((p.args.take n).flatMap tmC)) = slM b (p.args.take n) := by
  have e : (p.args.take n).length = n := by rw [List.length_take, Nat.min_eq_left (by show n ≤ 4; exact h)]
  show _ = AV.c (.sl b (p.args.take n).length ((p.args.take n).flatMap tmC))
  rw [e]
theorem args_does (a : Atm) : Does Tryz.prog 66 [atA a] (fun m => (slM (Nat.beq 4 a.count) (a.args.take a.count), m)) := by
  have h := a.count_le
  refine does_of' Tryz.func66 rfl (by kernel_rfl) rfl Tryz.ntmps66 rfl rfl fun Q hQ => ?_
  repeat (first | refine tr_seq_k fun _ _ => ?_ | (refine tr_region ?_; simp only [go_sem, List.getElem?_toArray, reduceCtorEq, Nat.reduceEqDiff, Nat.reduceLT, Nat.reduceAdd, ↓reduceIte, count_if, arrB h, arrL h, four_max, arrC a h, arrF a h, Option.getD_none, Nat.sub_zero]) | refine k_of (by assumption) ?_ | (refine tr_ret ?_; try simp only [ex_seq_ret, ex_block_ret]))
  refine (hQ _ _ [slM (Nat.beq 4 a.count) (a.args.take a.count)] ?_ (fun m => rfl)).2 <;> simp only [go_sem, reduceCtorEq, Nat.reduceEqDiff, ↓reduceIte, Tryz.f66]
/-! ### a copy; where a term stands -/
end Go.Proofs.YtinbfakpjnnagaaGreatDoor
namespace Go.Proofs.YtinbfakpjnnagaaGreatDoor
open Go.Vs Go.Vs.Ab
set_option maxRecDepth 100000
set_option maxRecDepth 100000
set_option maxHeartbeats 2000000
end Go.Proofs.YtinbfakpjnnagaaGreatDoor
namespace Go.Proofs.YtinbfakpjnnagaaGreatDoor
open Go.Vs Go.Vs.Ab
set_option maxRecDepth 100000
def Atm.setArg (a : Atm) (k : Nat) (t : Tm) : Atm := match k with
  | 0 => { a with a0 := t }
  | 1 => { a with a1 := t }
  | 2 => { a with a2 := t }
  | _ => { a with a3 := t }
theorem atSet (b : Atm) {k : Nat} (h : k < 4) (t : Tm) : List.take (3 + k * 2) ([.c (.v (.string b.says)), .c (.v (.string b.pred)), .c (.v (.int .i64 b.n)), .c (.v (.bool b.a0.v)), .c (.v (.string b.a0.name)), .c (.v (.bool b.a1.v)), .c (.v (.string b.a1.name)), .c (.v (.bool b.a2.v)), .c (.v (.string b.a2.name)), .c (.v (.bool b.a3.v)), .c (.v (.string b.a3.name))] : List AV) ++ ([.c (.v (.bool t.v)), .c (.v (.string t.name))] : List AV) ++ List.drop (3 + k * 2) ([.c (.v (.int .i64 b.n)), .c (.v (.bool b.a0.v)), .c (.v (.string b.a0.name)), .c (.v (.bool b.a1.v)), .c (.v (.string b.a1.name)), .c (.v (.bool b.a2.v)), .c (.v (.string b.a2.name)), .c (.v (.bool b.a3.v)), .c (.v (.string b.a3.name))] : List AV) = ([.c (.v (.string (Atm.setArg b k t).says)), .c (.v (.string (Atm.setArg b k t).pred)), .c (.v (.int .i64 (Atm.setArg b k t).n)), .c (.v (.bool (Atm.setArg b k t).a0.v)), .c (.v (.string (Atm.setArg b k t).a0.name)), .c (.v (.bool (Atm.setArg b k t).a1.v)), .c (.v (.string (Atm.setArg b k t).a1.name)), .c (.v (.bool (Atm.setArg b k t).a2.v)), .c (.v (.string (Atm.setArg b k t).a2.name)), .c (.v (.bool (Atm.setArg b k t).a3.v)), .c (.v (.string (Atm.setArg b k t).a3.name))] : List AV) := by
  obtain rfl | rfl | rfl | rfl : k = 0 ∨ k = 1 ∨ k = 2 ∨ k = 3 := by omega
  all_goals rfl
def zAt : Atm := ⟨⟨#[]⟩, ⟨#[]⟩, 0, ⟨false, ⟨#[]⟩⟩, ⟨false, ⟨#[]⟩⟩, ⟨false, ⟨#[]⟩⟩, ⟨false, ⟨#[]⟩⟩⟩
set_option maxRecDepth 10000
set_option maxHeartbeats 1000000
/-! ### lists of atoms -/
theorem info_a : info3 Tryz.prog 33 = some (11, 136) := by simp only [info3, sz33, by33, ze33]; rfl
theorem build0A : aBuildSlice Tryz.prog 34 0 [] = some [] := by kernel_rfl
theorem idxA {ex : Bool} {l : List Atm} {k : Nat} (h : k < l.length) : aIndexAddr Tryz.prog 34 (slT ex l) (.c (.v (.int .i64 (k : Int)))) = some (.cptr (atC l[k] ++ (l.drop (k + 1)).flatMap atC)) :=
  idx_R atC 11 (fun _ => rfl) Tryz.underlying34 sz33 (by decide) h
def lightAs (l : List Atm) (most : Int) : Bool := !decide (most < (l.length : Int)) && l.all lightA
theorem lightAs_len {l : List Atm} {most : Int} (h : lightAs l most = true) : (l.length : Int) ≤ most := by
  unfold lightAs at h
  simp only [Bool.and_eq_true, Bool.not_eq_true', decide_eq_false_iff_not] at h
  omega
theorem lightAtoms_does (l : List Atm) (most : Int) (ex : Bool) (hmost : most ≤ 1000000) : Does Tryz.prog 8 [slT ex l, iA most] (fun m => (bA (lightAs l most), m)) := by
  cases h1 : decide (most < (l.length : Int)) with
  | true =>
    have hr : lightAs l most = false := by unfold lightAs; rw [h1]; rfl
    refine does_of' Tryz.func8 rfl (by kernel_rfl) rfl Tryz.ntmps8 rfl rfl fun Q hQ => ?_
    repeat (first | refine tr_seq_k fun _ _ => ?_ | (refine tr_region ?_; simp only [go_sem, List.getElem?_toArray, reduceCtorEq, Nat.reduceEqDiff, Nat.reduceLT, ↓reduceIte, h1]) | refine k_of (by assumption) ?_)
    refine tr_cond rfl (fun ht => ?_) (fun hf => ?_)
    · repeat (first | refine tr_seq_k fun _ _ => ?_ | (refine tr_region ?_; simp only [go_sem, reduceCtorEq, Nat.reduceEqDiff, Nat.reduceLT, ↓reduceIte]) | refine k_of (by assumption) ?_ | (refine tr_ret ?_; try simp only [ex_seq_ret]))
      refine (hQ _ _ [bA false] ?_ (fun m => ?_)).2 <;> simp only [go_sem, reduceCtorEq, Nat.reduceEqDiff, ↓reduceIte, Tryz.f8, hr]
    · cases hf
  | false =>
    have hz : lightAs l most = l.all lightA := by unfold lightAs; rw [h1]; rfl
    have hlm : (l.length : Int) ≤ most := by
      have := of_decide_eq_false h1
      omega
    refine does_of' Tryz.func8 rfl (by kernel_rfl) rfl Tryz.ntmps8 rfl rfl fun Q hQ => ?_
    repeat (first | refine tr_seq_k fun _ _ => ?_ | (refine tr_region ?_; simp only [go_sem, List.getElem?_toArray, reduceCtorEq, Nat.reduceEqDiff, Nat.reduceLT, ↓reduceIte, h1]) | refine k_of (by assumption) ?_)
    refine tr_cond rfl (fun ht => ?_) (fun hf => ?_)
    · cases ht
    · repeat (first | refine tr_seq_k fun _ _ => ?_ | (refine tr_region ?_; simp only [go_sem, reduceCtorEq, Nat.reduceEqDiff, Nat.reduceLT, ↓reduceIte]) | refine k_of (by assumption) ?_ | refine tr_block ?_ | (refine tr_skip ?_; try simp only [ex_seq]))
      refine tr_loop_k (σ := Nat) (fun k => [(0, slT ex l), (5, iA k)]) (fun _ => ⟨[], []⟩)
        (fun k => k ≤ l.length ∧ (l.take k).all lightA = true) (fun k => l.length - k) 0 ⟨Nat.zero_le _, rfl⟩ ⟨rfl, rfl, trivial⟩ rfl ?_
      rintro k ⟨hk, hp⟩ K hK
      repeat (first | refine tr_seq_k fun _ _ => ?_ | (refine tr_region ?_; simp only [go_sem, List.getElem?_toArray, reduceCtorEq, Nat.reduceEqDiff, Nat.reduceLT, ↓reduceIte]) | refine k_of (by assumption) ?_)
      refine tr_cond rfl (fun ht => ?_) (fun hf => ?_)
      · have hlt : k < l.length := by simpa using ht
        have ws := wrap_succ (show k ≤ 1000000000 by omega)
        have cA := lightA_does l[k]
        cases hv : lightA l[k] with
        | false =>
          have hr : lightAs l most = false := hz.trans (all_fail hlt hv)
          rw [hv] at cA
          repeat (first | refine tr_seq_k fun _ _ => ?_ | (refine tr_region ?_; simp only [go_sem, reduceCtorEq, Nat.reduceEqDiff, Nat.reduceLT, Nat.reduceLeDiff, ↓reduceIte, idxA hlt, atC]) | (refine call_of (cA) ?_ ?_; (first | rfl | simp only [go_sem, reduceCtorEq, Nat.reduceEqDiff, Nat.reduceLT, Nat.reduceLeDiff, Nat.reduceAdd, Nat.reduceMul, Nat.reduceSub, Nat.reduceBEq, ↓reduceIte, idxA hlt, atC, shut_col]); simp only [go_sem, reduceCtorEq, Nat.reduceEqDiff, Nat.reduceLT, ↓reduceIte]) | refine k_of (by assumption) ?_ | refine tr_block ?_ | (refine tr_skip ?_; try simp only [ex_seq]))
          refine tr_cond rfl (fun ht => ?_) (fun hf => ?_)
          · repeat (first | refine tr_seq_k fun _ _ => ?_ | (refine tr_region ?_; simp only [go_sem, reduceCtorEq, Nat.reduceEqDiff, Nat.reduceLT, ↓reduceIte]) | refine k_of (by assumption) ?_ | (refine tr_ret ?_; try simp only [ex_seq_ret, ex_block_ret]))
            refine (hQ _ _ [bA false] ?_ (fun m => ?_)).2 <;> simp only [go_sem, reduceCtorEq, Nat.reduceEqDiff, ↓reduceIte, Tryz.f8, hr]
          · cases hf
        | true =>
          rw [hv] at cA
          repeat (first | refine tr_seq_k fun _ _ => ?_ | (refine tr_region ?_; simp only [go_sem, reduceCtorEq, Nat.reduceEqDiff, Nat.reduceLT, Nat.reduceLeDiff, ↓reduceIte, idxA hlt, atC]) | (refine call_of (cA) ?_ ?_; (first | rfl | simp only [go_sem, reduceCtorEq, Nat.reduceEqDiff, Nat.reduceLT, Nat.reduceLeDiff, Nat.reduceAdd, Nat.reduceMul, Nat.reduceSub, Nat.reduceBEq, ↓reduceIte, idxA hlt, atC, shut_col]); simp only [go_sem, reduceCtorEq, Nat.reduceEqDiff, Nat.reduceLT, ↓reduceIte]) | refine k_of (by assumption) ?_ | refine tr_block ?_ | (refine tr_skip ?_; try simp only [ex_seq]))
          refine tr_cond rfl (fun ht => ?_) (fun hf => ?_)
          · cases ht
          · repeat (first | (refine tr_region ?_; simp only [go_sem, reduceCtorEq, Nat.reduceEqDiff, Nat.reduceLT, ↓reduceIte, ws]) | refine k_of (by assumption) ?_ | (refine tr_skip ?_; try simp only [ex_seq, ex_block]))
            exact hK (k + 1) _ _ ⟨hlt, all_next hlt hp hv⟩ ⟨⟨rfl, rfl, trivial⟩, Keep.refl _, rfl, rfl, Nat.le_refl _, Nat.le_refl _⟩ (by omega)
      · have hkl : k = l.length := by
          have := of_decide_eq_false hf
          omega
        subst hkl
        rw [List.take_length] at hp
        have hr : lightAs l most = true := hz.trans hp
        repeat (first | refine tr_seq_k fun _ _ => ?_ | (refine tr_region ?_; simp only [go_sem, reduceCtorEq, Nat.reduceEqDiff, Nat.reduceLT, ↓reduceIte]) | refine k_of (by assumption) ?_ | (refine tr_exit ?_; try simp only [ex_seq_exit, ex_block_exit, ex_seq, ↓reduceIte]) | (refine tr_ret ?_; try simp only [ex_seq_ret, ex_block_ret]))
        refine (hQ _ _ [bA true] ?_ (fun m => ?_)).2 <;> simp only [go_sem, reduceCtorEq, Nat.reduceEqDiff, ↓reduceIte, Tryz.f8, hr]
theorem bin_neA' (x y : Operand) (s t : Atm) : pureVal Tryz.prog (do eqGuard .neq 33 x y (.agg s.cells) (.agg t.cells); binOp .neq 33 (.agg s.cells) (.agg t.cells)) = some (.bool (!decide (s = t))) := by
  have hg : Tryz.prog.eqGuardType Tryz.prog.depth 33 = false := by kernel_rfl
  have h := pv_eq_at (d := 9996) s t
  have g : pureVal Tryz.prog (eqGuard .neq 33 x y (.agg s.cells) (.agg t.cells)) = some () := by
    simp [eqGuard, pv_bind, pv_prog, pv_pure, hg]
  rw [pv_bind, g, Option.bind_some]
  have e : binOp .neq 33 (.agg s.cells) (.agg t.cells) = (do pure (Value.bool (!(← Op.equal 33 (.agg s.cells) (.agg t.cells))))) := rfl
  rw [e, pv_bind]
  have h' : pureVal Tryz.prog (Op.equal 33 (.agg s.cells) (.agg t.cells)) = some (decide (s = t)) := h
  rw [h']
  rfl
theorem bin_neA (x y : Operand) (s t : Atm) : pureVal Tryz.prog (do eqGuard .neq 33 x y (.agg [.string s.says, .string s.pred, .int .i64 s.n, .bool s.a0.v, .string s.a0.name, .bool s.a1.v, .string s.a1.name, .bool s.a2.v, .string s.a2.name, .bool s.a3.v, .string s.a3.name].toArray) (.agg [.string t.says, .string t.pred, .int .i64 t.n, .bool t.a0.v, .string t.a0.name, .bool t.a1.v, .string t.a1.name, .bool t.a2.v, .string t.a2.name, .bool t.a3.v, .string t.a3.name].toArray); binOp .neq 33 (.agg [.string s.says, .string s.pred, .int .i64 s.n, .bool s.a0.v, .string s.a0.name, .bool s.a1.v, .string s.a1.name, .bool s.a2.v, .string s.a2.name, .bool s.a3.v, .string s.a3.name].toArray) (.agg [.string t.says, .string t.pred, .int .i64 t.n, .bool t.a0.v, .string t.a0.name, .bool t.a1.v, .string t.a1.name, .bool t.a2.v, .string t.a2.name, .bool t.a3.v, .string t.a3.name].toArray)) = some (.bool (!decide (s = t))) := bin_neA' x y s t
theorem sameA_does (a b : List Atm) (ex ex2 : Bool) (hl : a.length ≤ 1000000) : Does Tryz.prog 15 [slT ex a, slT ex2 b] (fun m => (bA (decide (a = b)), m)) := by
  cases h1 : decide ((a.length : Int) = (b.length : Int)) with
  | false =>
    have hr : decide (a = b) = false := decide_eq_false fun e => of_decide_eq_false h1 (by rw [e])
    refine does_of' Tryz.func15 rfl (by kernel_rfl) rfl Tryz.ntmps15 rfl rfl fun Q hQ => ?_
    repeat (first | refine tr_seq_k fun _ _ => ?_ | (refine tr_region ?_; simp only [go_sem, List.getElem?_toArray, reduceCtorEq, Nat.reduceEqDiff, Nat.reduceLT, ↓reduceIte, h1]) | refine k_of (by assumption) ?_)
    refine tr_cond rfl (fun ht => ?_) (fun hf => ?_)
    · repeat (first | refine tr_seq_k fun _ _ => ?_ | (refine tr_region ?_; simp only [go_sem, reduceCtorEq, Nat.reduceEqDiff, Nat.reduceLT, ↓reduceIte]) | refine k_of (by assumption) ?_ | (refine tr_ret ?_; try simp only [ex_seq_ret]))
      refine (hQ _ _ [bA false] ?_ (fun m => ?_)).2 <;> simp only [go_sem, reduceCtorEq, Nat.reduceEqDiff, ↓reduceIte, Tryz.f15, hr]
    · cases hf
  | true =>
    have hlen : a.length = b.length := by
      have := of_decide_eq_true h1
      omega
    refine does_of' Tryz.func15 rfl (by kernel_rfl) rfl Tryz.ntmps15 rfl rfl fun Q hQ => ?_
    repeat (first | refine tr_seq_k fun _ _ => ?_ | (refine tr_region ?_; simp only [go_sem, List.getElem?_toArray, reduceCtorEq, Nat.reduceEqDiff, Nat.reduceLT, ↓reduceIte, h1]) | refine k_of (by assumption) ?_)
    refine tr_cond rfl (fun ht => ?_) (fun hf => ?_)
    · cases ht
    · repeat (first | refine tr_seq_k fun _ _ => ?_ | (refine tr_region ?_; simp only [go_sem, reduceCtorEq, Nat.reduceEqDiff, Nat.reduceLT, ↓reduceIte]) | refine k_of (by assumption) ?_ | refine tr_block ?_ | (refine tr_skip ?_; try simp only [ex_seq]))
      refine tr_loop_k (σ := Nat) (fun k => [(0, slT ex a), (1, slT ex2 b), (5, iA k)]) (fun _ => ⟨[], []⟩)
        (fun k => k ≤ a.length ∧ a.take k = b.take k) (fun k => a.length - k) 0 ⟨Nat.zero_le _, rfl⟩ ⟨rfl, rfl, rfl, trivial⟩ rfl ?_
      rintro k ⟨hk, hp⟩ K hK
      repeat (first | refine tr_seq_k fun _ _ => ?_ | (refine tr_region ?_; simp only [go_sem, List.getElem?_toArray, reduceCtorEq, Nat.reduceEqDiff, Nat.reduceLT, ↓reduceIte]) | refine k_of (by assumption) ?_)
      refine tr_cond rfl (fun ht => ?_) (fun hf => ?_)
      · have hlt : k < a.length := by simpa using ht
        have hlb : k < b.length := by omega
        have ws := wrap_succ (show k ≤ 1000000000 by omega)
        have eA := fun x y => bin_neA x y a[k] b[k]
        simp only [pv_bind] at eA
        cases h2 : decide (a[k] = b[k]) with
        | false =>
          have hr : decide (a = b) = false := decide_eq_false fun e => of_decide_eq_false h2 (by subst e; rfl)
          simp only [h2, Bool.not_false] at eA
          repeat (first | refine tr_seq_k fun _ _ => ?_ | (refine tr_drawC (id := 6) follows 10000 (by kernel_rfl) ?_; simp only [go_sem, reduceCtorEq, Nat.reduceEqDiff, Nat.reduceLT, Nat.reduceLeDiff, ↓reduceIte, idxA hlt, idxA hlb, atC, eA]) | refine k_of (by assumption) ?_ | refine tr_block ?_ | (refine tr_skip ?_; try simp only [ex_seq]))
          refine tr_cond rfl (fun ht => ?_) (fun hf => ?_)
          · repeat (first | refine tr_seq_k fun _ _ => ?_ | (refine tr_region ?_; simp only [go_sem, reduceCtorEq, Nat.reduceEqDiff, Nat.reduceLT, ↓reduceIte]) | refine k_of (by assumption) ?_ | (refine tr_ret ?_; try simp only [ex_seq_ret, ex_block_ret]))
            refine (hQ _ _ [bA false] ?_ (fun m => ?_)).2 <;> simp only [go_sem, reduceCtorEq, Nat.reduceEqDiff, ↓reduceIte, Tryz.f15, hr]
          · cases hf
        | true =>
          simp only [h2, Bool.not_true] at eA
          repeat (first | refine tr_seq_k fun _ _ => ?_ | (refine tr_drawC (id := 6) follows 10000 (by kernel_rfl) ?_; simp only [go_sem, reduceCtorEq, Nat.reduceEqDiff, Nat.reduceLT, Nat.reduceLeDiff, ↓reduceIte, idxA hlt, idxA hlb, atC, eA]) | refine k_of (by assumption) ?_ | refine tr_block ?_ | (refine tr_skip ?_; try simp only [ex_seq]))
          refine tr_cond rfl (fun ht => ?_) (fun hf => ?_)
          · cases ht
          · repeat (first | (refine tr_region ?_; simp only [go_sem, reduceCtorEq, Nat.reduceEqDiff, Nat.reduceLT, ↓reduceIte, ws]) | refine k_of (by assumption) ?_ | (refine tr_skip ?_; try simp only [ex_seq, ex_block]))
            exact hK (k + 1) _ _ ⟨hlt, take_next_eq hlt hlb hp (of_decide_eq_true h2)⟩ ⟨⟨rfl, rfl, rfl, trivial⟩, Keep.refl _, rfl, rfl, Nat.le_refl _, Nat.le_refl _⟩ (by omega)
      · have hkl : k = a.length := by
          have := of_decide_eq_false hf
          omega
        have hr : decide (a = b) = true := by
          rw [hkl, List.take_length, hlen, List.take_length] at hp
          exact decide_eq_true hp
        repeat (first | refine tr_seq_k fun _ _ => ?_ | (refine tr_region ?_; simp only [go_sem, reduceCtorEq, Nat.reduceEqDiff, Nat.reduceLT, ↓reduceIte]) | refine k_of (by assumption) ?_ | (refine tr_exit ?_; try simp only [ex_seq_exit, ex_block_exit, ex_seq, ↓reduceIte]) | (refine tr_ret ?_; try simp only [ex_seq_ret, ex_block_ret]))
        refine (hQ _ _ [bA true] ?_ (fun m => ?_)).2 <;> simp only [go_sem, reduceCtorEq, Nat.reduceEqDiff, ↓reduceIte, Tryz.f15, hr]
end Go.Proofs.YtinbfakpjnnagaaGreatDoor
namespace Go.Proofs.YtinbfakpjnnagaaGreatDoor
open Go.Vs Go.Vs.Ab
set_option maxRecDepth 100000
theorem args_get (p : Atm) {n k : Nat} (hn : n ≤ 4) (h : k < (p.args.take n).length) : (p.args.take n)[k] = p.arg k := by
  rw [List.getElem_take]
  rw [List.length_take] at h
  have hk : k < 4 := by omega
  obtain rfl | rfl | rfl | rfl : k = 0 ∨ k = 1 ∨ k = 2 ∨ k = 3 := by omega
  all_goals rfl
theorem args_len (p : Atm) {n : Nat} (hn : n ≤ 4) : (p.args.take n).length = n := by
  rw [List.length_take, Nat.min_eq_left (by show n ≤ 4; exact hn)]
set_option maxRecDepth 100000
set_option maxHeartbeats 2000000
theorem build1A (a : Atm) : aBuildSlice Tryz.prog 34 1 [(0, .agg [.v (.string a.says), .v (.string a.pred), .v (.int .i64 a.n), .v (.bool a.a0.v), .v (.string a.a0.name), .v (.bool a.a1.v), .v (.string a.a1.name), .v (.bool a.a2.v), .v (.string a.a2.name), .v (.bool a.a3.v), .v (.string a.a3.name)])] = some [.v (.string a.says), .v (.string a.pred), .v (.int .i64 a.n), .v (.bool a.a0.v), .v (.string a.a0.name), .v (.bool a.a1.v), .v (.string a.a1.name), .v (.bool a.a2.v), .v (.string a.a2.name), .v (.bool a.a3.v), .v (.string a.a3.name)] := build1 Tryz.underlying34 sz33 ze33 (by decide) (by decide) (by decide) rfl rfl
theorem appA (hp : List Blk) (l : List Atm) (a : Atm) (hl : l.length ≤ 1000000) : aAppend Tryz.prog ⟨hp, colH 33 11 l⟩ 34 (colA atC 0 l) (.c (.sl true 1 [.v (.string a.says), .v (.string a.pred), .v (.int .i64 a.n), .v (.bool a.a0.v), .v (.string a.a0.name), .v (.bool a.a1.v), .v (.string a.a1.name), .v (.bool a.a2.v), .v (.string a.a2.name), .v (.bool a.a3.v), .v (.string a.a3.name)])) = some (colA atC 0 (l ++ [a]), ⟨hp, colH 33 11 (l ++ [a])⟩) :=
  app_col0 (P := Tryz.prog) atC (size := 11) (fun _ => rfl) Tryz.underlying34 info_a (hp := hp) (l := l) (x := a) (ex := true) (Nat.le_trans (show _ ≤ 1000001 by omega) (by decide)) (by omega)
end Go.Proofs.YtinbfakpjnnagaaGreatDoor
namespace Go.Vs.Ab
open Go.RowKit
variable {P : Program}
theorem does_of_evA (hm : P.follows .mixedOrders = true) {H : FuncId → Hint} {n : Nat} {F : FuncId} {args : List AV} {v : Value} {r : AV} (hcb : Callable P F) (hr : avOf v = some r) (hs : shuts args = some args) (h : answer (evFun P H n F args ⟨[], []⟩) = some v) : Does P F args (fun m => (r, m)) :=
  does_of_callsG hcb hr fun X w vs hg hc hrep => by
    unfold answer at h
    split at h
    · rename_i c m1 h1
      obtain ⟨_, h2⟩ := evFun_ok hm n F args ⟨[], []⟩ c m1 h1
      have M : MR ⟨X.cell, fun _ => none, fun _ => none, fun _ => 0⟩ w ⟨[], []⟩ w :=
        ⟨Below.refl _ w, hc, (fun _ _ h => by cases h), (fun _ _ h => by simp at h), (fun _ _ _ _ _ h => by cases h), (fun _ _ h => by cases h), (fun _ _ h => by simp at h), (fun _ _ _ _ h => by cases h), hg, (fun _ h => absurd h (Nat.lt_irrefl 0))⟩
      refine (h2 ⟨X.cell, fun _ => none, fun _ => none, fun _ => 0⟩ w w vs M (shuts_rep (X := X) (Y := ⟨X.cell, fun _ => none, fun _ => none, fun _ => 0⟩) rfl hs hrep)).mono ?_
      rintro _ w' ⟨u, X', rfl, _, k2, k3, _⟩
      exact ⟨by rw [val_rep h k2], k3.below⟩
    · cases h
end Go.Vs.Ab
namespace Go.Vs.Ab
open Go.RowKit
variable {P : Program}
theorem pv_und {t : TypeId} {d : TypeDesc} (h : P.underlying t = some d) : pureVal P (underlying t) = some d := by
  simp only [underlying, program, pureVal, bind, Sem.bind, h, pure]
theorem so_add {a b : ByteArray} (h : a.size + b.size ≤ 9223372036854775807) : pureVal P (Op.stringOp .add a b) = some (.string (a ++ b)) := by
  have : ¬ (((a.size + b.size : Nat) : Int) > IntKind.i64.max) := by
    have : IntKind.i64.max = 9223372036854775807 := rfl
    omega
  simp only [Op.stringOp, this, if_false]
  rfl
def findE {T : Type} [DecidableEq T] : List (T × Value) → T → Nat → Option (Nat × Value)
  | [], _, _ => none
  | e :: r, s, i => if e.1 = s then some (i, e.2) else findE r s (i + 1)
def encE {T : Type} (enc : T → Value) (es : List (T × Value)) : List (Value × Value) := es.map fun p => (enc p.1, p.2)
def posOf {T : Type} [DecidableEq T] : List T → T → Nat
  | [], _ => 0
  | y :: r, x => if y = x then 0 else posOf r x + 1
theorem posOf_lt {T : Type} [DecidableEq T] {x : T} : ∀ {l : List T}, x ∈ l → posOf l x < l.length
  | [], h => by simp at h
  | y :: r, h => by
    unfold posOf
    by_cases e : y = x
    · rw [if_pos e]; simp
    · rw [if_neg e]
      have : x ∈ r := by
        rcases List.mem_cons.1 h with h | h
        · exact absurd h.symm e
        · exact h
      have := posOf_lt this
      simp only [List.length_cons]
      omega
theorem posOf_get {T : Type} [DecidableEq T] {x : T} : ∀ {l : List T}, x ∈ l → l[posOf l x]? = some x
  | [], h => by simp at h
  | y :: r, h => by
    unfold posOf
    by_cases e : y = x
    · rw [if_pos e]; simp [e]
    · rw [if_neg e]
      have : x ∈ r := by
        rcases List.mem_cons.1 h with h | h
        · exact absurd h.symm e
        · exact h
      simpa using posOf_get this
theorem ba_beq (a b : ByteArray) : (a == b) = decide (a = b) := by
  cases a with | mk x => cases b with | mk y =>
    show (x == y) = _
    rw [Bool.eq_iff_iff]
    simp
theorem checkKey_str {kt : TypeId} (ht : P.underlying kt = some .string) (em : Bool) (s : ByteArray) : pureVal P (Instr.checkKey em 10000 kt (.string s)) = some () := by
  show pureVal P (Instr.checkKey em (9999 + 1) kt (.string s)) = some ()
  unfold Instr.checkKey
  rw [pv_bind, pv_und ht]
  rfl
theorem findNow_str (s : ByteArray) : ∀ (es : List (ByteArray × Value)) (i : Nat), Instr.findNow .string (.string s) (ents (encE .string es)) i = some (findE es s i)
  | [], i => rfl
  | e :: r, i => by
    show Instr.findNow .string (.string s) (⟨.string e.1, e.2, 0⟩ :: ents (encE .string r)) i = _
    unfold Instr.findNow findE
    simp only [Instr.sameNow]
    by_cases h : e.1 = s
    · have h1 : (s == e.1) = true := by rw [ba_beq, decide_eq_true h.symm]
      rw [h1, if_pos h]
    · have h1 : (s == e.1) = false := by rw [ba_beq, decide_eq_false (fun e => h e.symm)]
      rw [h1, if_neg h]
      exact findNow_str s r (i + 1)
theorem mLook_str {kt : TypeId} (ht : P.underlying kt = some .string) (es : List (ByteArray × Value)) (s : ByteArray) (em : Bool) : mLook P kt (encE .string es) (.string s) em = some (findE es s 0) := by
  unfold mLook
  rw [checkKey_str ht]
  unfold Instr.findKey
  rw [pv_bind, pv_und ht, Option.bind_some]
  simp only [findNow_str]
  rfl
theorem findAsking_enc {T : Type} [DecidableEq T] {enc : T → Value} {kt : TypeId} (he : ∀ a b, pureVal P (Op.equal kt (enc a) (enc b)) = some (decide (a = b))) (x : T) : ∀ (es : List (T × Value)) (i : Nat), pureVal P (Instr.findAsking kt (enc x) (ents (encE enc es)) i) = some (findE es x i)
  | [], i => rfl
  | e :: r, i => by
    show pureVal P (Instr.findAsking kt (enc x) (⟨enc e.1, e.2, 0⟩ :: ents (encE enc r)) i) = _
    unfold Instr.findAsking findE
    rw [pv_bind, he, Option.bind_some]
    by_cases h : e.1 = x
    · rw [if_pos h, decide_eq_true h.symm]
      rfl
    · rw [if_neg h, decide_eq_false (fun e => h e.symm)]
      exact findAsking_enc he x r (i + 1)
theorem mLook_enc {T : Type} [DecidableEq T] {enc : T → Value} {kt : TypeId} {d : TypeDesc} (ht : P.underlying kt = some d) (hd : ∀ a b, Instr.sameNow d (enc a) (enc b) = none) (hc : ∀ em a, pureVal P (Instr.checkKey em 10000 kt (enc a)) = some ())
    (he : ∀ a b, pureVal P (Op.equal kt (enc a) (enc b)) = some (decide (a = b))) (es : List (T × Value)) (x : T) (em : Bool) : mLook P kt (encE enc es) (enc x) em = some (findE es x 0) := by
  unfold mLook
  rw [hc]
  unfold Instr.findKey
  rw [pv_bind, pv_und ht, Option.bind_some]
  cases es with
  | nil => rfl
  | cons e r =>
    have : Instr.findNow d (enc x) (ents (encE enc (e :: r))) 0 = none := by
      show Instr.findNow d (enc x) (⟨enc e.1, e.2, 0⟩ :: ents (encE enc r)) 0 = _
      unfold Instr.findNow
      simp only [hd]
    rw [this]
    exact findAsking_enc he x (e :: r) 0
theorem findE_none {T : Type} [DecidableEq T] {x : T} : ∀ {es : List (T × Value)} {i : Nat}, x ∉ es.map (·.1) → findE es x i = none
  | [], _, _ => rfl
  | e :: r, i, h => by
    simp only [List.map_cons, List.mem_cons, not_or] at h
    unfold findE
    rw [if_neg (fun e => h.1 e.symm)]
    exact findE_none h.2
theorem findE_some {T : Type} [DecidableEq T] {x : T} : ∀ {es : List (T × Value)} {i : Nat}, x ∈ es.map (·.1) → ∃ k v, k < es.length ∧ es[k]? = some (x, v) ∧ k = posOf (es.map (·.1)) x ∧ findE es x i = some (i + k, v)
  | [], _, h => by simp at h
  | e :: r, i, h => by
    unfold findE
    by_cases h1 : e.1 = x
    · rw [if_pos h1]
      refine ⟨0, e.2, by simp, by simp [← h1], ?_, rfl⟩
      rw [List.map_cons]; unfold posOf; rw [if_pos h1]
    · rw [if_neg h1]
      have h2 : x ∈ r.map (·.1) := by
        simp only [List.map_cons, List.mem_cons] at h
        rcases h with h | h
        · exact absurd h.symm h1
        · exact h
      obtain ⟨k, v, g1, g2, g3, g4⟩ := findE_some (i := i + 1) h2
      refine ⟨k + 1, v, by simp; omega, by simpa using g2, ?_, by rw [g4]; congr 2; omega⟩
      rw [List.map_cons]; unfold posOf; rw [if_neg h1, g3]
def setEs {T : Type} (enc : T → Value) (u : Value) (l : List T) : List (Value × Value) := encE enc (l.map fun x => (x, u))
theorem setEs_keys {T : Type} (u : Value) (l : List T) : (l.map fun x => (x, u)).map (·.1) = l := by
  rw [List.map_map]
  exact List.map_id l
end Go.Vs.Ab
namespace Go.Proofs.YtinbfakpjnnagaaGreatDoor
open Go.Vs Go.Vs.Ab
set_option maxRecDepth 100000
set_option maxHeartbeats 4000000
/-! ### names, by their places -/
def dig1 (n : Nat) : ByteArray := ⟨#[UInt8.ofNat (48 + n)]⟩
def vname (n : Nat) : ByteArray := ⟨#[86, UInt8.ofNat (48 + n)]⟩
theorem itoa_does {k : Nat} (h : k < 4) : Does Tryz.prog 57 [iA k] (fun m => (sA (dig1 k), m)) := by
  have hc := callable Tryz.func57 (by kernel_rfl)
  obtain rfl | rfl | rfl | rfl : k = 0 ∨ k = 1 ∨ k = 2 ∨ k = 3 := by omega
  · exact does_of_evA (v := .string (dig1 0)) (H := lookH []) (n := 20) follows hc rfl rfl (by kernel_rfl)
  · exact does_of_evA (v := .string (dig1 1)) (H := lookH []) (n := 20) follows hc rfl rfl (by kernel_rfl)
  · exact does_of_evA (v := .string (dig1 2)) (H := lookH []) (n := 20) follows hc rfl rfl (by kernel_rfl)
  · exact does_of_evA (v := .string (dig1 3)) (H := lookH []) (n := 20) follows hc rfl rfl (by kernel_rfl)
theorem digits_does {k : Nat} (h : k < 4) : Does Tryz.prog 37 [iA k] (fun m => (sA (dig1 k), m)) := by
  have hc := callable Tryz.func37 (by kernel_rfl)
  obtain rfl | rfl | rfl | rfl : k = 0 ∨ k = 1 ∨ k = 2 ∨ k = 3 := by omega
  · exact does_of_evA (v := .string (dig1 0)) (H := lookH []) (n := 20) follows hc rfl rfl (by kernel_rfl)
  · exact does_of_evA (v := .string (dig1 1)) (H := lookH []) (n := 20) follows hc rfl rfl (by kernel_rfl)
  · exact does_of_evA (v := .string (dig1 2)) (H := lookH []) (n := 20) follows hc rfl rfl (by kernel_rfl)
  · exact does_of_evA (v := .string (dig1 3)) (H := lookH []) (n := 20) follows hc rfl rfl (by kernel_rfl)
theorem leN {k : Nat} (h : k < 4) : (3 + k * 2 ≤ 9) = True := eq_true (by omega)
theorem vcat {n : Nat} (h : n < 4) : pureVal Tryz.prog (Op.stringOp .add ⟨#[86]⟩ (dig1 n)) = some (.string (vname n)) := by
  rw [so_add (by show 1 + 1 ≤ _; decide)]
  obtain rfl | rfl | rfl | rfl : n = 0 ∨ n = 1 ∨ n = 2 ∨ n = 3 := by omega
  all_goals rfl
end Go.Proofs.YtinbfakpjnnagaaGreatDoor
namespace Go.Proofs.YtinbfakpjnnagaaGreatDoor
open Go.Vs Go.Vs.Ab
set_option maxRecDepth 100000
set_option maxHeartbeats 4000000
/-! ### sets of atoms -/
def atEs (D : List Atm) : List (Value × Value) := setEs (fun a : Atm => Value.agg a.cells) (.agg #[]) D
theorem check_at (em : Bool) (a : Atm) : pureVal Tryz.prog (Instr.checkKey em 10000 33 (.agg a.cells)) = some () := by
  obtain ⟨s, p, n, ⟨v0, n0⟩, ⟨v1, n1⟩, ⟨v2, n2⟩, ⟨v3, n3⟩⟩ := a
  kernel_rfl
theorem look_at (D : List Atm) (a : Atm) (em : Bool) : mLook Tryz.prog 33 (atEs D) (.agg a.cells) em = some (findE (D.map fun x => (x, Value.agg #[])) a 0) :=
  mLook_enc (P := Tryz.prog) (enc := fun a : Atm => Value.agg a.cells) Tryz.underlying33 (fun _ _ => rfl) check_at (fun x y => pv_eq_at (d := 9996) x y) _ a em
theorem at_none {D : List Atm} {a : Atm} (h : a ∉ D) (em : Bool) : mLook Tryz.prog 33 (atEs D) (.agg [.string a.says, .string a.pred, .int .i64 a.n, .bool a.a0.v, .string a.a0.name, .bool a.a1.v, .string a.a1.name, .bool a.a2.v, .string a.a2.name, .bool a.a3.v, .string a.a3.name].toArray : Value) em = some none := by
  show mLook Tryz.prog 33 (atEs D) (.agg a.cells) em = _
  rw [look_at, findE_none (by rw [setEs_keys]; exact h)]
theorem at_some {D : List Atm} {a : Atm} (h : a ∈ D) (em : Bool) : ∃ k, mLook Tryz.prog 33 (atEs D) (.agg [.string a.says, .string a.pred, .int .i64 a.n, .bool a.a0.v, .string a.a0.name, .bool a.a1.v, .string a.a1.name, .bool a.a2.v, .string a.a2.name, .bool a.a3.v, .string a.a3.name].toArray : Value) em = some (some (k, .agg #[])) := by
  obtain ⟨k, v, h1, h2, h3, h4⟩ := findE_some (es := D.map fun x => (x, Value.agg #[])) (i := 0) (x := a) (by rw [setEs_keys]; exact h)
  refine ⟨0 + k, ?_⟩
  show mLook Tryz.prog 33 (atEs D) (.agg a.cells) em = _
  rw [look_at, h4]
  rw [List.getElem?_map, Option.map_eq_some_iff] at h2
  obtain ⟨p, h5, h6⟩ := h2
  injection h6 with h6 h7
  rw [h7]
theorem at_put {D : List Atm} {a : Atm} (h : a ∉ D) : mPut Tryz.prog 33 (atEs D) (.agg [.string a.says, .string a.pred, .int .i64 a.n, .bool a.a0.v, .string a.a0.name, .bool a.a1.v, .string a.a1.name, .bool a.a2.v, .string a.a2.name, .bool a.a3.v, .string a.a3.name].toArray : Value) (.agg #[]) = some (atEs (D ++ [a])) := by
  unfold mPut
  rw [at_none h]
  simp [atEs, setEs, encE, Atm.cells]
theorem avU : avOf1 (.agg #[]) = some (.agg []) := rfl
theorem zaU : tzeroA Tryz.prog 74 = some (.agg []) := by kernel_rfl
/-! ### firsts -/
end Go.Proofs.YtinbfakpjnnagaaGreatDoor
namespace Go.Proofs.YtinbfakpjnnagaaGreatDoor
open Go.Vs Go.Vs.Ab
set_option maxRecDepth 100000
/-! ### first ones -/
end Go.Proofs.YtinbfakpjnnagaaGreatDoor
namespace Go.Proofs
open Go.Shelf
def Tryz.lays156_ren : Go.Shelf.Ren := ⟨fun | 156 => 44 | 165 => 67 | 166 => 68 | 169 => 69 | 240 => 85 | 241 => 86 | 276 => 107 | 277 => 108 | n => n, fun | 31 => 22 | 9 => 9 | 3 => 3 | 4 => 4 | 0 => 0 | 20 => 20 | 72 => 104 | 76 => 108 | 70 => 101 | 37 => 102 | 75 => 107 | 127 => 123 | 164 => 141 | 5 => 5 | 80 => 110 | n => n, fun | n => n⟩
theorem Tryz.lays156 : Go.Proofs.Lays.n156 Tryz.prog Tryz.lays156_ren := {
  mixed := by kernel_rfl
  f156 := Tryz.func44.trans (congrArg some (by kernel_rfl))
  f165 := Tryz.func67.trans (congrArg some (by kernel_rfl))
  f166 := Tryz.func68.trans (congrArg some (by kernel_rfl))
  f169 := Tryz.func69.trans (congrArg some (by kernel_rfl))
  f240 := Tryz.func85.trans (congrArg some (by kernel_rfl))
  f241 := Tryz.func86.trans (congrArg some (by kernel_rfl))
  f276 := Tryz.func107.trans (congrArg some (by kernel_rfl))
  f277 := Tryz.func108.trans (congrArg some (by kernel_rfl))
  t0 := Tryz.underlying0
  a0 := Tryz.isAgg0
  z0 := Tryz.sizeOf0
  v0 := Tryz.zeroValue0
  t3 := Tryz.underlying3
  a3 := Tryz.isAgg3
  z3 := Tryz.sizeOf3
  v3 := Tryz.zeroValue3
  t4 := Tryz.underlying4
  a4 := Tryz.isAgg4
  z4 := Tryz.sizeOf4
  v4 := Tryz.zeroValue4
  t9 := Tryz.underlying9
  a9 := Tryz.isAgg9
  z9 := Tryz.sizeOf9
  v9 := Tryz.zeroValue9
  t20 := Tryz.underlying20
  a20 := Tryz.isAgg20
  z20 := Tryz.sizeOf20
  v20 := Tryz.zeroValue20
  t31 := Tryz.underlying22
  a31 := Tryz.isAgg22
  z31 := Tryz.sizeOf22
  v31 := Tryz.zeroValue22
  t37 := Tryz.underlying102
  a37 := Tryz.isAgg102
  z37 := Tryz.sizeOf102
  v37 := Tryz.zeroValue102
  t70 := Tryz.underlying101
  a70 := Tryz.isAgg101
  z70 := Tryz.sizeOf101
  v70 := Tryz.zeroValue101
  t72 := Tryz.underlying104
  a72 := Tryz.isAgg104
  z72 := Tryz.sizeOf104
  v72 := Tryz.zeroValue104
  t75 := Tryz.underlying107
  a75 := Tryz.isAgg107
  z75 := Tryz.sizeOf107
  v75 := Tryz.zeroValue107
  t76 := Tryz.underlying108
  a76 := Tryz.isAgg108
  z76 := Tryz.sizeOf108
  v76 := Tryz.zeroValue108
  t127 := Tryz.underlying123
  a127 := Tryz.isAgg123
  z127 := Tryz.sizeOf123
  v127 := Tryz.zeroValue123
  t164 := Tryz.underlying141
  a164 := Tryz.isAgg141
  z164 := Tryz.sizeOf141
  v164 := Tryz.zeroValue141 }
theorem Tryz.Builder_Extra_156 : Builder.Extra Tryz.prog Tryz.lays156_ren := {
  sizeBuilder := by kernel_rfl
  liesBuilder := by kernel_rfl
  t5 := Tryz.underlying5
  a5 := Tryz.isAgg5
  z5 := Tryz.sizeOf5
  v5 := Tryz.zeroValue5
  infoByte := by kernel_rfl
  cellsByte := by kernel_rfl
  sizeByte := by kernel_rfl
  neB5 := by decide }
open Go.RowKit in
theorem Tryz.strings_Join_none (a : Option Addr) (c : Nat) (sep : ByteArray) (w : World) :
    Calls Tryz.prog 44 #[.slice a 0 c, .string sep] w fun e w' => e = .returned (.string ⟨#[]⟩) ∧ w' = w := Any.strings_Join_none Tryz.lays156 Tryz.Builder_Extra_156 a c sep w
open Go.RowKit in
theorem Tryz.strings_Join (bk o c : Nat) (xs : List ByteArray) (sep : ByteArray) (w : World) (hcells : ∀ (j : Nat) x, xs[j]? = some x → w.cell? ⟨bk, o + j, none⟩ = some (.string x)) (hbk : bk < w.heap.size) (hN : xs.length ≤ 140737488355328) (hcap : xs.length ≤ c) (hlen : (Lib.join (xs.map (·.data.toList)) sep.data.toList).length ≤ 140737488355328) :
    Calls Tryz.prog 44 #[.slice (some ⟨bk, o, none⟩) xs.length c, .string sep] w fun e w' => e = .returned (.string ⟨(Lib.join (xs.map (·.data.toList)) sep.data.toList).toArray⟩) ∧ Below w.heap.size w w' := Any.strings_Join Tryz.lays156 Tryz.Builder_Extra_156 bk o c xs sep w hcells hbk hN hcap hlen
def Tryz.lays106_ren : Go.Shelf.Ren := ⟨fun | 106 => 80 | 213 => 94 | 265 => 118 | n => n, fun | 9 => 9 | 3 => 3 | n => n, fun | n => n⟩
theorem Tryz.lays106 : Go.Proofs.Lays.n106 Tryz.prog Tryz.lays106_ren := {
  mixed := by kernel_rfl
  f106 := Tryz.func80.trans (congrArg some (by kernel_rfl))
  f213 := Tryz.func94.trans (congrArg some (by kernel_rfl))
  f265 := Tryz.func118.trans (congrArg some (by kernel_rfl))
  t3 := Tryz.underlying3
  a3 := Tryz.isAgg3
  z3 := Tryz.sizeOf3
  v3 := Tryz.zeroValue3
  t9 := Tryz.underlying9
  a9 := Tryz.isAgg9
  z9 := Tryz.sizeOf9
  v9 := Tryz.zeroValue9 }
open Go.RowKit in
theorem Tryz.strings_Compare (a b : ByteArray) (w : World) :
    Calls Tryz.prog 80 #[.string a, .string b] w fun e w' => e = .returned (.int .i64 (Lib.compareBytes a.data.toList b.data.toList)) ∧ w' = w := Any.strings_Compare Tryz.lays106 a b w
end Go.Proofs
namespace Go.Proofs.YtinbfakpjnnagaaGreatDoor
open Go.Vs Go.Vs.Ab Go.RowKit
set_option maxRecDepth 100000
set_option maxHeartbeats 4000000
def joinB (l : List ByteArray) (sep : ByteArray) : ByteArray := ⟨(Lib.join (l.map (·.data.toList)) sep.data.toList).toArray⟩
theorem join_does (l : List ByteArray) (sep : ByteArray) (ex : Bool) (h1 : l.length ≤ 1000000) (h2 : (joinB l sep).size ≤ 140737488355328) : Does Tryz.prog 44 [slS ex l, sA sep] (fun m => (sA (joinB l sep), m)) :=
  does_of_calls (v := .string (joinB l sep)) (callable Tryz.func44 (by kernel_rfl)) rfl fun X w vs hc hr => by
    obtain ⟨v, u, hv, r1, r2⟩ := reps2 hr
    obtain rfl : vs = #[v, u] := by
      apply Array.ext'
      simpa using hv
    obtain rfl : u = .string sep := val_rep rfl r2
    obtain ⟨a, cap, xs, rfl, g1, g2, g3, g4⟩ := slV_rep (len_R stC ex l) r1
    have hxs := vals_rep (vals_flat (encV := fun s => [Value.string s]) vals_st l) g1
    rw [flat_st] at hxs
    subst hxs
    by_cases hl : l = []
    · subst hl
      refine (Tryz.strings_Join_none a cap sep w).mono ?_
      rintro e w' ⟨rfl, rfl⟩
      exact ⟨rfl, Below.refl _ _⟩
    · have hpos : 0 < (l.map Value.string).length := by rw [List.length_map]; exact List.length_pos_iff.2 hl
      obtain ⟨b, o, rfl⟩ := g4.some hpos
      have hcell : ∀ (j : Nat) x, l[j]? = some x → w.cell? ⟨b, o + j, none⟩ = some (.string x) := fun j x hx => by
        obtain ⟨b', o', e, h⟩ := g4 j (.string x) (by rw [List.getElem?_map, hx]; rfl)
        injection e with e
        injection e with e1 e2
        subst e1 e2
        exact hc _ _ _ h
      have hb : b < w.heap.size := by
        obtain ⟨x, hx⟩ := List.exists_mem_of_ne_nil l hl
        obtain ⟨j, hj, rfl⟩ := List.mem_iff_getElem.1 hx
        exact World.block_lt_of_cell? w _ (hcell j l[j] (by simp [hj]))
      refine Tryz.strings_Join b o cap l sep w hcell hb (by omega) g2 ?_
      simpa [joinB, ByteArray.size] using h2
/-! ### the text of an atom -/
abbrev tSays : ByteArray := ⟨#[32, 115, 97, 121, 115, 32]⟩
abbrev tOpen : ByteArray := ⟨#[40]⟩
abbrev tComma : ByteArray := ⟨#[44, 32]⟩
abbrev tShut : ByteArray := ⟨#[41]⟩
def psaidK (a : Atm) : Nat → ByteArray
  | 0 => a.pred
  | k + 1 => (psaidK a k ++ (if k = 0 then tOpen else tComma)) ++ (a.arg k).name
def psaid (a : Atm) : ByteArray := if 0 < a.count then psaidK a a.count ++ tShut else a.pred
def ptext (a : Atm) : ByteArray := (a.says ++ tSays) ++ psaid a
def anames (a : Atm) (k : Nat) : List ByteArray := (List.range k).map fun i => (a.arg i).name
theorem anames_next (a : Atm) (k : Nat) : anames a (k + 1) = anames a k ++ [(a.arg k).name] := by
  unfold anames
  rw [List.range_succ, List.map_append]
  rfl
theorem ba_ext {a b : ByteArray} (h : a.data.toList = b.data.toList) : a = b := str_inj h
theorem join_snoc (l : List ByteArray) (sep x : ByteArray) (hl : l ≠ []) : joinB (l ++ [x]) sep = (joinB l sep ++ sep) ++ x := by
  apply ba_ext
  simp only [ByteArray.data_append, Array.toList_append, joinB, Lib.join, List.map_append, List.map_cons, List.map_nil]
  generalize sep.data.toList = s
  generalize x.data.toList = y
  have : ∀ l : List (List UInt8), l ≠ [] → s.intercalate (l ++ [y]) = s.intercalate l ++ s ++ y := fun l => by
    induction l with
    | nil => intro h; exact absurd rfl h
    | cons z r ih =>
      intro _
      cases r with
      | nil => simp [List.intercalate]
      | cons u r =>
        have := ih (by simp)
        simp only [List.intercalate, List.cons_append, List.intersperse_cons_cons, List.flatten_cons, List.append_assoc] at this ⊢
        rw [this]
  exact this _ (by simpa using hl)
theorem psaid_join (a : Atm) : ∀ k, 0 < k → psaidK a k = (a.pred ++ tOpen) ++ joinB (anames a k) tComma
  | 0, h => absurd h (Nat.lt_irrefl _)
  | 1, _ => by
    apply ba_ext
    simp [psaidK, joinB, anames, Lib.join_one, List.range, List.range.loop]
  | k + 2, _ => by
    have ih := psaid_join a (k + 1) (by omega)
    show (psaidK a (k + 1) ++ tComma) ++ (a.arg (k + 1)).name = _
    rw [ih, anames_next a (k + 1), join_snoc _ _ _ (by simp [anames])]
    simp only [ByteArray.append_assoc]
theorem ptext_join (a : Atm) (h : 0 < a.count) : ptext a = (((a.says ++ tSays) ++ a.pred) ++ tOpen) ++ joinB (anames a a.count) tComma ++ tShut := by
  unfold ptext psaid
  rw [if_pos h, psaid_join a _ h]
  simp only [ByteArray.append_assoc]
def AtSz (a : Atm) : Prop := a.says.size ≤ 1000000 ∧ a.pred.size ≤ 1000000 ∧ ∀ k, (a.arg k).name.size ≤ 1000000
theorem psaidK_size {a : Atm} (h : AtSz a) : ∀ k, (psaidK a k).size ≤ 1000000 + k * 1000002
  | 0 => by have := h.2.1; simpa [psaidK] using this
  | k + 1 => by
    have ih := psaidK_size h k
    have h3 := h.2.2 k
    have h4 : (if k = 0 then tOpen else tComma).size ≤ 2 := by split <;> decide
    simp only [psaidK, ByteArray.size_append]
    omega
theorem joinB_size {a : Atm} (h : AtSz a) {k : Nat} (hk : k ≤ 4) : (joinB (anames a k) tComma).size ≤ 6000000 := by
  cases k with
  | zero => exact (by decide : (0 : Nat) ≤ 6000000)
  | succ k =>
    have h1 := psaid_join a (k + 1) (by omega)
    have h2 := psaidK_size h (k + 1)
    rw [h1] at h2
    simp only [ByteArray.size_append] at h2
    have : (k + 1) * 1000002 ≤ 4 * 1000002 := Nat.mul_le_mul_right _ hk
    omega
theorem sadd {a b : ByteArray} {n : Nat} (h : a.size + b.size ≤ n) (hn : n ≤ 9223372036854775807) : pureVal Tryz.prog (Op.stringOp .add a b) = some (.string (a ++ b)) := so_add (Nat.le_trans h hn)
theorem build1T (x : ByteArray) : aBuildSlice Tryz.prog 22 1 [(0, .c (.v (.string x)))] = some [.v (.string x)] := build1 Tryz.underlying22 sz9 ze9 (by decide) (by decide) (by decide) rfl rfl
theorem appS (hp : List Blk) (l : List ByteArray) (x : ByteArray) (hl : l.length ≤ 1000000) : aAppend Tryz.prog ⟨hp, colH 9 1 l⟩ 22 (colA stC 0 l) (.c (.sl true 1 [.v (.string x)])) = some (colA stC 0 (l ++ [x]), ⟨hp, colH 9 1 (l ++ [x])⟩) :=
  app_col0 (P := Tryz.prog) stC (size := 1) (fun _ => rfl) Tryz.underlying22 info_s (hp := hp) (l := l) (x := x) (ex := true) (Nat.le_trans (show _ ≤ 1000001 by omega) (by decide)) (by omega)
theorem text_does (a : Atm) (hS : AtSz a) : Does Tryz.prog 43 [atA a] (fun m => (sA (ptext a), m)) := by
  have h4 := a.count_le
  have ca := args_does a
  have hlen : (a.args.take a.count).length = a.count := args_len a h4
  have e1 := sadd (a := a.says) (b := tSays) (n := 2000000) (by have := hS.1; have : tSays.size = 6 := rfl; omega) (by decide)
  have e2 := sadd (a := a.says ++ tSays) (b := a.pred) (n := 3000000) (by have := hS.1; have := hS.2.1; have : tSays.size = 6 := rfl; rw [ByteArray.size_append]; omega) (by decide)
  by_cases h0 : a.count = 0
  · have hz : decide (((a.args.take a.count).length : Int) = 0) = true := decide_eq_true (by omega)
    have hT : ptext a = (a.says ++ tSays) ++ a.pred := by unfold ptext psaid; rw [if_neg (by omega)]
    refine does_of' Tryz.func43 rfl (by kernel_rfl) rfl Tryz.ntmps43 rfl rfl fun Q hQ => ?_
    repeat (first | refine tr_seq_k fun _ _ => ?_ | (refine tr_region ?_; simp only [go_sem, List.getElem?_toArray, reduceCtorEq, Nat.reduceEqDiff, Nat.reduceLT, Nat.reduceLeDiff, Nat.reduceAdd, ↓reduceIte, e1, e2, hz]) | (refine call_of (ca) ?_ ?_; (first | rfl | simp only [go_sem, reduceCtorEq, Nat.reduceEqDiff, Nat.reduceLT, Nat.reduceLeDiff, Nat.reduceAdd, Nat.reduceMul, Nat.reduceSub, Nat.reduceBEq, ↓reduceIte, e1, e2, hz, shut_col]); simp only [go_sem]) | refine k_of (by assumption) ?_)
    refine tr_cond rfl (fun ht => ?_) (fun hf => ?_)
    · repeat (first | refine tr_seq_k fun _ _ => ?_ | (refine tr_region ?_; simp only [go_sem, reduceCtorEq, Nat.reduceEqDiff, Nat.reduceLT, ↓reduceIte]) | refine k_of (by assumption) ?_ | (refine tr_ret ?_; try simp only [ex_seq_ret]))
      refine (hQ _ _ [sA ((a.says ++ tSays) ++ a.pred)] ?_ (fun m => by rw [hT]; rfl)).2 <;> simp only [go_sem, reduceCtorEq, Nat.reduceEqDiff, ↓reduceIte, Tryz.f43]
    · cases hf
  · have hz : decide (((a.args.take a.count).length : Int) = 0) = false := decide_eq_false (by omega)
    have hT := ptext_join a (by omega)
    have js := joinB_size hS h4
    have cj := join_does (anames a a.count) tComma (anames a a.count).isEmpty (by simp [anames]; omega) (by omega)
    have e3 := sadd (a := (a.says ++ tSays) ++ a.pred) (b := tOpen) (n := 4000000) (by have := hS.1; have := hS.2.1; have : tSays.size = 6 := rfl; have : tOpen.size = 1 := rfl; simp only [ByteArray.size_append]; omega) (by decide)
    have e4 := sadd (a := ((a.says ++ tSays) ++ a.pred) ++ tOpen) (b := joinB (anames a a.count) tComma) (n := 10000000) (by have := hS.1; have := hS.2.1; have : tSays.size = 6 := rfl; have : tOpen.size = 1 := rfl; simp only [ByteArray.size_append]; omega) (by decide)
    have e5 := sadd (a := (((a.says ++ tSays) ++ a.pred) ++ tOpen) ++ joinB (anames a a.count) tComma) (b := tShut) (n := 11000000) (by have := hS.1; have := hS.2.1; have : tSays.size = 6 := rfl; have : tOpen.size = 1 := rfl; have : tShut.size = 1 := rfl; simp only [ByteArray.size_append]; omega) (by decide)
    refine does_of' Tryz.func43 rfl (by kernel_rfl) rfl Tryz.ntmps43 rfl rfl fun Q hQ => ?_
    repeat (first | refine tr_seq_k fun _ _ => ?_ | (refine tr_region ?_; simp only [go_sem, List.getElem?_toArray, reduceCtorEq, Nat.reduceEqDiff, Nat.reduceLT, Nat.reduceLeDiff, Nat.reduceAdd, ↓reduceIte, e1, e2, hz]) | (refine call_of (ca) ?_ ?_; (first | rfl | simp only [go_sem, reduceCtorEq, Nat.reduceEqDiff, Nat.reduceLT, Nat.reduceLeDiff, Nat.reduceAdd, Nat.reduceMul, Nat.reduceSub, Nat.reduceBEq, ↓reduceIte, e1, e2, hz, shut_col]); simp only [go_sem]) | refine k_of (by assumption) ?_)
    refine tr_cond rfl (fun ht => ?_) (fun hf => ?_)
    · cases ht
    · repeat (first | refine tr_seq_k fun _ _ => ?_ | (refine tr_region ?_; simp only [go_sem, List.getElem?_toArray, reduceCtorEq, Nat.reduceEqDiff, Nat.reduceLT, ↓reduceIte]) | refine k_of (by assumption) ?_ | refine tr_block ?_ | (refine tr_skip ?_; try simp only [ex_seq]))
      refine tr_loop_k (σ := Nat) (fun k => [(3, sA ((a.says ++ tSays) ++ a.pred)), (5, colA stC 0 (anames a k)), (20, slM (Nat.beq 4 a.count) (a.args.take a.count)), (21, iA ((a.args.take a.count).length : Nat)), (22, iA k)]) (fun k => ⟨[⟨false, (atC a).map .c⟩], colH 9 1 (anames a k)⟩)
        (fun k => k ≤ a.count) (fun k => a.count - k) 0 (Nat.zero_le _) ⟨rfl, rfl, rfl, rfl, rfl, trivial⟩ rfl ?_
      rintro k hk K hK
      repeat (first | refine tr_seq_k fun _ _ => ?_ | (refine tr_region ?_; simp only [go_sem, Nat.reduceEqDiff, Nat.reduceLT, ↓reduceIte]) | refine k_of (by assumption) ?_)
      refine tr_cond rfl (fun ht => ?_) (fun hf => ?_)
      · have hlt : k < a.count := by
          have := of_decide_eq_true ht
          omega
        have ws := wrap_succ (show k ≤ 1000000000 by omega)
        have hla : k < (a.args.take a.count).length := by omega
        have hix := idxM (ex := Nat.beq 4 a.count) hla
        rw [args_get a h4 hla] at hix
        have ap := fun hp => appS hp (anames a k) (a.arg k).name (by simp [anames]; omega)
        rw [← anames_next] at ap
        have b1 := build1T (a.arg k).name
        repeat (first | refine tr_seq_k fun _ _ => ?_ | (refine tr_region ?_; simp only [go_sem, List.getElem?_toArray, reduceCtorEq, Nat.reduceEqDiff, Nat.reduceLT, Nat.reduceLeDiff, Nat.reduceAdd, ↓reduceIte, hix, b1, one_max, ap, ws]) | refine k_of (by assumption) ?_ | refine tr_block ?_ | (refine tr_skip ?_; try simp only [ex_seq]))
        exact hK (k + 1) _ _ hlt ⟨⟨rfl, rfl, rfl, rfl, rfl, trivial⟩, Keep.of (eh := [_]) (ew := []) rfl (List.append_nil _).symm, by simp only [lowF, low_col]; rfl, rfl, Nat.le_refl _, Nat.zero_le _⟩ (by omega)
      · have hkl : k = a.count := by
          have := of_decide_eq_false hf
          omega
        subst hkl
        repeat (first | refine tr_seq_k fun _ _ => ?_ | (refine tr_region ?_; simp only [go_sem, Nat.reduceEqDiff, Nat.reduceLT, ↓reduceIte, e3]) | (refine call_of (cj) ?_ ?_; (first | rfl | simp only [go_sem, shut_col]); simp only [go_sem, Nat.reduceEqDiff, Nat.reduceLT, ↓reduceIte, e4, e5]) | refine k_of (by assumption) ?_ | (refine tr_exit ?_; try simp only [ex_seq_exit, ex_block_exit, ex_seq, ↓reduceIte]) | (refine tr_ret ?_; try simp only [ex_seq_ret, ex_block_ret]))
        refine (hQ _ _ [sA ((((a.says ++ tSays) ++ a.pred) ++ tOpen) ++ joinB (anames a a.count) tComma ++ tShut)] ?_ (fun m => by rw [hT]; rfl)).2 <;> simp only [go_sem, Nat.reduceEqDiff, ↓reduceIte, Tryz.f43]
end Go.Proofs.YtinbfakpjnnagaaGreatDoor
namespace Go.Proofs.YtinbfakpjnnagaaGreatDoor
open Go.Vs Go.Vs.Ab
set_option maxRecDepth 100000
set_option maxHeartbeats 4000000
structure Prd where
  name : ByteArray
  ar : Int
structure Clr where
  who : ByteArray
  ex : Bool
  reads : List ByteArray
structure Rul where
  head : Atm
  ex : Bool
  body : List Atm
structure Grt where
  tw : ByteArray
  head : Atm
  ex : Bool
  body : List Atm
structure Pol where
  e1 : Bool
  prin : List ByteArray
  e2 : Bool
  preds : List Prd
  e3 : Bool
  clears : List Clr
  quota : Int
  budget : Int
  e4 : Bool
  rules : List Rul
  e5 : Bool
  grants : List Grt
abbrev slC {T : Type} (enc : T → List CV) (ex : Bool) (l : List T) : CV := .sl ex l.length (l.flatMap enc)
def prC (p : Prd) : List CV := [.v (.string p.name), .v (.int .i64 p.ar)]
def clC (c : Clr) : List CV := [.v (.string c.who), slC stC c.ex c.reads]
def ruC (r : Rul) : List CV := [.v (.string r.head.says), .v (.string r.head.pred), .v (.int .i64 r.head.n), .v (.bool r.head.a0.v), .v (.string r.head.a0.name), .v (.bool r.head.a1.v), .v (.string r.head.a1.name), .v (.bool r.head.a2.v), .v (.string r.head.a2.name), .v (.bool r.head.a3.v), .v (.string r.head.a3.name)] ++ [slC atC r.ex r.body]
def grC (g : Grt) : List CV := .v (.string g.tw) :: ([.v (.string g.head.says), .v (.string g.head.pred), .v (.int .i64 g.head.n), .v (.bool g.head.a0.v), .v (.string g.head.a0.name), .v (.bool g.head.a1.v), .v (.string g.head.a1.name), .v (.bool g.head.a2.v), .v (.string g.head.a2.name), .v (.bool g.head.a3.v), .v (.string g.head.a3.name)] ++ [slC atC g.ex g.body])
def poC (p : Pol) : List CV := [slC stC p.e1 p.prin, slC prC p.e2 p.preds, slC clC p.e3 p.clears, .v (.int .i64 p.quota), .v (.int .i64 p.budget), slC ruC p.e4 p.rules, slC grC p.e5 p.grants]
abbrev grA (g : Grt) : AV := .agg (grC g)
abbrev poA (p : Pol) : AV := .agg (poC p)
attribute [go_sem] prC clC ruC grC poC
theorem idxP {ex : Bool} {l : List Prd} {k : Nat} (h : k < l.length) : aIndexAddr Tryz.prog 23 (.c (slC prC ex l)) (.c (.v (.int .i64 (k : Int)))) = some (.cptr (prC l[k] ++ (l.drop (k + 1)).flatMap prC)) :=
  idx_R prC 2 (fun _ => rfl) Tryz.underlying23 sz62 (by decide) h
theorem idxC {ex : Bool} {l : List Clr} {k : Nat} (h : k < l.length) : aIndexAddr Tryz.prog 24 (.c (slC clC ex l)) (.c (.v (.int .i64 (k : Int)))) = some (.cptr (clC l[k] ++ (l.drop (k + 1)).flatMap clC)) :=
  idx_R clC 2 (fun _ => rfl) Tryz.underlying24 sz64 (by decide) h
theorem idxRu {ex : Bool} {l : List Rul} {k : Nat} (h : k < l.length) : aIndexAddr Tryz.prog 25 (.c (slC ruC ex l)) (.c (.v (.int .i64 (k : Int)))) = some (.cptr (ruC l[k] ++ (l.drop (k + 1)).flatMap ruC)) :=
  idx_R ruC 12 (fun _ => rfl) Tryz.underlying25 sz65 (by decide) h
theorem idxGr {ex : Bool} {l : List Grt} {k : Nat} (h : k < l.length) : aIndexAddr Tryz.prog 26 (.c (slC grC ex l)) (.c (.v (.int .i64 (k : Int)))) = some (.cptr (grC l[k] ++ (l.drop (k + 1)).flatMap grC)) :=
  idx_R grC 13 (fun _ => rfl) Tryz.underlying26 sz36 (by decide) h
/-! ### light policies -/
def gPr (p : Prd) : Bool := !decide ((p.name.size : Int) > 300)
def gCl (c : Clr) : Bool := !decide ((c.who.size : Int) > 300) && lightTx c.reads 40 3000
def gRu (r : Rul) : Bool := lightA r.head && lightAs r.body 9
def gGr (g : Grt) : Bool := !decide ((g.tw.size : Int) > 300) && (lightA g.head && lightAs g.body 9)
def lightP (p : Pol) : Bool := lightTx p.prin 70 6000 && !decide ((p.preds.length : Int) > 70) && !decide ((p.clears.length : Int) > 70) && !decide ((p.rules.length : Int) > 70) && !decide ((p.grants.length : Int) > 70)
  && p.preds.all gPr && p.clears.all gCl && p.rules.all gRu && p.grants.all gGr
theorem all_bad {T : Type} {g : T → Bool} {l : List T} {i : Nat} (hi : i < l.length) (h : g l[i] = false) : l.all g = false := by
  rw [List.all_eq_false]
  exact ⟨l[i], List.getElem_mem hi, by simp [h]⟩
theorem all_ok {T : Type} {g : T → Bool} {l : List T} (h : ∀ (j : Nat) (hj : j < l.length), g l[j] = true) : l.all g = true := by
  rw [List.all_eq_true]
  intro x hx
  obtain ⟨j, hj, rfl⟩ := List.mem_iff_getElem.1 hx
  exact h j hj
theorem next_ok {T : Type} {g : T → Bool} {l : List T} {i : Nat} (h : ∀ (j : Nat) (hj : j < l.length), j < i → g l[j] = true) (hi : i < l.length) (hg : g l[i] = true) : ∀ (j : Nat) (hj : j < l.length), j < i + 1 → g l[j] = true := fun j hj hji => by
  rcases Nat.lt_or_ge j i with hl | hl
  · exact h j hj hl
  · have : j = i := by omega
    subst this
    exact hg
theorem lightP_does (p : Pol) : Does Tryz.prog 6 [poA p] (fun m => (bA (lightP p), m)) := by
  have cT := lightTexts_does p.prin 70 6000 p.e1 (by decide)
  cases hT : lightTx p.prin 70 6000 with
  | false =>
    have hr : lightP p = false := by simp [lightP, hT]
    rw [hr]
    rw [hT] at cT
    refine does_of' Tryz.func6 rfl (by kernel_rfl) rfl Tryz.ntmps6 rfl rfl fun Q hQ => ?_
    repeat (first | refine tr_seq_k fun _ _ => ?_ | (refine tr_region ?_; simp only [go_sem, List.getElem?_toArray, reduceCtorEq, Nat.reduceEqDiff, Nat.reduceLT, ↓reduceIte]) | (refine call_of (cT) ?_ ?_; (first | rfl | simp only [go_sem, reduceCtorEq, Nat.reduceEqDiff, Nat.reduceLT, Nat.reduceLeDiff, Nat.reduceAdd, Nat.reduceMul, Nat.reduceSub, Nat.reduceBEq, ↓reduceIte, hT, shut_col]); simp only [go_sem, reduceCtorEq, Nat.reduceEqDiff, Nat.reduceLT, ↓reduceIte]) | refine k_of (by assumption) ?_)
    refine tr_cond rfl (fun ht => ?_) (fun hf => ?_)
    · repeat (first | refine tr_seq_k fun _ _ => ?_ | (refine tr_region ?_; simp only [go_sem, reduceCtorEq, Nat.reduceEqDiff, Nat.reduceLT, ↓reduceIte]) | refine k_of (by assumption) ?_ | (refine tr_ret ?_; try simp only [ex_seq_ret]))
      refine (hQ _ _ [bA false] ?_ (fun m => ?_)).2 <;> simp only [go_sem, reduceCtorEq, Nat.reduceEqDiff, ↓reduceIte, Tryz.f6,]
    · cases hf
  | true =>
    rw [hT] at cT
    cases d2 : decide ((p.preds.length : Int) > 70) with
    | true =>
      have hr : lightP p = false := by simp [lightP, hT, d2]
      rw [hr]
      skip
      refine does_of' Tryz.func6 rfl (by kernel_rfl) rfl Tryz.ntmps6 rfl rfl fun Q hQ => ?_
      repeat (first | refine tr_seq_k fun _ _ => ?_ | (refine tr_region ?_; simp only [go_sem, List.getElem?_toArray, reduceCtorEq, Nat.reduceEqDiff, Nat.reduceLT, ↓reduceIte]) | (refine call_of (cT) ?_ ?_; (first | rfl | simp only [go_sem, reduceCtorEq, Nat.reduceEqDiff, Nat.reduceLT, Nat.reduceLeDiff, Nat.reduceAdd, Nat.reduceMul, Nat.reduceSub, Nat.reduceBEq, ↓reduceIte, hT, d2, shut_col]); simp only [go_sem, List.getElem?_toArray, reduceCtorEq, Nat.reduceEqDiff, Nat.reduceLT, ↓reduceIte, d2]) | refine k_of (by assumption) ?_)
      refine tr_cond rfl (fun ht => ?_) (fun hf => ?_)
      · repeat (first | refine tr_seq_k fun _ _ => ?_ | (refine tr_region ?_; simp only [go_sem, reduceCtorEq, Nat.reduceEqDiff, Nat.reduceLT, ↓reduceIte]) | refine k_of (by assumption) ?_ | (refine tr_ret ?_; try simp only [ex_seq_ret]))
        refine (hQ _ _ [bA false] ?_ (fun m => ?_)).2 <;> simp only [go_sem, reduceCtorEq, Nat.reduceEqDiff, ↓reduceIte, Tryz.f6,]
      · cases hf
    | false =>
      cases d3 : decide ((p.clears.length : Int) > 70) with
      | true =>
        have hr : lightP p = false := by simp [lightP, hT, d2, d3]
        rw [hr]
        skip
        refine does_of' Tryz.func6 rfl (by kernel_rfl) rfl Tryz.ntmps6 rfl rfl fun Q hQ => ?_
        repeat (first | refine tr_seq_k fun _ _ => ?_ | (refine tr_region ?_; simp only [go_sem, List.getElem?_toArray, reduceCtorEq, Nat.reduceEqDiff, Nat.reduceLT, ↓reduceIte]) | (refine call_of (cT) ?_ ?_; (first | rfl | simp only [go_sem, reduceCtorEq, Nat.reduceEqDiff, Nat.reduceLT, Nat.reduceLeDiff, Nat.reduceAdd, Nat.reduceMul, Nat.reduceSub, Nat.reduceBEq, ↓reduceIte, hT, d2, d3, shut_col]); simp only [go_sem, List.getElem?_toArray, reduceCtorEq, Nat.reduceEqDiff, Nat.reduceLT, ↓reduceIte, d2, d3]) | refine k_of (by assumption) ?_)
        refine tr_cond rfl (fun ht => ?_) (fun hf => ?_)
        · repeat (first | refine tr_seq_k fun _ _ => ?_ | (refine tr_region ?_; simp only [go_sem, reduceCtorEq, Nat.reduceEqDiff, Nat.reduceLT, ↓reduceIte]) | refine k_of (by assumption) ?_ | (refine tr_ret ?_; try simp only [ex_seq_ret]))
          refine (hQ _ _ [bA false] ?_ (fun m => ?_)).2 <;> simp only [go_sem, reduceCtorEq, Nat.reduceEqDiff, ↓reduceIte, Tryz.f6,]
        · cases hf
      | false =>
        cases d4 : decide ((p.rules.length : Int) > 70) with
        | true =>
          have hr : lightP p = false := by simp [lightP, hT, d2, d3, d4]
          rw [hr]
          skip
          refine does_of' Tryz.func6 rfl (by kernel_rfl) rfl Tryz.ntmps6 rfl rfl fun Q hQ => ?_
          repeat (first | refine tr_seq_k fun _ _ => ?_ | (refine tr_region ?_; simp only [go_sem, List.getElem?_toArray, reduceCtorEq, Nat.reduceEqDiff, Nat.reduceLT, ↓reduceIte]) | (refine call_of (cT) ?_ ?_; (first | rfl | simp only [go_sem, reduceCtorEq, Nat.reduceEqDiff, Nat.reduceLT, Nat.reduceLeDiff, Nat.reduceAdd, Nat.reduceMul, Nat.reduceSub, Nat.reduceBEq, ↓reduceIte, hT, d2, d3, d4, shut_col]); simp only [go_sem, List.getElem?_toArray, reduceCtorEq, Nat.reduceEqDiff, Nat.reduceLT, ↓reduceIte, d2, d3, d4]) | refine k_of (by assumption) ?_)
          refine tr_cond rfl (fun ht => ?_) (fun hf => ?_)
          · repeat (first | refine tr_seq_k fun _ _ => ?_ | (refine tr_region ?_; simp only [go_sem, reduceCtorEq, Nat.reduceEqDiff, Nat.reduceLT, ↓reduceIte]) | refine k_of (by assumption) ?_ | (refine tr_ret ?_; try simp only [ex_seq_ret]))
            refine (hQ _ _ [bA false] ?_ (fun m => ?_)).2 <;> simp only [go_sem, reduceCtorEq, Nat.reduceEqDiff, ↓reduceIte, Tryz.f6,]
          · cases hf
        | false =>
          cases d5 : decide ((p.grants.length : Int) > 70) with
          | true =>
            have hr : lightP p = false := by simp [lightP, hT, d2, d3, d4, d5]
            rw [hr]
            skip
            refine does_of' Tryz.func6 rfl (by kernel_rfl) rfl Tryz.ntmps6 rfl rfl fun Q hQ => ?_
            repeat (first | refine tr_seq_k fun _ _ => ?_ | (refine tr_region ?_; simp only [go_sem, List.getElem?_toArray, reduceCtorEq, Nat.reduceEqDiff, Nat.reduceLT, ↓reduceIte]) | (refine call_of (cT) ?_ ?_; (first | rfl | simp only [go_sem, reduceCtorEq, Nat.reduceEqDiff, Nat.reduceLT, Nat.reduceLeDiff, Nat.reduceAdd, Nat.reduceMul, Nat.reduceSub, Nat.reduceBEq, ↓reduceIte, hT, d2, d3, d4, d5, shut_col]); simp only [go_sem, List.getElem?_toArray, reduceCtorEq, Nat.reduceEqDiff, Nat.reduceLT, ↓reduceIte, d2, d3, d4, d5]) | refine k_of (by assumption) ?_)
            refine tr_cond rfl (fun ht => ?_) (fun hf => ?_)
            · repeat (first | refine tr_seq_k fun _ _ => ?_ | (refine tr_region ?_; simp only [go_sem, reduceCtorEq, Nat.reduceEqDiff, Nat.reduceLT, ↓reduceIte]) | refine k_of (by assumption) ?_ | (refine tr_ret ?_; try simp only [ex_seq_ret]))
              refine (hQ _ _ [bA false] ?_ (fun m => ?_)).2 <;> simp only [go_sem, reduceCtorEq, Nat.reduceEqDiff, ↓reduceIte, Tryz.f6,]
            · cases hf
          | false =>
            refine does_of' Tryz.func6 rfl (by kernel_rfl) rfl Tryz.ntmps6 rfl rfl fun Q hQ => ?_
            repeat (first | refine tr_seq_k fun _ _ => ?_ | (refine tr_region ?_; simp only [go_sem, List.getElem?_toArray, reduceCtorEq, Nat.reduceEqDiff, Nat.reduceLT, ↓reduceIte]) | (refine call_of (cT) ?_ ?_; (first | rfl | simp only [go_sem, reduceCtorEq, Nat.reduceEqDiff, Nat.reduceLT, Nat.reduceLeDiff, Nat.reduceAdd, Nat.reduceMul, Nat.reduceSub, Nat.reduceBEq, ↓reduceIte, hT, d2, d3, d4, d5, shut_col]); simp only [go_sem, List.getElem?_toArray, reduceCtorEq, Nat.reduceEqDiff, Nat.reduceLT, ↓reduceIte, d2, d3, d4, d5]) | refine k_of (by assumption) ?_)
            refine tr_cond rfl (fun ht => ?_) (fun hf => ?_)
            · cases ht
            · repeat (first | refine tr_seq_k fun _ _ => ?_ | (refine tr_region ?_; simp only [go_sem, reduceCtorEq, Nat.reduceEqDiff, Nat.reduceLT, ↓reduceIte]) | refine k_of (by assumption) ?_ | refine tr_block ?_ | (refine tr_skip ?_; try simp only [ex_seq]))
              refine tr_loop_k (σ := Nat) (fun k => [(1, .ptr 0 0), (3, iA k)]) (fun _ => ⟨[⟨false, [.c (slC stC p.e1 p.prin), .c (slC prC p.e2 p.preds), .c (slC clC p.e3 p.clears), iA p.quota, iA p.budget, .c (slC ruC p.e4 p.rules), .c (slC grC p.e5 p.grants)]⟩], []⟩) (fun k => k ≤ p.preds.length ∧ ∀ (j : Nat) (hj : j < p.preds.length), j < k → gPr p.preds[j] = true) (fun k => p.preds.length - k) 0 ⟨Nat.zero_le _, fun _ _ h => absurd h (Nat.not_lt_zero _)⟩ ⟨rfl, rfl, trivial⟩ rfl ?_
              rintro k ⟨hkk, hok⟩ K hK
              by_cases hkl : k < p.preds.length
              · have e1 : decide ((k : Int) < (p.preds.length : Nat)) = true := decide_eq_true (by omega)
                have ix := idxP (ex := p.e2) hkl
                have ws := wrap_succ (show k ≤ 1000000000 by have := of_decide_eq_false d2; omega)
                have hbad := fun h => all_bad (g := gPr) hkl h
                have hnext := fun h => next_ok (g := gPr) hok hkl h
                generalize p.preds[k] = x at *
                cases h1 : decide ((x.name.size : Int) > 300) with
                | true =>
                  have hr : lightP p = false := by
                    have hg : gPr x = false := by simp [gPr, h1]
                    simp [lightP, hbad hg]
                  rw [hr] at hQ
                  repeat (first | refine tr_seq_k fun _ _ => ?_ | (refine tr_region ?_; simp only [go_sem, List.getElem?_toArray, reduceCtorEq, Nat.reduceEqDiff, Nat.reduceLT, ↓reduceIte, e1]) | refine k_of (by assumption) ?_)
                  refine tr_cond rfl (fun ht => ?_) (fun hf => ?_)
                  · repeat (first | refine tr_seq_k fun _ _ => ?_ | (refine tr_region ?_; simp only [go_sem, List.getElem?_toArray, reduceCtorEq, Nat.reduceEqDiff, Nat.reduceLT, ↓reduceIte, ix, h1]) | refine k_of (by assumption) ?_ | refine tr_block ?_ | (refine tr_skip ?_; try simp only [ex_seq]))
                    refine tr_cond rfl (fun ht => ?_) (fun hf => ?_)
                    · repeat (first | refine tr_seq_k fun _ _ => ?_ | (refine tr_region ?_; simp only [go_sem, Nat.reduceEqDiff, Nat.reduceLT, ↓reduceIte]) | refine k_of (by assumption) ?_ | (refine tr_ret ?_; try simp only [ex_seq_ret, ex_block_ret]))
                      refine (hQ _ _ [bA false] ?_ (fun m => ?_)).2 <;> simp only [go_sem, Nat.reduceEqDiff, ↓reduceIte, Tryz.f6,]
                    · cases hf
                  · cases hf
                | false =>
                  have hg : gPr x = true := by simp [gPr, h1]
                  repeat (first | refine tr_seq_k fun _ _ => ?_ | (refine tr_region ?_; simp only [go_sem, List.getElem?_toArray, reduceCtorEq, Nat.reduceEqDiff, Nat.reduceLT, ↓reduceIte, e1]) | refine k_of (by assumption) ?_)
                  refine tr_cond rfl (fun ht => ?_) (fun hf => ?_)
                  · repeat (first | refine tr_seq_k fun _ _ => ?_ | (refine tr_region ?_; simp only [go_sem, List.getElem?_toArray, reduceCtorEq, Nat.reduceEqDiff, Nat.reduceLT, ↓reduceIte, ix, h1]) | refine k_of (by assumption) ?_ | refine tr_block ?_ | (refine tr_skip ?_; try simp only [ex_seq]))
                    refine tr_cond rfl (fun ht => ?_) (fun hf => ?_)
                    · cases ht
                    · repeat (first | (refine tr_region ?_; simp only [go_sem, Nat.reduceEqDiff, Nat.reduceLT, ↓reduceIte, ws]) | refine k_of (by assumption) ?_ | (refine tr_skip ?_; try simp only [ex_seq, ex_block]))
                      exact hK (k + 1) _ _ ⟨hkl, hnext hg⟩ ⟨⟨rfl, rfl, trivial⟩, Keep.refl _, rfl, rfl, Nat.le_refl _, Nat.le_refl _⟩ (by omega)
                  · cases hf
              · have e1 : decide ((k : Int) < (p.preds.length : Nat)) = false := decide_eq_false (by omega)
                have hA0 : p.preds.all gPr = true := all_ok fun j hj => hok j hj (by omega)
                repeat (first | refine tr_seq_k fun _ _ => ?_ | (refine tr_region ?_; simp only [go_sem, List.getElem?_toArray, reduceCtorEq, Nat.reduceEqDiff, Nat.reduceLT, ↓reduceIte, e1]) | refine k_of (by assumption) ?_)
                refine tr_cond rfl (fun ht => ?_) (fun hf => ?_)
                · cases ht
                · repeat (first | refine tr_seq_k fun _ _ => ?_ | (refine tr_region ?_; simp only [go_sem, Nat.reduceEqDiff, Nat.reduceLT, ↓reduceIte]) | refine k_of (by assumption) ?_ | refine tr_block ?_ | (refine tr_exit ?_; try simp only [ex_seq_exit, ex_block_exit, ex_seq, ↓reduceIte]))
                  refine tr_loop_k (σ := Nat) (fun k => [(1, .ptr 0 0), (4, iA k)]) (fun _ => ⟨[⟨false, [.c (slC stC p.e1 p.prin), .c (slC prC p.e2 p.preds), .c (slC clC p.e3 p.clears), iA p.quota, iA p.budget, .c (slC ruC p.e4 p.rules), .c (slC grC p.e5 p.grants)]⟩], []⟩) (fun k => k ≤ p.clears.length ∧ ∀ (j : Nat) (hj : j < p.clears.length), j < k → gCl p.clears[j] = true) (fun k => p.clears.length - k) 0 ⟨Nat.zero_le _, fun _ _ h => absurd h (Nat.not_lt_zero _)⟩ ⟨rfl, rfl, trivial⟩ rfl ?_
                  rintro k ⟨hkk, hok⟩ K hK
                  by_cases hkl : k < p.clears.length
                  · have e1 : decide ((k : Int) < (p.clears.length : Nat)) = true := decide_eq_true (by omega)
                    have ix := idxC (ex := p.e3) hkl
                    have ws := wrap_succ (show k ≤ 1000000000 by have := of_decide_eq_false d3; omega)
                    have hbad := fun h => all_bad (g := gCl) hkl h
                    have hnext := fun h => next_ok (g := gCl) hok hkl h
                    generalize p.clears[k] = x at *
                    cases h1 : decide ((x.who.size : Int) > 300) with
                    | true =>
                      have hr : lightP p = false := by
                        have hg : gCl x = false := by simp [gCl, h1]
                        simp [lightP, hbad hg]
                      rw [hr] at hQ
                      repeat (first | refine tr_seq_k fun _ _ => ?_ | (refine tr_region ?_; simp only [go_sem, List.getElem?_toArray, reduceCtorEq, Nat.reduceEqDiff, Nat.reduceLT, ↓reduceIte, e1]) | refine k_of (by assumption) ?_)
                      refine tr_cond rfl (fun ht => ?_) (fun hf => ?_)
                      · repeat (first | refine tr_seq_k fun _ _ => ?_ | (refine tr_region ?_; simp only [go_sem, List.getElem?_toArray, reduceCtorEq, Nat.reduceEqDiff, Nat.reduceLT, ↓reduceIte, ix, h1]) | refine k_of (by assumption) ?_ | refine tr_block ?_ | (refine tr_skip ?_; try simp only [ex_seq]))
                        refine tr_cond rfl (fun ht => ?_) (fun hf => ?_)
                        · repeat (first | refine tr_seq_k fun _ _ => ?_ | (refine tr_region ?_; simp only [go_sem, Nat.reduceEqDiff, Nat.reduceLT, ↓reduceIte]) | refine k_of (by assumption) ?_ | (refine tr_ret ?_; try simp only [ex_seq_ret, ex_block_ret]))
                          refine (hQ _ _ [bA false] ?_ (fun m => ?_)).2 <;> simp only [go_sem, Nat.reduceEqDiff, ↓reduceIte, Tryz.f6,]
                        · cases hf
                      · cases hf
                    | false =>
                      cases h2 : lightTx x.reads 40 3000 with
                      | false =>
                        have hr : lightP p = false := by
                          have hg : gCl x = false := by simp [gCl, h1, h2]
                          simp [lightP, hbad hg]
                        rw [hr] at hQ
                        repeat (first | refine tr_seq_k fun _ _ => ?_ | (refine tr_region ?_; simp only [go_sem, List.getElem?_toArray, reduceCtorEq, Nat.reduceEqDiff, Nat.reduceLT, ↓reduceIte, e1]) | refine k_of (by assumption) ?_)
                        refine tr_cond rfl (fun ht => ?_) (fun hf => ?_)
                        · repeat (first | refine tr_seq_k fun _ _ => ?_ | (refine tr_region ?_; simp only [go_sem, List.getElem?_toArray, reduceCtorEq, Nat.reduceEqDiff, Nat.reduceLT, ↓reduceIte, ix, h1]) | (refine call_of (lightTexts_does x.reads 40 3000 x.ex (by decide)) ?_ ?_; (first | rfl | simp only [go_sem, reduceCtorEq, Nat.reduceEqDiff, Nat.reduceLT, Nat.reduceLeDiff, Nat.reduceAdd, Nat.reduceMul, Nat.reduceSub, Nat.reduceBEq, ↓reduceIte, ix, h1, h2, shut_col]); simp only [go_sem, Nat.reduceEqDiff, Nat.reduceLT, ↓reduceIte, h2]) | refine k_of (by assumption) ?_ | refine tr_block ?_ | (refine tr_skip ?_; try simp only [ex_seq]))
                          refine tr_cond rfl (fun ht => ?_) (fun hf => ?_)
                          · repeat (first | refine tr_seq_k fun _ _ => ?_ | (refine tr_region ?_; simp only [go_sem, Nat.reduceEqDiff, Nat.reduceLT, ↓reduceIte]) | refine k_of (by assumption) ?_ | (refine tr_ret ?_; try simp only [ex_seq_ret, ex_block_ret]))
                            refine (hQ _ _ [bA false] ?_ (fun m => ?_)).2 <;> simp only [go_sem, Nat.reduceEqDiff, ↓reduceIte, Tryz.f6,]
                          · cases hf
                        · cases hf
                      | true =>
                        have hg : gCl x = true := by simp [gCl, h1, h2]
                        repeat (first | refine tr_seq_k fun _ _ => ?_ | (refine tr_region ?_; simp only [go_sem, List.getElem?_toArray, reduceCtorEq, Nat.reduceEqDiff, Nat.reduceLT, ↓reduceIte, e1]) | refine k_of (by assumption) ?_)
                        refine tr_cond rfl (fun ht => ?_) (fun hf => ?_)
                        · repeat (first | refine tr_seq_k fun _ _ => ?_ | (refine tr_region ?_; simp only [go_sem, List.getElem?_toArray, reduceCtorEq, Nat.reduceEqDiff, Nat.reduceLT, ↓reduceIte, ix, h1]) | (refine call_of (lightTexts_does x.reads 40 3000 x.ex (by decide)) ?_ ?_; (first | rfl | simp only [go_sem, reduceCtorEq, Nat.reduceEqDiff, Nat.reduceLT, Nat.reduceLeDiff, Nat.reduceAdd, Nat.reduceMul, Nat.reduceSub, Nat.reduceBEq, ↓reduceIte, ix, h1, h2, shut_col]); simp only [go_sem, Nat.reduceEqDiff, Nat.reduceLT, ↓reduceIte, h2]) | refine k_of (by assumption) ?_ | refine tr_block ?_ | (refine tr_skip ?_; try simp only [ex_seq]))
                          refine tr_cond rfl (fun ht => ?_) (fun hf => ?_)
                          · cases ht
                          · repeat (first | (refine tr_region ?_; simp only [go_sem, Nat.reduceEqDiff, Nat.reduceLT, ↓reduceIte, ws]) | refine k_of (by assumption) ?_ | (refine tr_skip ?_; try simp only [ex_seq, ex_block]))
                            exact hK (k + 1) _ _ ⟨hkl, hnext hg⟩ ⟨⟨rfl, rfl, trivial⟩, Keep.refl _, rfl, rfl, Nat.le_refl _, Nat.le_refl _⟩ (by omega)
                        · cases hf
                  · have e1 : decide ((k : Int) < (p.clears.length : Nat)) = false := decide_eq_false (by omega)
                    have hA1 : p.clears.all gCl = true := all_ok fun j hj => hok j hj (by omega)
                    repeat (first | refine tr_seq_k fun _ _ => ?_ | (refine tr_region ?_; simp only [go_sem, List.getElem?_toArray, reduceCtorEq, Nat.reduceEqDiff, Nat.reduceLT, ↓reduceIte, e1]) | refine k_of (by assumption) ?_)
                    refine tr_cond rfl (fun ht => ?_) (fun hf => ?_)
                    · cases ht
                    · repeat (first | refine tr_seq_k fun _ _ => ?_ | (refine tr_region ?_; simp only [go_sem, Nat.reduceEqDiff, Nat.reduceLT, ↓reduceIte]) | refine k_of (by assumption) ?_ | refine tr_block ?_ | (refine tr_exit ?_; try simp only [ex_seq_exit, ex_block_exit, ex_seq, ↓reduceIte]))
                      refine tr_loop_k (σ := Nat) (fun k => [(1, .ptr 0 0), (5, iA k)]) (fun _ => ⟨[⟨false, [.c (slC stC p.e1 p.prin), .c (slC prC p.e2 p.preds), .c (slC clC p.e3 p.clears), iA p.quota, iA p.budget, .c (slC ruC p.e4 p.rules), .c (slC grC p.e5 p.grants)]⟩], []⟩) (fun k => k ≤ p.rules.length ∧ ∀ (j : Nat) (hj : j < p.rules.length), j < k → gRu p.rules[j] = true) (fun k => p.rules.length - k) 0 ⟨Nat.zero_le _, fun _ _ h => absurd h (Nat.not_lt_zero _)⟩ ⟨rfl, rfl, trivial⟩ rfl ?_
                      rintro k ⟨hkk, hok⟩ K hK
                      by_cases hkl : k < p.rules.length
                      · have e1 : decide ((k : Int) < (p.rules.length : Nat)) = true := decide_eq_true (by omega)
                        have ix := idxRu (ex := p.e4) hkl
                        have ws := wrap_succ (show k ≤ 1000000000 by have := of_decide_eq_false d4; omega)
                        have hbad := fun h => all_bad (g := gRu) hkl h
                        have hnext := fun h => next_ok (g := gRu) hok hkl h
                        generalize p.rules[k] = x at *
                        cases h1 : lightA x.head with
                        | false =>
                          have hr : lightP p = false := by
                            have hg : gRu x = false := by simp [gRu, h1]
                            simp [lightP, hbad hg]
                          rw [hr] at hQ
                          repeat (first | refine tr_seq_k fun _ _ => ?_ | (refine tr_region ?_; simp only [go_sem, List.getElem?_toArray, reduceCtorEq, Nat.reduceEqDiff, Nat.reduceLT, ↓reduceIte, e1]) | refine k_of (by assumption) ?_)
                          refine tr_cond rfl (fun ht => ?_) (fun hf => ?_)
                          · repeat (first | refine tr_seq_k fun _ _ => ?_ | (refine tr_region ?_; simp only [go_sem, List.getElem?_toArray, reduceCtorEq, Nat.reduceEqDiff, Nat.reduceLT, Nat.reduceLeDiff, ↓reduceIte, ix]) | (refine call_of (lightA_does x.head) ?_ ?_; (first | rfl | simp only [go_sem, reduceCtorEq, Nat.reduceEqDiff, Nat.reduceLT, Nat.reduceLeDiff, Nat.reduceAdd, Nat.reduceMul, Nat.reduceSub, Nat.reduceBEq, ↓reduceIte, ix, h1, shut_col]); simp only [go_sem, Nat.reduceEqDiff, Nat.reduceLT, ↓reduceIte, h1]) | refine k_of (by assumption) ?_ | refine tr_block ?_ | (refine tr_skip ?_; try simp only [ex_seq]))
                            refine tr_cond rfl (fun ht => ?_) (fun hf => ?_)
                            · repeat (first | refine tr_seq_k fun _ _ => ?_ | (refine tr_region ?_; simp only [go_sem, Nat.reduceEqDiff, Nat.reduceLT, ↓reduceIte]) | refine k_of (by assumption) ?_ | (refine tr_ret ?_; try simp only [ex_seq_ret, ex_block_ret]))
                              refine (hQ _ _ [bA false] ?_ (fun m => ?_)).2 <;> simp only [go_sem, Nat.reduceEqDiff, ↓reduceIte, Tryz.f6,]
                            · cases hf
                          · cases hf
                        | true =>
                          cases h2 : lightAs x.body 9 with
                          | false =>
                            have hr : lightP p = false := by
                              have hg : gRu x = false := by simp [gRu, h1, h2]
                              simp [lightP, hbad hg]
                            rw [hr] at hQ
                            repeat (first | refine tr_seq_k fun _ _ => ?_ | (refine tr_region ?_; simp only [go_sem, List.getElem?_toArray, reduceCtorEq, Nat.reduceEqDiff, Nat.reduceLT, ↓reduceIte, e1]) | refine k_of (by assumption) ?_)
                            refine tr_cond rfl (fun ht => ?_) (fun hf => ?_)
                            · repeat (first | refine tr_seq_k fun _ _ => ?_ | (refine tr_region ?_; simp only [go_sem, List.getElem?_toArray, reduceCtorEq, Nat.reduceEqDiff, Nat.reduceLT, Nat.reduceLeDiff, ↓reduceIte, ix]) | (refine call_of (lightA_does x.head) ?_ ?_; (first | rfl | simp only [go_sem, reduceCtorEq, Nat.reduceEqDiff, Nat.reduceLT, Nat.reduceLeDiff, Nat.reduceAdd, Nat.reduceMul, Nat.reduceSub, Nat.reduceBEq, ↓reduceIte, ix, h1, h2, shut_col]); simp only [go_sem, List.getElem?_toArray, reduceCtorEq, Nat.reduceEqDiff, Nat.reduceLT, ↓reduceIte, ix, h1]) | (refine call_of (lightAtoms_does x.body 9 x.ex (by decide)) ?_ ?_; (first | rfl | simp only [go_sem, reduceCtorEq, Nat.reduceEqDiff, Nat.reduceLT, Nat.reduceLeDiff, Nat.reduceAdd, Nat.reduceMul, Nat.reduceSub, Nat.reduceBEq, ↓reduceIte, ix, h1, h2, shut_col]); simp only [go_sem, Nat.reduceEqDiff, Nat.reduceLT, ↓reduceIte, h2]) | refine k_of (by assumption) ?_ | refine tr_block ?_ | (refine tr_skip ?_; try simp only [ex_seq]))
                              refine tr_cond rfl (fun ht => ?_) (fun hf => ?_)
                              · repeat (first | refine tr_seq_k fun _ _ => ?_ | (refine tr_region ?_; simp only [go_sem, Nat.reduceEqDiff, Nat.reduceLT, ↓reduceIte]) | refine k_of (by assumption) ?_ | (refine tr_ret ?_; try simp only [ex_seq_ret, ex_block_ret]))
                                refine (hQ _ _ [bA false] ?_ (fun m => ?_)).2 <;> simp only [go_sem, Nat.reduceEqDiff, ↓reduceIte, Tryz.f6,]
                              · cases hf
                            · cases hf
                          | true =>
                            have hg : gRu x = true := by simp [gRu, h1, h2]
                            repeat (first | refine tr_seq_k fun _ _ => ?_ | (refine tr_region ?_; simp only [go_sem, List.getElem?_toArray, reduceCtorEq, Nat.reduceEqDiff, Nat.reduceLT, ↓reduceIte, e1]) | refine k_of (by assumption) ?_)
                            refine tr_cond rfl (fun ht => ?_) (fun hf => ?_)
                            · repeat (first | refine tr_seq_k fun _ _ => ?_ | (refine tr_region ?_; simp only [go_sem, List.getElem?_toArray, reduceCtorEq, Nat.reduceEqDiff, Nat.reduceLT, Nat.reduceLeDiff, ↓reduceIte, ix]) | (refine call_of (lightA_does x.head) ?_ ?_; (first | rfl | simp only [go_sem, reduceCtorEq, Nat.reduceEqDiff, Nat.reduceLT, Nat.reduceLeDiff, Nat.reduceAdd, Nat.reduceMul, Nat.reduceSub, Nat.reduceBEq, ↓reduceIte, ix, h1, h2, shut_col]); simp only [go_sem, List.getElem?_toArray, reduceCtorEq, Nat.reduceEqDiff, Nat.reduceLT, ↓reduceIte, ix, h1]) | (refine call_of (lightAtoms_does x.body 9 x.ex (by decide)) ?_ ?_; (first | rfl | simp only [go_sem, reduceCtorEq, Nat.reduceEqDiff, Nat.reduceLT, Nat.reduceLeDiff, Nat.reduceAdd, Nat.reduceMul, Nat.reduceSub, Nat.reduceBEq, ↓reduceIte, ix, h1, h2, shut_col]); simp only [go_sem, Nat.reduceEqDiff, Nat.reduceLT, ↓reduceIte, h2]) | refine k_of (by assumption) ?_ | refine tr_block ?_ | (refine tr_skip ?_; try simp only [ex_seq]))
                              refine tr_cond rfl (fun ht => ?_) (fun hf => ?_)
                              · cases ht
                              · repeat (first | (refine tr_region ?_; simp only [go_sem, Nat.reduceEqDiff, Nat.reduceLT, ↓reduceIte, ws]) | refine k_of (by assumption) ?_ | (refine tr_skip ?_; try simp only [ex_seq, ex_block]))
                                exact hK (k + 1) _ _ ⟨hkl, hnext hg⟩ ⟨⟨rfl, rfl, trivial⟩, Keep.refl _, rfl, rfl, Nat.le_refl _, Nat.le_refl _⟩ (by omega)
                            · cases hf
                      · have e1 : decide ((k : Int) < (p.rules.length : Nat)) = false := decide_eq_false (by omega)
                        have hA2 : p.rules.all gRu = true := all_ok fun j hj => hok j hj (by omega)
                        repeat (first | refine tr_seq_k fun _ _ => ?_ | (refine tr_region ?_; simp only [go_sem, List.getElem?_toArray, reduceCtorEq, Nat.reduceEqDiff, Nat.reduceLT, ↓reduceIte, e1]) | refine k_of (by assumption) ?_)
                        refine tr_cond rfl (fun ht => ?_) (fun hf => ?_)
                        · cases ht
                        · repeat (first | refine tr_seq_k fun _ _ => ?_ | (refine tr_region ?_; simp only [go_sem, Nat.reduceEqDiff, Nat.reduceLT, ↓reduceIte]) | refine k_of (by assumption) ?_ | refine tr_block ?_ | (refine tr_exit ?_; try simp only [ex_seq_exit, ex_block_exit, ex_seq, ↓reduceIte]))
                          refine tr_loop_k (σ := Nat) (fun k => [(1, .ptr 0 0), (6, iA k)]) (fun _ => ⟨[⟨false, [.c (slC stC p.e1 p.prin), .c (slC prC p.e2 p.preds), .c (slC clC p.e3 p.clears), iA p.quota, iA p.budget, .c (slC ruC p.e4 p.rules), .c (slC grC p.e5 p.grants)]⟩], []⟩) (fun k => k ≤ p.grants.length ∧ ∀ (j : Nat) (hj : j < p.grants.length), j < k → gGr p.grants[j] = true) (fun k => p.grants.length - k) 0 ⟨Nat.zero_le _, fun _ _ h => absurd h (Nat.not_lt_zero _)⟩ ⟨rfl, rfl, trivial⟩ rfl ?_
                          rintro k ⟨hkk, hok⟩ K hK
                          by_cases hkl : k < p.grants.length
                          · have e1 : decide ((k : Int) < (p.grants.length : Nat)) = true := decide_eq_true (by omega)
                            have ix := idxGr (ex := p.e5) hkl
                            have ws := wrap_succ (show k ≤ 1000000000 by have := of_decide_eq_false d5; omega)
                            have hbad := fun h => all_bad (g := gGr) hkl h
                            have hnext := fun h => next_ok (g := gGr) hok hkl h
                            generalize p.grants[k] = x at *
                            cases h1 : decide ((x.tw.size : Int) > 300) with
                            | true =>
                              have hr : lightP p = false := by
                                have hg : gGr x = false := by simp [gGr, h1]
                                simp [lightP, hbad hg]
                              rw [hr] at hQ
                              repeat (first | refine tr_seq_k fun _ _ => ?_ | (refine tr_region ?_; simp only [go_sem, List.getElem?_toArray, reduceCtorEq, Nat.reduceEqDiff, Nat.reduceLT, ↓reduceIte, e1]) | refine k_of (by assumption) ?_)
                              refine tr_cond rfl (fun ht => ?_) (fun hf => ?_)
                              · repeat (first | refine tr_seq_k fun _ _ => ?_ | (refine tr_region ?_; simp only [go_sem, List.getElem?_toArray, reduceCtorEq, Nat.reduceEqDiff, Nat.reduceLT, ↓reduceIte, ix, h1]) | refine k_of (by assumption) ?_ | refine tr_block ?_ | (refine tr_skip ?_; try simp only [ex_seq]))
                                refine tr_cond rfl (fun ht => ?_) (fun hf => ?_)
                                · repeat (first | refine tr_seq_k fun _ _ => ?_ | (refine tr_region ?_; simp only [go_sem, Nat.reduceEqDiff, Nat.reduceLT, ↓reduceIte]) | refine k_of (by assumption) ?_ | (refine tr_ret ?_; try simp only [ex_seq_ret, ex_block_ret]))
                                  refine (hQ _ _ [bA false] ?_ (fun m => ?_)).2 <;> simp only [go_sem, Nat.reduceEqDiff, ↓reduceIte, Tryz.f6,]
                                · cases hf
                              · cases hf
                            | false =>
                              cases h2 : lightA x.head with
                              | false =>
                                have hr : lightP p = false := by
                                  have hg : gGr x = false := by simp [gGr, h1, h2]
                                  simp [lightP, hbad hg]
                                rw [hr] at hQ
                                repeat (first | refine tr_seq_k fun _ _ => ?_ | (refine tr_region ?_; simp only [go_sem, List.getElem?_toArray, reduceCtorEq, Nat.reduceEqDiff, Nat.reduceLT, ↓reduceIte, e1]) | refine k_of (by assumption) ?_)
                                refine tr_cond rfl (fun ht => ?_) (fun hf => ?_)
                                · repeat (first | refine tr_seq_k fun _ _ => ?_ | (refine tr_region ?_; simp only [go_sem, List.getElem?_toArray, reduceCtorEq, Nat.reduceEqDiff, Nat.reduceLT, Nat.reduceLeDiff, ↓reduceIte, ix, h1]) | (refine call_of (lightA_does x.head) ?_ ?_; (first | rfl | simp only [go_sem, reduceCtorEq, Nat.reduceEqDiff, Nat.reduceLT, Nat.reduceLeDiff, Nat.reduceAdd, Nat.reduceMul, Nat.reduceSub, Nat.reduceBEq, ↓reduceIte, ix, h1, h2, shut_col]); simp only [go_sem, Nat.reduceEqDiff, Nat.reduceLT, ↓reduceIte, h2]) | refine k_of (by assumption) ?_ | refine tr_block ?_ | (refine tr_skip ?_; try simp only [ex_seq]))
                                  refine tr_cond rfl (fun ht => ?_) (fun hf => ?_)
                                  · repeat (first | refine tr_seq_k fun _ _ => ?_ | (refine tr_region ?_; simp only [go_sem, Nat.reduceEqDiff, Nat.reduceLT, ↓reduceIte]) | refine k_of (by assumption) ?_ | (refine tr_ret ?_; try simp only [ex_seq_ret, ex_block_ret]))
                                    refine (hQ _ _ [bA false] ?_ (fun m => ?_)).2 <;> simp only [go_sem, Nat.reduceEqDiff, ↓reduceIte, Tryz.f6,]
                                  · cases hf
                                · cases hf
                              | true =>
                                cases h3 : lightAs x.body 9 with
                                | false =>
                                  have hr : lightP p = false := by
                                    have hg : gGr x = false := by simp [gGr, h1, h2, h3]
                                    simp [lightP, hbad hg]
                                  rw [hr] at hQ
                                  repeat (first | refine tr_seq_k fun _ _ => ?_ | (refine tr_region ?_; simp only [go_sem, List.getElem?_toArray, reduceCtorEq, Nat.reduceEqDiff, Nat.reduceLT, ↓reduceIte, e1]) | refine k_of (by assumption) ?_)
                                  refine tr_cond rfl (fun ht => ?_) (fun hf => ?_)
                                  · repeat (first | refine tr_seq_k fun _ _ => ?_ | (refine tr_region ?_; simp only [go_sem, List.getElem?_toArray, reduceCtorEq, Nat.reduceEqDiff, Nat.reduceLT, Nat.reduceLeDiff, ↓reduceIte, ix, h1]) | (refine call_of (lightA_does x.head) ?_ ?_; (first | rfl | simp only [go_sem, reduceCtorEq, Nat.reduceEqDiff, Nat.reduceLT, Nat.reduceLeDiff, Nat.reduceAdd, Nat.reduceMul, Nat.reduceSub, Nat.reduceBEq, ↓reduceIte, ix, h1, h2, h3, shut_col]); simp only [go_sem, List.getElem?_toArray, reduceCtorEq, Nat.reduceEqDiff, Nat.reduceLT, ↓reduceIte, ix, h2]) | (refine call_of (lightAtoms_does x.body 9 x.ex (by decide)) ?_ ?_; (first | rfl | simp only [go_sem, reduceCtorEq, Nat.reduceEqDiff, Nat.reduceLT, Nat.reduceLeDiff, Nat.reduceAdd, Nat.reduceMul, Nat.reduceSub, Nat.reduceBEq, ↓reduceIte, ix, h1, h2, h3, shut_col]); simp only [go_sem, Nat.reduceEqDiff, Nat.reduceLT, ↓reduceIte, h3]) | refine k_of (by assumption) ?_ | refine tr_block ?_ | (refine tr_skip ?_; try simp only [ex_seq]))
                                    refine tr_cond rfl (fun ht => ?_) (fun hf => ?_)
                                    · repeat (first | refine tr_seq_k fun _ _ => ?_ | (refine tr_region ?_; simp only [go_sem, Nat.reduceEqDiff, Nat.reduceLT, ↓reduceIte]) | refine k_of (by assumption) ?_ | (refine tr_ret ?_; try simp only [ex_seq_ret, ex_block_ret]))
                                      refine (hQ _ _ [bA false] ?_ (fun m => ?_)).2 <;> simp only [go_sem, Nat.reduceEqDiff, ↓reduceIte, Tryz.f6,]
                                    · cases hf
                                  · cases hf
                                | true =>
                                  have hg : gGr x = true := by simp [gGr, h1, h2, h3]
                                  repeat (first | refine tr_seq_k fun _ _ => ?_ | (refine tr_region ?_; simp only [go_sem, List.getElem?_toArray, reduceCtorEq, Nat.reduceEqDiff, Nat.reduceLT, ↓reduceIte, e1]) | refine k_of (by assumption) ?_)
                                  refine tr_cond rfl (fun ht => ?_) (fun hf => ?_)
                                  · repeat (first | refine tr_seq_k fun _ _ => ?_ | (refine tr_region ?_; simp only [go_sem, List.getElem?_toArray, reduceCtorEq, Nat.reduceEqDiff, Nat.reduceLT, Nat.reduceLeDiff, ↓reduceIte, ix, h1]) | (refine call_of (lightA_does x.head) ?_ ?_; (first | rfl | simp only [go_sem, reduceCtorEq, Nat.reduceEqDiff, Nat.reduceLT, Nat.reduceLeDiff, Nat.reduceAdd, Nat.reduceMul, Nat.reduceSub, Nat.reduceBEq, ↓reduceIte, ix, h1, h2, h3, shut_col]); simp only [go_sem, List.getElem?_toArray, reduceCtorEq, Nat.reduceEqDiff, Nat.reduceLT, ↓reduceIte, ix, h2]) | (refine call_of (lightAtoms_does x.body 9 x.ex (by decide)) ?_ ?_; (first | rfl | simp only [go_sem, reduceCtorEq, Nat.reduceEqDiff, Nat.reduceLT, Nat.reduceLeDiff, Nat.reduceAdd, Nat.reduceMul, Nat.reduceSub, Nat.reduceBEq, ↓reduceIte, ix, h1, h2, h3, shut_col]); simp only [go_sem, Nat.reduceEqDiff, Nat.reduceLT, ↓reduceIte, h3]) | refine k_of (by assumption) ?_ | refine tr_block ?_ | (refine tr_skip ?_; try simp only [ex_seq]))
                                    refine tr_cond rfl (fun ht => ?_) (fun hf => ?_)
                                    · cases ht
                                    · repeat (first | (refine tr_region ?_; simp only [go_sem, Nat.reduceEqDiff, Nat.reduceLT, ↓reduceIte, ws]) | refine k_of (by assumption) ?_ | (refine tr_skip ?_; try simp only [ex_seq, ex_block]))
                                      exact hK (k + 1) _ _ ⟨hkl, hnext hg⟩ ⟨⟨rfl, rfl, trivial⟩, Keep.refl _, rfl, rfl, Nat.le_refl _, Nat.le_refl _⟩ (by omega)
                                  · cases hf
                          · have e1 : decide ((k : Int) < (p.grants.length : Nat)) = false := decide_eq_false (by omega)
                            have hA3 : p.grants.all gGr = true := all_ok fun j hj => hok j hj (by omega)
                            repeat (first | refine tr_seq_k fun _ _ => ?_ | (refine tr_region ?_; simp only [go_sem, List.getElem?_toArray, reduceCtorEq, Nat.reduceEqDiff, Nat.reduceLT, ↓reduceIte, e1]) | refine k_of (by assumption) ?_)
                            refine tr_cond rfl (fun ht => ?_) (fun hf => ?_)
                            · cases ht
                            · repeat (first | refine tr_seq_k fun _ _ => ?_ | (refine tr_region ?_; simp only [go_sem, Nat.reduceEqDiff, Nat.reduceLT, ↓reduceIte]) | refine k_of (by assumption) ?_ | (refine tr_exit ?_; try simp only [ex_seq_exit, ex_block_exit, ex_seq, ↓reduceIte]) | (refine tr_ret ?_; try simp only [ex_seq_ret, ex_block_ret]))
                              have hr : lightP p = true := by simp [lightP, hT, d2, d3, d4, d5, hA0, hA1, hA2, hA3]
                              rw [hr] at hQ
                              refine (hQ _ _ [bA true] ?_ (fun m => ?_)).2 <;> simp only [go_sem, Nat.reduceEqDiff, ↓reduceIte, Tryz.f6,]
end Go.Proofs.YtinbfakpjnnagaaGreatDoor
