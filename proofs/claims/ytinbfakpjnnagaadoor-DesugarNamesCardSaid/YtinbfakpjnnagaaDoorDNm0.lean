/-
  Part 0 of the proof's own texts: general lemmas and contracts of functions, laid one behind the other.
-/
import Derived.Test.YtinbfakpjnnagaaDoorDNTy
import Derived.Test.YtinbfakpjnnagaaDoorDNSc
import Derived.Test.YtinbfakpjnnagaaDoorDNSe
import Derived.Test.YtinbfakpjnnagaaDoorDNAo
import Derived.Test.YtinbfakpjnnagaaDoorDNSq
import Derived.Test.YtinbfakpjnnagaaDoorDNUd
import Derived.Test.YtinbfakpjnnagaaDoorDNAtm
import Derived.KernelRfl
import Derived.Test.YtinbfakpjnnagaaDoorDNBb
import Derived.Shelf.Strings.Builder1
import Derived.Shelf.Strings.Builder2
import Derived.Shelf.Strings.OnBuilder
import Derived.Shelf.Small.Bits
import Derived.Shelf.Small.Strs
import Derived.Shelf.Strconv.Itoa0
import Derived.Shelf.Strconv.Itoa1
import Derived.Shelf.LaysM
import Derived.Shelf.Strconv.Itoa2
import Derived.Shelf.Strconv.Itoa3
import Derived.Ground.SlgmProg
import Derived.Shelf.SortM.Plain
import Derived.Shelf.SortM.SortNone
import Derived.Test.YtinbfakpjnnagaaDoorProg
set_option linter.unusedSimpArgs false
set_option linter.unusedVariables false
namespace Go.Proofs.YtinbfakpjnnagaaDoor
open Go.Vs Go.Vs.Ab
set_option maxRecDepth 100000
theorem idxS {ex : Bool} {l : List ByteArray} {k : Nat} (h : k < l.length) : aIndexAddr Tryd.prog 23 (slS ex l) (.c (.v (.int .i64 (k : Int)))) = some (.cptr (stC l[k] ++ (l.drop (k + 1)).flatMap stC)) :=
  idx_R stC 1 (fun _ => rfl) Tryd.underlying23 sz9 (by decide) h
theorem wrap_in {n : Int} (h : -9223372036854775808 ≤ n ∧ n ≤ 9223372036854775807) : IntKind.i64.wrap n = n := Go.IntWalk.i64_in _ h
theorem wrap_succ {k : Nat} (h : k ≤ 1000000000) : IntKind.i64.wrap ((k : Int) + 1) = ((k + 1 : Nat) : Int) := by rw [wrap_in (by omega)]; omega
theorem bb1 : (true == false) = false := rfl
theorem bb2 : (false == true) = false := rfl
attribute [go_sem] bb1 bb2 bdC tmC atC stC List.flatMap_cons List.flatMap_nil
set_option maxRecDepth 10000
theorem count_if (a : Atm) : (if (4 : Int) < (if (0 : Int) > a.n then 0 else a.n) then (4 : Int) else (if (0 : Int) > a.n then 0 else a.n)) = (a.count : Int) := by
  unfold Atm.count
  split <;> split <;> omega
end Go.Proofs.YtinbfakpjnnagaaDoor
namespace Go.Proofs.YtinbfakpjnnagaaDoor
open Go.Vs Go.Vs.Ab
set_option maxRecDepth 100000
set_option maxRecDepth 10000
set_option maxHeartbeats 1000000
end Go.Proofs.YtinbfakpjnnagaaDoor
namespace Go.Proofs.YtinbfakpjnnagaaDoor
open Go.Vs Go.Vs.Ab
set_option maxRecDepth 100000
theorem callable {F : FuncId} {fn : Func} (h : Tryd.prog.funcs[F]? = some fn) (hb : callableB fn = true) : Callable Tryd.prog F := callable_of h hb
set_option maxRecDepth 10000
end Go.Proofs.YtinbfakpjnnagaaDoor
namespace Go.Proofs.YtinbfakpjnnagaaDoor
open Go.Vs Go.Vs.Ab
set_option maxRecDepth 100000
theorem ba_beq (a b : ByteArray) : (a == b) = decide (a = b) := by
  have h : (a == b) = (a.data == b.data) := rfl
  rw [h, Bool.eq_iff_iff, beq_iff_eq, decide_eq_true_eq]
  exact ⟨fun h => by cases a; cases b; simp at h; simp [h], fun h => by rw [h]⟩
theorem pv_under {P : Program} {t : TypeId} {d : TypeDesc} (h : P.underlying t = some d) : pureVal P (underlying t) = some d := by
  simp only [underlying, program, pureVal, bind, Sem.bind, h, pure]
theorem pv_prog {P : Program} : pureVal P program = some P := rfl
theorem held_tm : Tryd.prog.stoodInHeld 36 = false := by kernel_rfl
theorem held_at : Tryd.prog.stoodInHeld 39 = false := by kernel_rfl
theorem pv_isAgg {P : Program} {t : TypeId} {d : TypeDesc} (h : P.underlying t = some d) : pureVal P (isAgg t) = some (aggD d) := by
  unfold isAgg
  rw [pv_bind, pv_under h]
  cases d <;> rfl
theorem pv_size {P : Program} {t : TypeId} {s : Nat} (h : tsz P t = some s) : pureVal P (sizeOf t) = some s := by
  obtain ⟨i, hi, rfl⟩ := tsz_spec h
  simp only [sizeOf, typeInfo, program, pureVal, bind, Sem.bind, hi, pure]
theorem pv_part1 {P : Program} {t : TypeId} {d : TypeDesc} (h : P.underlying t = some d) (ha : aggD d = false) {cs : Array Value} {off : Nat} {v : Value} (hv : cs[off]? = some v) : pureVal P (part t cs off) = some v := by
  unfold part
  rw [pv_bind, pv_isAgg h, Option.bind_some, ha]
  simp only [Bool.false_eq_true, if_false, hv]
  rfl
theorem pv_partA {P : Program} {t : TypeId} {d : TypeDesc} {s : Nat} (h : P.underlying t = some d) (ha : aggD d = true) (hs : tsz P t = some s) {cs : Array Value} {off : Nat} : pureVal P (part t cs off) = some (.agg (cs.extract off (off + s))) := by
  unfold part
  rw [pv_bind, pv_isAgg h, Option.bind_some, ha]
  simp only [if_true]
  rw [pv_bind, pv_size hs]
  rfl
theorem pv_eq_bool {d : Nat} (a b : Bool) : pureVal Tryd.prog (Op.equalIn (d + 1) 4 (.bool a) (.bool b)) = some (a == b) := by
  unfold Op.equalIn
  rw [pv_bind, pv_under Tryd.underlying4]
  rfl
theorem pv_eq_str {d : Nat} (a b : ByteArray) : pureVal Tryd.prog (Op.equalIn (d + 1) 9 (.string a) (.string b)) = some (decide (a = b)) := by
  unfold Op.equalIn
  rw [pv_bind, pv_under Tryd.underlying9]
  show some (a == b) = _
  rw [ba_beq]
theorem pv_eq_int {d : Nat} (a b : Int) : pureVal Tryd.prog (Op.equalIn (d + 1) 3 (.int .i64 a) (.int .i64 b)) = some (decide (a = b)) := by
  unfold Op.equalIn
  rw [pv_bind, pv_under Tryd.underlying3]
  show some (a == b) = _
  by_cases h : a = b
  · subst h; simp
  · simp [h]
theorem pv_if {α : Type} {P : Program} (c : Prop) [Decidable c] (x y : Sem α) : pureVal P (if c then x else y) = if c then pureVal P x else pureVal P y := by split <;> rfl
theorem pv_eq_tm {d : Nat} (s t : Tm) : pureVal Tryd.prog (Op.equalIn (d + 2) 36 (.agg #[.bool s.v, .string s.name]) (.agg #[.bool t.v, .string t.name])) = some (decide (s = t)) := by
  unfold Op.equalIn
  rw [pv_bind, pv_under Tryd.underlying36]
  have p0 : ∀ s : Tm, pureVal Tryd.prog (part 4 #[.bool s.v, .string s.name] 0) = some (.bool s.v) := fun s => pv_part1 Tryd.underlying4 rfl rfl
  have p1 : ∀ s : Tm, pureVal Tryd.prog (part 9 #[.bool s.v, .string s.name] 1) = some (.string s.name) := fun s => pv_part1 Tryd.underlying9 rfl rfl
  obtain ⟨sv, sn⟩ := s
  obtain ⟨tv, tn⟩ := t
  have q0 := p0 ⟨sv, sn⟩
  have q1 := p0 ⟨tv, tn⟩
  have q2 := p1 ⟨sv, sn⟩
  have q3 := p1 ⟨tv, tn⟩
  simp only at q0 q1 q2 q3
  simp only [Option.bind_some, pv_bind, pv_prog, held_tm, Bool.false_eq_true, if_false, List.forIn_toArray, List.forIn_cons, List.forIn_nil, pv_pure, pv_if, ne_eq, String.reduceEq, not_false_eq_true, if_true, q0, q1, pv_eq_bool]
  by_cases h1 : sv = tv
  · by_cases h2 : sn = tn
    · subst h1 h2; simp [pv_pure, pv_bind, q2, pv_eq_str]
    · subst h1; simp [h2, pv_pure, pv_bind, pv_if, q2, q3, pv_eq_str]
  · simp [h1, pv_pure]
abbrev fourV (a b c d : Tm) : Value := .agg #[.bool a.v, .string a.name, .bool b.v, .string b.name, .bool c.v, .string c.name, .bool d.v, .string d.name]
theorem pv_eq_four {d : Nat} (a0 a1 a2 a3 b0 b1 b2 b3 : Tm) : pureVal Tryd.prog (Op.equalIn (d + 3) 37 (fourV a0 a1 a2 a3) (fourV b0 b1 b2 b3)) = some (decide (a0 = b0 ∧ a1 = b1 ∧ a2 = b2 ∧ a3 = b3)) := by
  unfold Op.equalIn
  rw [pv_bind, pv_under Tryd.underlying37]
  have p : ∀ (a0 a1 a2 a3 : Tm), (pureVal Tryd.prog (part 36 #[.bool a0.v, .string a0.name, .bool a1.v, .string a1.name, .bool a2.v, .string a2.name, .bool a3.v, .string a3.name] 0) = some (.agg #[.bool a0.v, .string a0.name])) ∧
      (pureVal Tryd.prog (part 36 #[.bool a0.v, .string a0.name, .bool a1.v, .string a1.name, .bool a2.v, .string a2.name, .bool a3.v, .string a3.name] 2) = some (.agg #[.bool a1.v, .string a1.name])) ∧
      (pureVal Tryd.prog (part 36 #[.bool a0.v, .string a0.name, .bool a1.v, .string a1.name, .bool a2.v, .string a2.name, .bool a3.v, .string a3.name] 4) = some (.agg #[.bool a2.v, .string a2.name])) ∧
      (pureVal Tryd.prog (part 36 #[.bool a0.v, .string a0.name, .bool a1.v, .string a1.name, .bool a2.v, .string a2.name, .bool a3.v, .string a3.name] 6) = some (.agg #[.bool a3.v, .string a3.name])) := fun a0 a1 a2 a3 =>
    ⟨(pv_partA Tryd.underlying36 rfl sz36).trans rfl, (pv_partA Tryd.underlying36 rfl sz36).trans rfl, (pv_partA Tryd.underlying36 rfl sz36).trans rfl, (pv_partA Tryd.underlying36 rfl sz36).trans rfl⟩
  obtain ⟨p0, p1, p2, p3⟩ := p a0 a1 a2 a3
  obtain ⟨q0, q1, q2, q3⟩ := p b0 b1 b2 b3
  have e0 := pv_eq_tm (d := d) a0 b0
  have e1 := pv_eq_tm (d := d) a1 b1
  have e2 := pv_eq_tm (d := d) a2 b2
  have e3 := pv_eq_tm (d := d) a3 b3
  have hr : List.range' 0 4 1 = [0, 1, 2, 3] := rfl
  simp only [Option.bind_some, pv_bind, pv_size sz36, fourV, Std.Legacy.Range.forIn_eq_forIn_range', Std.Legacy.Range.size, Nat.sub_zero, Nat.reduceAdd, Nat.reduceSub, Nat.div_one, hr, List.forIn_cons, List.forIn_nil, pv_pure, pv_if, Nat.zero_mul, Nat.one_mul, Nat.reduceMul, p0, q0, e0]
  rw [Bool.decide_and, Bool.decide_and, Bool.decide_and]
  generalize decide (a0 = b0) = c0 at *
  generalize decide (a1 = b1) = c1 at *
  generalize decide (a2 = b2) = c2 at *
  generalize decide (a3 = b3) = c3 at *
  cases c0 <;> cases c1 <;> cases c2 <;> cases c3 <;> simp [pv_pure, pv_bind, pv_if, p1, p2, p3, q1, q2, q3, e1, e2, e3]
theorem pv_eq_at {d : Nat} (a b : Atm) : pureVal Tryd.prog (Op.equalIn (d + 4) 39 (.agg a.cells) (.agg b.cells)) = some (decide (a = b)) := by
  have hd : decide (a = b) = (decide (a.says = b.says) && (decide (a.pred = b.pred) && (decide (a.n = b.n) && decide (a.a0 = b.a0 ∧ a.a1 = b.a1 ∧ a.a2 = b.a2 ∧ a.a3 = b.a3)))) := by
    obtain ⟨s, p, n, x0, x1, x2, x3⟩ := a
    obtain ⟨s', p', n', y0, y1, y2, y3⟩ := b
    simp only [Atm.mk.injEq, ← Bool.decide_and]
  rw [hd]
  unfold Op.equalIn
  rw [pv_bind, pv_under Tryd.underlying39]
  have p : ∀ a : Atm, pureVal Tryd.prog (part 9 a.cells 0) = some (.string a.says) ∧ pureVal Tryd.prog (part 9 a.cells 1) = some (.string a.pred) ∧ pureVal Tryd.prog (part 3 a.cells 2) = some (.int .i64 a.n) ∧ pureVal Tryd.prog (part 37 a.cells 3) = some (fourV a.a0 a.a1 a.a2 a.a3) := fun a =>
    ⟨pv_part1 Tryd.underlying9 rfl rfl, pv_part1 Tryd.underlying9 rfl rfl, pv_part1 Tryd.underlying3 rfl rfl, (pv_partA Tryd.underlying37 rfl sz37).trans rfl⟩
  obtain ⟨p0, p1, p2, p3⟩ := p a
  obtain ⟨q0, q1, q2, q3⟩ := p b
  have e0 := pv_eq_str (d := d + 2) a.says b.says
  have e1 := pv_eq_str (d := d + 2) a.pred b.pred
  have e2 := pv_eq_int (d := d + 2) a.n b.n
  have e3 := pv_eq_four (d := d) a.a0 a.a1 a.a2 a.a3 b.a0 b.a1 b.a2 b.a3
  generalize fourV a.a0 a.a1 a.a2 a.a3 = u at *
  generalize fourV b.a0 b.a1 b.a2 b.a3 = v at *
  generalize decide (a.says = b.says) = c0 at *
  generalize decide (a.pred = b.pred) = c1 at *
  generalize decide (a.n = b.n) = c2 at *
  generalize decide (a.a0 = b.a0 ∧ a.a1 = b.a1 ∧ a.a2 = b.a2 ∧ a.a3 = b.a3) = c3 at *
  clear hd p
  generalize a.cells = xs at *
  generalize b.cells = ys at *
  simp only [Option.bind_some, pv_bind, pv_prog, held_at, Bool.false_eq_true, if_false, List.forIn_toArray, List.forIn_cons, List.forIn_nil, pv_pure, pv_if, ne_eq, String.reduceEq, not_false_eq_true, if_true, p0, q0, e0]
  cases c0 <;> cases c1 <;> cases c2 <;> cases c3 <;> simp [pv_pure, pv_bind, pv_if, p1, p2, p3, q1, q2, q3, e1, e2, e3]
theorem bin_eqA (x y : Operand) (s t : Atm) : pureVal Tryd.prog (do eqGuard .eql 39 x y (.agg s.cells) (.agg t.cells); binOp .eql 39 (.agg s.cells) (.agg t.cells)) = some (.bool (decide (s = t))) := by
  have hg : Tryd.prog.eqGuardType Tryd.prog.depth 39 = false := by kernel_rfl
  have h : pureVal Tryd.prog (Op.equal 39 (.agg s.cells) (.agg t.cells)) = some (decide (s = t)) := pv_eq_at (d := 9996) s t
  generalize s.cells = xs at *
  generalize t.cells = ys at *
  have g : pureVal Tryd.prog (eqGuard .eql 39 x y (.agg xs) (.agg ys)) = some () := by
    simp [eqGuard, pv_bind, pv_prog, pv_pure, hg]
  rw [pv_bind, g, Option.bind_some]
  have e : binOp .eql 39 (.agg xs) (.agg ys) = (do pure (Value.bool (← Op.equal 39 (.agg xs) (.agg ys)))) := rfl
  rw [e, pv_bind, h]
  rfl
end Go.Proofs.YtinbfakpjnnagaaDoor
namespace Go.Proofs.YtinbfakpjnnagaaDoor
open Go.Vs Go.Vs.Ab
set_option maxRecDepth 100000
theorem bin_eqA' (x y : Operand) (s t : Atm) : pureVal Tryd.prog (do eqGuard .eql 39 x y (.agg [.string s.says, .string s.pred, .int .i64 s.n, .bool s.a0.v, .string s.a0.name, .bool s.a1.v, .string s.a1.name, .bool s.a2.v, .string s.a2.name, .bool s.a3.v, .string s.a3.name].toArray) (.agg [.string t.says, .string t.pred, .int .i64 t.n, .bool t.a0.v, .string t.a0.name, .bool t.a1.v, .string t.a1.name, .bool t.a2.v, .string t.a2.name, .bool t.a3.v, .string t.a3.name].toArray); binOp .eql 39 (.agg [.string s.says, .string s.pred, .int .i64 s.n, .bool s.a0.v, .string s.a0.name, .bool s.a1.v, .string s.a1.name, .bool s.a2.v, .string s.a2.name, .bool s.a3.v, .string s.a3.name].toArray) (.agg [.string t.says, .string t.pred, .int .i64 t.n, .bool t.a0.v, .string t.a0.name, .bool t.a1.v, .string t.a1.name, .bool t.a2.v, .string t.a2.name, .bool t.a3.v, .string t.a3.name].toArray)) = some (.bool (decide (s = t))) := bin_eqA x y s t
theorem info_s : info3 Tryd.prog 9 = some (1, 16) := by simp only [info3, sz9, by9, ze9]; rfl
/-! ### the plain law -/
end Go.Proofs.YtinbfakpjnnagaaDoor
namespace Go.Vs.Ab
open Go.RowKit
variable {P : Program}
theorem reps_no {X : Mem} {c : AV} {xs : List Value} (h : Reps X [c] xs) (hc : ∀ x, ¬ Rep X c x) : False := by
  obtain ⟨v, _, hv⟩ := reps1 h
  exact hc v hv
theorem BlkIs.keep {base : Nat} {X Y Z : Mem} {w w' : World} {β : Nat} {blk : Blk} (h1 : BlkIs X w β blk) (h2 : BlkIs Y w' β blk) (hZ : X.Le base Z) (hc : Z.cell = Y.cell) (hw : w'.heap[β]? = w.heap[β]?) : BlkIs Z w' β blk := by
  cases h2 with
  | dead h => exact .dead h
  | ent a b c d e => exact .ent a b c d (fun o => by rw [hc]; exact e o)
  | byt a b c d e f => exact .byt a b c d e (fun o => by rw [hc]; exact f o)
  | bld a b c d e =>
    cases h1 with
    | byt h => rw [a] at h; simp at h
    | dead h => rw [a] at h; simp at h
    | ent h => rw [a] at h; simp at h
    | bld a1 b1 c1 =>
      rw [a] at a1
      simp only [List.cons.injEq, AV.bld.injEq, and_true] at a1
      obtain ⟨rfl, rfl, rfl⟩ := a1
      rw [hw, b1] at b
      have e1 := Option.some.inj b
      injection e1 with e1 e2
      have e3 := congrArg (fun x : Array Value => x[1]?) e1
      simp at e3
      subst e3
      exact .bld a (by rw [hw]; exact b1) (c1.mono hZ) d (fun o => by rw [hc]; exact e o)
    | cells _ _ b3 =>
      rw [a] at b3
      exact (reps_no b3 (fun x hx => by cases hx)).elim
  | cells b1 b2 b3 b4 b5 =>
    cases h1 with
    | dead h => exact .dead h
    | ent a =>
      rw [a] at b3
      exact (reps_no b3 (fun x hx => by cases hx)).elim
    | bld a =>
      rw [a] at b3
      exact (reps_no b3 (fun x hx => by cases hx)).elim
    | byt a =>
      rw [a] at b3
      exact (reps_no b3 (fun x hx => by cases hx)).elim
    | cells a1 a2 a3 =>
      rw [hw, a1] at b1
      have e1 := Option.some.inj b1
      injection e1 with e1 e2
      subst e1
      exact .cells (by rw [hw]; exact a1) a2 (a3.mono hZ) (fun hf o x ho => by rw [hc]; exact b4 hf o x ho) (fun hf o => by rw [hc]; exact b5 hf o)
theorem Does.drop {F : FuncId} {args : List AV} {f : Mm → AV × Mm} {d : AV} (h : Does P F args f) (hw : ∀ m, ∃ ew, (f m).2 = { m with hw := m.hw ++ ew })
    (hd : ∀ (m : Mm) (X Y : Mem) (v : Value), Y.cell = X.cell → Rep X (f m).1 v → Rep Y d v) : Does P F args (fun m => (d, m)) := by
  refine ⟨h.1, fun X W0 m w vs M hargs => (h.2 X W0 m w vs M hargs).mono ?_⟩
  rintro e w' ⟨v, X', rfl, k1, k2, k3, k4⟩
  obtain ⟨ew, he⟩ := hw m
  rw [he] at k3
  have hL : ∀ b β, (X'.cut m.hp.length m.hw.length).loc b = some β → b < m.hp.length ∧ X'.loc b = some β := fun b β h => by
    simp only [Mem.cut] at h
    split at h
    · rename_i e; exact ⟨e, h⟩
    · cases h
  have hO : ∀ b β, (X'.cut m.hp.length m.hw.length).own b = some β → b < m.hw.length ∧ X'.own b = some β := fun b β h => by
    simp only [Mem.cut] at h
    split at h
    · rename_i e; exact ⟨e, h⟩
    · cases h
  have hLe : X.Le W0.heap.size (X'.cut m.hp.length m.hw.length) := ⟨k1.cell, k1.old, fun i β hi => by
      simp only [Mem.cut]
      rw [if_pos (M.ldom i β hi)]
      exact k1.loc i β hi, fun k T hk => by
      simp only [Mem.cut]
      rw [if_pos (M.odom k T hk)]
      exact k1.own k T hk, k1.room⟩
  refine ⟨v, X'.cut m.hp.length m.hw.length, rfl, hLe, hd m X' _ v rfl k2, ?_, k4⟩
  refine ⟨k3.below, k3.cell, fun i β h => (hL i β h).1, fun i blk h => ?_, fun i k β bi bj g1 g2 q1 q2 => M.inj i k β bi bj ?_ ?_ q1 q2, fun k T h => (hO k T h).1, fun k n h => ?_, fun i k S T g1 g2 he => k3.oinj i k S T (hO i S g1).2 (hO k T g2).2 he, k3.gl, k3.rm⟩
  · obtain ⟨β, g1, g2, g3, hB⟩ := M.locs i blk h
    obtain ⟨β', e1, e2, e3, hB'⟩ := k3.locs i blk h
    have : β' = β := by
      have := k1.loc i β g1
      rw [e1] at this
      exact Option.some.inj this
    subst this
    have hi := (List.getElem?_eq_some_iff.1 h).1
    exact ⟨β', by simp only [Mem.cut]; rw [if_pos hi]; exact e1, g2, e3, hB.keep hB' hLe rfl (k4 i β' g1)⟩
  · obtain ⟨β0, g3, _⟩ := M.locs i bi q1
    have := k1.loc i β0 g3
    rw [(hL i β g1).2] at this
    rw [Option.some.inj this]
    exact g3
  · obtain ⟨β0, g3, _⟩ := M.locs k bj q2
    have := k1.loc k β0 g3
    rw [(hL k β g2).2] at this
    rw [Option.some.inj this]
    exact g3
  · have hk := (List.getElem?_eq_some_iff.1 h).1
    obtain ⟨T, g1, g2, g3, g4, g5, g6, g7, g8, g9⟩ := k3.toks k n (by
      show (m.hw ++ ew)[k]? = some n
      rw [List.getElem?_append_left hk]; exact h)
    exact ⟨T, by simp only [Mem.cut]; rw [if_pos hk]; exact g1, g2, g3, g4, g5, g6, g7, g8, fun i hi => g9 i (hL i _ hi).2⟩
theorem Does.shut {F : FuncId} {args : List AV} {T : Type} {enc : T → List CV} {e : TypeId} {size : Nat} {l : List T} (h : Does P F args (freshA enc e size l)) : Does P F args (fun m => (slR enc l.isEmpty l, m)) :=
  h.drop (fun m => ⟨_, rfl⟩) fun m X Y v hY hr => shut_rep hY (shut_col enc _ l) hr
/-! ### parts of a slice, and what is appended to them -/
theorem natI_nat (i : Nat) : natI (i : Int) = some i := by
  rfl
theorem app_more {T : Type} (enc : T → List CV) {t e : TypeId} {size bytes : Nat} (hk : ∀ x, (enc x).length = size) (ht : P.underlying t = some (.slice e)) (hi : info3 P e = some (size, bytes)) {hp : List Blk} {l r : List T} {ex : Bool} (hne : l ≠ [])
    (hl : l.length + r.length ≤ maxLen) (hb : (l.length + r.length) * bytes ≤ 140737488355328) :
    aAppend P ⟨hp, colH e size l⟩ t (colA enc 0 l) (slR enc ex r) = some (colA enc 0 (l ++ r), ⟨hp, colH e size (l ++ r)⟩) := by
  have hf : fits l.length r.length size bytes (l.flatMap enc).length (r.flatMap enc).length = true := by
    have h1 : Nat.ble (l.length + r.length) maxLen = true := by simpa using hl
    have h2 : Nat.ble ((l.length + r.length) * bytes) 140737488355328 = true := by simpa using hb
    simp only [fits, flat_length enc size hk, h1, h2, Nat.beq_refl, Bool.and_self]
  have hne2 : l ++ r ≠ [] := by simp [hne]
  rw [colA_ne enc 0 hne, colH_ne e size hne, colA_ne enc 0 hne2, colH_ne e size hne2]
  have hv : slV (slR enc ex r) = some (r.length, r.flatMap enc) := rfl
  have hd : dst (.own 0 l.length (l.flatMap enc)) = .own 0 l.length (l.flatMap enc) := rfl
  have h5 : ([(⟨l.length, e, size⟩ : Hw)])[0]? = some ⟨l.length, e, size⟩ := rfl
  simp only [aAppend, ht, hi, hv, hd, h5, hf, Nat.beq_refl, Bool.and_self, if_true]
  by_cases h0 : r = []
  · subst h0
    simp
  · have : Nat.beq r.length 0 = false := by
      rw [Bool.eq_false_iff]
      exact fun h => h0 (List.eq_nil_of_length_eq_zero (Nat.eq_of_beq_eq_true h))
    rw [this]
    simp
end Go.Vs.Ab
namespace Go.Proofs.YtinbfakpjnnagaaDoor
open Go.Vs Go.Vs.Ab
set_option maxRecDepth 100000
theorem one_max : (1 ≤ maxLen) = True := eq_true (by decide)
set_option maxRecDepth 10000
/-! ### put -/
set_option maxHeartbeats 2000000
end Go.Proofs.YtinbfakpjnnagaaDoor
namespace Go.Proofs.YtinbfakpjnnagaaDoor
open Go.RowKit Go.Vs Go.Vs.Ab
set_option maxRecDepth 100000
end Go.Proofs.YtinbfakpjnnagaaDoor
namespace Go.Proofs.YtinbfakpjnnagaaDoor
open Go.Vs Go.Vs.Ab
set_option maxRecDepth 100000
set_option maxRecDepth 10000
set_option maxHeartbeats 2000000
end Go.Proofs.YtinbfakpjnnagaaDoor
namespace Go.Proofs.YtinbfakpjnnagaaDoor
open Go.Vs Go.Vs.Ab
set_option maxRecDepth 100000
def pbE (l : List Bd) (v : ByteArray) (t : Tm) : Int := if pcheck l = false then 15 else if v = ⟨#[]⟩ ∨ t.name = ⟨#[]⟩ then 2 else if (pget l v).isSome = true then 5 else if pown ⟨v, pterm l t⟩ = true then 2 else 0
def pbL (l : List Bd) (v : ByteArray) (t : Tm) : List Bd := if pbE l v t = 0 then pwith (punder l [⟨v, pterm l t⟩]) ⟨v, pterm l t⟩ else []
set_option maxRecDepth 10000
set_option maxHeartbeats 2000000
end Go.Proofs.YtinbfakpjnnagaaDoor
namespace Go.Proofs.YtinbfakpjnnagaaDoor
open Go.Vs Go.Vs.Ab
set_option maxRecDepth 100000
set_option maxRecDepth 10000
set_option maxHeartbeats 2000000
end Go.Proofs.YtinbfakpjnnagaaDoor
namespace Go.Proofs.YtinbfakpjnnagaaDoor
open Go.Vs Go.Vs.Ab
set_option maxRecDepth 100000
set_option maxRecDepth 10000
set_option maxHeartbeats 2000000
end Go.Proofs.YtinbfakpjnnagaaDoor
namespace Go.Proofs.YtinbfakpjnnagaaDoor
open Go.Vs Go.Vs.Ab
set_option maxRecDepth 100000
end Go.Proofs.YtinbfakpjnnagaaDoor
namespace Go.Proofs.YtinbfakpjnnagaaDoor
open Go.Vs Go.Vs.Ab
set_option maxRecDepth 100000
set_option maxRecDepth 10000
set_option maxHeartbeats 2000000
end Go.Proofs.YtinbfakpjnnagaaDoor
namespace Go.Proofs.YtinbfakpjnnagaaDoor
open Go.Vs Go.Vs.Ab
set_option maxRecDepth 100000
end Go.Proofs.YtinbfakpjnnagaaDoor
namespace Go.Vs
def lowerB (c : UInt8) : Bool := decide (97 ≤ c.toNat) && decide (c.toNat ≤ 122)
def upperB (c : UInt8) : Bool := decide (65 ≤ c.toNat) && decide (c.toNat ≤ 90)
def digB (c : UInt8) : Bool := decide (48 ≤ c.toNat) && decide (c.toNat ≤ 57)
def underB (c : UInt8) : Bool := decide (c.toNat = 95)
abbrev lts (s : ByteArray) : List UInt8 := s.data.toList
def reservedL : List ByteArray := [⟨#[115, 97, 121, 115]⟩, ⟨#[105, 102]⟩, ⟨#[99, 97, 110, 115, 97, 121]⟩, ⟨#[112, 114, 105, 110, 99, 105, 112, 97, 108]⟩, ⟨#[112, 114, 101, 100]⟩, ⟨#[99, 108, 101, 97, 114]⟩, ⟨#[113, 117, 111, 116, 97]⟩, ⟨#[98, 117, 100, 103, 101, 116]⟩]
def preserved (s : ByteArray) : Bool := reservedL.any fun w => decide (w = s)
def constB (c : UInt8) : Bool := lowerB c || digB c || underB c
def varB (c : UInt8) : Bool := lowerB c || upperB c || digB c || underB c
def headL (p : UInt8 → Bool) : List UInt8 → Bool
  | [] => false
  | c :: _ => p c
def headB (p : UInt8 → Bool) (s : ByteArray) : Bool := headL p (lts s)
def pconst0 (s : ByteArray) : Bool := decide (s.size ≤ 255) && headB (fun c => !underB c) s && (lts s).all constB
def pconstant (s : ByteArray) : Bool := pconst0 s && !preserved s
def pprincipal (s : ByteArray) : Bool := pconstant s && headB lowerB s
def pvariable (s : ByteArray) : Bool := decide (s.size ≤ 255) && headB upperB s && (lts s).all varB
def ptermok (t : Tm) : Bool := if t.v then pvariable t.name else pconstant t.name
def Atm.restB (a : Atm) : Bool := (List.range 4).all fun k => decide ((k : Int) < a.n) || decide (a.arg k = ⟨false, ⟨#[]⟩⟩)
def Atm.termsB (a : Atm) : Bool := (List.range 4).all fun k => !decide ((k : Int) < a.n) || ptermok (a.arg k)
def pcheck3 (a : Atm) : Int :=
  if (pprincipal a.says && pprincipal a.pred) = false then 3
  else if a.n < 0 ∨ 4 < a.n then 4
  else if a.termsB = false then 3
  else if a.restB = false then 15
  else 0
end Go.Vs
namespace Go.Proofs.YtinbfakpjnnagaaDoor
open Go.Vs Go.Vs.Ab
set_option maxRecDepth 100000
theorem int_beq (a b : Int) : (a == b) = decide (a = b) := by
  rw [Bool.eq_iff_iff, beq_iff_eq, decide_eq_true_eq]
theorem int_bne (a b : Int) : (a != b) = !decide (a = b) := by
  unfold bne
  rw [int_beq]
attribute [go_sem] int_beq int_bne
set_option maxRecDepth 10000
end Go.Proofs.YtinbfakpjnnagaaDoor
namespace Go.Proofs.YtinbfakpjnnagaaDoor
open Go.Vs Go.Vs.Ab
set_option maxRecDepth 100000
set_option maxRecDepth 10000
end Go.Proofs.YtinbfakpjnnagaaDoor
namespace Go.Proofs.YtinbfakpjnnagaaDoor
open Go.Vs Go.Vs.Ab
set_option maxRecDepth 100000
theorem arrT {b off k : Nat} (h : k < 4) : aIndexAddr Tryd.prog 37 (.ptr b off) (.c (.v (.int .i64 (k : Int)))) = some (.ptr b (off + k * 2)) := by
  have h1 : Nat.blt k 4 = true := by simpa using h
  have hn : ¬ ((k : Int) < 0) := by omega
  simp only [aIndexAddr, intV, Tryd.underlying37, sz36, Int.toNat_natCast, h1, if_true, hn, decide_false, Bool.false_eq_true, if_false]
set_option maxRecDepth 10000
end Go.Proofs.YtinbfakpjnnagaaDoor
set_option linter.unusedSectionVars false
namespace Go.Proofs.YtinbfakpjnnagaaDoor
open Go.Vs Go.Vs.Ab
set_option maxRecDepth 100000
def gL (V : List ByteArray) (f : Nat → ByteArray) : Nat → List Bd
  | 0 => []
  | k + 1 => pbL (gL V f k) ((V[k]?).getD ⟨#[]⟩) ⟨false, f k⟩
structure GInv (V : List ByteArray) (f : Nat → ByteArray) (k : Nat) : Prop where
  check : pcheck (gL V f k) = true
  len : (gL V f k).length = k
  get : ∀ j (h : j < V.length), j < k → pget (gL V f k) V[j] = some ⟨false, f j⟩
  none : ∀ n, n ∉ V.take k → pget (gL V f k) n = none
theorem pseen_iff (a : Atm) (i : Nat) : ∀ {j : Nat}, j ≤ 4 → (pseen a i j = true ↔ ∃ m, m < j ∧ a.arg m = a.arg i)
  | 0, _ => by simp [pseen]
  | j + 1, h => by
    rw [pseen_next a i (by omega), Bool.or_eq_true, pseen_iff a i (by omega), decide_eq_true_eq]
    constructor
    · rintro (⟨m, h1, h2⟩ | h1)
      · exact ⟨m, by omega, h2⟩
      · exact ⟨j, by omega, h1⟩
    · rintro ⟨m, h1, h2⟩
      by_cases e : m = j
      · subst e; exact Or.inr h2
      · exact Or.inl ⟨m, by omega, h2⟩
section
variable {a : Atm} {f : Nat → ByteArray} (h : pcheck3 a = 0) (G : GInv (pnames a true) f (pnames a true).length) (hf : ∀ k, k < (pnames a true).length → pconstant (f k) = true)
include h G hf
end
end Go.Proofs.YtinbfakpjnnagaaDoor
namespace Go.Proofs.YtinbfakpjnnagaaDoor
open Go.Vs Go.Vs.Ab
set_option maxRecDepth 100000
set_option maxRecDepth 10000
end Go.Proofs.YtinbfakpjnnagaaDoor
namespace Go.Vs.Ab
open Go.RowKit
variable {P : Program}
theorem app_any {T : Type} (enc : T → List CV) {t e : TypeId} {size bytes : Nat} (hk : ∀ x, (enc x).length = size) (ht : P.underlying t = some (.slice e)) (hi : info3 P e = some (size, bytes)) {hp : List Blk} {l r : List T} {ex : Bool}
    (hl : l.length + r.length ≤ maxLen) (hb : (l.length + r.length) * bytes ≤ 140737488355328) :
    aAppend P ⟨hp, colH e size l⟩ t (colA enc 0 l) (slR enc ex r) = some (colA enc 0 (l ++ r), ⟨hp, colH e size (l ++ r)⟩) := by
  by_cases hne : l = []
  · subst hne
    have hf : fits 0 r.length size bytes 0 (r.flatMap enc).length = true := by
      have h1 : Nat.ble (0 + r.length) maxLen = true := by simpa using hl
      have h2 : Nat.ble ((0 + r.length) * bytes) 140737488355328 = true := by simpa using hb
      simp only [fits, flat_length enc size hk, h1, h2, Nat.beq_refl, Bool.and_self, Nat.zero_mul]
    have hv : slV (slR enc ex r) = some (r.length, r.flatMap enc) := rfl
    have hd : dst (colA enc 0 ([] : List T)) = .exact 0 [] := rfl
    have hn : Nat.beq 0 0 = true := rfl
    rw [List.nil_append]
    show aAppend P ⟨hp, []⟩ t (colA enc 0 []) (slR enc ex r) = _
    simp only [aAppend, ht, hi, hv, hd, List.length_nil, hf, if_true]
    by_cases h0 : r = []
    · subst h0
      rfl
    · have : Nat.beq r.length 0 = false := by
        rw [Bool.eq_false_iff]
        exact fun h => h0 (List.eq_nil_of_length_eq_zero (Nat.eq_of_beq_eq_true h))
      rw [this, colA_ne enc 0 h0, colH_ne e size h0]
      simp
  · exact app_more enc hk ht hi hne hl hb
/-! ### is a slice nil? -/
theorem bin_nil {t e : TypeId} (ht : P.underlying t = some (.slice e)) (a : Option Addr) (n cap : Nat) : pureVal P (binOp .eql t (.slice a n cap) (.slice none 0 0)) = some (.bool a.isNone) := by
  have e1 : binOp .eql t (.slice a n cap) (.slice none 0 0) = (do pure (Value.bool (← Op.equal t (.slice a n cap) (.slice none 0 0)))) := rfl
  rw [e1, pv_bind]
  have h' : pureVal P (Op.equal t (.slice a n cap) (.slice none 0 0)) = some a.isNone := by
    show pureVal P (Op.equalIn (9999 + 1) t (.slice a n cap) (.slice none 0 0)) = some a.isNone
    unfold Op.equalIn
    rw [pv_bind]
    have hu : pureVal P (underlying t) = some (.slice e) := by
      simp only [underlying, program, pureVal, bind, Sem.bind, ht, pure]
    rw [hu]
    cases a <;> rfl
  rw [h']
  rfl
theorem tr_nil2 {R : MRel} [hR : RelOk R] {nt id s d1 n : Nat} {fr : Fr} {m : Mm} {Q : Ex → Fr → Mm → Prop} {o1 : Oper} {l : List Oper} {ex : Bool} {cs : List CV} (ho1 : o1.op = .move (.tmp s)) (hd1 : o1.dst = some d1) (hg1 : o1.guard = none) (hnt : Nat.blt d1 nt = true)
    (hf : find fr s = some (.c (.sl ex n cs))) (h : ∀ a cap, (a = none → n = 0 ∧ cap = 0) → SeqW P nt (o1 :: l).toArray l ((d1, .c (.v (.slice a n cap))) :: fr) m (Q .nrm)) : Tr R P nt (.region id (o1 :: l).toArray false) fr m Q := fun X W0 w ac F M => by
  obtain ⟨x, hx, hr⟩ := F.slot s _ hf
  cases hr with
  | c hr =>
    cases hr with
    | sl hl hh hn hc he hax =>
      rename_i xs a cap
      have key := h a cap (fun e => by
        have := hc.2 e
        omega)
      refine wp_region ?_
      rw [show List.range (o1 :: l).toArray.size = 0 :: List.range' 1 l.length from by
        rw [List.size_toArray, List.length_cons, List.range_eq_range', List.range'_succ]]
      rw [wpOps_cons]
      unfold wpOp
      simp only [List.getElem?_toArray, List.getElem?_cons_zero]
      rw [if_pos (aWanted_ok F (show aWanted (o1 :: l).toArray fr o1 = some true by unfold aWanted; rw [hg1]))]
      refine Or.inl ?_
      have hv : ac.eval (.tmp s) = .slice a n cap := by
        show ac.tmps.getD s undef = _
        rw [Array.getD_eq_getD_getElem?, hx]
        rfl
      have g2 : (execOp ac.eval o1).run P w = .ok (.value (.slice a n cap)) w := by
        obtain ⟨dst, op, type, pos, after, guard⟩ := o1
        simp only at ho1
        subst ho1
        show (Sem.pure (Next.value (ac.eval (.tmp s)))).run P w = _
        rw [hv]
        rfl
      unfold Oper.wp
      rw [g2]
      have F1 : FR X nt ((d1, .c (.v (.slice a n cap))) :: fr) (ac.put (some d1) (.slice a n cap)) := F.put (by simpa using hnt) (.c (.v rfl))
      show wpOps P (o1 :: l).toArray _ (List.range' 1 l.length) (ac.put o1.dst (.slice a n cap)) w
      rw [hd1]
      refine seqW_wp l 1 (fun j => by simp [Nat.add_comm 1 j]) F1 M key ?_
      exact fun fr' m' a' w' X' k0 k1 k2 k3 => ⟨.nrm, fr', m', X', rfl, k0, hR.of k1, k2, k3⟩
end Go.Vs.Ab
namespace Go.Proofs.YtinbfakpjnnagaaDoor
open Go.Vs Go.Vs.Ab
set_option maxRecDepth 100000
set_option maxRecDepth 10000
theorem zero_max : (0 ≤ maxLen) = True := eq_true (Nat.zero_le _)
theorem take_next_eq {T : Type} {a b : List T} {k : Nat} (ha : k < a.length) (hb : k < b.length) (h : a.take k = b.take k) (e : a[k] = b[k]) : a.take (k + 1) = b.take (k + 1) := by
  rw [List.take_succ_eq_append_getElem ha, List.take_succ_eq_append_getElem hb, h, e]
theorem sameS_does (a b : List ByteArray) (ex ex2 : Bool) (hl : a.length ≤ 1000000) : Does Tryd.prog 12 [slS ex a, slS ex2 b] (fun m => (bA (decide (a = b)), m)) := by
  cases h1 : decide ((a.length : Int) = (b.length : Int)) with
  | false =>
    have hr : decide (a = b) = false := decide_eq_false fun e => of_decide_eq_false h1 (by rw [e])
    refine does_of' Tryd.func12 rfl (by kernel_rfl) rfl Tryd.ntmps12 rfl rfl fun Q hQ => ?_
    repeat (first | refine tr_seq_k fun _ _ => ?_ | (refine tr_region ?_; simp only [go_sem, List.getElem?_toArray, reduceCtorEq, Nat.reduceEqDiff, Nat.reduceLT, ↓reduceIte, h1]) | refine k_of (by assumption) ?_)
    refine tr_cond rfl (fun ht => ?_) (fun hf => ?_)
    · repeat (first | refine tr_seq_k fun _ _ => ?_ | (refine tr_region ?_; simp only [go_sem, reduceCtorEq, Nat.reduceEqDiff, Nat.reduceLT, ↓reduceIte]) | refine k_of (by assumption) ?_ | (refine tr_ret ?_; try simp only [ex_seq_ret]))
      refine (hQ _ _ [bA false] ?_ (fun m => ?_)).2 <;> simp only [go_sem, reduceCtorEq, Nat.reduceEqDiff, ↓reduceIte, Tryd.f12, hr]
    · cases hf
  | true =>
    have hlen : a.length = b.length := by
      have := of_decide_eq_true h1
      omega
    refine does_of' Tryd.func12 rfl (by kernel_rfl) rfl Tryd.ntmps12 rfl rfl fun Q hQ => ?_
    repeat (first | refine tr_seq_k fun _ _ => ?_ | (refine tr_region ?_; simp only [go_sem, List.getElem?_toArray, reduceCtorEq, Nat.reduceEqDiff, Nat.reduceLT, ↓reduceIte, h1]) | refine k_of (by assumption) ?_)
    refine tr_cond rfl (fun ht => ?_) (fun hf => ?_)
    · cases ht
    · repeat (first | refine tr_seq_k fun _ _ => ?_ | (refine tr_region ?_; simp only [go_sem, reduceCtorEq, Nat.reduceEqDiff, Nat.reduceLT, ↓reduceIte]) | refine k_of (by assumption) ?_ | refine tr_block ?_ | (refine tr_skip ?_; try simp only [ex_seq]))
      refine tr_loop_k (σ := Nat) (fun k => [(0, slS ex a), (1, slS ex2 b), (5, iA k)]) (fun _ => ⟨[], []⟩)
        (fun k => k ≤ a.length ∧ a.take k = b.take k) (fun k => a.length - k) 0 ⟨Nat.zero_le _, rfl⟩ ⟨rfl, rfl, rfl, trivial⟩ rfl ?_
      rintro k ⟨hk, hp⟩ K hK
      repeat (first | refine tr_seq_k fun _ _ => ?_ | (refine tr_region ?_; simp only [go_sem, List.getElem?_toArray, reduceCtorEq, Nat.reduceEqDiff, Nat.reduceLT, ↓reduceIte]) | refine k_of (by assumption) ?_)
      refine tr_cond rfl (fun ht => ?_) (fun hf => ?_)
      · have hlt : k < a.length := by simpa using ht
        have hlb : k < b.length := by omega
        have ws := wrap_succ (show k ≤ 1000000000 by omega)
        cases h2 : decide (a[k] = b[k]) with
        | false =>
          have hr : decide (a = b) = false := decide_eq_false fun e => of_decide_eq_false h2 (by subst e; rfl)
          repeat (first | refine tr_seq_k fun _ _ => ?_ | (refine tr_drawC (id := 6) follows 10000 (by kernel_rfl) ?_; simp only [go_sem, str_beq, reduceCtorEq, Nat.reduceEqDiff, Nat.reduceLT, ↓reduceIte, idxS hlt, idxS hlb, h2]) | refine k_of (by assumption) ?_ | refine tr_block ?_ | (refine tr_skip ?_; try simp only [ex_seq]))
          refine tr_cond rfl (fun ht => ?_) (fun hf => ?_)
          · repeat (first | refine tr_seq_k fun _ _ => ?_ | (refine tr_region ?_; simp only [go_sem, reduceCtorEq, Nat.reduceEqDiff, Nat.reduceLT, ↓reduceIte]) | refine k_of (by assumption) ?_ | (refine tr_ret ?_; try simp only [ex_seq_ret, ex_block_ret]))
            refine (hQ _ _ [bA false] ?_ (fun m => ?_)).2 <;> simp only [go_sem, reduceCtorEq, Nat.reduceEqDiff, ↓reduceIte, Tryd.f12, hr]
          · cases hf
        | true =>
          repeat (first | refine tr_seq_k fun _ _ => ?_ | (refine tr_drawC (id := 6) follows 10000 (by kernel_rfl) ?_; simp only [go_sem, str_beq, reduceCtorEq, Nat.reduceEqDiff, Nat.reduceLT, ↓reduceIte, idxS hlt, idxS hlb, h2]) | refine k_of (by assumption) ?_ | refine tr_block ?_ | (refine tr_skip ?_; try simp only [ex_seq]))
          refine tr_cond rfl (fun ht => ?_) (fun hf => ?_)
          · cases ht
          · repeat (first | (refine tr_region ?_; simp only [go_sem, reduceCtorEq, Nat.reduceEqDiff, Nat.reduceLT, ↓reduceIte, ws]) | refine k_of (by assumption) ?_ | (refine tr_skip ?_; try simp only [ex_seq, ex_block]))
            exact hK (k + 1) _ _ ⟨hlt, take_next_eq hlt hlb hp (of_decide_eq_true h2)⟩ ⟨⟨rfl, rfl, rfl, trivial⟩, Keep.refl _, rfl, rfl, Nat.le_refl _, Nat.le_refl _⟩ (by omega)
      · have hkl : k = a.length := by
          have := of_decide_eq_false hf
          omega
        have hr : decide (a = b) = true := by
          rw [hkl, List.take_length, hlen, List.take_length] at hp
          exact decide_eq_true hp
        repeat (first | refine tr_seq_k fun _ _ => ?_ | (refine tr_region ?_; simp only [go_sem, reduceCtorEq, Nat.reduceEqDiff, Nat.reduceLT, ↓reduceIte]) | refine k_of (by assumption) ?_ | (refine tr_exit ?_; try simp only [ex_seq_exit, ex_block_exit, ex_seq, ↓reduceIte]) | (refine tr_ret ?_; try simp only [ex_seq_ret, ex_block_ret]))
        refine (hQ _ _ [bA true] ?_ (fun m => ?_)).2 <;> simp only [go_sem, reduceCtorEq, Nat.reduceEqDiff, ↓reduceIte, Tryd.f12, hr]
end Go.Proofs.YtinbfakpjnnagaaDoor
namespace Go.Proofs.YtinbfakpjnnagaaDoor
open Go.Vs Go.Vs.Ab
set_option maxRecDepth 100000
end Go.Proofs.YtinbfakpjnnagaaDoor
namespace Go.Proofs.YtinbfakpjnnagaaDoor
open Go.Vs Go.Vs.Ab
set_option maxRecDepth 100000
/-! ### under -/
/-! ### what is matched -/
/-! ### one atom, then another -/
/-! ### of a list -/
end Go.Proofs.YtinbfakpjnnagaaDoor
namespace Go.Proofs.YtinbfakpjnnagaaDoor
open Go.Vs Go.Vs.Ab
set_option maxRecDepth 100000
abbrev slM (ex : Bool) (l : List Tm) : AV := slR tmC ex l
theorem idxM {ex : Bool} {l : List Tm} {k : Nat} (h : k < l.length) : aIndexAddr Tryd.prog 84 (slM ex l) (.c (.v (.int .i64 (k : Int)))) = some (.cptr (tmC l[k] ++ (l.drop (k + 1)).flatMap tmC)) :=
  idx_R tmC 2 (fun _ => rfl) Tryd.underlying84 sz36 (by decide) h
set_option maxRecDepth 10000
theorem arrB {n : Nat} (h : n ≤ 4) : bnds 4 none (some (n : Int)) none = some (0, n, none) := by
  unfold bnds
  simp [natI_nat, h]
theorem arrL {n : Nat} (h : n ≤ 4) : (n * 2 ≤ 8) = True := eq_true (by omega)
theorem four_max : (4 ≤ maxLen) = True := eq_true (by decide)
theorem arrC (p : Atm) {n : Nat} (h : n ≤ 4) : List.take (n * 2) ([.v (.bool p.a0.v), .v (.string p.a0.name), .v (.bool p.a1.v), .v (.string p.a1.name), .v (.bool p.a2.v), .v (.string p.a2.name), .v (.bool p.a3.v), .v (.string p.a3.name)] : List CV) = (p.args.take n).flatMap tmC := by
  obtain rfl | rfl | rfl | rfl | rfl : n = 0 ∨ n = 1 ∨ n = 2 ∨ n = 3 ∨ n = 4 := by omega
  all_goals rfl
theorem arrF (p : Atm) {n : Nat} (h : n ≤ 4) (b : Bool) : AV.c (.sl b n ((p.args.take n).flatMap tmC)) = slM b (p.args.take n) := by
  have e : (p.args.take n).length = n := by rw [List.length_take, Nat.min_eq_left (by show n ≤ 4; exact h)]
  show _ = AV.c (.sl b (p.args.take n).length ((p.args.take n).flatMap tmC))
  rw [e]
theorem args_does (a : Atm) : Does Tryd.prog 35 [atA a] (fun m => (slM (Nat.beq 4 a.count) (a.args.take a.count), m)) := by
  have h := a.count_le
  refine does_of' Tryd.func35 rfl (by kernel_rfl) rfl Tryd.ntmps35 rfl rfl fun Q hQ => ?_
  repeat (first | refine tr_seq_k fun _ _ => ?_ | (refine tr_region ?_; simp only [go_sem, List.getElem?_toArray, reduceCtorEq, Nat.reduceEqDiff, Nat.reduceLT, Nat.reduceAdd, ↓reduceIte, count_if, arrB h, arrL h, four_max, arrC a h, arrF a h, Option.getD_none, Nat.sub_zero]) | refine k_of (by assumption) ?_ | (refine tr_ret ?_; try simp only [ex_seq_ret, ex_block_ret]))
  refine (hQ _ _ [slM (Nat.beq 4 a.count) (a.args.take a.count)] ?_ (fun m => rfl)).2 <;> simp only [go_sem, reduceCtorEq, Nat.reduceEqDiff, ↓reduceIte, Tryd.f35]
/-! ### a copy; where a term stands -/
end Go.Proofs.YtinbfakpjnnagaaDoor
namespace Go.Proofs.YtinbfakpjnnagaaDoor
open Go.Vs Go.Vs.Ab
set_option maxRecDepth 100000
set_option maxRecDepth 100000
set_option maxHeartbeats 2000000
end Go.Proofs.YtinbfakpjnnagaaDoor
namespace Go.Proofs.YtinbfakpjnnagaaDoor
open Go.Vs Go.Vs.Ab
set_option maxRecDepth 100000
def Atm.setArg (a : Atm) (k : Nat) (t : Tm) : Atm := match k with
  | 0 => { a with a0 := t }
  | 1 => { a with a1 := t }
  | 2 => { a with a2 := t }
  | _ => { a with a3 := t }
theorem atSet (b : Atm) {k : Nat} (h : k < 4) (t : Tm) : List.take (3 + k * 2) ([.c (.v (.string b.says)), .c (.v (.string b.pred)), .c (.v (.int .i64 b.n)), .c (.v (.bool b.a0.v)), .c (.v (.string b.a0.name)), .c (.v (.bool b.a1.v)), .c (.v (.string b.a1.name)), .c (.v (.bool b.a2.v)), .c (.v (.string b.a2.name)), .c (.v (.bool b.a3.v)), .c (.v (.string b.a3.name))] : List AV) ++ ([.c (.v (.bool t.v)), .c (.v (.string t.name))] : List AV) ++ List.drop (3 + k * 2) ([.c (.v (.int .i64 b.n)), .c (.v (.bool b.a0.v)), .c (.v (.string b.a0.name)), .c (.v (.bool b.a1.v)), .c (.v (.string b.a1.name)), .c (.v (.bool b.a2.v)), .c (.v (.string b.a2.name)), .c (.v (.bool b.a3.v)), .c (.v (.string b.a3.name))] : List AV) = ([.c (.v (.string (Atm.setArg b k t).says)), .c (.v (.string (Atm.setArg b k t).pred)), .c (.v (.int .i64 (Atm.setArg b k t).n)), .c (.v (.bool (Atm.setArg b k t).a0.v)), .c (.v (.string (Atm.setArg b k t).a0.name)), .c (.v (.bool (Atm.setArg b k t).a1.v)), .c (.v (.string (Atm.setArg b k t).a1.name)), .c (.v (.bool (Atm.setArg b k t).a2.v)), .c (.v (.string (Atm.setArg b k t).a2.name)), .c (.v (.bool (Atm.setArg b k t).a3.v)), .c (.v (.string (Atm.setArg b k t).a3.name))] : List AV) := by
  obtain rfl | rfl | rfl | rfl : k = 0 ∨ k = 1 ∨ k = 2 ∨ k = 3 := by omega
  all_goals rfl
def zAt : Atm := ⟨⟨#[]⟩, ⟨#[]⟩, 0, ⟨false, ⟨#[]⟩⟩, ⟨false, ⟨#[]⟩⟩, ⟨false, ⟨#[]⟩⟩, ⟨false, ⟨#[]⟩⟩⟩
set_option maxRecDepth 10000
set_option maxHeartbeats 1000000
/-! ### lists of atoms -/
theorem info_a : info3 Tryd.prog 39 = some (11, 136) := by simp only [info3, sz39, by39, ze39]; rfl
theorem idxA {ex : Bool} {l : List Atm} {k : Nat} (h : k < l.length) : aIndexAddr Tryd.prog 33 (slT ex l) (.c (.v (.int .i64 (k : Int)))) = some (.cptr (atC l[k] ++ (l.drop (k + 1)).flatMap atC)) :=
  idx_R atC 11 (fun _ => rfl) Tryd.underlying33 sz39 (by decide) h
theorem bin_neA' (x y : Operand) (s t : Atm) : pureVal Tryd.prog (do eqGuard .neq 39 x y (.agg s.cells) (.agg t.cells); binOp .neq 39 (.agg s.cells) (.agg t.cells)) = some (.bool (!decide (s = t))) := by
  have hg : Tryd.prog.eqGuardType Tryd.prog.depth 39 = false := by kernel_rfl
  have h := pv_eq_at (d := 9996) s t
  have g : pureVal Tryd.prog (eqGuard .neq 39 x y (.agg s.cells) (.agg t.cells)) = some () := by
    simp [eqGuard, pv_bind, pv_prog, pv_pure, hg]
  rw [pv_bind, g, Option.bind_some]
  have e : binOp .neq 39 (.agg s.cells) (.agg t.cells) = (do pure (Value.bool (!(← Op.equal 39 (.agg s.cells) (.agg t.cells))))) := rfl
  rw [e, pv_bind]
  have h' : pureVal Tryd.prog (Op.equal 39 (.agg s.cells) (.agg t.cells)) = some (decide (s = t)) := h
  rw [h']
  rfl
theorem bin_neA (x y : Operand) (s t : Atm) : pureVal Tryd.prog (do eqGuard .neq 39 x y (.agg [.string s.says, .string s.pred, .int .i64 s.n, .bool s.a0.v, .string s.a0.name, .bool s.a1.v, .string s.a1.name, .bool s.a2.v, .string s.a2.name, .bool s.a3.v, .string s.a3.name].toArray) (.agg [.string t.says, .string t.pred, .int .i64 t.n, .bool t.a0.v, .string t.a0.name, .bool t.a1.v, .string t.a1.name, .bool t.a2.v, .string t.a2.name, .bool t.a3.v, .string t.a3.name].toArray); binOp .neq 39 (.agg [.string s.says, .string s.pred, .int .i64 s.n, .bool s.a0.v, .string s.a0.name, .bool s.a1.v, .string s.a1.name, .bool s.a2.v, .string s.a2.name, .bool s.a3.v, .string s.a3.name].toArray) (.agg [.string t.says, .string t.pred, .int .i64 t.n, .bool t.a0.v, .string t.a0.name, .bool t.a1.v, .string t.a1.name, .bool t.a2.v, .string t.a2.name, .bool t.a3.v, .string t.a3.name].toArray)) = some (.bool (!decide (s = t))) := bin_neA' x y s t
theorem sameA_does (a b : List Atm) (ex ex2 : Bool) (hl : a.length ≤ 1000000) : Does Tryd.prog 11 [slT ex a, slT ex2 b] (fun m => (bA (decide (a = b)), m)) := by
  cases h1 : decide ((a.length : Int) = (b.length : Int)) with
  | false =>
    have hr : decide (a = b) = false := decide_eq_false fun e => of_decide_eq_false h1 (by rw [e])
    refine does_of' Tryd.func11 rfl (by kernel_rfl) rfl Tryd.ntmps11 rfl rfl fun Q hQ => ?_
    repeat (first | refine tr_seq_k fun _ _ => ?_ | (refine tr_region ?_; simp only [go_sem, List.getElem?_toArray, reduceCtorEq, Nat.reduceEqDiff, Nat.reduceLT, ↓reduceIte, h1]) | refine k_of (by assumption) ?_)
    refine tr_cond rfl (fun ht => ?_) (fun hf => ?_)
    · repeat (first | refine tr_seq_k fun _ _ => ?_ | (refine tr_region ?_; simp only [go_sem, reduceCtorEq, Nat.reduceEqDiff, Nat.reduceLT, ↓reduceIte]) | refine k_of (by assumption) ?_ | (refine tr_ret ?_; try simp only [ex_seq_ret]))
      refine (hQ _ _ [bA false] ?_ (fun m => ?_)).2 <;> simp only [go_sem, reduceCtorEq, Nat.reduceEqDiff, ↓reduceIte, Tryd.f11, hr]
    · cases hf
  | true =>
    have hlen : a.length = b.length := by
      have := of_decide_eq_true h1
      omega
    refine does_of' Tryd.func11 rfl (by kernel_rfl) rfl Tryd.ntmps11 rfl rfl fun Q hQ => ?_
    repeat (first | refine tr_seq_k fun _ _ => ?_ | (refine tr_region ?_; simp only [go_sem, List.getElem?_toArray, reduceCtorEq, Nat.reduceEqDiff, Nat.reduceLT, ↓reduceIte, h1]) | refine k_of (by assumption) ?_)
    refine tr_cond rfl (fun ht => ?_) (fun hf => ?_)
    · cases ht
    · repeat (first | refine tr_seq_k fun _ _ => ?_ | (refine tr_region ?_; simp only [go_sem, reduceCtorEq, Nat.reduceEqDiff, Nat.reduceLT, ↓reduceIte]) | refine k_of (by assumption) ?_ | refine tr_block ?_ | (refine tr_skip ?_; try simp only [ex_seq]))
      refine tr_loop_k (σ := Nat) (fun k => [(0, slT ex a), (1, slT ex2 b), (5, iA k)]) (fun _ => ⟨[], []⟩)
        (fun k => k ≤ a.length ∧ a.take k = b.take k) (fun k => a.length - k) 0 ⟨Nat.zero_le _, rfl⟩ ⟨rfl, rfl, rfl, trivial⟩ rfl ?_
      rintro k ⟨hk, hp⟩ K hK
      repeat (first | refine tr_seq_k fun _ _ => ?_ | (refine tr_region ?_; simp only [go_sem, List.getElem?_toArray, reduceCtorEq, Nat.reduceEqDiff, Nat.reduceLT, ↓reduceIte]) | refine k_of (by assumption) ?_)
      refine tr_cond rfl (fun ht => ?_) (fun hf => ?_)
      · have hlt : k < a.length := by simpa using ht
        have hlb : k < b.length := by omega
        have ws := wrap_succ (show k ≤ 1000000000 by omega)
        have eA := fun x y => bin_neA x y a[k] b[k]
        simp only [pv_bind] at eA
        cases h2 : decide (a[k] = b[k]) with
        | false =>
          have hr : decide (a = b) = false := decide_eq_false fun e => of_decide_eq_false h2 (by subst e; rfl)
          simp only [h2, Bool.not_false] at eA
          repeat (first | refine tr_seq_k fun _ _ => ?_ | (refine tr_drawC (id := 6) follows 10000 (by kernel_rfl) ?_; simp only [go_sem, reduceCtorEq, Nat.reduceEqDiff, Nat.reduceLT, Nat.reduceLeDiff, ↓reduceIte, idxA hlt, idxA hlb, atC, eA]) | refine k_of (by assumption) ?_ | refine tr_block ?_ | (refine tr_skip ?_; try simp only [ex_seq]))
          refine tr_cond rfl (fun ht => ?_) (fun hf => ?_)
          · repeat (first | refine tr_seq_k fun _ _ => ?_ | (refine tr_region ?_; simp only [go_sem, reduceCtorEq, Nat.reduceEqDiff, Nat.reduceLT, ↓reduceIte]) | refine k_of (by assumption) ?_ | (refine tr_ret ?_; try simp only [ex_seq_ret, ex_block_ret]))
            refine (hQ _ _ [bA false] ?_ (fun m => ?_)).2 <;> simp only [go_sem, reduceCtorEq, Nat.reduceEqDiff, ↓reduceIte, Tryd.f11, hr]
          · cases hf
        | true =>
          simp only [h2, Bool.not_true] at eA
          repeat (first | refine tr_seq_k fun _ _ => ?_ | (refine tr_drawC (id := 6) follows 10000 (by kernel_rfl) ?_; simp only [go_sem, reduceCtorEq, Nat.reduceEqDiff, Nat.reduceLT, Nat.reduceLeDiff, ↓reduceIte, idxA hlt, idxA hlb, atC, eA]) | refine k_of (by assumption) ?_ | refine tr_block ?_ | (refine tr_skip ?_; try simp only [ex_seq]))
          refine tr_cond rfl (fun ht => ?_) (fun hf => ?_)
          · cases ht
          · repeat (first | (refine tr_region ?_; simp only [go_sem, reduceCtorEq, Nat.reduceEqDiff, Nat.reduceLT, ↓reduceIte, ws]) | refine k_of (by assumption) ?_ | (refine tr_skip ?_; try simp only [ex_seq, ex_block]))
            exact hK (k + 1) _ _ ⟨hlt, take_next_eq hlt hlb hp (of_decide_eq_true h2)⟩ ⟨⟨rfl, rfl, rfl, trivial⟩, Keep.refl _, rfl, rfl, Nat.le_refl _, Nat.le_refl _⟩ (by omega)
      · have hkl : k = a.length := by
          have := of_decide_eq_false hf
          omega
        have hr : decide (a = b) = true := by
          rw [hkl, List.take_length, hlen, List.take_length] at hp
          exact decide_eq_true hp
        repeat (first | refine tr_seq_k fun _ _ => ?_ | (refine tr_region ?_; simp only [go_sem, reduceCtorEq, Nat.reduceEqDiff, Nat.reduceLT, ↓reduceIte]) | refine k_of (by assumption) ?_ | (refine tr_exit ?_; try simp only [ex_seq_exit, ex_block_exit, ex_seq, ↓reduceIte]) | (refine tr_ret ?_; try simp only [ex_seq_ret, ex_block_ret]))
        refine (hQ _ _ [bA true] ?_ (fun m => ?_)).2 <;> simp only [go_sem, reduceCtorEq, Nat.reduceEqDiff, ↓reduceIte, Tryd.f11, hr]
end Go.Proofs.YtinbfakpjnnagaaDoor
namespace Go.Proofs.YtinbfakpjnnagaaDoor
open Go.Vs Go.Vs.Ab
set_option maxRecDepth 100000
theorem args_get (p : Atm) {n k : Nat} (hn : n ≤ 4) (h : k < (p.args.take n).length) : (p.args.take n)[k] = p.arg k := by
  rw [List.getElem_take]
  rw [List.length_take] at h
  have hk : k < 4 := by omega
  obtain rfl | rfl | rfl | rfl : k = 0 ∨ k = 1 ∨ k = 2 ∨ k = 3 := by omega
  all_goals rfl
theorem args_len (p : Atm) {n : Nat} (hn : n ≤ 4) : (p.args.take n).length = n := by
  rw [List.length_take, Nat.min_eq_left (by show n ≤ 4; exact hn)]
set_option maxRecDepth 100000
set_option maxHeartbeats 2000000
theorem build1A (a : Atm) : aBuildSlice Tryd.prog 33 1 [(0, .agg [.v (.string a.says), .v (.string a.pred), .v (.int .i64 a.n), .v (.bool a.a0.v), .v (.string a.a0.name), .v (.bool a.a1.v), .v (.string a.a1.name), .v (.bool a.a2.v), .v (.string a.a2.name), .v (.bool a.a3.v), .v (.string a.a3.name)])] = some [.v (.string a.says), .v (.string a.pred), .v (.int .i64 a.n), .v (.bool a.a0.v), .v (.string a.a0.name), .v (.bool a.a1.v), .v (.string a.a1.name), .v (.bool a.a2.v), .v (.string a.a2.name), .v (.bool a.a3.v), .v (.string a.a3.name)] := build1 Tryd.underlying33 sz39 ze39 (by decide) (by decide) (by decide) rfl rfl
theorem appA (hp : List Blk) (l : List Atm) (a : Atm) (hl : l.length ≤ 1000000) : aAppend Tryd.prog ⟨hp, colH 39 11 l⟩ 33 (colA atC 0 l) (.c (.sl true 1 [.v (.string a.says), .v (.string a.pred), .v (.int .i64 a.n), .v (.bool a.a0.v), .v (.string a.a0.name), .v (.bool a.a1.v), .v (.string a.a1.name), .v (.bool a.a2.v), .v (.string a.a2.name), .v (.bool a.a3.v), .v (.string a.a3.name)])) = some (colA atC 0 (l ++ [a]), ⟨hp, colH 39 11 (l ++ [a])⟩) :=
  app_col0 (P := Tryd.prog) atC (size := 11) (fun _ => rfl) Tryd.underlying33 info_a (hp := hp) (l := l) (x := a) (ex := true) (Nat.le_trans (show _ ≤ 1000001 by omega) (by decide)) (by omega)
end Go.Proofs.YtinbfakpjnnagaaDoor
namespace Go.Vs.Ab
open Go.RowKit
variable {P : Program}
theorem does_of_evA (hm : P.follows .mixedOrders = true) {H : FuncId → Hint} {n : Nat} {F : FuncId} {args : List AV} {v : Value} {r : AV} (hcb : Callable P F) (hr : avOf v = some r) (hs : shuts args = some args) (h : answer (evFun P H n F args ⟨[], []⟩) = some v) : Does P F args (fun m => (r, m)) :=
  does_of_callsG hcb hr fun X w vs hg hc hrep => by
    unfold answer at h
    split at h
    · rename_i c m1 h1
      obtain ⟨_, h2⟩ := evFun_ok hm n F args ⟨[], []⟩ c m1 h1
      have M : MR ⟨X.cell, fun _ => none, fun _ => none, fun _ => 0⟩ w ⟨[], []⟩ w :=
        ⟨Below.refl _ w, hc, (fun _ _ h => by cases h), (fun _ _ h => by simp at h), (fun _ _ _ _ _ h => by cases h), (fun _ _ h => by cases h), (fun _ _ h => by simp at h), (fun _ _ _ _ h => by cases h), hg, (fun _ h => absurd h (Nat.lt_irrefl 0))⟩
      refine (h2 ⟨X.cell, fun _ => none, fun _ => none, fun _ => 0⟩ w w vs M (shuts_rep (X := X) (Y := ⟨X.cell, fun _ => none, fun _ => none, fun _ => 0⟩) rfl hs hrep)).mono ?_
      rintro _ w' ⟨u, X', rfl, _, k2, k3, _⟩
      exact ⟨by rw [val_rep h k2], k3.below⟩
    · cases h
end Go.Vs.Ab
namespace Go.Vs.Ab
open Go.RowKit
variable {P : Program}
theorem pv_und {t : TypeId} {d : TypeDesc} (h : P.underlying t = some d) : pureVal P (underlying t) = some d := by
  simp only [underlying, program, pureVal, bind, Sem.bind, h, pure]
theorem so_add {a b : ByteArray} (h : a.size + b.size ≤ 9223372036854775807) : pureVal P (Op.stringOp .add a b) = some (.string (a ++ b)) := by
  have : ¬ (((a.size + b.size : Nat) : Int) > IntKind.i64.max) := by
    have : IntKind.i64.max = 9223372036854775807 := rfl
    omega
  simp only [Op.stringOp, this, if_false]
  rfl
def findE {T : Type} [DecidableEq T] : List (T × Value) → T → Nat → Option (Nat × Value)
  | [], _, _ => none
  | e :: r, s, i => if e.1 = s then some (i, e.2) else findE r s (i + 1)
def encE {T : Type} (enc : T → Value) (es : List (T × Value)) : List (Value × Value) := es.map fun p => (enc p.1, p.2)
def posOf {T : Type} [DecidableEq T] : List T → T → Nat
  | [], _ => 0
  | y :: r, x => if y = x then 0 else posOf r x + 1
theorem posOf_lt {T : Type} [DecidableEq T] {x : T} : ∀ {l : List T}, x ∈ l → posOf l x < l.length
  | [], h => by simp at h
  | y :: r, h => by
    unfold posOf
    by_cases e : y = x
    · rw [if_pos e]; simp
    · rw [if_neg e]
      have : x ∈ r := by
        rcases List.mem_cons.1 h with h | h
        · exact absurd h.symm e
        · exact h
      have := posOf_lt this
      simp only [List.length_cons]
      omega
theorem posOf_get {T : Type} [DecidableEq T] {x : T} : ∀ {l : List T}, x ∈ l → l[posOf l x]? = some x
  | [], h => by simp at h
  | y :: r, h => by
    unfold posOf
    by_cases e : y = x
    · rw [if_pos e]; simp [e]
    · rw [if_neg e]
      have : x ∈ r := by
        rcases List.mem_cons.1 h with h | h
        · exact absurd h.symm e
        · exact h
      simpa using posOf_get this
theorem ba_beq (a b : ByteArray) : (a == b) = decide (a = b) := by
  cases a with | mk x => cases b with | mk y =>
    show (x == y) = _
    rw [Bool.eq_iff_iff]
    simp
theorem checkKey_str {kt : TypeId} (ht : P.underlying kt = some .string) (em : Bool) (s : ByteArray) : pureVal P (Instr.checkKey em 10000 kt (.string s)) = some () := by
  show pureVal P (Instr.checkKey em (9999 + 1) kt (.string s)) = some ()
  unfold Instr.checkKey
  rw [pv_bind, pv_und ht]
  rfl
theorem findNow_str (s : ByteArray) : ∀ (es : List (ByteArray × Value)) (i : Nat), Instr.findNow .string (.string s) (ents (encE .string es)) i = some (findE es s i)
  | [], i => rfl
  | e :: r, i => by
    show Instr.findNow .string (.string s) (⟨.string e.1, e.2, 0⟩ :: ents (encE .string r)) i = _
    unfold Instr.findNow findE
    simp only [Instr.sameNow]
    by_cases h : e.1 = s
    · have h1 : (s == e.1) = true := by rw [ba_beq, decide_eq_true h.symm]
      rw [h1, if_pos h]
    · have h1 : (s == e.1) = false := by rw [ba_beq, decide_eq_false (fun e => h e.symm)]
      rw [h1, if_neg h]
      exact findNow_str s r (i + 1)
theorem mLook_str {kt : TypeId} (ht : P.underlying kt = some .string) (es : List (ByteArray × Value)) (s : ByteArray) (em : Bool) : mLook P kt (encE .string es) (.string s) em = some (findE es s 0) := by
  unfold mLook
  rw [checkKey_str ht]
  unfold Instr.findKey
  rw [pv_bind, pv_und ht, Option.bind_some]
  simp only [findNow_str]
  rfl
theorem findAsking_enc {T : Type} [DecidableEq T] {enc : T → Value} {kt : TypeId} (he : ∀ a b, pureVal P (Op.equal kt (enc a) (enc b)) = some (decide (a = b))) (x : T) : ∀ (es : List (T × Value)) (i : Nat), pureVal P (Instr.findAsking kt (enc x) (ents (encE enc es)) i) = some (findE es x i)
  | [], i => rfl
  | e :: r, i => by
    show pureVal P (Instr.findAsking kt (enc x) (⟨enc e.1, e.2, 0⟩ :: ents (encE enc r)) i) = _
    unfold Instr.findAsking findE
    rw [pv_bind, he, Option.bind_some]
    by_cases h : e.1 = x
    · rw [if_pos h, decide_eq_true h.symm]
      rfl
    · rw [if_neg h, decide_eq_false (fun e => h e.symm)]
      exact findAsking_enc he x r (i + 1)
theorem mLook_enc {T : Type} [DecidableEq T] {enc : T → Value} {kt : TypeId} {d : TypeDesc} (ht : P.underlying kt = some d) (hd : ∀ a b, Instr.sameNow d (enc a) (enc b) = none) (hc : ∀ em a, pureVal P (Instr.checkKey em 10000 kt (enc a)) = some ())
    (he : ∀ a b, pureVal P (Op.equal kt (enc a) (enc b)) = some (decide (a = b))) (es : List (T × Value)) (x : T) (em : Bool) : mLook P kt (encE enc es) (enc x) em = some (findE es x 0) := by
  unfold mLook
  rw [hc]
  unfold Instr.findKey
  rw [pv_bind, pv_und ht, Option.bind_some]
  cases es with
  | nil => rfl
  | cons e r =>
    have : Instr.findNow d (enc x) (ents (encE enc (e :: r))) 0 = none := by
      show Instr.findNow d (enc x) (⟨enc e.1, e.2, 0⟩ :: ents (encE enc r)) 0 = _
      unfold Instr.findNow
      simp only [hd]
    rw [this]
    exact findAsking_enc he x (e :: r) 0
theorem findE_none {T : Type} [DecidableEq T] {x : T} : ∀ {es : List (T × Value)} {i : Nat}, x ∉ es.map (·.1) → findE es x i = none
  | [], _, _ => rfl
  | e :: r, i, h => by
    simp only [List.map_cons, List.mem_cons, not_or] at h
    unfold findE
    rw [if_neg (fun e => h.1 e.symm)]
    exact findE_none h.2
theorem findE_some {T : Type} [DecidableEq T] {x : T} : ∀ {es : List (T × Value)} {i : Nat}, x ∈ es.map (·.1) → ∃ k v, k < es.length ∧ es[k]? = some (x, v) ∧ k = posOf (es.map (·.1)) x ∧ findE es x i = some (i + k, v)
  | [], _, h => by simp at h
  | e :: r, i, h => by
    unfold findE
    by_cases h1 : e.1 = x
    · rw [if_pos h1]
      refine ⟨0, e.2, by simp, by simp [← h1], ?_, rfl⟩
      rw [List.map_cons]; unfold posOf; rw [if_pos h1]
    · rw [if_neg h1]
      have h2 : x ∈ r.map (·.1) := by
        simp only [List.map_cons, List.mem_cons] at h
        rcases h with h | h
        · exact absurd h.symm h1
        · exact h
      obtain ⟨k, v, g1, g2, g3, g4⟩ := findE_some (i := i + 1) h2
      refine ⟨k + 1, v, by simp; omega, by simpa using g2, ?_, by rw [g4]; congr 2; omega⟩
      rw [List.map_cons]; unfold posOf; rw [if_neg h1, g3]
def setEs {T : Type} (enc : T → Value) (u : Value) (l : List T) : List (Value × Value) := encE enc (l.map fun x => (x, u))
theorem setEs_keys {T : Type} (u : Value) (l : List T) : (l.map fun x => (x, u)).map (·.1) = l := by
  rw [List.map_map]
  exact List.map_id l
end Go.Vs.Ab
namespace Go.Proofs.YtinbfakpjnnagaaDoor
open Go.Vs Go.Vs.Ab
set_option maxRecDepth 100000
set_option maxHeartbeats 4000000
/-! ### names, by their places -/
def dig1 (n : Nat) : ByteArray := ⟨#[UInt8.ofNat (48 + n)]⟩
def vname (n : Nat) : ByteArray := ⟨#[86, UInt8.ofNat (48 + n)]⟩
theorem itoa_does {k : Nat} (h : k < 4) : Does Tryd.prog 26 [iA k] (fun m => (sA (dig1 k), m)) := by
  have hc := callable Tryd.func26 (by kernel_rfl)
  obtain rfl | rfl | rfl | rfl : k = 0 ∨ k = 1 ∨ k = 2 ∨ k = 3 := by omega
  · exact does_of_evA (v := .string (dig1 0)) (H := lookH []) (n := 20) follows hc rfl rfl (by kernel_rfl)
  · exact does_of_evA (v := .string (dig1 1)) (H := lookH []) (n := 20) follows hc rfl rfl (by kernel_rfl)
  · exact does_of_evA (v := .string (dig1 2)) (H := lookH []) (n := 20) follows hc rfl rfl (by kernel_rfl)
  · exact does_of_evA (v := .string (dig1 3)) (H := lookH []) (n := 20) follows hc rfl rfl (by kernel_rfl)
theorem leN {k : Nat} (h : k < 4) : (3 + k * 2 ≤ 9) = True := eq_true (by omega)
theorem vcat {n : Nat} (h : n < 4) : pureVal Tryd.prog (Op.stringOp .add ⟨#[86]⟩ (dig1 n)) = some (.string (vname n)) := by
  rw [so_add (by show 1 + 1 ≤ _; decide)]
  obtain rfl | rfl | rfl | rfl : n = 0 ∨ n = 1 ∨ n = 2 ∨ n = 3 := by omega
  all_goals rfl
end Go.Proofs.YtinbfakpjnnagaaDoor
namespace Go.Proofs.YtinbfakpjnnagaaDoor
open Go.Vs Go.Vs.Ab
set_option maxRecDepth 100000
set_option maxHeartbeats 4000000
/-! ### sets of atoms -/
def atEs (D : List Atm) : List (Value × Value) := setEs (fun a : Atm => Value.agg a.cells) (.agg #[]) D
theorem check_at (em : Bool) (a : Atm) : pureVal Tryd.prog (Instr.checkKey em 10000 39 (.agg a.cells)) = some () := by
  obtain ⟨s, p, n, ⟨v0, n0⟩, ⟨v1, n1⟩, ⟨v2, n2⟩, ⟨v3, n3⟩⟩ := a
  kernel_rfl
theorem look_at (D : List Atm) (a : Atm) (em : Bool) : mLook Tryd.prog 39 (atEs D) (.agg a.cells) em = some (findE (D.map fun x => (x, Value.agg #[])) a 0) :=
  mLook_enc (P := Tryd.prog) (enc := fun a : Atm => Value.agg a.cells) Tryd.underlying39 (fun _ _ => rfl) check_at (fun x y => pv_eq_at (d := 9996) x y) _ a em
theorem at_none {D : List Atm} {a : Atm} (h : a ∉ D) (em : Bool) : mLook Tryd.prog 39 (atEs D) (.agg [.string a.says, .string a.pred, .int .i64 a.n, .bool a.a0.v, .string a.a0.name, .bool a.a1.v, .string a.a1.name, .bool a.a2.v, .string a.a2.name, .bool a.a3.v, .string a.a3.name].toArray : Value) em = some none := by
  show mLook Tryd.prog 39 (atEs D) (.agg a.cells) em = _
  rw [look_at, findE_none (by rw [setEs_keys]; exact h)]
theorem at_some {D : List Atm} {a : Atm} (h : a ∈ D) (em : Bool) : ∃ k, mLook Tryd.prog 39 (atEs D) (.agg [.string a.says, .string a.pred, .int .i64 a.n, .bool a.a0.v, .string a.a0.name, .bool a.a1.v, .string a.a1.name, .bool a.a2.v, .string a.a2.name, .bool a.a3.v, .string a.a3.name].toArray : Value) em = some (some (k, .agg #[])) := by
  obtain ⟨k, v, h1, h2, h3, h4⟩ := findE_some (es := D.map fun x => (x, Value.agg #[])) (i := 0) (x := a) (by rw [setEs_keys]; exact h)
  refine ⟨0 + k, ?_⟩
  show mLook Tryd.prog 39 (atEs D) (.agg a.cells) em = _
  rw [look_at, h4]
  rw [List.getElem?_map, Option.map_eq_some_iff] at h2
  obtain ⟨p, h5, h6⟩ := h2
  injection h6 with h6 h7
  rw [h7]
theorem at_put {D : List Atm} {a : Atm} (h : a ∉ D) : mPut Tryd.prog 39 (atEs D) (.agg [.string a.says, .string a.pred, .int .i64 a.n, .bool a.a0.v, .string a.a0.name, .bool a.a1.v, .string a.a1.name, .bool a.a2.v, .string a.a2.name, .bool a.a3.v, .string a.a3.name].toArray : Value) (.agg #[]) = some (atEs (D ++ [a])) := by
  unfold mPut
  rw [at_none h]
  simp [atEs, setEs, encE, Atm.cells]
theorem avU : avOf1 (.agg #[]) = some (.agg []) := rfl
theorem zaU : tzeroA Tryd.prog 62 = some (.agg []) := by kernel_rfl
/-! ### firsts -/
end Go.Proofs.YtinbfakpjnnagaaDoor
namespace Go.Proofs.YtinbfakpjnnagaaDoor
open Go.Vs Go.Vs.Ab
set_option maxRecDepth 100000
/-! ### first ones -/
end Go.Proofs.YtinbfakpjnnagaaDoor
namespace Go.Proofs
open Go.Shelf
def Tryd.lays156_ren : Go.Shelf.Ren := ⟨fun | 156 => 23 | 165 => 36 | 166 => 37 | 169 => 38 | 240 => 47 | 241 => 48 | 276 => 67 | 277 => 68 | n => n, fun | 31 => 23 | 9 => 9 | 3 => 3 | 4 => 4 | 0 => 0 | 20 => 20 | 72 => 89 | 76 => 93 | 70 => 86 | 37 => 87 | 75 => 92 | 127 => 104 | 164 => 123 | 5 => 5 | 80 => 95 | n => n, fun | n => n⟩
theorem Tryd.lays156 : Go.Proofs.Lays.n156 Tryd.prog Tryd.lays156_ren := {
  mixed := by kernel_rfl
  f156 := Tryd.func23.trans (congrArg some (by kernel_rfl))
  f165 := Tryd.func36.trans (congrArg some (by kernel_rfl))
  f166 := Tryd.func37.trans (congrArg some (by kernel_rfl))
  f169 := Tryd.func38.trans (congrArg some (by kernel_rfl))
  f240 := Tryd.func47.trans (congrArg some (by kernel_rfl))
  f241 := Tryd.func48.trans (congrArg some (by kernel_rfl))
  f276 := Tryd.func67.trans (congrArg some (by kernel_rfl))
  f277 := Tryd.func68.trans (congrArg some (by kernel_rfl))
  t0 := Tryd.underlying0
  a0 := Tryd.isAgg0
  z0 := Tryd.sizeOf0
  v0 := Tryd.zeroValue0
  t3 := Tryd.underlying3
  a3 := Tryd.isAgg3
  z3 := Tryd.sizeOf3
  v3 := Tryd.zeroValue3
  t4 := Tryd.underlying4
  a4 := Tryd.isAgg4
  z4 := Tryd.sizeOf4
  v4 := Tryd.zeroValue4
  t9 := Tryd.underlying9
  a9 := Tryd.isAgg9
  z9 := Tryd.sizeOf9
  v9 := Tryd.zeroValue9
  t20 := Tryd.underlying20
  a20 := Tryd.isAgg20
  z20 := Tryd.sizeOf20
  v20 := Tryd.zeroValue20
  t31 := Tryd.underlying23
  a31 := Tryd.isAgg23
  z31 := Tryd.sizeOf23
  v31 := Tryd.zeroValue23
  t37 := Tryd.underlying87
  a37 := Tryd.isAgg87
  z37 := Tryd.sizeOf87
  v37 := Tryd.zeroValue87
  t70 := Tryd.underlying86
  a70 := Tryd.isAgg86
  z70 := Tryd.sizeOf86
  v70 := Tryd.zeroValue86
  t72 := Tryd.underlying89
  a72 := Tryd.isAgg89
  z72 := Tryd.sizeOf89
  v72 := Tryd.zeroValue89
  t75 := Tryd.underlying92
  a75 := Tryd.isAgg92
  z75 := Tryd.sizeOf92
  v75 := Tryd.zeroValue92
  t76 := Tryd.underlying93
  a76 := Tryd.isAgg93
  z76 := Tryd.sizeOf93
  v76 := Tryd.zeroValue93
  t127 := Tryd.underlying104
  a127 := Tryd.isAgg104
  z127 := Tryd.sizeOf104
  v127 := Tryd.zeroValue104
  t164 := Tryd.underlying123
  a164 := Tryd.isAgg123
  z164 := Tryd.sizeOf123
  v164 := Tryd.zeroValue123 }
theorem Tryd.Builder_Extra_156 : Builder.Extra Tryd.prog Tryd.lays156_ren := {
  sizeBuilder := by kernel_rfl
  liesBuilder := by kernel_rfl
  t5 := Tryd.underlying5
  a5 := Tryd.isAgg5
  z5 := Tryd.sizeOf5
  v5 := Tryd.zeroValue5
  infoByte := by kernel_rfl
  cellsByte := by kernel_rfl
  sizeByte := by kernel_rfl
  neB5 := by decide }
open Go.RowKit in
theorem Tryd.strings_Join_none (a : Option Addr) (c : Nat) (sep : ByteArray) (w : World) :
    Calls Tryd.prog 23 #[.slice a 0 c, .string sep] w fun e w' => e = .returned (.string ⟨#[]⟩) ∧ w' = w := Any.strings_Join_none Tryd.lays156 Tryd.Builder_Extra_156 a c sep w
open Go.RowKit in
theorem Tryd.strings_Join (bk o c : Nat) (xs : List ByteArray) (sep : ByteArray) (w : World) (hcells : ∀ (j : Nat) x, xs[j]? = some x → w.cell? ⟨bk, o + j, none⟩ = some (.string x)) (hbk : bk < w.heap.size) (hN : xs.length ≤ 140737488355328) (hcap : xs.length ≤ c) (hlen : (Lib.join (xs.map (·.data.toList)) sep.data.toList).length ≤ 140737488355328) :
    Calls Tryd.prog 23 #[.slice (some ⟨bk, o, none⟩) xs.length c, .string sep] w fun e w' => e = .returned (.string ⟨(Lib.join (xs.map (·.data.toList)) sep.data.toList).toArray⟩) ∧ Below w.heap.size w w' := Any.strings_Join Tryd.lays156 Tryd.Builder_Extra_156 bk o c xs sep w hcells hbk hN hcap hlen
def Tryd.lays106_ren : Go.Shelf.Ren := ⟨fun | 106 => 42 | 213 => 54 | 265 => 75 | n => n, fun | 9 => 9 | 3 => 3 | n => n, fun | n => n⟩
theorem Tryd.lays106 : Go.Proofs.Lays.n106 Tryd.prog Tryd.lays106_ren := {
  mixed := by kernel_rfl
  f106 := Tryd.func42.trans (congrArg some (by kernel_rfl))
  f213 := Tryd.func54.trans (congrArg some (by kernel_rfl))
  f265 := Tryd.func75.trans (congrArg some (by kernel_rfl))
  t3 := Tryd.underlying3
  a3 := Tryd.isAgg3
  z3 := Tryd.sizeOf3
  v3 := Tryd.zeroValue3
  t9 := Tryd.underlying9
  a9 := Tryd.isAgg9
  z9 := Tryd.sizeOf9
  v9 := Tryd.zeroValue9 }
open Go.RowKit in
theorem Tryd.strings_Compare (a b : ByteArray) (w : World) :
    Calls Tryd.prog 42 #[.string a, .string b] w fun e w' => e = .returned (.int .i64 (Lib.compareBytes a.data.toList b.data.toList)) ∧ w' = w := Any.strings_Compare Tryd.lays106 a b w
end Go.Proofs
namespace Go.Proofs.YtinbfakpjnnagaaDoor
open Go.Vs Go.Vs.Ab Go.RowKit
set_option maxRecDepth 100000
set_option maxHeartbeats 4000000
def joinB (l : List ByteArray) (sep : ByteArray) : ByteArray := ⟨(Lib.join (l.map (·.data.toList)) sep.data.toList).toArray⟩
theorem join_does (l : List ByteArray) (sep : ByteArray) (ex : Bool) (h1 : l.length ≤ 1000000) (h2 : (joinB l sep).size ≤ 140737488355328) : Does Tryd.prog 23 [slS ex l, sA sep] (fun m => (sA (joinB l sep), m)) :=
  does_of_calls (v := .string (joinB l sep)) (callable Tryd.func23 (by kernel_rfl)) rfl fun X w vs hc hr => by
    obtain ⟨v, u, hv, r1, r2⟩ := reps2 hr
    obtain rfl : vs = #[v, u] := by
      apply Array.ext'
      simpa using hv
    obtain rfl : u = .string sep := val_rep rfl r2
    obtain ⟨a, cap, xs, rfl, g1, g2, g3, g4⟩ := slV_rep (len_R stC ex l) r1
    have hxs := vals_rep (vals_flat (encV := fun s => [Value.string s]) vals_st l) g1
    rw [flat_st] at hxs
    subst hxs
    by_cases hl : l = []
    · subst hl
      refine (Tryd.strings_Join_none a cap sep w).mono ?_
      rintro e w' ⟨rfl, rfl⟩
      exact ⟨rfl, Below.refl _ _⟩
    · have hpos : 0 < (l.map Value.string).length := by rw [List.length_map]; exact List.length_pos_iff.2 hl
      obtain ⟨b, o, rfl⟩ := g4.some hpos
      have hcell : ∀ (j : Nat) x, l[j]? = some x → w.cell? ⟨b, o + j, none⟩ = some (.string x) := fun j x hx => by
        obtain ⟨b', o', e, h⟩ := g4 j (.string x) (by rw [List.getElem?_map, hx]; rfl)
        injection e with e
        injection e with e1 e2
        subst e1 e2
        exact hc _ _ _ h
      have hb : b < w.heap.size := by
        obtain ⟨x, hx⟩ := List.exists_mem_of_ne_nil l hl
        obtain ⟨j, hj, rfl⟩ := List.mem_iff_getElem.1 hx
        exact World.block_lt_of_cell? w _ (hcell j l[j] (by simp [hj]))
      refine Tryd.strings_Join b o cap l sep w hcell hb (by omega) g2 ?_
      simpa [joinB, ByteArray.size] using h2
/-! ### the text of an atom -/
abbrev tSays : ByteArray := ⟨#[32, 115, 97, 121, 115, 32]⟩
abbrev tOpen : ByteArray := ⟨#[40]⟩
abbrev tComma : ByteArray := ⟨#[44, 32]⟩
abbrev tShut : ByteArray := ⟨#[41]⟩
def psaidK (a : Atm) : Nat → ByteArray
  | 0 => a.pred
  | k + 1 => (psaidK a k ++ (if k = 0 then tOpen else tComma)) ++ (a.arg k).name
def psaid (a : Atm) : ByteArray := if 0 < a.count then psaidK a a.count ++ tShut else a.pred
def ptext (a : Atm) : ByteArray := (a.says ++ tSays) ++ psaid a
def anames (a : Atm) (k : Nat) : List ByteArray := (List.range k).map fun i => (a.arg i).name
theorem anames_next (a : Atm) (k : Nat) : anames a (k + 1) = anames a k ++ [(a.arg k).name] := by
  unfold anames
  rw [List.range_succ, List.map_append]
  rfl
theorem ba_ext {a b : ByteArray} (h : a.data.toList = b.data.toList) : a = b := str_inj h
theorem join_snoc (l : List ByteArray) (sep x : ByteArray) (hl : l ≠ []) : joinB (l ++ [x]) sep = (joinB l sep ++ sep) ++ x := by
  apply ba_ext
  simp only [ByteArray.data_append, Array.toList_append, joinB, Lib.join, List.map_append, List.map_cons, List.map_nil]
  generalize sep.data.toList = s
  generalize x.data.toList = y
  have : ∀ l : List (List UInt8), l ≠ [] → s.intercalate (l ++ [y]) = s.intercalate l ++ s ++ y := fun l => by
    induction l with
    | nil => intro h; exact absurd rfl h
    | cons z r ih =>
      intro _
      cases r with
      | nil => simp [List.intercalate]
      | cons u r =>
        have := ih (by simp)
        simp only [List.intercalate, List.cons_append, List.intersperse_cons_cons, List.flatten_cons, List.append_assoc] at this ⊢
        rw [this]
  exact this _ (by simpa using hl)
theorem psaid_join (a : Atm) : ∀ k, 0 < k → psaidK a k = (a.pred ++ tOpen) ++ joinB (anames a k) tComma
  | 0, h => absurd h (Nat.lt_irrefl _)
  | 1, _ => by
    apply ba_ext
    simp [psaidK, joinB, anames, Lib.join_one, List.range, List.range.loop]
  | k + 2, _ => by
    have ih := psaid_join a (k + 1) (by omega)
    show (psaidK a (k + 1) ++ tComma) ++ (a.arg (k + 1)).name = _
    rw [ih, anames_next a (k + 1), join_snoc _ _ _ (by simp [anames])]
    simp only [ByteArray.append_assoc]
theorem ptext_join (a : Atm) (h : 0 < a.count) : ptext a = (((a.says ++ tSays) ++ a.pred) ++ tOpen) ++ joinB (anames a a.count) tComma ++ tShut := by
  unfold ptext psaid
  rw [if_pos h, psaid_join a _ h]
  simp only [ByteArray.append_assoc]
def AtSz (a : Atm) : Prop := a.says.size ≤ 1000000 ∧ a.pred.size ≤ 1000000 ∧ ∀ k, (a.arg k).name.size ≤ 1000000
theorem psaidK_size {a : Atm} (h : AtSz a) : ∀ k, (psaidK a k).size ≤ 1000000 + k * 1000002
  | 0 => by have := h.2.1; simpa [psaidK] using this
  | k + 1 => by
    have ih := psaidK_size h k
    have h3 := h.2.2 k
    have h4 : (if k = 0 then tOpen else tComma).size ≤ 2 := by split <;> decide
    simp only [psaidK, ByteArray.size_append]
    omega
theorem joinB_size {a : Atm} (h : AtSz a) {k : Nat} (hk : k ≤ 4) : (joinB (anames a k) tComma).size ≤ 6000000 := by
  cases k with
  | zero => exact (by decide : (0 : Nat) ≤ 6000000)
  | succ k =>
    have h1 := psaid_join a (k + 1) (by omega)
    have h2 := psaidK_size h (k + 1)
    rw [h1] at h2
    simp only [ByteArray.size_append] at h2
    have : (k + 1) * 1000002 ≤ 4 * 1000002 := Nat.mul_le_mul_right _ hk
    omega
theorem sadd {a b : ByteArray} {n : Nat} (h : a.size + b.size ≤ n) (hn : n ≤ 9223372036854775807) : pureVal Tryd.prog (Op.stringOp .add a b) = some (.string (a ++ b)) := so_add (Nat.le_trans h hn)
theorem build1T (x : ByteArray) : aBuildSlice Tryd.prog 23 1 [(0, .c (.v (.string x)))] = some [.v (.string x)] := build1 Tryd.underlying23 sz9 ze9 (by decide) (by decide) (by decide) rfl rfl
theorem appS (hp : List Blk) (l : List ByteArray) (x : ByteArray) (hl : l.length ≤ 1000000) : aAppend Tryd.prog ⟨hp, colH 9 1 l⟩ 23 (colA stC 0 l) (.c (.sl true 1 [.v (.string x)])) = some (colA stC 0 (l ++ [x]), ⟨hp, colH 9 1 (l ++ [x])⟩) :=
  app_col0 (P := Tryd.prog) stC (size := 1) (fun _ => rfl) Tryd.underlying23 info_s (hp := hp) (l := l) (x := x) (ex := true) (Nat.le_trans (show _ ≤ 1000001 by omega) (by decide)) (by omega)
theorem text_does (a : Atm) (hS : AtSz a) : Does Tryd.prog 22 [atA a] (fun m => (sA (ptext a), m)) := by
  have h4 := a.count_le
  have ca := args_does a
  have hlen : (a.args.take a.count).length = a.count := args_len a h4
  have e1 := sadd (a := a.says) (b := tSays) (n := 2000000) (by have := hS.1; have : tSays.size = 6 := rfl; omega) (by decide)
  have e2 := sadd (a := a.says ++ tSays) (b := a.pred) (n := 3000000) (by have := hS.1; have := hS.2.1; have : tSays.size = 6 := rfl; rw [ByteArray.size_append]; omega) (by decide)
  by_cases h0 : a.count = 0
  · have hz : decide (((a.args.take a.count).length : Int) = 0) = true := decide_eq_true (by omega)
    have hT : ptext a = (a.says ++ tSays) ++ a.pred := by unfold ptext psaid; rw [if_neg (by omega)]
    refine does_of' Tryd.func22 rfl (by kernel_rfl) rfl Tryd.ntmps22 rfl rfl fun Q hQ => ?_
    repeat (first | refine tr_seq_k fun _ _ => ?_ | (refine tr_region ?_; simp only [go_sem, List.getElem?_toArray, reduceCtorEq, Nat.reduceEqDiff, Nat.reduceLT, Nat.reduceLeDiff, Nat.reduceAdd, ↓reduceIte, e1, e2, hz]) | (refine call_of (ca) ?_ ?_; (first | rfl | simp only [go_sem, reduceCtorEq, Nat.reduceEqDiff, Nat.reduceLT, Nat.reduceLeDiff, Nat.reduceAdd, Nat.reduceMul, Nat.reduceSub, Nat.reduceBEq, ↓reduceIte, e1, e2, hz, shut_col]); simp only [go_sem]) | refine k_of (by assumption) ?_)
    refine tr_cond rfl (fun ht => ?_) (fun hf => ?_)
    · repeat (first | refine tr_seq_k fun _ _ => ?_ | (refine tr_region ?_; simp only [go_sem, reduceCtorEq, Nat.reduceEqDiff, Nat.reduceLT, ↓reduceIte]) | refine k_of (by assumption) ?_ | (refine tr_ret ?_; try simp only [ex_seq_ret]))
      refine (hQ _ _ [sA ((a.says ++ tSays) ++ a.pred)] ?_ (fun m => by rw [hT]; rfl)).2 <;> simp only [go_sem, reduceCtorEq, Nat.reduceEqDiff, ↓reduceIte, Tryd.f22]
    · cases hf
  · have hz : decide (((a.args.take a.count).length : Int) = 0) = false := decide_eq_false (by omega)
    have hT := ptext_join a (by omega)
    have js := joinB_size hS h4
    have cj := join_does (anames a a.count) tComma (anames a a.count).isEmpty (by simp [anames]; omega) (by omega)
    have e3 := sadd (a := (a.says ++ tSays) ++ a.pred) (b := tOpen) (n := 4000000) (by have := hS.1; have := hS.2.1; have : tSays.size = 6 := rfl; have : tOpen.size = 1 := rfl; simp only [ByteArray.size_append]; omega) (by decide)
    have e4 := sadd (a := ((a.says ++ tSays) ++ a.pred) ++ tOpen) (b := joinB (anames a a.count) tComma) (n := 10000000) (by have := hS.1; have := hS.2.1; have : tSays.size = 6 := rfl; have : tOpen.size = 1 := rfl; simp only [ByteArray.size_append]; omega) (by decide)
    have e5 := sadd (a := (((a.says ++ tSays) ++ a.pred) ++ tOpen) ++ joinB (anames a a.count) tComma) (b := tShut) (n := 11000000) (by have := hS.1; have := hS.2.1; have : tSays.size = 6 := rfl; have : tOpen.size = 1 := rfl; have : tShut.size = 1 := rfl; simp only [ByteArray.size_append]; omega) (by decide)
    refine does_of' Tryd.func22 rfl (by kernel_rfl) rfl Tryd.ntmps22 rfl rfl fun Q hQ => ?_
    repeat (first | refine tr_seq_k fun _ _ => ?_ | (refine tr_region ?_; simp only [go_sem, List.getElem?_toArray, reduceCtorEq, Nat.reduceEqDiff, Nat.reduceLT, Nat.reduceLeDiff, Nat.reduceAdd, ↓reduceIte, e1, e2, hz]) | (refine call_of (ca) ?_ ?_; (first | rfl | simp only [go_sem, reduceCtorEq, Nat.reduceEqDiff, Nat.reduceLT, Nat.reduceLeDiff, Nat.reduceAdd, Nat.reduceMul, Nat.reduceSub, Nat.reduceBEq, ↓reduceIte, e1, e2, hz, shut_col]); simp only [go_sem]) | refine k_of (by assumption) ?_)
    refine tr_cond rfl (fun ht => ?_) (fun hf => ?_)
    · cases ht
    · repeat (first | refine tr_seq_k fun _ _ => ?_ | (refine tr_region ?_; simp only [go_sem, List.getElem?_toArray, reduceCtorEq, Nat.reduceEqDiff, Nat.reduceLT, ↓reduceIte]) | refine k_of (by assumption) ?_ | refine tr_block ?_ | (refine tr_skip ?_; try simp only [ex_seq]))
      refine tr_loop_k (σ := Nat) (fun k => [(3, sA ((a.says ++ tSays) ++ a.pred)), (5, colA stC 0 (anames a k)), (20, slM (Nat.beq 4 a.count) (a.args.take a.count)), (21, iA ((a.args.take a.count).length : Nat)), (22, iA k)]) (fun k => ⟨[⟨false, (atC a).map .c⟩], colH 9 1 (anames a k)⟩)
        (fun k => k ≤ a.count) (fun k => a.count - k) 0 (Nat.zero_le _) ⟨rfl, rfl, rfl, rfl, rfl, trivial⟩ rfl ?_
      rintro k hk K hK
      repeat (first | refine tr_seq_k fun _ _ => ?_ | (refine tr_region ?_; simp only [go_sem, Nat.reduceEqDiff, Nat.reduceLT, ↓reduceIte]) | refine k_of (by assumption) ?_)
      refine tr_cond rfl (fun ht => ?_) (fun hf => ?_)
      · have hlt : k < a.count := by
          have := of_decide_eq_true ht
          omega
        have ws := wrap_succ (show k ≤ 1000000000 by omega)
        have hla : k < (a.args.take a.count).length := by omega
        have hix := idxM (ex := Nat.beq 4 a.count) hla
        rw [args_get a h4 hla] at hix
        have ap := fun hp => appS hp (anames a k) (a.arg k).name (by simp [anames]; omega)
        rw [← anames_next] at ap
        have b1 := build1T (a.arg k).name
        repeat (first | refine tr_seq_k fun _ _ => ?_ | (refine tr_region ?_; simp only [go_sem, List.getElem?_toArray, reduceCtorEq, Nat.reduceEqDiff, Nat.reduceLT, Nat.reduceLeDiff, Nat.reduceAdd, ↓reduceIte, hix, b1, one_max, ap, ws]) | refine k_of (by assumption) ?_ | refine tr_block ?_ | (refine tr_skip ?_; try simp only [ex_seq]))
        exact hK (k + 1) _ _ hlt ⟨⟨rfl, rfl, rfl, rfl, rfl, trivial⟩, Keep.of (eh := [_]) (ew := []) rfl (List.append_nil _).symm, by simp only [lowF, low_col]; rfl, rfl, Nat.le_refl _, Nat.zero_le _⟩ (by omega)
      · have hkl : k = a.count := by
          have := of_decide_eq_false hf
          omega
        subst hkl
        repeat (first | refine tr_seq_k fun _ _ => ?_ | (refine tr_region ?_; simp only [go_sem, Nat.reduceEqDiff, Nat.reduceLT, ↓reduceIte, e3]) | (refine call_of (cj) ?_ ?_; (first | rfl | simp only [go_sem, shut_col]); simp only [go_sem, Nat.reduceEqDiff, Nat.reduceLT, ↓reduceIte, e4, e5]) | refine k_of (by assumption) ?_ | (refine tr_exit ?_; try simp only [ex_seq_exit, ex_block_exit, ex_seq, ↓reduceIte]) | (refine tr_ret ?_; try simp only [ex_seq_ret, ex_block_ret]))
        refine (hQ _ _ [sA ((((a.says ++ tSays) ++ a.pred) ++ tOpen) ++ joinB (anames a a.count) tComma ++ tShut)] ?_ (fun m => by rw [hT]; rfl)).2 <;> simp only [go_sem, Nat.reduceEqDiff, ↓reduceIte, Tryd.f22]
end Go.Proofs.YtinbfakpjnnagaaDoor
namespace Go.Proofs.YtinbfakpjnnagaaDoor
open Go.Vs Go.Vs.Ab
set_option maxRecDepth 100000
set_option maxHeartbeats 4000000
structure Prd where
  name : ByteArray
  ar : Int
structure Clr where
  who : ByteArray
  ex : Bool
  reads : List ByteArray
structure Rul where
  head : Atm
  ex : Bool
  body : List Atm
structure Grt where
  tw : ByteArray
  head : Atm
  ex : Bool
  body : List Atm
structure Pol where
  e1 : Bool
  prin : List ByteArray
  e2 : Bool
  preds : List Prd
  e3 : Bool
  clears : List Clr
  quota : Int
  budget : Int
  e4 : Bool
  rules : List Rul
  e5 : Bool
  grants : List Grt
abbrev slC {T : Type} (enc : T → List CV) (ex : Bool) (l : List T) : CV := .sl ex l.length (l.flatMap enc)
def prC (p : Prd) : List CV := [.v (.string p.name), .v (.int .i64 p.ar)]
def clC (c : Clr) : List CV := [.v (.string c.who), slC stC c.ex c.reads]
def ruC (r : Rul) : List CV := [.v (.string r.head.says), .v (.string r.head.pred), .v (.int .i64 r.head.n), .v (.bool r.head.a0.v), .v (.string r.head.a0.name), .v (.bool r.head.a1.v), .v (.string r.head.a1.name), .v (.bool r.head.a2.v), .v (.string r.head.a2.name), .v (.bool r.head.a3.v), .v (.string r.head.a3.name)] ++ [slC atC r.ex r.body]
def grC (g : Grt) : List CV := .v (.string g.tw) :: ([.v (.string g.head.says), .v (.string g.head.pred), .v (.int .i64 g.head.n), .v (.bool g.head.a0.v), .v (.string g.head.a0.name), .v (.bool g.head.a1.v), .v (.string g.head.a1.name), .v (.bool g.head.a2.v), .v (.string g.head.a2.name), .v (.bool g.head.a3.v), .v (.string g.head.a3.name)] ++ [slC atC g.ex g.body])
def poC (p : Pol) : List CV := [slC stC p.e1 p.prin, slC prC p.e2 p.preds, slC clC p.e3 p.clears, .v (.int .i64 p.quota), .v (.int .i64 p.budget), slC ruC p.e4 p.rules, slC grC p.e5 p.grants]
abbrev grA (g : Grt) : AV := .agg (grC g)
abbrev poA (p : Pol) : AV := .agg (poC p)
attribute [go_sem] prC clC ruC grC poC
theorem idxRu {ex : Bool} {l : List Rul} {k : Nat} (h : k < l.length) : aIndexAddr Tryd.prog 26 (.c (slC ruC ex l)) (.c (.v (.int .i64 (k : Int)))) = some (.cptr (ruC l[k] ++ (l.drop (k + 1)).flatMap ruC)) :=
  idx_R ruC 12 (fun _ => rfl) Tryd.underlying26 sz42 (by decide) h
theorem idxGr {ex : Bool} {l : List Grt} {k : Nat} (h : k < l.length) : aIndexAddr Tryd.prog 27 (.c (slC grC ex l)) (.c (.v (.int .i64 (k : Int)))) = some (.cptr (grC l[k] ++ (l.drop (k + 1)).flatMap grC)) :=
  idx_R grC 13 (fun _ => rfl) Tryd.underlying27 sz50 (by decide) h
/-! ### light policies -/
end Go.Proofs.YtinbfakpjnnagaaDoor
