/-
  For every input the statement SubstCalls returns true, and leaves its arguments as they were.
-/
import Derived.Test.YtkkkpbnehpfkkaaSubstCallsm2
import Derived.Test.YtkkkpbnehpfkkaaAq
import Derived.Test.YtkkkpbnehpfkkaaLaw
import Derived.Test.YtkkkpbnehpfkkaaRows
/-
  Chapter 4: contracts for SubstCalls: the reference's Restrict, lists of bindings compared.
-/
set_option linter.unusedSimpArgs false
set_option linter.unusedVariables false
namespace Go.Proofs.Ytkkkpbnehpfkkaa
open Go.Vs Go.Vs.Ab
set_option maxRecDepth 100000
set_option maxHeartbeats 4000000

theorem pv_eq_bd {d : Nat} (a b : Bd) : pureVal Try.prog (Op.equalIn (d + 3) 36 (.agg #[.string a.var, .bool a.t.v, .string a.t.name]) (.agg #[.string b.var, .bool b.t.v, .string b.t.name])) = some (decide (a = b)) := by
  unfold Op.equalIn
  rw [pv_bind, pv_under Try.underlying36]
  have p0 : ∀ s : Bd, pureVal Try.prog (part 9 #[.string s.var, .bool s.t.v, .string s.t.name] 0) = some (.string s.var) := fun s => pv_part1 Try.underlying9 rfl rfl
  have p1 : ∀ s : Bd, pureVal Try.prog (part 24 #[.string s.var, .bool s.t.v, .string s.t.name] 1) = some (.agg #[.bool s.t.v, .string s.t.name]) := fun s => (pv_partA Try.underlying24 rfl sz24).trans rfl
  have e1 := pv_eq_tm (d := d) a.t b.t
  have e0 := pv_eq_str (d := d + 1) a.var b.var
  have q0 := p0 a
  have q1 := p0 b
  have q2 := p1 a
  have q3 := p1 b
  have hd : decide (a = b) = (decide (a.var = b.var) && decide (a.t = b.t)) := by
    obtain ⟨s, t⟩ := a
    obtain ⟨s', t'⟩ := b
    simp only [Bd.mk.injEq, ← Bool.decide_and]
  rw [hd]
  generalize decide (a.var = b.var) = c0 at *
  generalize decide (a.t = b.t) = c1 at *
  simp only [Option.bind_some, pv_bind, pv_prog, held_bd, Bool.false_eq_true, if_false, List.forIn_toArray, List.forIn_cons, List.forIn_nil, pv_pure, pv_if, ne_eq, String.reduceEq, not_false_eq_true, if_true, q0, q1, q2, q3, e0, e1]
  cases c0 <;> cases c1 <;> simp [pv_pure, pv_bind, pv_if, q2, q3, e1]
theorem bin_neB (x y : Operand) (s t : Bd) : pureVal Try.prog (do eqGuard .neq 36 x y (.agg #[.string s.var, .bool s.t.v, .string s.t.name]) (.agg #[.string t.var, .bool t.t.v, .string t.t.name]); binOp .neq 36 (.agg #[.string s.var, .bool s.t.v, .string s.t.name]) (.agg #[.string t.var, .bool t.t.v, .string t.t.name])) = some (.bool (!decide (s = t))) := by
  have hg : Try.prog.eqGuardType Try.prog.depth 36 = false := by kernel_rfl
  have h := pv_eq_bd (d := 9997) s t
  have g : pureVal Try.prog (eqGuard .neq 36 x y (.agg #[.string s.var, .bool s.t.v, .string s.t.name]) (.agg #[.string t.var, .bool t.t.v, .string t.t.name])) = some () := by
    simp [eqGuard, pv_bind, pv_prog, pv_pure, hg]
  rw [pv_bind, g, Option.bind_some]
  have e : binOp .neq 36 (.agg #[.string s.var, .bool s.t.v, .string s.t.name]) (.agg #[.string t.var, .bool t.t.v, .string t.t.name]) = (do pure (Value.bool (!(← Op.equal 36 (.agg #[.string s.var, .bool s.t.v, .string s.t.name]) (.agg #[.string t.var, .bool t.t.v, .string t.t.name]))))) := rfl
  rw [e, pv_bind]
  have h' : pureVal Try.prog (Op.equal 36 (.agg #[.string s.var, .bool s.t.v, .string s.t.name]) (.agg #[.string t.var, .bool t.t.v, .string t.t.name])) = some (decide (s = t)) := h
  rw [h']
  rfl
theorem sameB_does (a b : List Bd) (ex ex2 : Bool) (hl : a.length ≤ 1000000) : Does Try.prog 33 [slB ex a, slB ex2 b] (fun m => (bA (decide (a = b)), m)) := by
  cases h1 : decide ((a.length : Int) = (b.length : Int)) with
  | false =>
    have hr : decide (a = b) = false := decide_eq_false fun e => of_decide_eq_false h1 (by rw [e])
    refine does_of' Try.func33 rfl (by kernel_rfl) rfl Try.ntmps33 rfl rfl fun Q hQ => ?_
    repeat (first
        | refine tr_seq_k fun _ _ => ?_
        | (refine tr_region ?_; simp only [go_sem, List.getElem?_toArray, str_beq, reduceCtorEq, Nat.reduceEqDiff, Nat.reduceLT, Nat.reduceLeDiff, Nat.reduceAdd, Nat.reduceMul, Nat.reduceSub, Nat.reduceBEq, ↓reduceIte, bne_self_eq_false, Bool.and_false, Bool.false_and, Bool.true_or, Bool.false_or, h1])
        | (refine tr_drawC (id := 6) follows 10000 (by kernel_rfl) ?_; simp only [go_sem, List.getElem?_toArray, str_beq, reduceCtorEq, Nat.reduceEqDiff, Nat.reduceLT, Nat.reduceLeDiff, Nat.reduceAdd, Nat.reduceMul, Nat.reduceSub, Nat.reduceBEq, ↓reduceIte, bne_self_eq_false, Bool.and_false, Bool.false_and, Bool.true_or, Bool.false_or, h1])
        | refine k_of (by assumption) ?_
        | refine tr_block ?_
        | refine tr_scope ?_
        | (refine tr_skip ?_; try simp only [ex_seq, ex_block])
        | (refine tr_label ?_; try simp only [ex_seq, ex_block])
        | (refine tr_exit ?_; try simp only [ex_seq_exit, ex_block_exit, Nat.reduceEqDiff, if_true, if_false, ex_seq, ex_block, reduceCtorEq, ↓reduceIte])
        | (refine tr_ret ?_; try simp only [ex_seq_ret, ex_block_ret]))
    refine tr_cond rfl (fun ht => ?_) (fun hf => ?_)
    · repeat (first
          | refine tr_seq_k fun _ _ => ?_
          | (refine tr_region ?_; simp only [go_sem, List.getElem?_toArray, str_beq, reduceCtorEq, Nat.reduceEqDiff, Nat.reduceLT, Nat.reduceLeDiff, Nat.reduceAdd, Nat.reduceMul, Nat.reduceSub, Nat.reduceBEq, ↓reduceIte, bne_self_eq_false, Bool.and_false, Bool.false_and, Bool.true_or, Bool.false_or])
          | (refine tr_drawC (id := 6) follows 10000 (by kernel_rfl) ?_; simp only [go_sem, List.getElem?_toArray, str_beq, reduceCtorEq, Nat.reduceEqDiff, Nat.reduceLT, Nat.reduceLeDiff, Nat.reduceAdd, Nat.reduceMul, Nat.reduceSub, Nat.reduceBEq, ↓reduceIte, bne_self_eq_false, Bool.and_false, Bool.false_and, Bool.true_or, Bool.false_or])
          | refine k_of (by assumption) ?_
          | refine tr_block ?_
          | refine tr_scope ?_
          | (refine tr_skip ?_; try simp only [ex_seq, ex_block])
          | (refine tr_label ?_; try simp only [ex_seq, ex_block])
          | (refine tr_exit ?_; try simp only [ex_seq_exit, ex_block_exit, Nat.reduceEqDiff, if_true, if_false, ex_seq, ex_block, reduceCtorEq, ↓reduceIte])
          | (refine tr_ret ?_; try simp only [ex_seq_ret, ex_block_ret]))
      refine (hQ _ _ [bA false] ?_ (fun m => ?_)).2 <;> simp only [go_sem, List.getElem?_toArray, str_beq, reduceCtorEq, Nat.reduceEqDiff, Nat.reduceLT, Nat.reduceLeDiff, Nat.reduceAdd, Nat.reduceMul, Nat.reduceSub, Nat.reduceBEq, ↓reduceIte, bne_self_eq_false, Bool.and_false, Bool.false_and, Bool.true_or, Bool.false_or, Try.f33, hr]
    · cases hf
  | true =>
    have hlen : a.length = b.length := by
      have := of_decide_eq_true h1
      omega
    refine does_of' Try.func33 rfl (by kernel_rfl) rfl Try.ntmps33 rfl rfl fun Q hQ => ?_
    repeat (first
        | refine tr_seq_k fun _ _ => ?_
        | (refine tr_region ?_; simp only [go_sem, List.getElem?_toArray, str_beq, reduceCtorEq, Nat.reduceEqDiff, Nat.reduceLT, Nat.reduceLeDiff, Nat.reduceAdd, Nat.reduceMul, Nat.reduceSub, Nat.reduceBEq, ↓reduceIte, bne_self_eq_false, Bool.and_false, Bool.false_and, Bool.true_or, Bool.false_or, h1])
        | (refine tr_drawC (id := 6) follows 10000 (by kernel_rfl) ?_; simp only [go_sem, List.getElem?_toArray, str_beq, reduceCtorEq, Nat.reduceEqDiff, Nat.reduceLT, Nat.reduceLeDiff, Nat.reduceAdd, Nat.reduceMul, Nat.reduceSub, Nat.reduceBEq, ↓reduceIte, bne_self_eq_false, Bool.and_false, Bool.false_and, Bool.true_or, Bool.false_or, h1])
        | refine k_of (by assumption) ?_
        | refine tr_block ?_
        | refine tr_scope ?_
        | (refine tr_skip ?_; try simp only [ex_seq, ex_block])
        | (refine tr_label ?_; try simp only [ex_seq, ex_block])
        | (refine tr_exit ?_; try simp only [ex_seq_exit, ex_block_exit, Nat.reduceEqDiff, if_true, if_false, ex_seq, ex_block, reduceCtorEq, ↓reduceIte])
        | (refine tr_ret ?_; try simp only [ex_seq_ret, ex_block_ret]))
    refine tr_cond rfl (fun ht => ?_) (fun hf => ?_)
    · cases ht
    · repeat (first
          | refine tr_seq_k fun _ _ => ?_
          | (refine tr_region ?_; simp only [go_sem, List.getElem?_toArray, str_beq, reduceCtorEq, Nat.reduceEqDiff, Nat.reduceLT, Nat.reduceLeDiff, Nat.reduceAdd, Nat.reduceMul, Nat.reduceSub, Nat.reduceBEq, ↓reduceIte, bne_self_eq_false, Bool.and_false, Bool.false_and, Bool.true_or, Bool.false_or])
          | (refine tr_drawC (id := 6) follows 10000 (by kernel_rfl) ?_; simp only [go_sem, List.getElem?_toArray, str_beq, reduceCtorEq, Nat.reduceEqDiff, Nat.reduceLT, Nat.reduceLeDiff, Nat.reduceAdd, Nat.reduceMul, Nat.reduceSub, Nat.reduceBEq, ↓reduceIte, bne_self_eq_false, Bool.and_false, Bool.false_and, Bool.true_or, Bool.false_or])
          | refine k_of (by assumption) ?_
          | refine tr_block ?_
          | refine tr_scope ?_
          | (refine tr_skip ?_; try simp only [ex_seq, ex_block])
          | (refine tr_label ?_; try simp only [ex_seq, ex_block])
          | (refine tr_exit ?_; try simp only [ex_seq_exit, ex_block_exit, Nat.reduceEqDiff, if_true, if_false, ex_seq, ex_block, reduceCtorEq, ↓reduceIte])
          | (refine tr_ret ?_; try simp only [ex_seq_ret, ex_block_ret]))
      refine tr_loop_k (σ := Nat) (fun k => [(0, slB ex a), (1, slB ex2 b), (5, iA k)]) (fun _ => ⟨[], []⟩)
        (fun k => k ≤ a.length ∧ a.take k = b.take k) (fun k => a.length - k) 0 ⟨Nat.zero_le _, rfl⟩ ⟨rfl, rfl, rfl, trivial⟩ rfl ?_
      rintro k ⟨hk, hp⟩ K hK
      repeat (first
          | refine tr_seq_k fun _ _ => ?_
          | (refine tr_region ?_; simp only [go_sem, List.getElem?_toArray, str_beq, reduceCtorEq, Nat.reduceEqDiff, Nat.reduceLT, Nat.reduceLeDiff, Nat.reduceAdd, Nat.reduceMul, Nat.reduceSub, Nat.reduceBEq, ↓reduceIte, bne_self_eq_false, Bool.and_false, Bool.false_and, Bool.true_or, Bool.false_or])
          | (refine tr_drawC (id := 6) follows 10000 (by kernel_rfl) ?_; simp only [go_sem, List.getElem?_toArray, str_beq, reduceCtorEq, Nat.reduceEqDiff, Nat.reduceLT, Nat.reduceLeDiff, Nat.reduceAdd, Nat.reduceMul, Nat.reduceSub, Nat.reduceBEq, ↓reduceIte, bne_self_eq_false, Bool.and_false, Bool.false_and, Bool.true_or, Bool.false_or])
          | refine k_of (by assumption) ?_
          | refine tr_block ?_
          | refine tr_scope ?_
          | (refine tr_skip ?_; try simp only [ex_seq, ex_block])
          | (refine tr_label ?_; try simp only [ex_seq, ex_block])
          | (refine tr_exit ?_; try simp only [ex_seq_exit, ex_block_exit, Nat.reduceEqDiff, if_true, if_false, ex_seq, ex_block, reduceCtorEq, ↓reduceIte])
          | (refine tr_ret ?_; try simp only [ex_seq_ret, ex_block_ret]))
      refine tr_cond rfl (fun ht => ?_) (fun hf => ?_)
      · have hlt : k < a.length := by simpa using ht
        have hlb : k < b.length := by omega
        have ws := wrap_succ (show k ≤ 1000000000 by omega)
        have nB := fun x y => bin_neB x y a[k] b[k]
        simp only [pv_bind] at nB
        cases h2 : decide (a[k] = b[k]) with
        | false =>
          rw [h2] at nB
          have hr : decide (a = b) = false := decide_eq_false fun e => of_decide_eq_false h2 (by subst e; rfl)
          repeat (first
              | refine tr_seq_k fun _ _ => ?_
              | (refine tr_region ?_; simp only [go_sem, List.getElem?_toArray, str_beq, reduceCtorEq, Nat.reduceEqDiff, Nat.reduceLT, Nat.reduceLeDiff, Nat.reduceAdd, Nat.reduceMul, Nat.reduceSub, Nat.reduceBEq, ↓reduceIte, bne_self_eq_false, Bool.and_false, Bool.false_and, Bool.true_or, Bool.false_or, idxB hlt, idxB hlb, nB])
              | (refine tr_drawC (id := 6) follows 10000 (by kernel_rfl) ?_; simp only [go_sem, List.getElem?_toArray, str_beq, reduceCtorEq, Nat.reduceEqDiff, Nat.reduceLT, Nat.reduceLeDiff, Nat.reduceAdd, Nat.reduceMul, Nat.reduceSub, Nat.reduceBEq, ↓reduceIte, bne_self_eq_false, Bool.and_false, Bool.false_and, Bool.true_or, Bool.false_or, idxB hlt, idxB hlb, nB])
              | refine k_of (by assumption) ?_
              | refine tr_block ?_
              | refine tr_scope ?_
              | (refine tr_skip ?_; try simp only [ex_seq, ex_block])
              | (refine tr_label ?_; try simp only [ex_seq, ex_block])
              | (refine tr_exit ?_; try simp only [ex_seq_exit, ex_block_exit, Nat.reduceEqDiff, if_true, if_false, ex_seq, ex_block, reduceCtorEq, ↓reduceIte])
              | (refine tr_ret ?_; try simp only [ex_seq_ret, ex_block_ret]))
          refine tr_cond rfl (fun ht => ?_) (fun hf => ?_)
          · repeat (first
                | refine tr_seq_k fun _ _ => ?_
                | (refine tr_region ?_; simp only [go_sem, List.getElem?_toArray, str_beq, reduceCtorEq, Nat.reduceEqDiff, Nat.reduceLT, Nat.reduceLeDiff, Nat.reduceAdd, Nat.reduceMul, Nat.reduceSub, Nat.reduceBEq, ↓reduceIte, bne_self_eq_false, Bool.and_false, Bool.false_and, Bool.true_or, Bool.false_or])
                | (refine tr_drawC (id := 6) follows 10000 (by kernel_rfl) ?_; simp only [go_sem, List.getElem?_toArray, str_beq, reduceCtorEq, Nat.reduceEqDiff, Nat.reduceLT, Nat.reduceLeDiff, Nat.reduceAdd, Nat.reduceMul, Nat.reduceSub, Nat.reduceBEq, ↓reduceIte, bne_self_eq_false, Bool.and_false, Bool.false_and, Bool.true_or, Bool.false_or])
                | refine k_of (by assumption) ?_
                | refine tr_block ?_
                | refine tr_scope ?_
                | (refine tr_skip ?_; try simp only [ex_seq, ex_block])
                | (refine tr_label ?_; try simp only [ex_seq, ex_block])
                | (refine tr_exit ?_; try simp only [ex_seq_exit, ex_block_exit, Nat.reduceEqDiff, if_true, if_false, ex_seq, ex_block, reduceCtorEq, ↓reduceIte])
                | (refine tr_ret ?_; try simp only [ex_seq_ret, ex_block_ret]))
            refine (hQ _ _ [bA false] ?_ (fun m => ?_)).2 <;> simp only [go_sem, List.getElem?_toArray, str_beq, reduceCtorEq, Nat.reduceEqDiff, Nat.reduceLT, Nat.reduceLeDiff, Nat.reduceAdd, Nat.reduceMul, Nat.reduceSub, Nat.reduceBEq, ↓reduceIte, bne_self_eq_false, Bool.and_false, Bool.false_and, Bool.true_or, Bool.false_or, Try.f33, hr]
          · cases hf
        | true =>
          rw [h2] at nB
          repeat (first
              | refine tr_seq_k fun _ _ => ?_
              | (refine tr_region ?_; simp only [go_sem, List.getElem?_toArray, str_beq, reduceCtorEq, Nat.reduceEqDiff, Nat.reduceLT, Nat.reduceLeDiff, Nat.reduceAdd, Nat.reduceMul, Nat.reduceSub, Nat.reduceBEq, ↓reduceIte, bne_self_eq_false, Bool.and_false, Bool.false_and, Bool.true_or, Bool.false_or, idxB hlt, idxB hlb, nB])
              | (refine tr_drawC (id := 6) follows 10000 (by kernel_rfl) ?_; simp only [go_sem, List.getElem?_toArray, str_beq, reduceCtorEq, Nat.reduceEqDiff, Nat.reduceLT, Nat.reduceLeDiff, Nat.reduceAdd, Nat.reduceMul, Nat.reduceSub, Nat.reduceBEq, ↓reduceIte, bne_self_eq_false, Bool.and_false, Bool.false_and, Bool.true_or, Bool.false_or, idxB hlt, idxB hlb, nB])
              | refine k_of (by assumption) ?_
              | refine tr_block ?_
              | refine tr_scope ?_
              | (refine tr_skip ?_; try simp only [ex_seq, ex_block])
              | (refine tr_label ?_; try simp only [ex_seq, ex_block])
              | (refine tr_exit ?_; try simp only [ex_seq_exit, ex_block_exit, Nat.reduceEqDiff, if_true, if_false, ex_seq, ex_block, reduceCtorEq, ↓reduceIte])
              | (refine tr_ret ?_; try simp only [ex_seq_ret, ex_block_ret]))
          refine tr_cond rfl (fun ht => ?_) (fun hf => ?_)
          · cases ht
          · repeat (first
                | refine tr_seq_k fun _ _ => ?_
                | (refine tr_region ?_; simp only [go_sem, List.getElem?_toArray, str_beq, reduceCtorEq, Nat.reduceEqDiff, Nat.reduceLT, Nat.reduceLeDiff, Nat.reduceAdd, Nat.reduceMul, Nat.reduceSub, Nat.reduceBEq, ↓reduceIte, bne_self_eq_false, Bool.and_false, Bool.false_and, Bool.true_or, Bool.false_or, ws])
                | (refine tr_drawC (id := 6) follows 10000 (by kernel_rfl) ?_; simp only [go_sem, List.getElem?_toArray, str_beq, reduceCtorEq, Nat.reduceEqDiff, Nat.reduceLT, Nat.reduceLeDiff, Nat.reduceAdd, Nat.reduceMul, Nat.reduceSub, Nat.reduceBEq, ↓reduceIte, bne_self_eq_false, Bool.and_false, Bool.false_and, Bool.true_or, Bool.false_or, ws])
                | refine k_of (by assumption) ?_
                | refine tr_block ?_
                | refine tr_scope ?_
                | (refine tr_skip ?_; try simp only [ex_seq, ex_block])
                | (refine tr_label ?_; try simp only [ex_seq, ex_block])
                | (refine tr_exit ?_; try simp only [ex_seq_exit, ex_block_exit, Nat.reduceEqDiff, if_true, if_false, ex_seq, ex_block, reduceCtorEq, ↓reduceIte])
                | (refine tr_ret ?_; try simp only [ex_seq_ret, ex_block_ret]))
            exact hK (k + 1) _ _ ⟨hlt, take_next_eq hlt hlb hp (of_decide_eq_true h2)⟩ ⟨⟨rfl, rfl, rfl, trivial⟩, Keep.refl _, rfl, rfl, Nat.le_refl _, Nat.le_refl _⟩ (by omega)
      · have hkl : k = a.length := by
          have := of_decide_eq_false hf
          omega
        have hr : decide (a = b) = true := by
          rw [hkl, List.take_length, hlen, List.take_length] at hp
          exact decide_eq_true hp
        repeat (first
            | refine tr_seq_k fun _ _ => ?_
            | (refine tr_region ?_; simp only [go_sem, List.getElem?_toArray, str_beq, reduceCtorEq, Nat.reduceEqDiff, Nat.reduceLT, Nat.reduceLeDiff, Nat.reduceAdd, Nat.reduceMul, Nat.reduceSub, Nat.reduceBEq, ↓reduceIte, bne_self_eq_false, Bool.and_false, Bool.false_and, Bool.true_or, Bool.false_or])
            | (refine tr_drawC (id := 6) follows 10000 (by kernel_rfl) ?_; simp only [go_sem, List.getElem?_toArray, str_beq, reduceCtorEq, Nat.reduceEqDiff, Nat.reduceLT, Nat.reduceLeDiff, Nat.reduceAdd, Nat.reduceMul, Nat.reduceSub, Nat.reduceBEq, ↓reduceIte, bne_self_eq_false, Bool.and_false, Bool.false_and, Bool.true_or, Bool.false_or])
            | refine k_of (by assumption) ?_
            | refine tr_block ?_
            | refine tr_scope ?_
            | (refine tr_skip ?_; try simp only [ex_seq, ex_block])
            | (refine tr_label ?_; try simp only [ex_seq, ex_block])
            | (refine tr_exit ?_; try simp only [ex_seq_exit, ex_block_exit, Nat.reduceEqDiff, if_true, if_false, ex_seq, ex_block, reduceCtorEq, ↓reduceIte])
            | (refine tr_ret ?_; try simp only [ex_seq_ret, ex_block_ret]))
        refine (hQ _ _ [bA true] ?_ (fun m => ?_)).2 <;> simp only [go_sem, List.getElem?_toArray, str_beq, reduceCtorEq, Nat.reduceEqDiff, Nat.reduceLT, Nat.reduceLeDiff, Nat.reduceAdd, Nat.reduceMul, Nat.reduceSub, Nat.reduceBEq, ↓reduceIte, bne_self_eq_false, Bool.and_false, Bool.false_and, Bool.true_or, Bool.false_or, Try.f33, hr]
theorem prestrict_next {l : List Bd} {V : List ByteArray} {k : Nat} (hk : k < l.length) : prestrict (l.take (k + 1)) V = if pin V l[k].var then prestrict (l.take k) V ++ [l[k]] else prestrict (l.take k) V := by
  unfold prestrict
  rw [List.take_succ_eq_append_getElem hk, List.filter_append]
  cases h : pin V l[k].var <;> simp [h]
theorem prestrict_len (l : List Bd) (V : List ByteArray) : (prestrict l V).length ≤ l.length := List.length_filter_le _ _
theorem r4restrict_does (l : List Bd) (xs : List ByteArray) (ex ex2 : Bool) (hl : l.length ≤ 100000) (hx : xs.length ≤ 1000000) : Does Try.prog 40 [slB ex l, slS ex2 xs] (fun m => (slB (prestrict l xs).isEmpty (prestrict l xs), m)) := by
  refine Does.shut (e := 36) (size := 3) ?_
  refine does_of' Try.func40 rfl (by kernel_rfl) rfl Try.ntmps40 rfl rfl fun Q hQ => ?_
  repeat (first
      | refine tr_seq_k fun _ _ => ?_
      | (refine tr_region ?_; simp only [go_sem, List.getElem?_toArray, str_beq, reduceCtorEq, Nat.reduceEqDiff, Nat.reduceLT, Nat.reduceLeDiff, Nat.reduceAdd, Nat.reduceMul, Nat.reduceSub, Nat.reduceBEq, ↓reduceIte, bne_self_eq_false, Bool.and_false, Bool.false_and, Bool.true_or, Bool.false_or])
      | (refine tr_drawC (id := 9) follows 10000 (by kernel_rfl) ?_; simp only [go_sem, List.getElem?_toArray, str_beq, reduceCtorEq, Nat.reduceEqDiff, Nat.reduceLT, Nat.reduceLeDiff, Nat.reduceAdd, Nat.reduceMul, Nat.reduceSub, Nat.reduceBEq, ↓reduceIte, bne_self_eq_false, Bool.and_false, Bool.false_and, Bool.true_or, Bool.false_or])
      | refine k_of (by assumption) ?_
      | refine tr_block ?_
      | refine tr_scope ?_
      | (refine tr_skip ?_; try simp only [ex_seq, ex_block])
      | (refine tr_label ?_; try simp only [ex_seq, ex_block])
      | (refine tr_exit ?_; try simp only [ex_seq_exit, ex_block_exit, Nat.reduceEqDiff, if_true, if_false, ex_seq, ex_block, reduceCtorEq, ↓reduceIte])
      | (refine tr_ret ?_; try simp only [ex_seq_ret, ex_block_ret]))
  refine tr_loop_k (σ := Nat) (fun k => [(0, slB ex l), (1, slS ex2 xs), (5, colA bdC 0 (prestrict (l.take k) xs)), (6, iA k)]) (fun k => ⟨[], colH 36 3 (prestrict (l.take k) xs)⟩)
    (fun k => k ≤ l.length) (fun k => l.length - k) 0 (Nat.zero_le _) ⟨rfl, rfl, rfl, rfl, trivial⟩ rfl ?_
  rintro k hk K hK
  repeat (first
      | refine tr_seq_k fun _ _ => ?_
      | (refine tr_region ?_; simp only [go_sem, List.getElem?_toArray, str_beq, reduceCtorEq, Nat.reduceEqDiff, Nat.reduceLT, Nat.reduceLeDiff, Nat.reduceAdd, Nat.reduceMul, Nat.reduceSub, Nat.reduceBEq, ↓reduceIte, bne_self_eq_false, Bool.and_false, Bool.false_and, Bool.true_or, Bool.false_or])
      | (refine tr_drawC (id := 9) follows 10000 (by kernel_rfl) ?_; simp only [go_sem, List.getElem?_toArray, str_beq, reduceCtorEq, Nat.reduceEqDiff, Nat.reduceLT, Nat.reduceLeDiff, Nat.reduceAdd, Nat.reduceMul, Nat.reduceSub, Nat.reduceBEq, ↓reduceIte, bne_self_eq_false, Bool.and_false, Bool.false_and, Bool.true_or, Bool.false_or])
      | refine k_of (by assumption) ?_
      | refine tr_block ?_
      | refine tr_scope ?_
      | (refine tr_skip ?_; try simp only [ex_seq, ex_block])
      | (refine tr_label ?_; try simp only [ex_seq, ex_block])
      | (refine tr_exit ?_; try simp only [ex_seq_exit, ex_block_exit, Nat.reduceEqDiff, if_true, if_false, ex_seq, ex_block, reduceCtorEq, ↓reduceIte])
      | (refine tr_ret ?_; try simp only [ex_seq_ret, ex_block_ret]))
  refine tr_cond rfl (fun ht => ?_) (fun hf => ?_)
  · have hlt : k < l.length := by simpa using ht
    have ws := wrap_succ (show k ≤ 1000000000 by omega)
    have hnx := prestrict_next (V := xs) hlt
    have hle := prestrict_len (l.take k) xs
    rw [List.length_take] at hle
    generalize hO : prestrict (l.take k) xs = O at *
    repeat (first
        | refine tr_seq_k fun _ _ => ?_
        | (refine tr_region ?_; simp only [go_sem, List.getElem?_toArray, str_beq, reduceCtorEq, Nat.reduceEqDiff, Nat.reduceLT, Nat.reduceLeDiff, Nat.reduceAdd, Nat.reduceMul, Nat.reduceSub, Nat.reduceBEq, ↓reduceIte, bne_self_eq_false, Bool.and_false, Bool.false_and, Bool.true_or, Bool.false_or])
        | (refine tr_drawC (id := 9) follows 10000 (by kernel_rfl) ?_; simp only [go_sem, List.getElem?_toArray, str_beq, reduceCtorEq, Nat.reduceEqDiff, Nat.reduceLT, Nat.reduceLeDiff, Nat.reduceAdd, Nat.reduceMul, Nat.reduceSub, Nat.reduceBEq, ↓reduceIte, bne_self_eq_false, Bool.and_false, Bool.false_and, Bool.true_or, Bool.false_or])
        | refine k_of (by assumption) ?_
        | refine tr_block ?_
        | refine tr_scope ?_
        | (refine tr_skip ?_; try simp only [ex_seq, ex_block])
        | (refine tr_label ?_; try simp only [ex_seq, ex_block])
        | (refine tr_exit ?_; try simp only [ex_seq_exit, ex_block_exit, Nat.reduceEqDiff, if_true, if_false, ex_seq, ex_block, reduceCtorEq, ↓reduceIte])
        | (refine tr_ret ?_; try simp only [ex_seq_ret, ex_block_ret]))
    refine tr_loop_k (σ := Nat) (fun j => [(0, slB ex l), (1, slS ex2 xs), (5, colA bdC 0 O), (6, iA k), (7, bA (pin (xs.take j) l[k].var)), (8, iA j)]) (fun _ => ⟨[], colH 36 3 O⟩)
      (fun j => j ≤ xs.length) (fun j => xs.length - j) 0 (Nat.zero_le _) ⟨rfl, rfl, rfl, rfl, rfl, rfl, trivial⟩ rfl ?_
    rintro j hj K2 hK2
    repeat (first
        | refine tr_seq_k fun _ _ => ?_
        | (refine tr_region ?_; simp only [go_sem, List.getElem?_toArray, str_beq, reduceCtorEq, Nat.reduceEqDiff, Nat.reduceLT, Nat.reduceLeDiff, Nat.reduceAdd, Nat.reduceMul, Nat.reduceSub, Nat.reduceBEq, ↓reduceIte, bne_self_eq_false, Bool.and_false, Bool.false_and, Bool.true_or, Bool.false_or])
        | (refine tr_drawC (id := 9) follows 10000 (by kernel_rfl) ?_; simp only [go_sem, List.getElem?_toArray, str_beq, reduceCtorEq, Nat.reduceEqDiff, Nat.reduceLT, Nat.reduceLeDiff, Nat.reduceAdd, Nat.reduceMul, Nat.reduceSub, Nat.reduceBEq, ↓reduceIte, bne_self_eq_false, Bool.and_false, Bool.false_and, Bool.true_or, Bool.false_or])
        | refine k_of (by assumption) ?_
        | refine tr_block ?_
        | refine tr_scope ?_
        | (refine tr_skip ?_; try simp only [ex_seq, ex_block])
        | (refine tr_label ?_; try simp only [ex_seq, ex_block])
        | (refine tr_exit ?_; try simp only [ex_seq_exit, ex_block_exit, Nat.reduceEqDiff, if_true, if_false, ex_seq, ex_block, reduceCtorEq, ↓reduceIte])
        | (refine tr_ret ?_; try simp only [ex_seq_ret, ex_block_ret]))
    refine tr_cond rfl (fun ht => ?_) (fun hf => ?_)
    · have hjl : j < xs.length := by simpa using ht
      have wj := wrap_succ (show j ≤ 1000000000 by omega)
      have hpn := pin_next (s := l[k].var) hjl
      cases hp : pin (xs.take j) l[k].var with
      | true =>
        rw [hp, Bool.true_or] at hpn
        repeat (first
            | refine tr_seq_k fun _ _ => ?_
            | (refine tr_region ?_; simp only [go_sem, List.getElem?_toArray, str_beq, reduceCtorEq, Nat.reduceEqDiff, Nat.reduceLT, Nat.reduceLeDiff, Nat.reduceAdd, Nat.reduceMul, Nat.reduceSub, Nat.reduceBEq, ↓reduceIte, bne_self_eq_false, Bool.and_false, Bool.false_and, Bool.true_or, Bool.false_or, wj])
            | (refine tr_drawC (id := 9) follows 10000 (by kernel_rfl) ?_; simp only [go_sem, List.getElem?_toArray, str_beq, reduceCtorEq, Nat.reduceEqDiff, Nat.reduceLT, Nat.reduceLeDiff, Nat.reduceAdd, Nat.reduceMul, Nat.reduceSub, Nat.reduceBEq, ↓reduceIte, bne_self_eq_false, Bool.and_false, Bool.false_and, Bool.true_or, Bool.false_or, wj])
            | refine k_of (by assumption) ?_
            | refine tr_block ?_
            | refine tr_scope ?_
            | (refine tr_skip ?_; try simp only [ex_seq, ex_block])
            | (refine tr_label ?_; try simp only [ex_seq, ex_block])
            | (refine tr_exit ?_; try simp only [ex_seq_exit, ex_block_exit, Nat.reduceEqDiff, if_true, if_false, ex_seq, ex_block, reduceCtorEq, ↓reduceIte])
            | (refine tr_ret ?_; try simp only [ex_seq_ret, ex_block_ret]))
        exact hK2 (j + 1) _ _ hjl ⟨⟨rfl, rfl, rfl, rfl, by rw [hpn]; rfl, rfl, trivial⟩, Keep.of (eh := []) (ew := []) rfl (List.append_nil _).symm, by simp only [lowF, low_col]; rfl, rfl, Nat.le_refl _, Nat.le_refl _⟩ (by omega)
      | false =>
        rw [hp, Bool.false_or] at hpn
        repeat (first
            | refine tr_seq_k fun _ _ => ?_
            | (refine tr_region ?_; simp only [go_sem, List.getElem?_toArray, str_beq, reduceCtorEq, Nat.reduceEqDiff, Nat.reduceLT, Nat.reduceLeDiff, Nat.reduceAdd, Nat.reduceMul, Nat.reduceSub, Nat.reduceBEq, ↓reduceIte, bne_self_eq_false, Bool.and_false, Bool.false_and, Bool.true_or, Bool.false_or, idxS hjl, idxB hlt, wj])
            | (refine tr_drawC (id := 9) follows 10000 (by kernel_rfl) ?_; simp only [go_sem, List.getElem?_toArray, str_beq, reduceCtorEq, Nat.reduceEqDiff, Nat.reduceLT, Nat.reduceLeDiff, Nat.reduceAdd, Nat.reduceMul, Nat.reduceSub, Nat.reduceBEq, ↓reduceIte, bne_self_eq_false, Bool.and_false, Bool.false_and, Bool.true_or, Bool.false_or, idxS hjl, idxB hlt, wj])
            | refine k_of (by assumption) ?_
            | refine tr_block ?_
            | refine tr_scope ?_
            | (refine tr_skip ?_; try simp only [ex_seq, ex_block])
            | (refine tr_label ?_; try simp only [ex_seq, ex_block])
            | (refine tr_exit ?_; try simp only [ex_seq_exit, ex_block_exit, Nat.reduceEqDiff, if_true, if_false, ex_seq, ex_block, reduceCtorEq, ↓reduceIte])
            | (refine tr_ret ?_; try simp only [ex_seq_ret, ex_block_ret]))
        exact hK2 (j + 1) _ _ hjl ⟨⟨rfl, rfl, rfl, rfl, by rw [hpn]; rfl, rfl, trivial⟩, Keep.of (eh := []) (ew := []) rfl (List.append_nil _).symm, by simp only [lowF, low_col]; rfl, rfl, Nat.le_refl _, Nat.le_refl _⟩ (by omega)
    · have hjl : j = xs.length := by
        have := of_decide_eq_false hf
        omega
      subst hjl
      rw [List.take_length]
      cases hp : pin xs l[k].var with
      | true =>
        rw [hp, if_pos rfl] at hnx
        have ap := fun hp => appB hp O l[k] (by omega)
        rw [← hnx] at ap
        repeat (first
            | refine tr_seq_k fun _ _ => ?_
            | (refine tr_region ?_; simp only [go_sem, List.getElem?_toArray, str_beq, reduceCtorEq, Nat.reduceEqDiff, Nat.reduceLT, Nat.reduceLeDiff, Nat.reduceAdd, Nat.reduceMul, Nat.reduceSub, Nat.reduceBEq, ↓reduceIte, bne_self_eq_false, Bool.and_false, Bool.false_and, Bool.true_or, Bool.false_or])
            | (refine tr_drawC (id := 9) follows 10000 (by kernel_rfl) ?_; simp only [go_sem, List.getElem?_toArray, str_beq, reduceCtorEq, Nat.reduceEqDiff, Nat.reduceLT, Nat.reduceLeDiff, Nat.reduceAdd, Nat.reduceMul, Nat.reduceSub, Nat.reduceBEq, ↓reduceIte, bne_self_eq_false, Bool.and_false, Bool.false_and, Bool.true_or, Bool.false_or])
            | refine k_of (by assumption) ?_
            | refine tr_block ?_
            | refine tr_scope ?_
            | (refine tr_skip ?_; try simp only [ex_seq, ex_block])
            | (refine tr_label ?_; try simp only [ex_seq, ex_block])
            | (refine tr_exit ?_; try simp only [ex_seq_exit, ex_block_exit, Nat.reduceEqDiff, if_true, if_false, ex_seq, ex_block, reduceCtorEq, ↓reduceIte])
            | (refine tr_ret ?_; try simp only [ex_seq_ret, ex_block_ret]))
        refine tr_cond rfl (fun ht => ?_) (fun hf => ?_)
        · repeat (first
              | refine tr_seq_k fun _ _ => ?_
              | (refine tr_region ?_; simp only [go_sem, List.getElem?_toArray, str_beq, reduceCtorEq, Nat.reduceEqDiff, Nat.reduceLT, Nat.reduceLeDiff, Nat.reduceAdd, Nat.reduceMul, Nat.reduceSub, Nat.reduceBEq, ↓reduceIte, bne_self_eq_false, Bool.and_false, Bool.false_and, Bool.true_or, Bool.false_or, idxB hlt, build1B', one_max, ap, ws])
              | (refine tr_drawC (id := 9) follows 10000 (by kernel_rfl) ?_; simp only [go_sem, List.getElem?_toArray, str_beq, reduceCtorEq, Nat.reduceEqDiff, Nat.reduceLT, Nat.reduceLeDiff, Nat.reduceAdd, Nat.reduceMul, Nat.reduceSub, Nat.reduceBEq, ↓reduceIte, bne_self_eq_false, Bool.and_false, Bool.false_and, Bool.true_or, Bool.false_or, idxB hlt, build1B', one_max, ap, ws])
              | refine k_of (by assumption) ?_
              | refine tr_block ?_
              | refine tr_scope ?_
              | (refine tr_skip ?_; try simp only [ex_seq, ex_block])
              | (refine tr_label ?_; try simp only [ex_seq, ex_block])
              | (refine tr_exit ?_; try simp only [ex_seq_exit, ex_block_exit, Nat.reduceEqDiff, if_true, if_false, ex_seq, ex_block, reduceCtorEq, ↓reduceIte])
              | (refine tr_ret ?_; try simp only [ex_seq_ret, ex_block_ret]))
          exact hK (k + 1) _ _ hlt ⟨⟨rfl, rfl, rfl, rfl, trivial⟩, Keep.of (eh := []) (ew := []) rfl (List.append_nil _).symm, by simp only [lowF, low_col]; rfl, rfl, Nat.le_refl _, Nat.zero_le _⟩ (by omega)
        · cases hf
      | false =>
        rw [hp] at hnx
        have hnx : prestrict (l.take (k + 1)) xs = O := hnx
        repeat (first
            | refine tr_seq_k fun _ _ => ?_
            | (refine tr_region ?_; simp only [go_sem, List.getElem?_toArray, str_beq, reduceCtorEq, Nat.reduceEqDiff, Nat.reduceLT, Nat.reduceLeDiff, Nat.reduceAdd, Nat.reduceMul, Nat.reduceSub, Nat.reduceBEq, ↓reduceIte, bne_self_eq_false, Bool.and_false, Bool.false_and, Bool.true_or, Bool.false_or])
            | (refine tr_drawC (id := 9) follows 10000 (by kernel_rfl) ?_; simp only [go_sem, List.getElem?_toArray, str_beq, reduceCtorEq, Nat.reduceEqDiff, Nat.reduceLT, Nat.reduceLeDiff, Nat.reduceAdd, Nat.reduceMul, Nat.reduceSub, Nat.reduceBEq, ↓reduceIte, bne_self_eq_false, Bool.and_false, Bool.false_and, Bool.true_or, Bool.false_or])
            | refine k_of (by assumption) ?_
            | refine tr_block ?_
            | refine tr_scope ?_
            | (refine tr_skip ?_; try simp only [ex_seq, ex_block])
            | (refine tr_label ?_; try simp only [ex_seq, ex_block])
            | (refine tr_exit ?_; try simp only [ex_seq_exit, ex_block_exit, Nat.reduceEqDiff, if_true, if_false, ex_seq, ex_block, reduceCtorEq, ↓reduceIte])
            | (refine tr_ret ?_; try simp only [ex_seq_ret, ex_block_ret]))
        refine tr_cond rfl (fun ht => ?_) (fun hf => ?_)
        · cases ht
        · repeat (first
              | refine tr_seq_k fun _ _ => ?_
              | (refine tr_region ?_; simp only [go_sem, List.getElem?_toArray, str_beq, reduceCtorEq, Nat.reduceEqDiff, Nat.reduceLT, Nat.reduceLeDiff, Nat.reduceAdd, Nat.reduceMul, Nat.reduceSub, Nat.reduceBEq, ↓reduceIte, bne_self_eq_false, Bool.and_false, Bool.false_and, Bool.true_or, Bool.false_or, ws])
              | (refine tr_drawC (id := 9) follows 10000 (by kernel_rfl) ?_; simp only [go_sem, List.getElem?_toArray, str_beq, reduceCtorEq, Nat.reduceEqDiff, Nat.reduceLT, Nat.reduceLeDiff, Nat.reduceAdd, Nat.reduceMul, Nat.reduceSub, Nat.reduceBEq, ↓reduceIte, bne_self_eq_false, Bool.and_false, Bool.false_and, Bool.true_or, Bool.false_or, ws])
              | refine k_of (by assumption) ?_
              | refine tr_block ?_
              | refine tr_scope ?_
              | (refine tr_skip ?_; try simp only [ex_seq, ex_block])
              | (refine tr_label ?_; try simp only [ex_seq, ex_block])
              | (refine tr_exit ?_; try simp only [ex_seq_exit, ex_block_exit, Nat.reduceEqDiff, if_true, if_false, ex_seq, ex_block, reduceCtorEq, ↓reduceIte])
              | (refine tr_ret ?_; try simp only [ex_seq_ret, ex_block_ret]))
          exact hK (k + 1) _ _ hlt ⟨⟨rfl, rfl, by rw [hnx]; rfl, rfl, trivial⟩, by rw [hnx]; exact Keep.of (eh := []) (ew := []) rfl (List.append_nil _).symm, by simp only [lowF, low_col]; rfl, rfl, Nat.le_refl _, Nat.zero_le _⟩ (by omega)
  · have hkl : k = l.length := by
      have := of_decide_eq_false hf
      omega
    subst hkl
    rw [List.take_length]
    repeat (first
        | refine tr_seq_k fun _ _ => ?_
        | (refine tr_region ?_; simp only [go_sem, List.getElem?_toArray, str_beq, reduceCtorEq, Nat.reduceEqDiff, Nat.reduceLT, Nat.reduceLeDiff, Nat.reduceAdd, Nat.reduceMul, Nat.reduceSub, Nat.reduceBEq, ↓reduceIte, bne_self_eq_false, Bool.and_false, Bool.false_and, Bool.true_or, Bool.false_or])
        | (refine tr_drawC (id := 9) follows 10000 (by kernel_rfl) ?_; simp only [go_sem, List.getElem?_toArray, str_beq, reduceCtorEq, Nat.reduceEqDiff, Nat.reduceLT, Nat.reduceLeDiff, Nat.reduceAdd, Nat.reduceMul, Nat.reduceSub, Nat.reduceBEq, ↓reduceIte, bne_self_eq_false, Bool.and_false, Bool.false_and, Bool.true_or, Bool.false_or])
        | refine k_of (by assumption) ?_
        | refine tr_block ?_
        | refine tr_scope ?_
        | (refine tr_skip ?_; try simp only [ex_seq, ex_block])
        | (refine tr_label ?_; try simp only [ex_seq, ex_block])
        | (refine tr_exit ?_; try simp only [ex_seq_exit, ex_block_exit, Nat.reduceEqDiff, if_true, if_false, ex_seq, ex_block, reduceCtorEq, ↓reduceIte])
        | (refine tr_ret ?_; try simp only [ex_seq_ret, ex_block_ret]))
    refine (hQ _ _ [colA bdC 0 (prestrict l xs)] ?_ (fun m => ret_col bdC 36 3 (prestrict l xs) _ m)).2 <;> simp only [go_sem, List.getElem?_toArray, str_beq, reduceCtorEq, Nat.reduceEqDiff, Nat.reduceLT, Nat.reduceLeDiff, Nat.reduceAdd, Nat.reduceMul, Nat.reduceSub, Nat.reduceBEq, ↓reduceIte, bne_self_eq_false, Bool.and_false, Bool.false_and, Bool.true_or, Bool.false_or, Try.f40]
end Go.Proofs.Ytkkkpbnehpfkkaa

/-
  Chapter 4: SubstCalls: the walk on abstract values.
-/
set_option linter.unusedSimpArgs false
set_option linter.unusedVariables false
namespace Go.Proofs.Ytkkkpbnehpfkkaa
open Go.Vs Go.Vs.Ab
set_option maxRecDepth 100000
set_option maxHeartbeats 8000000

theorem bin_bb4 (x y : Bool) : pureVal Try.prog (binOp .eql 4 (.bool x) (.bool y)) = some (.bool (x == y)) := by
  cases x <;> cases y <;> kernel_rfl
theorem pcR_len (a b : List Bd) (ha : a.length ≤ 20) (hb : b.length ≤ 20) : (pcR a b).length ≤ 40 := by
  unfold pcR
  split
  · rename_i h
    unfold pcE at h
    simp only [Bool.and_eq_true] at h
    have := (pcK_good h.1.1 h.1.2 b.length (Nat.le_refl _)).2.2
    rw [pcompK_all] at this
    omega
  · simp
theorem calls_does (a b : List Bd) (x : Atm) (v : ByteArray) (t : Tm) (vars : List ByteArray) (exa exb exv : Bool) : Does Try.prog 8 [slB exa a, slB exb b, atA x, sA v, tmA t, slS exv vars] (fun m => (bA true, m)) := by
  have hA := lightA_does x
  have la := lightBs_does a exa
  have lb := lightBs_does b exb
  have lt := lightTexts_does vars 20 2000 exv (by omega)
  cases h1 : lightBs a with
  | false =>
    rw [h1] at la
    refine does_of' Try.func8 rfl (by kernel_rfl) rfl Try.ntmps8 rfl rfl fun Q hQ => ?_
    repeat (first
        | refine tr_seq_k fun _ _ => ?_
        | (refine tr_region ?_; simp only [go_sem, List.getElem?_toArray, str_beq, reduceCtorEq, Nat.reduceEqDiff, Nat.reduceLT, Nat.reduceLeDiff, Nat.reduceAdd, Nat.reduceMul, Nat.reduceSub, Nat.reduceBEq, ↓reduceIte, bne_self_eq_false, Bool.and_false, Bool.false_and, Bool.true_or, Bool.false_or])
        | (refine tr_draw (id := 7) follows 10000 [1, 4] [0, 2, 3, 1, 4, 5, 6, 7, 8, 9] (by kernel_rfl) ?_; simp only [go_sem, List.getElem?_toArray, str_beq, reduceCtorEq, Nat.reduceEqDiff, Nat.reduceLT, Nat.reduceLeDiff, Nat.reduceAdd, Nat.reduceMul, Nat.reduceSub, Nat.reduceBEq, ↓reduceIte, bne_self_eq_false, Bool.and_false, Bool.false_and, Bool.true_or, Bool.false_or])
        | (refine tr_draw (id := 11) follows 10000 [11, 21, 30, 32, 38, 41, 47, 50, 55, 57, 60, 61] [0, 1, 2, 3, 4, 5, 6, 7, 8, 9, 10, 11, 12, 13, 14, 15, 16, 17, 18, 19, 20, 21, 22, 23, 24, 25, 26, 27, 28, 29, 31, 30, 32, 33, 34, 35, 36, 37, 39, 40, 38, 41, 42, 43, 44, 45, 46, 48, 49, 47, 50, 51, 52, 53, 54, 56, 58, 59, 55, 57, 60, 61, 62, 63] (by kernel_rfl) ?_; simp only [go_sem, List.getElem?_toArray, str_beq, reduceCtorEq, Nat.reduceEqDiff, Nat.reduceLT, Nat.reduceLeDiff, Nat.reduceAdd, Nat.reduceMul, Nat.reduceSub, Nat.reduceBEq, ↓reduceIte, bne_self_eq_false, Bool.and_false, Bool.false_and, Bool.true_or, Bool.false_or])
        | (refine call_of (lives_does) ?_ ?_
           · first | rfl | simp only [go_sem, List.getElem?_toArray, str_beq, reduceCtorEq, Nat.reduceEqDiff, Nat.reduceLT, Nat.reduceLeDiff, Nat.reduceAdd, Nat.reduceMul, Nat.reduceSub, Nat.reduceBEq, ↓reduceIte, bne_self_eq_false, Bool.and_false, Bool.false_and, Bool.true_or, Bool.false_or, shut_col]
           simp only [go_sem, List.getElem?_toArray, str_beq, reduceCtorEq, Nat.reduceEqDiff, Nat.reduceLT, Nat.reduceLeDiff, Nat.reduceAdd, Nat.reduceMul, Nat.reduceSub, Nat.reduceBEq, ↓reduceIte, bne_self_eq_false, Bool.and_false, Bool.false_and, Bool.true_or, Bool.false_or])
        | refine k_of (by assumption) ?_
        | refine tr_block ?_
        | refine tr_scope ?_
        | (refine tr_skip ?_; try simp only [ex_seq, ex_block])
        | (refine tr_label ?_; try simp only [ex_seq, ex_block])
        | (refine tr_exit ?_; try simp only [ex_seq_exit, ex_block_exit, Nat.reduceEqDiff, if_true, if_false, ex_seq, ex_block, reduceCtorEq, ↓reduceIte])
        | (refine tr_ret ?_; try simp only [ex_seq_ret, ex_block_ret]))
    refine tr_cond rfl (fun ht => ?_) (fun hf => ?_)
    · cases ht
    · repeat (first
          | refine tr_seq_k fun _ _ => ?_
          | (refine tr_region ?_; simp only [go_sem, List.getElem?_toArray, str_beq, reduceCtorEq, Nat.reduceEqDiff, Nat.reduceLT, Nat.reduceLeDiff, Nat.reduceAdd, Nat.reduceMul, Nat.reduceSub, Nat.reduceBEq, ↓reduceIte, bne_self_eq_false, Bool.and_false, Bool.false_and, Bool.true_or, Bool.false_or])
          | (refine tr_draw (id := 7) follows 10000 [1, 4] [0, 2, 3, 1, 4, 5, 6, 7, 8, 9] (by kernel_rfl) ?_; simp only [go_sem, List.getElem?_toArray, str_beq, reduceCtorEq, Nat.reduceEqDiff, Nat.reduceLT, Nat.reduceLeDiff, Nat.reduceAdd, Nat.reduceMul, Nat.reduceSub, Nat.reduceBEq, ↓reduceIte, bne_self_eq_false, Bool.and_false, Bool.false_and, Bool.true_or, Bool.false_or])
          | (refine tr_draw (id := 11) follows 10000 [11, 21, 30, 32, 38, 41, 47, 50, 55, 57, 60, 61] [0, 1, 2, 3, 4, 5, 6, 7, 8, 9, 10, 11, 12, 13, 14, 15, 16, 17, 18, 19, 20, 21, 22, 23, 24, 25, 26, 27, 28, 29, 31, 30, 32, 33, 34, 35, 36, 37, 39, 40, 38, 41, 42, 43, 44, 45, 46, 48, 49, 47, 50, 51, 52, 53, 54, 56, 58, 59, 55, 57, 60, 61, 62, 63] (by kernel_rfl) ?_; simp only [go_sem, List.getElem?_toArray, str_beq, reduceCtorEq, Nat.reduceEqDiff, Nat.reduceLT, Nat.reduceLeDiff, Nat.reduceAdd, Nat.reduceMul, Nat.reduceSub, Nat.reduceBEq, ↓reduceIte, bne_self_eq_false, Bool.and_false, Bool.false_and, Bool.true_or, Bool.false_or])
          | (refine call_of (la) ?_ ?_
             · first | rfl | simp only [go_sem, List.getElem?_toArray, str_beq, reduceCtorEq, Nat.reduceEqDiff, Nat.reduceLT, Nat.reduceLeDiff, Nat.reduceAdd, Nat.reduceMul, Nat.reduceSub, Nat.reduceBEq, ↓reduceIte, bne_self_eq_false, Bool.and_false, Bool.false_and, Bool.true_or, Bool.false_or, shut_col]
             simp only [go_sem, List.getElem?_toArray, str_beq, reduceCtorEq, Nat.reduceEqDiff, Nat.reduceLT, Nat.reduceLeDiff, Nat.reduceAdd, Nat.reduceMul, Nat.reduceSub, Nat.reduceBEq, ↓reduceIte, bne_self_eq_false, Bool.and_false, Bool.false_and, Bool.true_or, Bool.false_or])
          | refine k_of (by assumption) ?_
          | refine tr_block ?_
          | refine tr_scope ?_
          | (refine tr_skip ?_; try simp only [ex_seq, ex_block])
          | (refine tr_label ?_; try simp only [ex_seq, ex_block])
          | (refine tr_exit ?_; try simp only [ex_seq_exit, ex_block_exit, Nat.reduceEqDiff, if_true, if_false, ex_seq, ex_block, reduceCtorEq, ↓reduceIte])
          | (refine tr_ret ?_; try simp only [ex_seq_ret, ex_block_ret]))
      refine tr_cond rfl (fun ht => ?_) (fun hf => ?_)
      · repeat (first
            | refine tr_seq_k fun _ _ => ?_
            | (refine tr_region ?_; simp only [go_sem, List.getElem?_toArray, str_beq, reduceCtorEq, Nat.reduceEqDiff, Nat.reduceLT, Nat.reduceLeDiff, Nat.reduceAdd, Nat.reduceMul, Nat.reduceSub, Nat.reduceBEq, ↓reduceIte, bne_self_eq_false, Bool.and_false, Bool.false_and, Bool.true_or, Bool.false_or])
            | (refine tr_draw (id := 7) follows 10000 [1, 4] [0, 2, 3, 1, 4, 5, 6, 7, 8, 9] (by kernel_rfl) ?_; simp only [go_sem, List.getElem?_toArray, str_beq, reduceCtorEq, Nat.reduceEqDiff, Nat.reduceLT, Nat.reduceLeDiff, Nat.reduceAdd, Nat.reduceMul, Nat.reduceSub, Nat.reduceBEq, ↓reduceIte, bne_self_eq_false, Bool.and_false, Bool.false_and, Bool.true_or, Bool.false_or])
            | (refine tr_draw (id := 11) follows 10000 [11, 21, 30, 32, 38, 41, 47, 50, 55, 57, 60, 61] [0, 1, 2, 3, 4, 5, 6, 7, 8, 9, 10, 11, 12, 13, 14, 15, 16, 17, 18, 19, 20, 21, 22, 23, 24, 25, 26, 27, 28, 29, 31, 30, 32, 33, 34, 35, 36, 37, 39, 40, 38, 41, 42, 43, 44, 45, 46, 48, 49, 47, 50, 51, 52, 53, 54, 56, 58, 59, 55, 57, 60, 61, 62, 63] (by kernel_rfl) ?_; simp only [go_sem, List.getElem?_toArray, str_beq, reduceCtorEq, Nat.reduceEqDiff, Nat.reduceLT, Nat.reduceLeDiff, Nat.reduceAdd, Nat.reduceMul, Nat.reduceSub, Nat.reduceBEq, ↓reduceIte, bne_self_eq_false, Bool.and_false, Bool.false_and, Bool.true_or, Bool.false_or])
            | refine k_of (by assumption) ?_
            | refine tr_block ?_
            | refine tr_scope ?_
            | (refine tr_skip ?_; try simp only [ex_seq, ex_block])
            | (refine tr_label ?_; try simp only [ex_seq, ex_block])
            | (refine tr_exit ?_; try simp only [ex_seq_exit, ex_block_exit, Nat.reduceEqDiff, if_true, if_false, ex_seq, ex_block, reduceCtorEq, ↓reduceIte])
            | (refine tr_ret ?_; try simp only [ex_seq_ret, ex_block_ret]))
        refine (hQ _ _ [bA true] ?_ (fun m => rfl)).2 <;> simp only [go_sem, List.getElem?_toArray, str_beq, reduceCtorEq, Nat.reduceEqDiff, Nat.reduceLT, Nat.reduceLeDiff, Nat.reduceAdd, Nat.reduceMul, Nat.reduceSub, Nat.reduceBEq, ↓reduceIte, bne_self_eq_false, Bool.and_false, Bool.false_and, Bool.true_or, Bool.false_or, Try.f8]
      · cases hf
  | true =>
    rw [h1] at la
    cases h2 : lightBs b with
    | false =>
      rw [h2] at lb
      refine does_of' Try.func8 rfl (by kernel_rfl) rfl Try.ntmps8 rfl rfl fun Q hQ => ?_
      repeat (first
          | refine tr_seq_k fun _ _ => ?_
          | (refine tr_region ?_; simp only [go_sem, List.getElem?_toArray, str_beq, reduceCtorEq, Nat.reduceEqDiff, Nat.reduceLT, Nat.reduceLeDiff, Nat.reduceAdd, Nat.reduceMul, Nat.reduceSub, Nat.reduceBEq, ↓reduceIte, bne_self_eq_false, Bool.and_false, Bool.false_and, Bool.true_or, Bool.false_or])
          | (refine tr_draw (id := 7) follows 10000 [1, 4] [0, 2, 3, 1, 4, 5, 6, 7, 8, 9] (by kernel_rfl) ?_; simp only [go_sem, List.getElem?_toArray, str_beq, reduceCtorEq, Nat.reduceEqDiff, Nat.reduceLT, Nat.reduceLeDiff, Nat.reduceAdd, Nat.reduceMul, Nat.reduceSub, Nat.reduceBEq, ↓reduceIte, bne_self_eq_false, Bool.and_false, Bool.false_and, Bool.true_or, Bool.false_or])
          | (refine tr_draw (id := 11) follows 10000 [11, 21, 30, 32, 38, 41, 47, 50, 55, 57, 60, 61] [0, 1, 2, 3, 4, 5, 6, 7, 8, 9, 10, 11, 12, 13, 14, 15, 16, 17, 18, 19, 20, 21, 22, 23, 24, 25, 26, 27, 28, 29, 31, 30, 32, 33, 34, 35, 36, 37, 39, 40, 38, 41, 42, 43, 44, 45, 46, 48, 49, 47, 50, 51, 52, 53, 54, 56, 58, 59, 55, 57, 60, 61, 62, 63] (by kernel_rfl) ?_; simp only [go_sem, List.getElem?_toArray, str_beq, reduceCtorEq, Nat.reduceEqDiff, Nat.reduceLT, Nat.reduceLeDiff, Nat.reduceAdd, Nat.reduceMul, Nat.reduceSub, Nat.reduceBEq, ↓reduceIte, bne_self_eq_false, Bool.and_false, Bool.false_and, Bool.true_or, Bool.false_or])
          | (refine call_of (lives_does) ?_ ?_
             · first | rfl | simp only [go_sem, List.getElem?_toArray, str_beq, reduceCtorEq, Nat.reduceEqDiff, Nat.reduceLT, Nat.reduceLeDiff, Nat.reduceAdd, Nat.reduceMul, Nat.reduceSub, Nat.reduceBEq, ↓reduceIte, bne_self_eq_false, Bool.and_false, Bool.false_and, Bool.true_or, Bool.false_or, shut_col]
             simp only [go_sem, List.getElem?_toArray, str_beq, reduceCtorEq, Nat.reduceEqDiff, Nat.reduceLT, Nat.reduceLeDiff, Nat.reduceAdd, Nat.reduceMul, Nat.reduceSub, Nat.reduceBEq, ↓reduceIte, bne_self_eq_false, Bool.and_false, Bool.false_and, Bool.true_or, Bool.false_or])
          | refine k_of (by assumption) ?_
          | refine tr_block ?_
          | refine tr_scope ?_
          | (refine tr_skip ?_; try simp only [ex_seq, ex_block])
          | (refine tr_label ?_; try simp only [ex_seq, ex_block])
          | (refine tr_exit ?_; try simp only [ex_seq_exit, ex_block_exit, Nat.reduceEqDiff, if_true, if_false, ex_seq, ex_block, reduceCtorEq, ↓reduceIte])
          | (refine tr_ret ?_; try simp only [ex_seq_ret, ex_block_ret]))
      refine tr_cond rfl (fun ht => ?_) (fun hf => ?_)
      · cases ht
      · repeat (first
            | refine tr_seq_k fun _ _ => ?_
            | (refine tr_region ?_; simp only [go_sem, List.getElem?_toArray, str_beq, reduceCtorEq, Nat.reduceEqDiff, Nat.reduceLT, Nat.reduceLeDiff, Nat.reduceAdd, Nat.reduceMul, Nat.reduceSub, Nat.reduceBEq, ↓reduceIte, bne_self_eq_false, Bool.and_false, Bool.false_and, Bool.true_or, Bool.false_or])
            | (refine tr_draw (id := 7) follows 10000 [1, 4] [0, 2, 3, 1, 4, 5, 6, 7, 8, 9] (by kernel_rfl) ?_; simp only [go_sem, List.getElem?_toArray, str_beq, reduceCtorEq, Nat.reduceEqDiff, Nat.reduceLT, Nat.reduceLeDiff, Nat.reduceAdd, Nat.reduceMul, Nat.reduceSub, Nat.reduceBEq, ↓reduceIte, bne_self_eq_false, Bool.and_false, Bool.false_and, Bool.true_or, Bool.false_or])
            | (refine tr_draw (id := 11) follows 10000 [11, 21, 30, 32, 38, 41, 47, 50, 55, 57, 60, 61] [0, 1, 2, 3, 4, 5, 6, 7, 8, 9, 10, 11, 12, 13, 14, 15, 16, 17, 18, 19, 20, 21, 22, 23, 24, 25, 26, 27, 28, 29, 31, 30, 32, 33, 34, 35, 36, 37, 39, 40, 38, 41, 42, 43, 44, 45, 46, 48, 49, 47, 50, 51, 52, 53, 54, 56, 58, 59, 55, 57, 60, 61, 62, 63] (by kernel_rfl) ?_; simp only [go_sem, List.getElem?_toArray, str_beq, reduceCtorEq, Nat.reduceEqDiff, Nat.reduceLT, Nat.reduceLeDiff, Nat.reduceAdd, Nat.reduceMul, Nat.reduceSub, Nat.reduceBEq, ↓reduceIte, bne_self_eq_false, Bool.and_false, Bool.false_and, Bool.true_or, Bool.false_or])
            | (refine call_of (la) ?_ ?_
               · first | rfl | simp only [go_sem, List.getElem?_toArray, str_beq, reduceCtorEq, Nat.reduceEqDiff, Nat.reduceLT, Nat.reduceLeDiff, Nat.reduceAdd, Nat.reduceMul, Nat.reduceSub, Nat.reduceBEq, ↓reduceIte, bne_self_eq_false, Bool.and_false, Bool.false_and, Bool.true_or, Bool.false_or, shut_col]
               simp only [go_sem, List.getElem?_toArray, str_beq, reduceCtorEq, Nat.reduceEqDiff, Nat.reduceLT, Nat.reduceLeDiff, Nat.reduceAdd, Nat.reduceMul, Nat.reduceSub, Nat.reduceBEq, ↓reduceIte, bne_self_eq_false, Bool.and_false, Bool.false_and, Bool.true_or, Bool.false_or])
            | (refine call_of (lb) ?_ ?_
               · first | rfl | simp only [go_sem, List.getElem?_toArray, str_beq, reduceCtorEq, Nat.reduceEqDiff, Nat.reduceLT, Nat.reduceLeDiff, Nat.reduceAdd, Nat.reduceMul, Nat.reduceSub, Nat.reduceBEq, ↓reduceIte, bne_self_eq_false, Bool.and_false, Bool.false_and, Bool.true_or, Bool.false_or, shut_col]
               simp only [go_sem, List.getElem?_toArray, str_beq, reduceCtorEq, Nat.reduceEqDiff, Nat.reduceLT, Nat.reduceLeDiff, Nat.reduceAdd, Nat.reduceMul, Nat.reduceSub, Nat.reduceBEq, ↓reduceIte, bne_self_eq_false, Bool.and_false, Bool.false_and, Bool.true_or, Bool.false_or])
            | refine k_of (by assumption) ?_
            | refine tr_block ?_
            | refine tr_scope ?_
            | (refine tr_skip ?_; try simp only [ex_seq, ex_block])
            | (refine tr_label ?_; try simp only [ex_seq, ex_block])
            | (refine tr_exit ?_; try simp only [ex_seq_exit, ex_block_exit, Nat.reduceEqDiff, if_true, if_false, ex_seq, ex_block, reduceCtorEq, ↓reduceIte])
            | (refine tr_ret ?_; try simp only [ex_seq_ret, ex_block_ret]))
        refine tr_cond rfl (fun ht => ?_) (fun hf => ?_)
        · repeat (first
              | refine tr_seq_k fun _ _ => ?_
              | (refine tr_region ?_; simp only [go_sem, List.getElem?_toArray, str_beq, reduceCtorEq, Nat.reduceEqDiff, Nat.reduceLT, Nat.reduceLeDiff, Nat.reduceAdd, Nat.reduceMul, Nat.reduceSub, Nat.reduceBEq, ↓reduceIte, bne_self_eq_false, Bool.and_false, Bool.false_and, Bool.true_or, Bool.false_or])
              | (refine tr_draw (id := 7) follows 10000 [1, 4] [0, 2, 3, 1, 4, 5, 6, 7, 8, 9] (by kernel_rfl) ?_; simp only [go_sem, List.getElem?_toArray, str_beq, reduceCtorEq, Nat.reduceEqDiff, Nat.reduceLT, Nat.reduceLeDiff, Nat.reduceAdd, Nat.reduceMul, Nat.reduceSub, Nat.reduceBEq, ↓reduceIte, bne_self_eq_false, Bool.and_false, Bool.false_and, Bool.true_or, Bool.false_or])
              | (refine tr_draw (id := 11) follows 10000 [11, 21, 30, 32, 38, 41, 47, 50, 55, 57, 60, 61] [0, 1, 2, 3, 4, 5, 6, 7, 8, 9, 10, 11, 12, 13, 14, 15, 16, 17, 18, 19, 20, 21, 22, 23, 24, 25, 26, 27, 28, 29, 31, 30, 32, 33, 34, 35, 36, 37, 39, 40, 38, 41, 42, 43, 44, 45, 46, 48, 49, 47, 50, 51, 52, 53, 54, 56, 58, 59, 55, 57, 60, 61, 62, 63] (by kernel_rfl) ?_; simp only [go_sem, List.getElem?_toArray, str_beq, reduceCtorEq, Nat.reduceEqDiff, Nat.reduceLT, Nat.reduceLeDiff, Nat.reduceAdd, Nat.reduceMul, Nat.reduceSub, Nat.reduceBEq, ↓reduceIte, bne_self_eq_false, Bool.and_false, Bool.false_and, Bool.true_or, Bool.false_or])
              | refine k_of (by assumption) ?_
              | refine tr_block ?_
              | refine tr_scope ?_
              | (refine tr_skip ?_; try simp only [ex_seq, ex_block])
              | (refine tr_label ?_; try simp only [ex_seq, ex_block])
              | (refine tr_exit ?_; try simp only [ex_seq_exit, ex_block_exit, Nat.reduceEqDiff, if_true, if_false, ex_seq, ex_block, reduceCtorEq, ↓reduceIte])
              | (refine tr_ret ?_; try simp only [ex_seq_ret, ex_block_ret]))
          refine (hQ _ _ [bA true] ?_ (fun m => rfl)).2 <;> simp only [go_sem, List.getElem?_toArray, str_beq, reduceCtorEq, Nat.reduceEqDiff, Nat.reduceLT, Nat.reduceLeDiff, Nat.reduceAdd, Nat.reduceMul, Nat.reduceSub, Nat.reduceBEq, ↓reduceIte, bne_self_eq_false, Bool.and_false, Bool.false_and, Bool.true_or, Bool.false_or, Try.f8]
        · cases hf
    | true =>
      rw [h2] at lb
      cases h3 : lightA x with
      | false =>
        rw [h3] at hA
        refine does_of' Try.func8 rfl (by kernel_rfl) rfl Try.ntmps8 rfl rfl fun Q hQ => ?_
        repeat (first
            | refine tr_seq_k fun _ _ => ?_
            | (refine tr_region ?_; simp only [go_sem, List.getElem?_toArray, str_beq, reduceCtorEq, Nat.reduceEqDiff, Nat.reduceLT, Nat.reduceLeDiff, Nat.reduceAdd, Nat.reduceMul, Nat.reduceSub, Nat.reduceBEq, ↓reduceIte, bne_self_eq_false, Bool.and_false, Bool.false_and, Bool.true_or, Bool.false_or])
            | (refine tr_draw (id := 7) follows 10000 [1, 4] [0, 2, 3, 1, 4, 5, 6, 7, 8, 9] (by kernel_rfl) ?_; simp only [go_sem, List.getElem?_toArray, str_beq, reduceCtorEq, Nat.reduceEqDiff, Nat.reduceLT, Nat.reduceLeDiff, Nat.reduceAdd, Nat.reduceMul, Nat.reduceSub, Nat.reduceBEq, ↓reduceIte, bne_self_eq_false, Bool.and_false, Bool.false_and, Bool.true_or, Bool.false_or])
            | (refine tr_draw (id := 11) follows 10000 [11, 21, 30, 32, 38, 41, 47, 50, 55, 57, 60, 61] [0, 1, 2, 3, 4, 5, 6, 7, 8, 9, 10, 11, 12, 13, 14, 15, 16, 17, 18, 19, 20, 21, 22, 23, 24, 25, 26, 27, 28, 29, 31, 30, 32, 33, 34, 35, 36, 37, 39, 40, 38, 41, 42, 43, 44, 45, 46, 48, 49, 47, 50, 51, 52, 53, 54, 56, 58, 59, 55, 57, 60, 61, 62, 63] (by kernel_rfl) ?_; simp only [go_sem, List.getElem?_toArray, str_beq, reduceCtorEq, Nat.reduceEqDiff, Nat.reduceLT, Nat.reduceLeDiff, Nat.reduceAdd, Nat.reduceMul, Nat.reduceSub, Nat.reduceBEq, ↓reduceIte, bne_self_eq_false, Bool.and_false, Bool.false_and, Bool.true_or, Bool.false_or])
            | (refine call_of (lives_does) ?_ ?_
               · first | rfl | simp only [go_sem, List.getElem?_toArray, str_beq, reduceCtorEq, Nat.reduceEqDiff, Nat.reduceLT, Nat.reduceLeDiff, Nat.reduceAdd, Nat.reduceMul, Nat.reduceSub, Nat.reduceBEq, ↓reduceIte, bne_self_eq_false, Bool.and_false, Bool.false_and, Bool.true_or, Bool.false_or, shut_col]
               simp only [go_sem, List.getElem?_toArray, str_beq, reduceCtorEq, Nat.reduceEqDiff, Nat.reduceLT, Nat.reduceLeDiff, Nat.reduceAdd, Nat.reduceMul, Nat.reduceSub, Nat.reduceBEq, ↓reduceIte, bne_self_eq_false, Bool.and_false, Bool.false_and, Bool.true_or, Bool.false_or])
            | refine k_of (by assumption) ?_
            | refine tr_block ?_
            | refine tr_scope ?_
            | (refine tr_skip ?_; try simp only [ex_seq, ex_block])
            | (refine tr_label ?_; try simp only [ex_seq, ex_block])
            | (refine tr_exit ?_; try simp only [ex_seq_exit, ex_block_exit, Nat.reduceEqDiff, if_true, if_false, ex_seq, ex_block, reduceCtorEq, ↓reduceIte])
            | (refine tr_ret ?_; try simp only [ex_seq_ret, ex_block_ret]))
        refine tr_cond rfl (fun ht => ?_) (fun hf => ?_)
        · cases ht
        · repeat (first
              | refine tr_seq_k fun _ _ => ?_
              | (refine tr_region ?_; simp only [go_sem, List.getElem?_toArray, str_beq, reduceCtorEq, Nat.reduceEqDiff, Nat.reduceLT, Nat.reduceLeDiff, Nat.reduceAdd, Nat.reduceMul, Nat.reduceSub, Nat.reduceBEq, ↓reduceIte, bne_self_eq_false, Bool.and_false, Bool.false_and, Bool.true_or, Bool.false_or])
              | (refine tr_draw (id := 7) follows 10000 [1, 4] [0, 2, 3, 1, 4, 5, 6, 7, 8, 9] (by kernel_rfl) ?_; simp only [go_sem, List.getElem?_toArray, str_beq, reduceCtorEq, Nat.reduceEqDiff, Nat.reduceLT, Nat.reduceLeDiff, Nat.reduceAdd, Nat.reduceMul, Nat.reduceSub, Nat.reduceBEq, ↓reduceIte, bne_self_eq_false, Bool.and_false, Bool.false_and, Bool.true_or, Bool.false_or])
              | (refine tr_draw (id := 11) follows 10000 [11, 21, 30, 32, 38, 41, 47, 50, 55, 57, 60, 61] [0, 1, 2, 3, 4, 5, 6, 7, 8, 9, 10, 11, 12, 13, 14, 15, 16, 17, 18, 19, 20, 21, 22, 23, 24, 25, 26, 27, 28, 29, 31, 30, 32, 33, 34, 35, 36, 37, 39, 40, 38, 41, 42, 43, 44, 45, 46, 48, 49, 47, 50, 51, 52, 53, 54, 56, 58, 59, 55, 57, 60, 61, 62, 63] (by kernel_rfl) ?_; simp only [go_sem, List.getElem?_toArray, str_beq, reduceCtorEq, Nat.reduceEqDiff, Nat.reduceLT, Nat.reduceLeDiff, Nat.reduceAdd, Nat.reduceMul, Nat.reduceSub, Nat.reduceBEq, ↓reduceIte, bne_self_eq_false, Bool.and_false, Bool.false_and, Bool.true_or, Bool.false_or])
              | (refine call_of (la) ?_ ?_
                 · first | rfl | simp only [go_sem, List.getElem?_toArray, str_beq, reduceCtorEq, Nat.reduceEqDiff, Nat.reduceLT, Nat.reduceLeDiff, Nat.reduceAdd, Nat.reduceMul, Nat.reduceSub, Nat.reduceBEq, ↓reduceIte, bne_self_eq_false, Bool.and_false, Bool.false_and, Bool.true_or, Bool.false_or, shut_col]
                 simp only [go_sem, List.getElem?_toArray, str_beq, reduceCtorEq, Nat.reduceEqDiff, Nat.reduceLT, Nat.reduceLeDiff, Nat.reduceAdd, Nat.reduceMul, Nat.reduceSub, Nat.reduceBEq, ↓reduceIte, bne_self_eq_false, Bool.and_false, Bool.false_and, Bool.true_or, Bool.false_or])
              | (refine call_of (lb) ?_ ?_
                 · first | rfl | simp only [go_sem, List.getElem?_toArray, str_beq, reduceCtorEq, Nat.reduceEqDiff, Nat.reduceLT, Nat.reduceLeDiff, Nat.reduceAdd, Nat.reduceMul, Nat.reduceSub, Nat.reduceBEq, ↓reduceIte, bne_self_eq_false, Bool.and_false, Bool.false_and, Bool.true_or, Bool.false_or, shut_col]
                 simp only [go_sem, List.getElem?_toArray, str_beq, reduceCtorEq, Nat.reduceEqDiff, Nat.reduceLT, Nat.reduceLeDiff, Nat.reduceAdd, Nat.reduceMul, Nat.reduceSub, Nat.reduceBEq, ↓reduceIte, bne_self_eq_false, Bool.and_false, Bool.false_and, Bool.true_or, Bool.false_or])
              | (refine call_of (hA) ?_ ?_
                 · first | rfl | simp only [go_sem, List.getElem?_toArray, str_beq, reduceCtorEq, Nat.reduceEqDiff, Nat.reduceLT, Nat.reduceLeDiff, Nat.reduceAdd, Nat.reduceMul, Nat.reduceSub, Nat.reduceBEq, ↓reduceIte, bne_self_eq_false, Bool.and_false, Bool.false_and, Bool.true_or, Bool.false_or, shut_col]
                 simp only [go_sem, List.getElem?_toArray, str_beq, reduceCtorEq, Nat.reduceEqDiff, Nat.reduceLT, Nat.reduceLeDiff, Nat.reduceAdd, Nat.reduceMul, Nat.reduceSub, Nat.reduceBEq, ↓reduceIte, bne_self_eq_false, Bool.and_false, Bool.false_and, Bool.true_or, Bool.false_or])
              | refine k_of (by assumption) ?_
              | refine tr_block ?_
              | refine tr_scope ?_
              | (refine tr_skip ?_; try simp only [ex_seq, ex_block])
              | (refine tr_label ?_; try simp only [ex_seq, ex_block])
              | (refine tr_exit ?_; try simp only [ex_seq_exit, ex_block_exit, Nat.reduceEqDiff, if_true, if_false, ex_seq, ex_block, reduceCtorEq, ↓reduceIte])
              | (refine tr_ret ?_; try simp only [ex_seq_ret, ex_block_ret]))
          refine tr_cond rfl (fun ht => ?_) (fun hf => ?_)
          · repeat (first
                | refine tr_seq_k fun _ _ => ?_
                | (refine tr_region ?_; simp only [go_sem, List.getElem?_toArray, str_beq, reduceCtorEq, Nat.reduceEqDiff, Nat.reduceLT, Nat.reduceLeDiff, Nat.reduceAdd, Nat.reduceMul, Nat.reduceSub, Nat.reduceBEq, ↓reduceIte, bne_self_eq_false, Bool.and_false, Bool.false_and, Bool.true_or, Bool.false_or])
                | (refine tr_draw (id := 7) follows 10000 [1, 4] [0, 2, 3, 1, 4, 5, 6, 7, 8, 9] (by kernel_rfl) ?_; simp only [go_sem, List.getElem?_toArray, str_beq, reduceCtorEq, Nat.reduceEqDiff, Nat.reduceLT, Nat.reduceLeDiff, Nat.reduceAdd, Nat.reduceMul, Nat.reduceSub, Nat.reduceBEq, ↓reduceIte, bne_self_eq_false, Bool.and_false, Bool.false_and, Bool.true_or, Bool.false_or])
                | (refine tr_draw (id := 11) follows 10000 [11, 21, 30, 32, 38, 41, 47, 50, 55, 57, 60, 61] [0, 1, 2, 3, 4, 5, 6, 7, 8, 9, 10, 11, 12, 13, 14, 15, 16, 17, 18, 19, 20, 21, 22, 23, 24, 25, 26, 27, 28, 29, 31, 30, 32, 33, 34, 35, 36, 37, 39, 40, 38, 41, 42, 43, 44, 45, 46, 48, 49, 47, 50, 51, 52, 53, 54, 56, 58, 59, 55, 57, 60, 61, 62, 63] (by kernel_rfl) ?_; simp only [go_sem, List.getElem?_toArray, str_beq, reduceCtorEq, Nat.reduceEqDiff, Nat.reduceLT, Nat.reduceLeDiff, Nat.reduceAdd, Nat.reduceMul, Nat.reduceSub, Nat.reduceBEq, ↓reduceIte, bne_self_eq_false, Bool.and_false, Bool.false_and, Bool.true_or, Bool.false_or])
                | refine k_of (by assumption) ?_
                | refine tr_block ?_
                | refine tr_scope ?_
                | (refine tr_skip ?_; try simp only [ex_seq, ex_block])
                | (refine tr_label ?_; try simp only [ex_seq, ex_block])
                | (refine tr_exit ?_; try simp only [ex_seq_exit, ex_block_exit, Nat.reduceEqDiff, if_true, if_false, ex_seq, ex_block, reduceCtorEq, ↓reduceIte])
                | (refine tr_ret ?_; try simp only [ex_seq_ret, ex_block_ret]))
            refine (hQ _ _ [bA true] ?_ (fun m => rfl)).2 <;> simp only [go_sem, List.getElem?_toArray, str_beq, reduceCtorEq, Nat.reduceEqDiff, Nat.reduceLT, Nat.reduceLeDiff, Nat.reduceAdd, Nat.reduceMul, Nat.reduceSub, Nat.reduceBEq, ↓reduceIte, bne_self_eq_false, Bool.and_false, Bool.false_and, Bool.true_or, Bool.false_or, Try.f8]
          · cases hf
      | true =>
        rw [h3] at hA
        cases h4 : decide ((v.size : Int) > 300) with
        | true =>
          refine does_of' Try.func8 rfl (by kernel_rfl) rfl Try.ntmps8 rfl rfl fun Q hQ => ?_
          repeat (first
              | refine tr_seq_k fun _ _ => ?_
              | (refine tr_region ?_; simp only [go_sem, List.getElem?_toArray, str_beq, reduceCtorEq, Nat.reduceEqDiff, Nat.reduceLT, Nat.reduceLeDiff, Nat.reduceAdd, Nat.reduceMul, Nat.reduceSub, Nat.reduceBEq, ↓reduceIte, bne_self_eq_false, Bool.and_false, Bool.false_and, Bool.true_or, Bool.false_or])
              | (refine tr_draw (id := 7) follows 10000 [1, 4] [0, 2, 3, 1, 4, 5, 6, 7, 8, 9] (by kernel_rfl) ?_; simp only [go_sem, List.getElem?_toArray, str_beq, reduceCtorEq, Nat.reduceEqDiff, Nat.reduceLT, Nat.reduceLeDiff, Nat.reduceAdd, Nat.reduceMul, Nat.reduceSub, Nat.reduceBEq, ↓reduceIte, bne_self_eq_false, Bool.and_false, Bool.false_and, Bool.true_or, Bool.false_or])
              | (refine tr_draw (id := 11) follows 10000 [11, 21, 30, 32, 38, 41, 47, 50, 55, 57, 60, 61] [0, 1, 2, 3, 4, 5, 6, 7, 8, 9, 10, 11, 12, 13, 14, 15, 16, 17, 18, 19, 20, 21, 22, 23, 24, 25, 26, 27, 28, 29, 31, 30, 32, 33, 34, 35, 36, 37, 39, 40, 38, 41, 42, 43, 44, 45, 46, 48, 49, 47, 50, 51, 52, 53, 54, 56, 58, 59, 55, 57, 60, 61, 62, 63] (by kernel_rfl) ?_; simp only [go_sem, List.getElem?_toArray, str_beq, reduceCtorEq, Nat.reduceEqDiff, Nat.reduceLT, Nat.reduceLeDiff, Nat.reduceAdd, Nat.reduceMul, Nat.reduceSub, Nat.reduceBEq, ↓reduceIte, bne_self_eq_false, Bool.and_false, Bool.false_and, Bool.true_or, Bool.false_or])
              | (refine call_of (lives_does) ?_ ?_
                 · first | rfl | simp only [go_sem, List.getElem?_toArray, str_beq, reduceCtorEq, Nat.reduceEqDiff, Nat.reduceLT, Nat.reduceLeDiff, Nat.reduceAdd, Nat.reduceMul, Nat.reduceSub, Nat.reduceBEq, ↓reduceIte, bne_self_eq_false, Bool.and_false, Bool.false_and, Bool.true_or, Bool.false_or, shut_col]
                 simp only [go_sem, List.getElem?_toArray, str_beq, reduceCtorEq, Nat.reduceEqDiff, Nat.reduceLT, Nat.reduceLeDiff, Nat.reduceAdd, Nat.reduceMul, Nat.reduceSub, Nat.reduceBEq, ↓reduceIte, bne_self_eq_false, Bool.and_false, Bool.false_and, Bool.true_or, Bool.false_or])
              | refine k_of (by assumption) ?_
              | refine tr_block ?_
              | refine tr_scope ?_
              | (refine tr_skip ?_; try simp only [ex_seq, ex_block])
              | (refine tr_label ?_; try simp only [ex_seq, ex_block])
              | (refine tr_exit ?_; try simp only [ex_seq_exit, ex_block_exit, Nat.reduceEqDiff, if_true, if_false, ex_seq, ex_block, reduceCtorEq, ↓reduceIte])
              | (refine tr_ret ?_; try simp only [ex_seq_ret, ex_block_ret]))
          refine tr_cond rfl (fun ht => ?_) (fun hf => ?_)
          · cases ht
          · repeat (first
                | refine tr_seq_k fun _ _ => ?_
                | (refine tr_region ?_; simp only [go_sem, List.getElem?_toArray, str_beq, reduceCtorEq, Nat.reduceEqDiff, Nat.reduceLT, Nat.reduceLeDiff, Nat.reduceAdd, Nat.reduceMul, Nat.reduceSub, Nat.reduceBEq, ↓reduceIte, bne_self_eq_false, Bool.and_false, Bool.false_and, Bool.true_or, Bool.false_or, h4])
                | (refine tr_draw (id := 7) follows 10000 [1, 4] [0, 2, 3, 1, 4, 5, 6, 7, 8, 9] (by kernel_rfl) ?_; simp only [go_sem, List.getElem?_toArray, str_beq, reduceCtorEq, Nat.reduceEqDiff, Nat.reduceLT, Nat.reduceLeDiff, Nat.reduceAdd, Nat.reduceMul, Nat.reduceSub, Nat.reduceBEq, ↓reduceIte, bne_self_eq_false, Bool.and_false, Bool.false_and, Bool.true_or, Bool.false_or, h4])
                | (refine tr_draw (id := 11) follows 10000 [11, 21, 30, 32, 38, 41, 47, 50, 55, 57, 60, 61] [0, 1, 2, 3, 4, 5, 6, 7, 8, 9, 10, 11, 12, 13, 14, 15, 16, 17, 18, 19, 20, 21, 22, 23, 24, 25, 26, 27, 28, 29, 31, 30, 32, 33, 34, 35, 36, 37, 39, 40, 38, 41, 42, 43, 44, 45, 46, 48, 49, 47, 50, 51, 52, 53, 54, 56, 58, 59, 55, 57, 60, 61, 62, 63] (by kernel_rfl) ?_; simp only [go_sem, List.getElem?_toArray, str_beq, reduceCtorEq, Nat.reduceEqDiff, Nat.reduceLT, Nat.reduceLeDiff, Nat.reduceAdd, Nat.reduceMul, Nat.reduceSub, Nat.reduceBEq, ↓reduceIte, bne_self_eq_false, Bool.and_false, Bool.false_and, Bool.true_or, Bool.false_or, h4])
                | (refine call_of (la) ?_ ?_
                   · first | rfl | simp only [go_sem, List.getElem?_toArray, str_beq, reduceCtorEq, Nat.reduceEqDiff, Nat.reduceLT, Nat.reduceLeDiff, Nat.reduceAdd, Nat.reduceMul, Nat.reduceSub, Nat.reduceBEq, ↓reduceIte, bne_self_eq_false, Bool.and_false, Bool.false_and, Bool.true_or, Bool.false_or, h4, shut_col]
                   simp only [go_sem, List.getElem?_toArray, str_beq, reduceCtorEq, Nat.reduceEqDiff, Nat.reduceLT, Nat.reduceLeDiff, Nat.reduceAdd, Nat.reduceMul, Nat.reduceSub, Nat.reduceBEq, ↓reduceIte, bne_self_eq_false, Bool.and_false, Bool.false_and, Bool.true_or, Bool.false_or, h4])
                | (refine call_of (lb) ?_ ?_
                   · first | rfl | simp only [go_sem, List.getElem?_toArray, str_beq, reduceCtorEq, Nat.reduceEqDiff, Nat.reduceLT, Nat.reduceLeDiff, Nat.reduceAdd, Nat.reduceMul, Nat.reduceSub, Nat.reduceBEq, ↓reduceIte, bne_self_eq_false, Bool.and_false, Bool.false_and, Bool.true_or, Bool.false_or, h4, shut_col]
                   simp only [go_sem, List.getElem?_toArray, str_beq, reduceCtorEq, Nat.reduceEqDiff, Nat.reduceLT, Nat.reduceLeDiff, Nat.reduceAdd, Nat.reduceMul, Nat.reduceSub, Nat.reduceBEq, ↓reduceIte, bne_self_eq_false, Bool.and_false, Bool.false_and, Bool.true_or, Bool.false_or, h4])
                | (refine call_of (hA) ?_ ?_
                   · first | rfl | simp only [go_sem, List.getElem?_toArray, str_beq, reduceCtorEq, Nat.reduceEqDiff, Nat.reduceLT, Nat.reduceLeDiff, Nat.reduceAdd, Nat.reduceMul, Nat.reduceSub, Nat.reduceBEq, ↓reduceIte, bne_self_eq_false, Bool.and_false, Bool.false_and, Bool.true_or, Bool.false_or, h4, shut_col]
                   simp only [go_sem, List.getElem?_toArray, str_beq, reduceCtorEq, Nat.reduceEqDiff, Nat.reduceLT, Nat.reduceLeDiff, Nat.reduceAdd, Nat.reduceMul, Nat.reduceSub, Nat.reduceBEq, ↓reduceIte, bne_self_eq_false, Bool.and_false, Bool.false_and, Bool.true_or, Bool.false_or, h4])
                | refine k_of (by assumption) ?_
                | refine tr_block ?_
                | refine tr_scope ?_
                | (refine tr_skip ?_; try simp only [ex_seq, ex_block])
                | (refine tr_label ?_; try simp only [ex_seq, ex_block])
                | (refine tr_exit ?_; try simp only [ex_seq_exit, ex_block_exit, Nat.reduceEqDiff, if_true, if_false, ex_seq, ex_block, reduceCtorEq, ↓reduceIte])
                | (refine tr_ret ?_; try simp only [ex_seq_ret, ex_block_ret]))
            refine tr_cond rfl (fun ht => ?_) (fun hf => ?_)
            · repeat (first
                  | refine tr_seq_k fun _ _ => ?_
                  | (refine tr_region ?_; simp only [go_sem, List.getElem?_toArray, str_beq, reduceCtorEq, Nat.reduceEqDiff, Nat.reduceLT, Nat.reduceLeDiff, Nat.reduceAdd, Nat.reduceMul, Nat.reduceSub, Nat.reduceBEq, ↓reduceIte, bne_self_eq_false, Bool.and_false, Bool.false_and, Bool.true_or, Bool.false_or])
                  | (refine tr_draw (id := 7) follows 10000 [1, 4] [0, 2, 3, 1, 4, 5, 6, 7, 8, 9] (by kernel_rfl) ?_; simp only [go_sem, List.getElem?_toArray, str_beq, reduceCtorEq, Nat.reduceEqDiff, Nat.reduceLT, Nat.reduceLeDiff, Nat.reduceAdd, Nat.reduceMul, Nat.reduceSub, Nat.reduceBEq, ↓reduceIte, bne_self_eq_false, Bool.and_false, Bool.false_and, Bool.true_or, Bool.false_or])
                  | (refine tr_draw (id := 11) follows 10000 [11, 21, 30, 32, 38, 41, 47, 50, 55, 57, 60, 61] [0, 1, 2, 3, 4, 5, 6, 7, 8, 9, 10, 11, 12, 13, 14, 15, 16, 17, 18, 19, 20, 21, 22, 23, 24, 25, 26, 27, 28, 29, 31, 30, 32, 33, 34, 35, 36, 37, 39, 40, 38, 41, 42, 43, 44, 45, 46, 48, 49, 47, 50, 51, 52, 53, 54, 56, 58, 59, 55, 57, 60, 61, 62, 63] (by kernel_rfl) ?_; simp only [go_sem, List.getElem?_toArray, str_beq, reduceCtorEq, Nat.reduceEqDiff, Nat.reduceLT, Nat.reduceLeDiff, Nat.reduceAdd, Nat.reduceMul, Nat.reduceSub, Nat.reduceBEq, ↓reduceIte, bne_self_eq_false, Bool.and_false, Bool.false_and, Bool.true_or, Bool.false_or])
                  | refine k_of (by assumption) ?_
                  | refine tr_block ?_
                  | refine tr_scope ?_
                  | (refine tr_skip ?_; try simp only [ex_seq, ex_block])
                  | (refine tr_label ?_; try simp only [ex_seq, ex_block])
                  | (refine tr_exit ?_; try simp only [ex_seq_exit, ex_block_exit, Nat.reduceEqDiff, if_true, if_false, ex_seq, ex_block, reduceCtorEq, ↓reduceIte])
                  | (refine tr_ret ?_; try simp only [ex_seq_ret, ex_block_ret]))
              refine (hQ _ _ [bA true] ?_ (fun m => rfl)).2 <;> simp only [go_sem, List.getElem?_toArray, str_beq, reduceCtorEq, Nat.reduceEqDiff, Nat.reduceLT, Nat.reduceLeDiff, Nat.reduceAdd, Nat.reduceMul, Nat.reduceSub, Nat.reduceBEq, ↓reduceIte, bne_self_eq_false, Bool.and_false, Bool.false_and, Bool.true_or, Bool.false_or, Try.f8]
            · cases hf
        | false =>
          cases h5 : decide ((t.name.size : Int) > 300) with
          | true =>
            refine does_of' Try.func8 rfl (by kernel_rfl) rfl Try.ntmps8 rfl rfl fun Q hQ => ?_
            repeat (first
                | refine tr_seq_k fun _ _ => ?_
                | (refine tr_region ?_; simp only [go_sem, List.getElem?_toArray, str_beq, reduceCtorEq, Nat.reduceEqDiff, Nat.reduceLT, Nat.reduceLeDiff, Nat.reduceAdd, Nat.reduceMul, Nat.reduceSub, Nat.reduceBEq, ↓reduceIte, bne_self_eq_false, Bool.and_false, Bool.false_and, Bool.true_or, Bool.false_or])
                | (refine tr_draw (id := 7) follows 10000 [1, 4] [0, 2, 3, 1, 4, 5, 6, 7, 8, 9] (by kernel_rfl) ?_; simp only [go_sem, List.getElem?_toArray, str_beq, reduceCtorEq, Nat.reduceEqDiff, Nat.reduceLT, Nat.reduceLeDiff, Nat.reduceAdd, Nat.reduceMul, Nat.reduceSub, Nat.reduceBEq, ↓reduceIte, bne_self_eq_false, Bool.and_false, Bool.false_and, Bool.true_or, Bool.false_or])
                | (refine tr_draw (id := 11) follows 10000 [11, 21, 30, 32, 38, 41, 47, 50, 55, 57, 60, 61] [0, 1, 2, 3, 4, 5, 6, 7, 8, 9, 10, 11, 12, 13, 14, 15, 16, 17, 18, 19, 20, 21, 22, 23, 24, 25, 26, 27, 28, 29, 31, 30, 32, 33, 34, 35, 36, 37, 39, 40, 38, 41, 42, 43, 44, 45, 46, 48, 49, 47, 50, 51, 52, 53, 54, 56, 58, 59, 55, 57, 60, 61, 62, 63] (by kernel_rfl) ?_; simp only [go_sem, List.getElem?_toArray, str_beq, reduceCtorEq, Nat.reduceEqDiff, Nat.reduceLT, Nat.reduceLeDiff, Nat.reduceAdd, Nat.reduceMul, Nat.reduceSub, Nat.reduceBEq, ↓reduceIte, bne_self_eq_false, Bool.and_false, Bool.false_and, Bool.true_or, Bool.false_or])
                | (refine call_of (lives_does) ?_ ?_
                   · first | rfl | simp only [go_sem, List.getElem?_toArray, str_beq, reduceCtorEq, Nat.reduceEqDiff, Nat.reduceLT, Nat.reduceLeDiff, Nat.reduceAdd, Nat.reduceMul, Nat.reduceSub, Nat.reduceBEq, ↓reduceIte, bne_self_eq_false, Bool.and_false, Bool.false_and, Bool.true_or, Bool.false_or, shut_col]
                   simp only [go_sem, List.getElem?_toArray, str_beq, reduceCtorEq, Nat.reduceEqDiff, Nat.reduceLT, Nat.reduceLeDiff, Nat.reduceAdd, Nat.reduceMul, Nat.reduceSub, Nat.reduceBEq, ↓reduceIte, bne_self_eq_false, Bool.and_false, Bool.false_and, Bool.true_or, Bool.false_or])
                | refine k_of (by assumption) ?_
                | refine tr_block ?_
                | refine tr_scope ?_
                | (refine tr_skip ?_; try simp only [ex_seq, ex_block])
                | (refine tr_label ?_; try simp only [ex_seq, ex_block])
                | (refine tr_exit ?_; try simp only [ex_seq_exit, ex_block_exit, Nat.reduceEqDiff, if_true, if_false, ex_seq, ex_block, reduceCtorEq, ↓reduceIte])
                | (refine tr_ret ?_; try simp only [ex_seq_ret, ex_block_ret]))
            refine tr_cond rfl (fun ht => ?_) (fun hf => ?_)
            · cases ht
            · repeat (first
                  | refine tr_seq_k fun _ _ => ?_
                  | (refine tr_region ?_; simp only [go_sem, List.getElem?_toArray, str_beq, reduceCtorEq, Nat.reduceEqDiff, Nat.reduceLT, Nat.reduceLeDiff, Nat.reduceAdd, Nat.reduceMul, Nat.reduceSub, Nat.reduceBEq, ↓reduceIte, bne_self_eq_false, Bool.and_false, Bool.false_and, Bool.true_or, Bool.false_or, h4, h5])
                  | (refine tr_draw (id := 7) follows 10000 [1, 4] [0, 2, 3, 1, 4, 5, 6, 7, 8, 9] (by kernel_rfl) ?_; simp only [go_sem, List.getElem?_toArray, str_beq, reduceCtorEq, Nat.reduceEqDiff, Nat.reduceLT, Nat.reduceLeDiff, Nat.reduceAdd, Nat.reduceMul, Nat.reduceSub, Nat.reduceBEq, ↓reduceIte, bne_self_eq_false, Bool.and_false, Bool.false_and, Bool.true_or, Bool.false_or, h4, h5])
                  | (refine tr_draw (id := 11) follows 10000 [11, 21, 30, 32, 38, 41, 47, 50, 55, 57, 60, 61] [0, 1, 2, 3, 4, 5, 6, 7, 8, 9, 10, 11, 12, 13, 14, 15, 16, 17, 18, 19, 20, 21, 22, 23, 24, 25, 26, 27, 28, 29, 31, 30, 32, 33, 34, 35, 36, 37, 39, 40, 38, 41, 42, 43, 44, 45, 46, 48, 49, 47, 50, 51, 52, 53, 54, 56, 58, 59, 55, 57, 60, 61, 62, 63] (by kernel_rfl) ?_; simp only [go_sem, List.getElem?_toArray, str_beq, reduceCtorEq, Nat.reduceEqDiff, Nat.reduceLT, Nat.reduceLeDiff, Nat.reduceAdd, Nat.reduceMul, Nat.reduceSub, Nat.reduceBEq, ↓reduceIte, bne_self_eq_false, Bool.and_false, Bool.false_and, Bool.true_or, Bool.false_or, h4, h5])
                  | (refine call_of (la) ?_ ?_
                     · first | rfl | simp only [go_sem, List.getElem?_toArray, str_beq, reduceCtorEq, Nat.reduceEqDiff, Nat.reduceLT, Nat.reduceLeDiff, Nat.reduceAdd, Nat.reduceMul, Nat.reduceSub, Nat.reduceBEq, ↓reduceIte, bne_self_eq_false, Bool.and_false, Bool.false_and, Bool.true_or, Bool.false_or, h4, h5, shut_col]
                     simp only [go_sem, List.getElem?_toArray, str_beq, reduceCtorEq, Nat.reduceEqDiff, Nat.reduceLT, Nat.reduceLeDiff, Nat.reduceAdd, Nat.reduceMul, Nat.reduceSub, Nat.reduceBEq, ↓reduceIte, bne_self_eq_false, Bool.and_false, Bool.false_and, Bool.true_or, Bool.false_or, h4, h5])
                  | (refine call_of (lb) ?_ ?_
                     · first | rfl | simp only [go_sem, List.getElem?_toArray, str_beq, reduceCtorEq, Nat.reduceEqDiff, Nat.reduceLT, Nat.reduceLeDiff, Nat.reduceAdd, Nat.reduceMul, Nat.reduceSub, Nat.reduceBEq, ↓reduceIte, bne_self_eq_false, Bool.and_false, Bool.false_and, Bool.true_or, Bool.false_or, h4, h5, shut_col]
                     simp only [go_sem, List.getElem?_toArray, str_beq, reduceCtorEq, Nat.reduceEqDiff, Nat.reduceLT, Nat.reduceLeDiff, Nat.reduceAdd, Nat.reduceMul, Nat.reduceSub, Nat.reduceBEq, ↓reduceIte, bne_self_eq_false, Bool.and_false, Bool.false_and, Bool.true_or, Bool.false_or, h4, h5])
                  | (refine call_of (hA) ?_ ?_
                     · first | rfl | simp only [go_sem, List.getElem?_toArray, str_beq, reduceCtorEq, Nat.reduceEqDiff, Nat.reduceLT, Nat.reduceLeDiff, Nat.reduceAdd, Nat.reduceMul, Nat.reduceSub, Nat.reduceBEq, ↓reduceIte, bne_self_eq_false, Bool.and_false, Bool.false_and, Bool.true_or, Bool.false_or, h4, h5, shut_col]
                     simp only [go_sem, List.getElem?_toArray, str_beq, reduceCtorEq, Nat.reduceEqDiff, Nat.reduceLT, Nat.reduceLeDiff, Nat.reduceAdd, Nat.reduceMul, Nat.reduceSub, Nat.reduceBEq, ↓reduceIte, bne_self_eq_false, Bool.and_false, Bool.false_and, Bool.true_or, Bool.false_or, h4, h5])
                  | refine k_of (by assumption) ?_
                  | refine tr_block ?_
                  | refine tr_scope ?_
                  | (refine tr_skip ?_; try simp only [ex_seq, ex_block])
                  | (refine tr_label ?_; try simp only [ex_seq, ex_block])
                  | (refine tr_exit ?_; try simp only [ex_seq_exit, ex_block_exit, Nat.reduceEqDiff, if_true, if_false, ex_seq, ex_block, reduceCtorEq, ↓reduceIte])
                  | (refine tr_ret ?_; try simp only [ex_seq_ret, ex_block_ret]))
              refine tr_cond rfl (fun ht => ?_) (fun hf => ?_)
              · repeat (first
                    | refine tr_seq_k fun _ _ => ?_
                    | (refine tr_region ?_; simp only [go_sem, List.getElem?_toArray, str_beq, reduceCtorEq, Nat.reduceEqDiff, Nat.reduceLT, Nat.reduceLeDiff, Nat.reduceAdd, Nat.reduceMul, Nat.reduceSub, Nat.reduceBEq, ↓reduceIte, bne_self_eq_false, Bool.and_false, Bool.false_and, Bool.true_or, Bool.false_or])
                    | (refine tr_draw (id := 7) follows 10000 [1, 4] [0, 2, 3, 1, 4, 5, 6, 7, 8, 9] (by kernel_rfl) ?_; simp only [go_sem, List.getElem?_toArray, str_beq, reduceCtorEq, Nat.reduceEqDiff, Nat.reduceLT, Nat.reduceLeDiff, Nat.reduceAdd, Nat.reduceMul, Nat.reduceSub, Nat.reduceBEq, ↓reduceIte, bne_self_eq_false, Bool.and_false, Bool.false_and, Bool.true_or, Bool.false_or])
                    | (refine tr_draw (id := 11) follows 10000 [11, 21, 30, 32, 38, 41, 47, 50, 55, 57, 60, 61] [0, 1, 2, 3, 4, 5, 6, 7, 8, 9, 10, 11, 12, 13, 14, 15, 16, 17, 18, 19, 20, 21, 22, 23, 24, 25, 26, 27, 28, 29, 31, 30, 32, 33, 34, 35, 36, 37, 39, 40, 38, 41, 42, 43, 44, 45, 46, 48, 49, 47, 50, 51, 52, 53, 54, 56, 58, 59, 55, 57, 60, 61, 62, 63] (by kernel_rfl) ?_; simp only [go_sem, List.getElem?_toArray, str_beq, reduceCtorEq, Nat.reduceEqDiff, Nat.reduceLT, Nat.reduceLeDiff, Nat.reduceAdd, Nat.reduceMul, Nat.reduceSub, Nat.reduceBEq, ↓reduceIte, bne_self_eq_false, Bool.and_false, Bool.false_and, Bool.true_or, Bool.false_or])
                    | refine k_of (by assumption) ?_
                    | refine tr_block ?_
                    | refine tr_scope ?_
                    | (refine tr_skip ?_; try simp only [ex_seq, ex_block])
                    | (refine tr_label ?_; try simp only [ex_seq, ex_block])
                    | (refine tr_exit ?_; try simp only [ex_seq_exit, ex_block_exit, Nat.reduceEqDiff, if_true, if_false, ex_seq, ex_block, reduceCtorEq, ↓reduceIte])
                    | (refine tr_ret ?_; try simp only [ex_seq_ret, ex_block_ret]))
                refine (hQ _ _ [bA true] ?_ (fun m => rfl)).2 <;> simp only [go_sem, List.getElem?_toArray, str_beq, reduceCtorEq, Nat.reduceEqDiff, Nat.reduceLT, Nat.reduceLeDiff, Nat.reduceAdd, Nat.reduceMul, Nat.reduceSub, Nat.reduceBEq, ↓reduceIte, bne_self_eq_false, Bool.and_false, Bool.false_and, Bool.true_or, Bool.false_or, Try.f8]
              · cases hf
          | false =>
            cases h6 : lightTx vars 20 2000 with
            | false =>
              rw [h6] at lt
              refine does_of' Try.func8 rfl (by kernel_rfl) rfl Try.ntmps8 rfl rfl fun Q hQ => ?_
              repeat (first
                  | refine tr_seq_k fun _ _ => ?_
                  | (refine tr_region ?_; simp only [go_sem, List.getElem?_toArray, str_beq, reduceCtorEq, Nat.reduceEqDiff, Nat.reduceLT, Nat.reduceLeDiff, Nat.reduceAdd, Nat.reduceMul, Nat.reduceSub, Nat.reduceBEq, ↓reduceIte, bne_self_eq_false, Bool.and_false, Bool.false_and, Bool.true_or, Bool.false_or])
                  | (refine tr_draw (id := 7) follows 10000 [1, 4] [0, 2, 3, 1, 4, 5, 6, 7, 8, 9] (by kernel_rfl) ?_; simp only [go_sem, List.getElem?_toArray, str_beq, reduceCtorEq, Nat.reduceEqDiff, Nat.reduceLT, Nat.reduceLeDiff, Nat.reduceAdd, Nat.reduceMul, Nat.reduceSub, Nat.reduceBEq, ↓reduceIte, bne_self_eq_false, Bool.and_false, Bool.false_and, Bool.true_or, Bool.false_or])
                  | (refine tr_draw (id := 11) follows 10000 [11, 21, 30, 32, 38, 41, 47, 50, 55, 57, 60, 61] [0, 1, 2, 3, 4, 5, 6, 7, 8, 9, 10, 11, 12, 13, 14, 15, 16, 17, 18, 19, 20, 21, 22, 23, 24, 25, 26, 27, 28, 29, 31, 30, 32, 33, 34, 35, 36, 37, 39, 40, 38, 41, 42, 43, 44, 45, 46, 48, 49, 47, 50, 51, 52, 53, 54, 56, 58, 59, 55, 57, 60, 61, 62, 63] (by kernel_rfl) ?_; simp only [go_sem, List.getElem?_toArray, str_beq, reduceCtorEq, Nat.reduceEqDiff, Nat.reduceLT, Nat.reduceLeDiff, Nat.reduceAdd, Nat.reduceMul, Nat.reduceSub, Nat.reduceBEq, ↓reduceIte, bne_self_eq_false, Bool.and_false, Bool.false_and, Bool.true_or, Bool.false_or])
                  | (refine call_of (lives_does) ?_ ?_
                     · first | rfl | simp only [go_sem, List.getElem?_toArray, str_beq, reduceCtorEq, Nat.reduceEqDiff, Nat.reduceLT, Nat.reduceLeDiff, Nat.reduceAdd, Nat.reduceMul, Nat.reduceSub, Nat.reduceBEq, ↓reduceIte, bne_self_eq_false, Bool.and_false, Bool.false_and, Bool.true_or, Bool.false_or, shut_col]
                     simp only [go_sem, List.getElem?_toArray, str_beq, reduceCtorEq, Nat.reduceEqDiff, Nat.reduceLT, Nat.reduceLeDiff, Nat.reduceAdd, Nat.reduceMul, Nat.reduceSub, Nat.reduceBEq, ↓reduceIte, bne_self_eq_false, Bool.and_false, Bool.false_and, Bool.true_or, Bool.false_or])
                  | refine k_of (by assumption) ?_
                  | refine tr_block ?_
                  | refine tr_scope ?_
                  | (refine tr_skip ?_; try simp only [ex_seq, ex_block])
                  | (refine tr_label ?_; try simp only [ex_seq, ex_block])
                  | (refine tr_exit ?_; try simp only [ex_seq_exit, ex_block_exit, Nat.reduceEqDiff, if_true, if_false, ex_seq, ex_block, reduceCtorEq, ↓reduceIte])
                  | (refine tr_ret ?_; try simp only [ex_seq_ret, ex_block_ret]))
              refine tr_cond rfl (fun ht => ?_) (fun hf => ?_)
              · cases ht
              · repeat (first
                    | refine tr_seq_k fun _ _ => ?_
                    | (refine tr_region ?_; simp only [go_sem, List.getElem?_toArray, str_beq, reduceCtorEq, Nat.reduceEqDiff, Nat.reduceLT, Nat.reduceLeDiff, Nat.reduceAdd, Nat.reduceMul, Nat.reduceSub, Nat.reduceBEq, ↓reduceIte, bne_self_eq_false, Bool.and_false, Bool.false_and, Bool.true_or, Bool.false_or, h4, h5])
                    | (refine tr_draw (id := 7) follows 10000 [1, 4] [0, 2, 3, 1, 4, 5, 6, 7, 8, 9] (by kernel_rfl) ?_; simp only [go_sem, List.getElem?_toArray, str_beq, reduceCtorEq, Nat.reduceEqDiff, Nat.reduceLT, Nat.reduceLeDiff, Nat.reduceAdd, Nat.reduceMul, Nat.reduceSub, Nat.reduceBEq, ↓reduceIte, bne_self_eq_false, Bool.and_false, Bool.false_and, Bool.true_or, Bool.false_or, h4, h5])
                    | (refine tr_draw (id := 11) follows 10000 [11, 21, 30, 32, 38, 41, 47, 50, 55, 57, 60, 61] [0, 1, 2, 3, 4, 5, 6, 7, 8, 9, 10, 11, 12, 13, 14, 15, 16, 17, 18, 19, 20, 21, 22, 23, 24, 25, 26, 27, 28, 29, 31, 30, 32, 33, 34, 35, 36, 37, 39, 40, 38, 41, 42, 43, 44, 45, 46, 48, 49, 47, 50, 51, 52, 53, 54, 56, 58, 59, 55, 57, 60, 61, 62, 63] (by kernel_rfl) ?_; simp only [go_sem, List.getElem?_toArray, str_beq, reduceCtorEq, Nat.reduceEqDiff, Nat.reduceLT, Nat.reduceLeDiff, Nat.reduceAdd, Nat.reduceMul, Nat.reduceSub, Nat.reduceBEq, ↓reduceIte, bne_self_eq_false, Bool.and_false, Bool.false_and, Bool.true_or, Bool.false_or, h4, h5])
                    | (refine call_of (la) ?_ ?_
                       · first | rfl | simp only [go_sem, List.getElem?_toArray, str_beq, reduceCtorEq, Nat.reduceEqDiff, Nat.reduceLT, Nat.reduceLeDiff, Nat.reduceAdd, Nat.reduceMul, Nat.reduceSub, Nat.reduceBEq, ↓reduceIte, bne_self_eq_false, Bool.and_false, Bool.false_and, Bool.true_or, Bool.false_or, h4, h5, shut_col]
                       simp only [go_sem, List.getElem?_toArray, str_beq, reduceCtorEq, Nat.reduceEqDiff, Nat.reduceLT, Nat.reduceLeDiff, Nat.reduceAdd, Nat.reduceMul, Nat.reduceSub, Nat.reduceBEq, ↓reduceIte, bne_self_eq_false, Bool.and_false, Bool.false_and, Bool.true_or, Bool.false_or, h4, h5])
                    | (refine call_of (lb) ?_ ?_
                       · first | rfl | simp only [go_sem, List.getElem?_toArray, str_beq, reduceCtorEq, Nat.reduceEqDiff, Nat.reduceLT, Nat.reduceLeDiff, Nat.reduceAdd, Nat.reduceMul, Nat.reduceSub, Nat.reduceBEq, ↓reduceIte, bne_self_eq_false, Bool.and_false, Bool.false_and, Bool.true_or, Bool.false_or, h4, h5, shut_col]
                       simp only [go_sem, List.getElem?_toArray, str_beq, reduceCtorEq, Nat.reduceEqDiff, Nat.reduceLT, Nat.reduceLeDiff, Nat.reduceAdd, Nat.reduceMul, Nat.reduceSub, Nat.reduceBEq, ↓reduceIte, bne_self_eq_false, Bool.and_false, Bool.false_and, Bool.true_or, Bool.false_or, h4, h5])
                    | (refine call_of (hA) ?_ ?_
                       · first | rfl | simp only [go_sem, List.getElem?_toArray, str_beq, reduceCtorEq, Nat.reduceEqDiff, Nat.reduceLT, Nat.reduceLeDiff, Nat.reduceAdd, Nat.reduceMul, Nat.reduceSub, Nat.reduceBEq, ↓reduceIte, bne_self_eq_false, Bool.and_false, Bool.false_and, Bool.true_or, Bool.false_or, h4, h5, shut_col]
                       simp only [go_sem, List.getElem?_toArray, str_beq, reduceCtorEq, Nat.reduceEqDiff, Nat.reduceLT, Nat.reduceLeDiff, Nat.reduceAdd, Nat.reduceMul, Nat.reduceSub, Nat.reduceBEq, ↓reduceIte, bne_self_eq_false, Bool.and_false, Bool.false_and, Bool.true_or, Bool.false_or, h4, h5])
                    | (refine call_of (lt) ?_ ?_
                       · first | rfl | simp only [go_sem, List.getElem?_toArray, str_beq, reduceCtorEq, Nat.reduceEqDiff, Nat.reduceLT, Nat.reduceLeDiff, Nat.reduceAdd, Nat.reduceMul, Nat.reduceSub, Nat.reduceBEq, ↓reduceIte, bne_self_eq_false, Bool.and_false, Bool.false_and, Bool.true_or, Bool.false_or, h4, h5, shut_col]
                       simp only [go_sem, List.getElem?_toArray, str_beq, reduceCtorEq, Nat.reduceEqDiff, Nat.reduceLT, Nat.reduceLeDiff, Nat.reduceAdd, Nat.reduceMul, Nat.reduceSub, Nat.reduceBEq, ↓reduceIte, bne_self_eq_false, Bool.and_false, Bool.false_and, Bool.true_or, Bool.false_or, h4, h5])
                    | refine k_of (by assumption) ?_
                    | refine tr_block ?_
                    | refine tr_scope ?_
                    | (refine tr_skip ?_; try simp only [ex_seq, ex_block])
                    | (refine tr_label ?_; try simp only [ex_seq, ex_block])
                    | (refine tr_exit ?_; try simp only [ex_seq_exit, ex_block_exit, Nat.reduceEqDiff, if_true, if_false, ex_seq, ex_block, reduceCtorEq, ↓reduceIte])
                    | (refine tr_ret ?_; try simp only [ex_seq_ret, ex_block_ret]))
                refine tr_cond rfl (fun ht => ?_) (fun hf => ?_)
                · repeat (first
                      | refine tr_seq_k fun _ _ => ?_
                      | (refine tr_region ?_; simp only [go_sem, List.getElem?_toArray, str_beq, reduceCtorEq, Nat.reduceEqDiff, Nat.reduceLT, Nat.reduceLeDiff, Nat.reduceAdd, Nat.reduceMul, Nat.reduceSub, Nat.reduceBEq, ↓reduceIte, bne_self_eq_false, Bool.and_false, Bool.false_and, Bool.true_or, Bool.false_or])
                      | (refine tr_draw (id := 7) follows 10000 [1, 4] [0, 2, 3, 1, 4, 5, 6, 7, 8, 9] (by kernel_rfl) ?_; simp only [go_sem, List.getElem?_toArray, str_beq, reduceCtorEq, Nat.reduceEqDiff, Nat.reduceLT, Nat.reduceLeDiff, Nat.reduceAdd, Nat.reduceMul, Nat.reduceSub, Nat.reduceBEq, ↓reduceIte, bne_self_eq_false, Bool.and_false, Bool.false_and, Bool.true_or, Bool.false_or])
                      | (refine tr_draw (id := 11) follows 10000 [11, 21, 30, 32, 38, 41, 47, 50, 55, 57, 60, 61] [0, 1, 2, 3, 4, 5, 6, 7, 8, 9, 10, 11, 12, 13, 14, 15, 16, 17, 18, 19, 20, 21, 22, 23, 24, 25, 26, 27, 28, 29, 31, 30, 32, 33, 34, 35, 36, 37, 39, 40, 38, 41, 42, 43, 44, 45, 46, 48, 49, 47, 50, 51, 52, 53, 54, 56, 58, 59, 55, 57, 60, 61, 62, 63] (by kernel_rfl) ?_; simp only [go_sem, List.getElem?_toArray, str_beq, reduceCtorEq, Nat.reduceEqDiff, Nat.reduceLT, Nat.reduceLeDiff, Nat.reduceAdd, Nat.reduceMul, Nat.reduceSub, Nat.reduceBEq, ↓reduceIte, bne_self_eq_false, Bool.and_false, Bool.false_and, Bool.true_or, Bool.false_or])
                      | refine k_of (by assumption) ?_
                      | refine tr_block ?_
                      | refine tr_scope ?_
                      | (refine tr_skip ?_; try simp only [ex_seq, ex_block])
                      | (refine tr_label ?_; try simp only [ex_seq, ex_block])
                      | (refine tr_exit ?_; try simp only [ex_seq_exit, ex_block_exit, Nat.reduceEqDiff, if_true, if_false, ex_seq, ex_block, reduceCtorEq, ↓reduceIte])
                      | (refine tr_ret ?_; try simp only [ex_seq_ret, ex_block_ret]))
                  refine (hQ _ _ [bA true] ?_ (fun m => rfl)).2 <;> simp only [go_sem, List.getElem?_toArray, str_beq, reduceCtorEq, Nat.reduceEqDiff, Nat.reduceLT, Nat.reduceLeDiff, Nat.reduceAdd, Nat.reduceMul, Nat.reduceSub, Nat.reduceBEq, ↓reduceIte, bne_self_eq_false, Bool.and_false, Bool.false_and, Bool.true_or, Bool.false_or, Try.f8]
                · cases hf
            | true =>
              rw [h6] at lt
              have ha20 := lightBs_20 h1
              have hb20 := lightBs_20 h2
              have hv20 := lightTx_len h6
              have cG := get_does a v exa (by omega)
              have cG4 := r4get_does a v exa (by omega)
              have oa := ownB_does a exa (by omega)
              have ob := ownB_does b exb (by omega)
              have cB := bind_does a v t false (by omega)
              have cB4 := r4bind_does a v t exa (by omega)
              have cC := compose_does a b false false (by omega) (by omega)
              have cC4 := r4compose_does a b exa exb (by omega) (by omega)
              have nB := pbL_len a v t
              have nC := pcR_len a b ha20 hb20
              have nR := prestrict_len a vars
              have sB := sameB_does (pbL a v t) (pbL a v t) (pbL a v t).isEmpty (pbL a v t).isEmpty (by omega)
              have sC := sameB_does (pcR a b) (pcR a b) (!pcE a b) (pcR a b).isEmpty (by omega)
              have sR := sameB_does (prestrict a vars) (prestrict a vars) false (prestrict a vars).isEmpty (by omega)
              rw [decide_eq_true rfl] at sB sC sR
              have kA := check_does a exa (by omega)
              have kA4 := r4check_does a exa (by omega)
              have cT := term_does a t exa (by omega)
              have cT4 := r4term_does a t exa (by omega)
              have aX := apply_does a x exa (by omega)
              have aX4 := r4apply_does a x exa (by omega)
              have rs := restrict_does a vars false exv (by omega)
              have rs4 := r4restrict_does a vars exa exv (by omega) (by omega)
              have eG := fun x' y' => bin_eqT x' y' ((pget a v).getD noTm) ((pget a v).getD noTm)
              have eT := fun x' y' => bin_eqT x' y' (pterm a t) (pterm a t)
              have eX := fun x' y' => bin_eqA' x' y' (papp a x) (papp a x)
              rw [decide_eq_true rfl] at eG eT eX
              simp only [pv_bind] at eG eT eX
              simp only [eA] at cC cC4 kA kA4
              generalize (if pcE a b = true then (0 : Int) else 15) = e1 at *
              generalize (if pcheck a = true then (0 : Int) else 15) = e2 at *
              generalize (pget a v).getD noTm = g1 at *
              generalize (pget a v).isSome = g2 at *
              generalize pterm a t = g3 at *
              generalize papp a x = g4 at *
              generalize pbE a v t = g5 at *
              generalize pbL a v t = g6 at *
              generalize prestrict a vars = g7 at *
              generalize (!pcE a b) = g8 at *
              generalize pcR a b = g9 at *
              refine does_of' Try.func8 rfl (by kernel_rfl) rfl Try.ntmps8 rfl rfl fun Q hQ => ?_
              repeat (first
                  | refine tr_seq_k fun _ _ => ?_
                  | (refine tr_region ?_; simp only [go_sem, List.getElem?_toArray, str_beq, reduceCtorEq, Nat.reduceEqDiff, Nat.reduceLT, Nat.reduceLeDiff, Nat.reduceAdd, Nat.reduceMul, Nat.reduceSub, Nat.reduceBEq, ↓reduceIte, bne_self_eq_false, Bool.and_false, Bool.false_and, Bool.true_or, Bool.false_or])
                  | (refine tr_draw (id := 7) follows 10000 [1, 4] [0, 2, 3, 1, 4, 5, 6, 7, 8, 9] (by kernel_rfl) ?_; simp only [go_sem, List.getElem?_toArray, str_beq, reduceCtorEq, Nat.reduceEqDiff, Nat.reduceLT, Nat.reduceLeDiff, Nat.reduceAdd, Nat.reduceMul, Nat.reduceSub, Nat.reduceBEq, ↓reduceIte, bne_self_eq_false, Bool.and_false, Bool.false_and, Bool.true_or, Bool.false_or])
                  | (refine tr_draw (id := 11) follows 10000 [11, 21, 30, 32, 38, 41, 47, 50, 55, 57, 60, 61] [0, 1, 2, 3, 4, 5, 6, 7, 8, 9, 10, 11, 12, 13, 14, 15, 16, 17, 18, 19, 20, 21, 22, 23, 24, 25, 26, 27, 28, 29, 31, 30, 32, 33, 34, 35, 36, 37, 39, 40, 38, 41, 42, 43, 44, 45, 46, 48, 49, 47, 50, 51, 52, 53, 54, 56, 58, 59, 55, 57, 60, 61, 62, 63] (by kernel_rfl) ?_; simp only [go_sem, List.getElem?_toArray, str_beq, reduceCtorEq, Nat.reduceEqDiff, Nat.reduceLT, Nat.reduceLeDiff, Nat.reduceAdd, Nat.reduceMul, Nat.reduceSub, Nat.reduceBEq, ↓reduceIte, bne_self_eq_false, Bool.and_false, Bool.false_and, Bool.true_or, Bool.false_or])
                  | (refine call_of (lives_does) ?_ ?_
                     · first | rfl | simp only [go_sem, List.getElem?_toArray, str_beq, reduceCtorEq, Nat.reduceEqDiff, Nat.reduceLT, Nat.reduceLeDiff, Nat.reduceAdd, Nat.reduceMul, Nat.reduceSub, Nat.reduceBEq, ↓reduceIte, bne_self_eq_false, Bool.and_false, Bool.false_and, Bool.true_or, Bool.false_or, shut_col]
                     simp only [go_sem, List.getElem?_toArray, str_beq, reduceCtorEq, Nat.reduceEqDiff, Nat.reduceLT, Nat.reduceLeDiff, Nat.reduceAdd, Nat.reduceMul, Nat.reduceSub, Nat.reduceBEq, ↓reduceIte, bne_self_eq_false, Bool.and_false, Bool.false_and, Bool.true_or, Bool.false_or])
                  | refine k_of (by assumption) ?_
                  | refine tr_block ?_
                  | refine tr_scope ?_
                  | (refine tr_skip ?_; try simp only [ex_seq, ex_block])
                  | (refine tr_label ?_; try simp only [ex_seq, ex_block])
                  | (refine tr_exit ?_; try simp only [ex_seq_exit, ex_block_exit, Nat.reduceEqDiff, if_true, if_false, ex_seq, ex_block, reduceCtorEq, ↓reduceIte])
                  | (refine tr_ret ?_; try simp only [ex_seq_ret, ex_block_ret]))
              refine tr_cond rfl (fun ht => ?_) (fun hf => ?_)
              · cases ht
              · repeat (first
                    | refine tr_seq_k fun _ _ => ?_
                    | (refine tr_region ?_; simp only [go_sem, List.getElem?_toArray, str_beq, reduceCtorEq, Nat.reduceEqDiff, Nat.reduceLT, Nat.reduceLeDiff, Nat.reduceAdd, Nat.reduceMul, Nat.reduceSub, Nat.reduceBEq, ↓reduceIte, bne_self_eq_false, Bool.and_false, Bool.false_and, Bool.true_or, Bool.false_or, h4, h5])
                    | (refine tr_draw (id := 7) follows 10000 [1, 4] [0, 2, 3, 1, 4, 5, 6, 7, 8, 9] (by kernel_rfl) ?_; simp only [go_sem, List.getElem?_toArray, str_beq, reduceCtorEq, Nat.reduceEqDiff, Nat.reduceLT, Nat.reduceLeDiff, Nat.reduceAdd, Nat.reduceMul, Nat.reduceSub, Nat.reduceBEq, ↓reduceIte, bne_self_eq_false, Bool.and_false, Bool.false_and, Bool.true_or, Bool.false_or, h4, h5])
                    | (refine tr_draw (id := 11) follows 10000 [11, 21, 30, 32, 38, 41, 47, 50, 55, 57, 60, 61] [0, 1, 2, 3, 4, 5, 6, 7, 8, 9, 10, 11, 12, 13, 14, 15, 16, 17, 18, 19, 20, 21, 22, 23, 24, 25, 26, 27, 28, 29, 31, 30, 32, 33, 34, 35, 36, 37, 39, 40, 38, 41, 42, 43, 44, 45, 46, 48, 49, 47, 50, 51, 52, 53, 54, 56, 58, 59, 55, 57, 60, 61, 62, 63] (by kernel_rfl) ?_; simp only [go_sem, List.getElem?_toArray, str_beq, reduceCtorEq, Nat.reduceEqDiff, Nat.reduceLT, Nat.reduceLeDiff, Nat.reduceAdd, Nat.reduceMul, Nat.reduceSub, Nat.reduceBEq, ↓reduceIte, bne_self_eq_false, Bool.and_false, Bool.false_and, Bool.true_or, Bool.false_or, h4, h5])
                    | (refine call_of (la) ?_ ?_
                       · first | rfl | simp only [go_sem, List.getElem?_toArray, str_beq, reduceCtorEq, Nat.reduceEqDiff, Nat.reduceLT, Nat.reduceLeDiff, Nat.reduceAdd, Nat.reduceMul, Nat.reduceSub, Nat.reduceBEq, ↓reduceIte, bne_self_eq_false, Bool.and_false, Bool.false_and, Bool.true_or, Bool.false_or, h4, h5, shut_col]
                       simp only [go_sem, List.getElem?_toArray, str_beq, reduceCtorEq, Nat.reduceEqDiff, Nat.reduceLT, Nat.reduceLeDiff, Nat.reduceAdd, Nat.reduceMul, Nat.reduceSub, Nat.reduceBEq, ↓reduceIte, bne_self_eq_false, Bool.and_false, Bool.false_and, Bool.true_or, Bool.false_or, h4, h5])
                    | (refine call_of (lb) ?_ ?_
                       · first | rfl | simp only [go_sem, List.getElem?_toArray, str_beq, reduceCtorEq, Nat.reduceEqDiff, Nat.reduceLT, Nat.reduceLeDiff, Nat.reduceAdd, Nat.reduceMul, Nat.reduceSub, Nat.reduceBEq, ↓reduceIte, bne_self_eq_false, Bool.and_false, Bool.false_and, Bool.true_or, Bool.false_or, h4, h5, shut_col]
                       simp only [go_sem, List.getElem?_toArray, str_beq, reduceCtorEq, Nat.reduceEqDiff, Nat.reduceLT, Nat.reduceLeDiff, Nat.reduceAdd, Nat.reduceMul, Nat.reduceSub, Nat.reduceBEq, ↓reduceIte, bne_self_eq_false, Bool.and_false, Bool.false_and, Bool.true_or, Bool.false_or, h4, h5])
                    | (refine call_of (hA) ?_ ?_
                       · first | rfl | simp only [go_sem, List.getElem?_toArray, str_beq, reduceCtorEq, Nat.reduceEqDiff, Nat.reduceLT, Nat.reduceLeDiff, Nat.reduceAdd, Nat.reduceMul, Nat.reduceSub, Nat.reduceBEq, ↓reduceIte, bne_self_eq_false, Bool.and_false, Bool.false_and, Bool.true_or, Bool.false_or, h4, h5, shut_col]
                       simp only [go_sem, List.getElem?_toArray, str_beq, reduceCtorEq, Nat.reduceEqDiff, Nat.reduceLT, Nat.reduceLeDiff, Nat.reduceAdd, Nat.reduceMul, Nat.reduceSub, Nat.reduceBEq, ↓reduceIte, bne_self_eq_false, Bool.and_false, Bool.false_and, Bool.true_or, Bool.false_or, h4, h5])
                    | (refine call_of (lt) ?_ ?_
                       · first | rfl | simp only [go_sem, List.getElem?_toArray, str_beq, reduceCtorEq, Nat.reduceEqDiff, Nat.reduceLT, Nat.reduceLeDiff, Nat.reduceAdd, Nat.reduceMul, Nat.reduceSub, Nat.reduceBEq, ↓reduceIte, bne_self_eq_false, Bool.and_false, Bool.false_and, Bool.true_or, Bool.false_or, h4, h5, shut_col]
                       simp only [go_sem, List.getElem?_toArray, str_beq, reduceCtorEq, Nat.reduceEqDiff, Nat.reduceLT, Nat.reduceLeDiff, Nat.reduceAdd, Nat.reduceMul, Nat.reduceSub, Nat.reduceBEq, ↓reduceIte, bne_self_eq_false, Bool.and_false, Bool.false_and, Bool.true_or, Bool.false_or, h4, h5])
                    | refine k_of (by assumption) ?_
                    | refine tr_block ?_
                    | refine tr_scope ?_
                    | (refine tr_skip ?_; try simp only [ex_seq, ex_block])
                    | (refine tr_label ?_; try simp only [ex_seq, ex_block])
                    | (refine tr_exit ?_; try simp only [ex_seq_exit, ex_block_exit, Nat.reduceEqDiff, if_true, if_false, ex_seq, ex_block, reduceCtorEq, ↓reduceIte])
                    | (refine tr_ret ?_; try simp only [ex_seq_ret, ex_block_ret]))
                refine tr_cond rfl (fun ht => ?_) (fun hf => ?_)
                · cases ht
                · repeat (first
                      | refine tr_seq_k fun _ _ => ?_
                      | (refine tr_region ?_; simp only [go_sem, List.getElem?_toArray, str_beq, reduceCtorEq, Nat.reduceEqDiff, Nat.reduceLT, Nat.reduceLeDiff, Nat.reduceAdd, Nat.reduceMul, Nat.reduceSub, Nat.reduceBEq, ↓reduceIte, bne_self_eq_false, Bool.and_false, Bool.false_and, Bool.true_or, Bool.false_or, eG, eT, eX, bin_bb4])
                      | (refine tr_draw (id := 7) follows 10000 [1, 4] [0, 2, 3, 1, 4, 5, 6, 7, 8, 9] (by kernel_rfl) ?_; simp only [go_sem, List.getElem?_toArray, str_beq, reduceCtorEq, Nat.reduceEqDiff, Nat.reduceLT, Nat.reduceLeDiff, Nat.reduceAdd, Nat.reduceMul, Nat.reduceSub, Nat.reduceBEq, ↓reduceIte, bne_self_eq_false, Bool.and_false, Bool.false_and, Bool.true_or, Bool.false_or, eG, eT, eX, bin_bb4])
                      | (refine tr_draw (id := 11) follows 10000 [11, 21, 30, 32, 38, 41, 47, 50, 55, 57, 60, 61] [0, 1, 2, 3, 4, 5, 6, 7, 8, 9, 10, 11, 12, 13, 14, 15, 16, 17, 18, 19, 20, 21, 22, 23, 24, 25, 26, 27, 28, 29, 31, 30, 32, 33, 34, 35, 36, 37, 39, 40, 38, 41, 42, 43, 44, 45, 46, 48, 49, 47, 50, 51, 52, 53, 54, 56, 58, 59, 55, 57, 60, 61, 62, 63] (by kernel_rfl) ?_; simp only [go_sem, List.getElem?_toArray, str_beq, reduceCtorEq, Nat.reduceEqDiff, Nat.reduceLT, Nat.reduceLeDiff, Nat.reduceAdd, Nat.reduceMul, Nat.reduceSub, Nat.reduceBEq, ↓reduceIte, bne_self_eq_false, Bool.and_false, Bool.false_and, Bool.true_or, Bool.false_or, eG, eT, eX, bin_bb4])
                      | (refine call_of (cG) ?_ ?_
                         · first | rfl | simp only [go_sem, List.getElem?_toArray, str_beq, reduceCtorEq, Nat.reduceEqDiff, Nat.reduceLT, Nat.reduceLeDiff, Nat.reduceAdd, Nat.reduceMul, Nat.reduceSub, Nat.reduceBEq, ↓reduceIte, bne_self_eq_false, Bool.and_false, Bool.false_and, Bool.true_or, Bool.false_or, eG, eT, eX, bin_bb4, shut_col]
                         simp only [go_sem, List.getElem?_toArray, str_beq, reduceCtorEq, Nat.reduceEqDiff, Nat.reduceLT, Nat.reduceLeDiff, Nat.reduceAdd, Nat.reduceMul, Nat.reduceSub, Nat.reduceBEq, ↓reduceIte, bne_self_eq_false, Bool.and_false, Bool.false_and, Bool.true_or, Bool.false_or, eG, eT, eX, bin_bb4])
                      | (refine call_of (cG4) ?_ ?_
                         · first | rfl | simp only [go_sem, List.getElem?_toArray, str_beq, reduceCtorEq, Nat.reduceEqDiff, Nat.reduceLT, Nat.reduceLeDiff, Nat.reduceAdd, Nat.reduceMul, Nat.reduceSub, Nat.reduceBEq, ↓reduceIte, bne_self_eq_false, Bool.and_false, Bool.false_and, Bool.true_or, Bool.false_or, eG, eT, eX, bin_bb4, shut_col]
                         simp only [go_sem, List.getElem?_toArray, str_beq, reduceCtorEq, Nat.reduceEqDiff, Nat.reduceLT, Nat.reduceLeDiff, Nat.reduceAdd, Nat.reduceMul, Nat.reduceSub, Nat.reduceBEq, ↓reduceIte, bne_self_eq_false, Bool.and_false, Bool.false_and, Bool.true_or, Bool.false_or, eG, eT, eX, bin_bb4])
                      | (refine call_of (oa) ?_ ?_
                         · first | rfl | simp only [go_sem, List.getElem?_toArray, str_beq, reduceCtorEq, Nat.reduceEqDiff, Nat.reduceLT, Nat.reduceLeDiff, Nat.reduceAdd, Nat.reduceMul, Nat.reduceSub, Nat.reduceBEq, ↓reduceIte, bne_self_eq_false, Bool.and_false, Bool.false_and, Bool.true_or, Bool.false_or, eG, eT, eX, bin_bb4, shut_col]
                         simp only [go_sem, List.getElem?_toArray, str_beq, reduceCtorEq, Nat.reduceEqDiff, Nat.reduceLT, Nat.reduceLeDiff, Nat.reduceAdd, Nat.reduceMul, Nat.reduceSub, Nat.reduceBEq, ↓reduceIte, bne_self_eq_false, Bool.and_false, Bool.false_and, Bool.true_or, Bool.false_or, eG, eT, eX, bin_bb4])
                      | (refine call_of (ob) ?_ ?_
                         · first | rfl | simp only [go_sem, List.getElem?_toArray, str_beq, reduceCtorEq, Nat.reduceEqDiff, Nat.reduceLT, Nat.reduceLeDiff, Nat.reduceAdd, Nat.reduceMul, Nat.reduceSub, Nat.reduceBEq, ↓reduceIte, bne_self_eq_false, Bool.and_false, Bool.false_and, Bool.true_or, Bool.false_or, eG, eT, eX, bin_bb4, shut_col]
                         simp only [go_sem, List.getElem?_toArray, str_beq, reduceCtorEq, Nat.reduceEqDiff, Nat.reduceLT, Nat.reduceLeDiff, Nat.reduceAdd, Nat.reduceMul, Nat.reduceSub, Nat.reduceBEq, ↓reduceIte, bne_self_eq_false, Bool.and_false, Bool.false_and, Bool.true_or, Bool.false_or, eG, eT, eX, bin_bb4])
                      | (refine call_of (cB) ?_ ?_
                         · first | rfl | simp only [go_sem, List.getElem?_toArray, str_beq, reduceCtorEq, Nat.reduceEqDiff, Nat.reduceLT, Nat.reduceLeDiff, Nat.reduceAdd, Nat.reduceMul, Nat.reduceSub, Nat.reduceBEq, ↓reduceIte, bne_self_eq_false, Bool.and_false, Bool.false_and, Bool.true_or, Bool.false_or, eG, eT, eX, bin_bb4, shut_col]
                         simp only [go_sem, List.getElem?_toArray, str_beq, reduceCtorEq, Nat.reduceEqDiff, Nat.reduceLT, Nat.reduceLeDiff, Nat.reduceAdd, Nat.reduceMul, Nat.reduceSub, Nat.reduceBEq, ↓reduceIte, bne_self_eq_false, Bool.and_false, Bool.false_and, Bool.true_or, Bool.false_or, eG, eT, eX, bin_bb4])
                      | (refine call_of (cB4) ?_ ?_
                         · first | rfl | simp only [go_sem, List.getElem?_toArray, str_beq, reduceCtorEq, Nat.reduceEqDiff, Nat.reduceLT, Nat.reduceLeDiff, Nat.reduceAdd, Nat.reduceMul, Nat.reduceSub, Nat.reduceBEq, ↓reduceIte, bne_self_eq_false, Bool.and_false, Bool.false_and, Bool.true_or, Bool.false_or, eG, eT, eX, bin_bb4, shut_col]
                         simp only [go_sem, List.getElem?_toArray, str_beq, reduceCtorEq, Nat.reduceEqDiff, Nat.reduceLT, Nat.reduceLeDiff, Nat.reduceAdd, Nat.reduceMul, Nat.reduceSub, Nat.reduceBEq, ↓reduceIte, bne_self_eq_false, Bool.and_false, Bool.false_and, Bool.true_or, Bool.false_or, eG, eT, eX, bin_bb4])
                      | (refine call_of (cC) ?_ ?_
                         · first | rfl | simp only [go_sem, List.getElem?_toArray, str_beq, reduceCtorEq, Nat.reduceEqDiff, Nat.reduceLT, Nat.reduceLeDiff, Nat.reduceAdd, Nat.reduceMul, Nat.reduceSub, Nat.reduceBEq, ↓reduceIte, bne_self_eq_false, Bool.and_false, Bool.false_and, Bool.true_or, Bool.false_or, eG, eT, eX, bin_bb4, shut_col]
                         simp only [go_sem, List.getElem?_toArray, str_beq, reduceCtorEq, Nat.reduceEqDiff, Nat.reduceLT, Nat.reduceLeDiff, Nat.reduceAdd, Nat.reduceMul, Nat.reduceSub, Nat.reduceBEq, ↓reduceIte, bne_self_eq_false, Bool.and_false, Bool.false_and, Bool.true_or, Bool.false_or, eG, eT, eX, bin_bb4])
                      | (refine call_of (cC4) ?_ ?_
                         · first | rfl | simp only [go_sem, List.getElem?_toArray, str_beq, reduceCtorEq, Nat.reduceEqDiff, Nat.reduceLT, Nat.reduceLeDiff, Nat.reduceAdd, Nat.reduceMul, Nat.reduceSub, Nat.reduceBEq, ↓reduceIte, bne_self_eq_false, Bool.and_false, Bool.false_and, Bool.true_or, Bool.false_or, eG, eT, eX, bin_bb4, shut_col]
                         simp only [go_sem, List.getElem?_toArray, str_beq, reduceCtorEq, Nat.reduceEqDiff, Nat.reduceLT, Nat.reduceLeDiff, Nat.reduceAdd, Nat.reduceMul, Nat.reduceSub, Nat.reduceBEq, ↓reduceIte, bne_self_eq_false, Bool.and_false, Bool.false_and, Bool.true_or, Bool.false_or, eG, eT, eX, bin_bb4])
                      | (refine call_of (sB) ?_ ?_
                         · first | rfl | simp only [go_sem, List.getElem?_toArray, str_beq, reduceCtorEq, Nat.reduceEqDiff, Nat.reduceLT, Nat.reduceLeDiff, Nat.reduceAdd, Nat.reduceMul, Nat.reduceSub, Nat.reduceBEq, ↓reduceIte, bne_self_eq_false, Bool.and_false, Bool.false_and, Bool.true_or, Bool.false_or, eG, eT, eX, bin_bb4, shut_col]
                         simp only [go_sem, List.getElem?_toArray, str_beq, reduceCtorEq, Nat.reduceEqDiff, Nat.reduceLT, Nat.reduceLeDiff, Nat.reduceAdd, Nat.reduceMul, Nat.reduceSub, Nat.reduceBEq, ↓reduceIte, bne_self_eq_false, Bool.and_false, Bool.false_and, Bool.true_or, Bool.false_or, eG, eT, eX, bin_bb4])
                      | (refine call_of (sC) ?_ ?_
                         · first | rfl | simp only [go_sem, List.getElem?_toArray, str_beq, reduceCtorEq, Nat.reduceEqDiff, Nat.reduceLT, Nat.reduceLeDiff, Nat.reduceAdd, Nat.reduceMul, Nat.reduceSub, Nat.reduceBEq, ↓reduceIte, bne_self_eq_false, Bool.and_false, Bool.false_and, Bool.true_or, Bool.false_or, eG, eT, eX, bin_bb4, shut_col]
                         simp only [go_sem, List.getElem?_toArray, str_beq, reduceCtorEq, Nat.reduceEqDiff, Nat.reduceLT, Nat.reduceLeDiff, Nat.reduceAdd, Nat.reduceMul, Nat.reduceSub, Nat.reduceBEq, ↓reduceIte, bne_self_eq_false, Bool.and_false, Bool.false_and, Bool.true_or, Bool.false_or, eG, eT, eX, bin_bb4])
                      | (refine call_of (kA) ?_ ?_
                         · first | rfl | simp only [go_sem, List.getElem?_toArray, str_beq, reduceCtorEq, Nat.reduceEqDiff, Nat.reduceLT, Nat.reduceLeDiff, Nat.reduceAdd, Nat.reduceMul, Nat.reduceSub, Nat.reduceBEq, ↓reduceIte, bne_self_eq_false, Bool.and_false, Bool.false_and, Bool.true_or, Bool.false_or, eG, eT, eX, bin_bb4, shut_col]
                         simp only [go_sem, List.getElem?_toArray, str_beq, reduceCtorEq, Nat.reduceEqDiff, Nat.reduceLT, Nat.reduceLeDiff, Nat.reduceAdd, Nat.reduceMul, Nat.reduceSub, Nat.reduceBEq, ↓reduceIte, bne_self_eq_false, Bool.and_false, Bool.false_and, Bool.true_or, Bool.false_or, eG, eT, eX, bin_bb4])
                      | (refine call_of (kA4) ?_ ?_
                         · first | rfl | simp only [go_sem, List.getElem?_toArray, str_beq, reduceCtorEq, Nat.reduceEqDiff, Nat.reduceLT, Nat.reduceLeDiff, Nat.reduceAdd, Nat.reduceMul, Nat.reduceSub, Nat.reduceBEq, ↓reduceIte, bne_self_eq_false, Bool.and_false, Bool.false_and, Bool.true_or, Bool.false_or, eG, eT, eX, bin_bb4, shut_col]
                         simp only [go_sem, List.getElem?_toArray, str_beq, reduceCtorEq, Nat.reduceEqDiff, Nat.reduceLT, Nat.reduceLeDiff, Nat.reduceAdd, Nat.reduceMul, Nat.reduceSub, Nat.reduceBEq, ↓reduceIte, bne_self_eq_false, Bool.and_false, Bool.false_and, Bool.true_or, Bool.false_or, eG, eT, eX, bin_bb4])
                      | (refine call_of (cT) ?_ ?_
                         · first | rfl | simp only [go_sem, List.getElem?_toArray, str_beq, reduceCtorEq, Nat.reduceEqDiff, Nat.reduceLT, Nat.reduceLeDiff, Nat.reduceAdd, Nat.reduceMul, Nat.reduceSub, Nat.reduceBEq, ↓reduceIte, bne_self_eq_false, Bool.and_false, Bool.false_and, Bool.true_or, Bool.false_or, eG, eT, eX, bin_bb4, shut_col]
                         simp only [go_sem, List.getElem?_toArray, str_beq, reduceCtorEq, Nat.reduceEqDiff, Nat.reduceLT, Nat.reduceLeDiff, Nat.reduceAdd, Nat.reduceMul, Nat.reduceSub, Nat.reduceBEq, ↓reduceIte, bne_self_eq_false, Bool.and_false, Bool.false_and, Bool.true_or, Bool.false_or, eG, eT, eX, bin_bb4])
                      | (refine call_of (cT4) ?_ ?_
                         · first | rfl | simp only [go_sem, List.getElem?_toArray, str_beq, reduceCtorEq, Nat.reduceEqDiff, Nat.reduceLT, Nat.reduceLeDiff, Nat.reduceAdd, Nat.reduceMul, Nat.reduceSub, Nat.reduceBEq, ↓reduceIte, bne_self_eq_false, Bool.and_false, Bool.false_and, Bool.true_or, Bool.false_or, eG, eT, eX, bin_bb4, shut_col]
                         simp only [go_sem, List.getElem?_toArray, str_beq, reduceCtorEq, Nat.reduceEqDiff, Nat.reduceLT, Nat.reduceLeDiff, Nat.reduceAdd, Nat.reduceMul, Nat.reduceSub, Nat.reduceBEq, ↓reduceIte, bne_self_eq_false, Bool.and_false, Bool.false_and, Bool.true_or, Bool.false_or, eG, eT, eX, bin_bb4])
                      | (refine call_of (aX) ?_ ?_
                         · first | rfl | simp only [go_sem, List.getElem?_toArray, str_beq, reduceCtorEq, Nat.reduceEqDiff, Nat.reduceLT, Nat.reduceLeDiff, Nat.reduceAdd, Nat.reduceMul, Nat.reduceSub, Nat.reduceBEq, ↓reduceIte, bne_self_eq_false, Bool.and_false, Bool.false_and, Bool.true_or, Bool.false_or, eG, eT, eX, bin_bb4, shut_col]
                         simp only [go_sem, List.getElem?_toArray, str_beq, reduceCtorEq, Nat.reduceEqDiff, Nat.reduceLT, Nat.reduceLeDiff, Nat.reduceAdd, Nat.reduceMul, Nat.reduceSub, Nat.reduceBEq, ↓reduceIte, bne_self_eq_false, Bool.and_false, Bool.false_and, Bool.true_or, Bool.false_or, eG, eT, eX, bin_bb4])
                      | (refine call_of (aX4) ?_ ?_
                         · first | rfl | simp only [go_sem, List.getElem?_toArray, str_beq, reduceCtorEq, Nat.reduceEqDiff, Nat.reduceLT, Nat.reduceLeDiff, Nat.reduceAdd, Nat.reduceMul, Nat.reduceSub, Nat.reduceBEq, ↓reduceIte, bne_self_eq_false, Bool.and_false, Bool.false_and, Bool.true_or, Bool.false_or, eG, eT, eX, bin_bb4, shut_col]
                         simp only [go_sem, List.getElem?_toArray, str_beq, reduceCtorEq, Nat.reduceEqDiff, Nat.reduceLT, Nat.reduceLeDiff, Nat.reduceAdd, Nat.reduceMul, Nat.reduceSub, Nat.reduceBEq, ↓reduceIte, bne_self_eq_false, Bool.and_false, Bool.false_and, Bool.true_or, Bool.false_or, eG, eT, eX, bin_bb4])
                      | (refine call_of (rs) ?_ ?_
                         · first | rfl | simp only [go_sem, List.getElem?_toArray, str_beq, reduceCtorEq, Nat.reduceEqDiff, Nat.reduceLT, Nat.reduceLeDiff, Nat.reduceAdd, Nat.reduceMul, Nat.reduceSub, Nat.reduceBEq, ↓reduceIte, bne_self_eq_false, Bool.and_false, Bool.false_and, Bool.true_or, Bool.false_or, eG, eT, eX, bin_bb4, shut_col]
                         simp only [go_sem, List.getElem?_toArray, str_beq, reduceCtorEq, Nat.reduceEqDiff, Nat.reduceLT, Nat.reduceLeDiff, Nat.reduceAdd, Nat.reduceMul, Nat.reduceSub, Nat.reduceBEq, ↓reduceIte, bne_self_eq_false, Bool.and_false, Bool.false_and, Bool.true_or, Bool.false_or, eG, eT, eX, bin_bb4])
                      | (refine call_of (rs4) ?_ ?_
                         · first | rfl | simp only [go_sem, List.getElem?_toArray, str_beq, reduceCtorEq, Nat.reduceEqDiff, Nat.reduceLT, Nat.reduceLeDiff, Nat.reduceAdd, Nat.reduceMul, Nat.reduceSub, Nat.reduceBEq, ↓reduceIte, bne_self_eq_false, Bool.and_false, Bool.false_and, Bool.true_or, Bool.false_or, eG, eT, eX, bin_bb4, shut_col]
                         simp only [go_sem, List.getElem?_toArray, str_beq, reduceCtorEq, Nat.reduceEqDiff, Nat.reduceLT, Nat.reduceLeDiff, Nat.reduceAdd, Nat.reduceMul, Nat.reduceSub, Nat.reduceBEq, ↓reduceIte, bne_self_eq_false, Bool.and_false, Bool.false_and, Bool.true_or, Bool.false_or, eG, eT, eX, bin_bb4])
                      | (refine call_of (sR) ?_ ?_
                         · first | rfl | simp only [go_sem, List.getElem?_toArray, str_beq, reduceCtorEq, Nat.reduceEqDiff, Nat.reduceLT, Nat.reduceLeDiff, Nat.reduceAdd, Nat.reduceMul, Nat.reduceSub, Nat.reduceBEq, ↓reduceIte, bne_self_eq_false, Bool.and_false, Bool.false_and, Bool.true_or, Bool.false_or, eG, eT, eX, bin_bb4, shut_col]
                         simp only [go_sem, List.getElem?_toArray, str_beq, reduceCtorEq, Nat.reduceEqDiff, Nat.reduceLT, Nat.reduceLeDiff, Nat.reduceAdd, Nat.reduceMul, Nat.reduceSub, Nat.reduceBEq, ↓reduceIte, bne_self_eq_false, Bool.and_false, Bool.false_and, Bool.true_or, Bool.false_or, eG, eT, eX, bin_bb4])
                      | refine k_of (by assumption) ?_
                      | refine tr_block ?_
                      | refine tr_scope ?_
                      | (refine tr_skip ?_; try simp only [ex_seq, ex_block])
                      | (refine tr_label ?_; try simp only [ex_seq, ex_block])
                      | (refine tr_exit ?_; try simp only [ex_seq_exit, ex_block_exit, Nat.reduceEqDiff, if_true, if_false, ex_seq, ex_block, reduceCtorEq, ↓reduceIte])
                      | (refine tr_ret ?_; try simp only [ex_seq_ret, ex_block_ret]))
                  refine (hQ _ _ [bA true] ?_ (fun m => rfl)).2 <;> simp only [go_sem, List.getElem?_toArray, str_beq, reduceCtorEq, Nat.reduceEqDiff, Nat.reduceLT, Nat.reduceLeDiff, Nat.reduceAdd, Nat.reduceMul, Nat.reduceSub, Nat.reduceBEq, ↓reduceIte, bne_self_eq_false, Bool.and_false, Bool.false_and, Bool.true_or, Bool.false_or, Try.f8]
end Go.Proofs.Ytkkkpbnehpfkkaa

namespace Go.Proofs.Ytkkkpbnehpfkkaa.calls
open Go.ChangeShapes Go.WideShapes Go.ChangeAt Go.RowKit Go.Vs Go.Vs.Ab

theorem own : ownKnob Try.prog.godebug = none := by kernel_rfl
theorem laidOut : laidOutB Try.prog = true := by kernel_rfl
theorem readable : (Try.f8.params.toList.all fun t => Try.prog.readableRec t && decide (t < Try.prog.types.size)) = true := by kernel_rfl
theorem shape22 : shapeOf Try.prog 8 22 = some [.sl [.str, .bool, .str]] := by kernel_rfl
theorem shape27 : shapeOf Try.prog 8 27 = some [.str, .str, .int, .bool, .str, .bool, .str, .bool, .str, .bool, .str] := by kernel_rfl
theorem shape24 : shapeOf Try.prog 8 24 = some [.bool, .str] := by kernel_rfl
theorem shape31 : shapeOf Try.prog 8 31 = some [.sl [.str]] := by kernel_rfl

set_option maxRecDepth 100000 in
theorem lifted (os : Os) (started : os.Started) (H : Type) (enc : TypeId × Value → H) :
    ReturnsInHanded {} Try.checked os 8 .any (Rows.substCallsSpec.pre6 enc Try.prog Try.f8 Rows.substCallsRow.domain false) (Rows.substCallsSpec.post enc Try.prog Try.f8 false true false false) := by
  refine returnsInHanded_of_change (C := Try.checked) own started (by kernel_rfl) Try.func8
    (ChangeSpec.witness6 (enc := enc) (C := Try.checked) false ⟨#[], #[.slice none 0 0, .slice none 0 0, .agg #[.string ⟨#[]⟩, .string ⟨#[]⟩, .int .i64 0, .bool false, .string ⟨#[]⟩, .bool false, .string ⟨#[]⟩, .bool false, .string ⟨#[]⟩, .bool false, .string ⟨#[]⟩], .string ⟨#[]⟩, .agg #[.bool false, .string ⟨#[]⟩], .slice none 0 0], []⟩ 8 (by kernel_rfl) (by kernel_rfl) (by kernel_rfl) (by kernel_rfl)) ?_
  intro W base args ds gs before hval0 hW hcnd _
  have hval : ∀ (j : Nat) t v, Try.f8.params[j]? = some t → args[j]? = some v → Value.okWide Try.prog W .any base t v := hval0
  have hW' := hW
  obtain ⟨p, q, hA0, hV, rfl, hfz, hnd⟩ := hW
  have hA : DataW.TrodAll enc Try.prog W 0 (fun _ => true) true Try.f8.params.toList args.toList ds p := hA0
  rw [Try.params8] at hA hval
  obtain ⟨v0, vs0, d0, ds0, p0, q0, hargs, rfl, rfl, h0, r0⟩ := trodAll_cons hA
  obtain ⟨v1, vs1, d1, ds1, p1, q1, rfl, rfl, rfl, h1, r1⟩ := trodAll_cons r0
  obtain ⟨v2, vs2, d2, ds2, p2, q2, rfl, rfl, rfl, h2, r2⟩ := trodAll_cons r1
  obtain ⟨v3, vs3, d3, ds3, p3, q3, rfl, rfl, rfl, h3, r3⟩ := trodAll_cons r2
  obtain ⟨v4, vs4, d4, ds4, p4, q4, rfl, rfl, rfl, h4, r4⟩ := trodAll_cons r3
  obtain ⟨v5, vs5, d5, ds5, p5, q5, rfl, rfl, rfl, h5, r5⟩ := trodAll_cons r4
  obtain ⟨rfl, rfl, rfl⟩ := trodAll_nil r5
  obtain rfl : args = #[v0, v1, v2, v3, v4, v5] := by cases args; simp_all
  obtain ⟨rfl, rfl⟩ := trodVars_none hV
  obtain ⟨a0, R0, _⟩ := open_sl Try.underlying22 shape22 bdD (hval 0 22 v0 rfl rfl) h0
  obtain ⟨a1, R1, _⟩ := open_sl Try.underlying22 shape22 bdD (hval 1 22 v1 rfl rfl) h1
  obtain ⟨a2, R2, _⟩ := open_agg Try.underlying27 shape27 atD (hval 2 27 v2 rfl rfl) h2
  obtain ⟨a3, R3, _⟩ := open_str Try.underlying9 (hval 3 9 v3 rfl rfl) h3
  obtain ⟨a4, R4, _⟩ := open_agg Try.underlying24 shape24 tmD (hval 4 24 v4 rfl rfl) h4
  obtain ⟨a5, R5, _⟩ := open_sl Try.underlying31 shape31 stD (hval 5 31 v5 rfl rfl) h5
  refine ((calls_does a0 a1 a2 a3 a4 a5 false false false).bool (Reps.cons R0 (Reps.cons R1 (Reps.cons R2 (Reps.cons R3 (Reps.cons R4 (Reps.cons R5 Reps.nil))))))).mono fun e W' ⟨he, hb⟩ => ?_
  subst he
  refine ⟨_, rfl, law_post (tb := 4) hW' rfl rfl laidOut (fun t ht => ?_) rfl Try.underlying4 hb⟩
  have := List.all_eq_true.1 readable t ht
  simp only [Bool.and_eq_true, decide_eq_true_eq] at this
  exact this

theorem holds : Rows.SubstCallsSaid :=
  OpenClaim.holds_of_wide 8 Try.f8 rfl rfl rfl rfl rfl rfl rfl ⟨rfl, rfl, rfl, rfl, rfl⟩ rfl rfl rfl rfl rfl (by kernel_rfl) Try.func8 (by kernel_rfl)
    (of_decide_eq_true (by kernel_rfl)) (by unfold Func.isWrapper; first | (rw [if_pos (by decide +kernel)]; kernel_rfl) | (rw [if_neg (by decide +kernel)]; exact ⟨rfl, rfl⟩))
    (fun os started H enc _ => lifted os started H enc)
#print axioms holds
end Go.Proofs.Ytkkkpbnehpfkkaa.calls
