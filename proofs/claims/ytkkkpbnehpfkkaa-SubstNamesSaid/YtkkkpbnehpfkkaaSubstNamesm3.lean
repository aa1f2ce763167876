/-
  For every input the statement SubstNames returns true, and leaves its arguments as they were.
-/
import Derived.Test.YtkkkpbnehpfkkaaSubstNamesm2
import Derived.Test.YtkkkpbnehpfkkaaBe
import Derived.Test.YtkkkpbnehpfkkaaAq
import Derived.Test.YtkkkpbnehpfkkaaLaw
import Derived.Test.YtkkkpbnehpfkkaaRows
/-
  Chapter 4: contracts for SubstCalls: the reference's Restrict, lists of bindings compared.
-/
set_option linter.unusedSimpArgs false
set_option linter.unusedVariables false
namespace Go.Proofs.Ytkkkpbnehpfkkaa
open Go.Vs Go.Vs.Ab
set_option maxRecDepth 100000
set_option maxHeartbeats 4000000

theorem pv_eq_bd {d : Nat} (a b : Bd) : pureVal Try.prog (Op.equalIn (d + 3) 36 (.agg #[.string a.var, .bool a.t.v, .string a.t.name]) (.agg #[.string b.var, .bool b.t.v, .string b.t.name])) = some (decide (a = b)) := by
  unfold Op.equalIn
  rw [pv_bind, pv_under Try.underlying36]
  have p0 : ∀ s : Bd, pureVal Try.prog (part 9 #[.string s.var, .bool s.t.v, .string s.t.name] 0) = some (.string s.var) := fun s => pv_part1 Try.underlying9 rfl rfl
  have p1 : ∀ s : Bd, pureVal Try.prog (part 24 #[.string s.var, .bool s.t.v, .string s.t.name] 1) = some (.agg #[.bool s.t.v, .string s.t.name]) := fun s => (pv_partA Try.underlying24 rfl sz24).trans rfl
  have e1 := pv_eq_tm (d := d) a.t b.t
  have e0 := pv_eq_str (d := d + 1) a.var b.var
  have q0 := p0 a
  have q1 := p0 b
  have q2 := p1 a
  have q3 := p1 b
  have hd : decide (a = b) = (decide (a.var = b.var) && decide (a.t = b.t)) := by
    obtain ⟨s, t⟩ := a
    obtain ⟨s', t'⟩ := b
    simp only [Bd.mk.injEq, ← Bool.decide_and]
  rw [hd]
  generalize decide (a.var = b.var) = c0 at *
  generalize decide (a.t = b.t) = c1 at *
  simp only [Option.bind_some, pv_bind, pv_prog, held_bd, Bool.false_eq_true, if_false, List.forIn_toArray, List.forIn_cons, List.forIn_nil, pv_pure, pv_if, ne_eq, String.reduceEq, not_false_eq_true, if_true, q0, q1, q2, q3, e0, e1]
  cases c0 <;> cases c1 <;> simp [pv_pure, pv_bind, pv_if, q2, q3, e1]
theorem bin_neB (x y : Operand) (s t : Bd) : pureVal Try.prog (do eqGuard .neq 36 x y (.agg #[.string s.var, .bool s.t.v, .string s.t.name]) (.agg #[.string t.var, .bool t.t.v, .string t.t.name]); binOp .neq 36 (.agg #[.string s.var, .bool s.t.v, .string s.t.name]) (.agg #[.string t.var, .bool t.t.v, .string t.t.name])) = some (.bool (!decide (s = t))) := by
  have hg : Try.prog.eqGuardType Try.prog.depth 36 = false := by kernel_rfl
  have h := pv_eq_bd (d := 9997) s t
  have g : pureVal Try.prog (eqGuard .neq 36 x y (.agg #[.string s.var, .bool s.t.v, .string s.t.name]) (.agg #[.string t.var, .bool t.t.v, .string t.t.name])) = some () := by
    simp [eqGuard, pv_bind, pv_prog, pv_pure, hg]
  rw [pv_bind, g, Option.bind_some]
  have e : binOp .neq 36 (.agg #[.string s.var, .bool s.t.v, .string s.t.name]) (.agg #[.string t.var, .bool t.t.v, .string t.t.name]) = (do pure (Value.bool (!(← Op.equal 36 (.agg #[.string s.var, .bool s.t.v, .string s.t.name]) (.agg #[.string t.var, .bool t.t.v, .string t.t.name]))))) := rfl
  rw [e, pv_bind]
  have h' : pureVal Try.prog (Op.equal 36 (.agg #[.string s.var, .bool s.t.v, .string s.t.name]) (.agg #[.string t.var, .bool t.t.v, .string t.t.name])) = some (decide (s = t)) := h
  rw [h']
  rfl
theorem sameB_does (a b : List Bd) (ex ex2 : Bool) (hl : a.length ≤ 1000000) : Does Try.prog 33 [slB ex a, slB ex2 b] (fun m => (bA (decide (a = b)), m)) := by
  cases h1 : decide ((a.length : Int) = (b.length : Int)) with
  | false =>
    have hr : decide (a = b) = false := decide_eq_false fun e => of_decide_eq_false h1 (by rw [e])
    refine does_of' Try.func33 rfl (by kernel_rfl) rfl Try.ntmps33 rfl rfl fun Q hQ => ?_
    repeat (first
        | refine tr_seq_k fun _ _ => ?_
        | (refine tr_region ?_; simp only [go_sem, List.getElem?_toArray, str_beq, reduceCtorEq, Nat.reduceEqDiff, Nat.reduceLT, Nat.reduceLeDiff, Nat.reduceAdd, Nat.reduceMul, Nat.reduceSub, Nat.reduceBEq, ↓reduceIte, bne_self_eq_false, Bool.and_false, Bool.false_and, Bool.true_or, Bool.false_or, h1])
        | (refine tr_drawC (id := 6) follows 10000 (by kernel_rfl) ?_; simp only [go_sem, List.getElem?_toArray, str_beq, reduceCtorEq, Nat.reduceEqDiff, Nat.reduceLT, Nat.reduceLeDiff, Nat.reduceAdd, Nat.reduceMul, Nat.reduceSub, Nat.reduceBEq, ↓reduceIte, bne_self_eq_false, Bool.and_false, Bool.false_and, Bool.true_or, Bool.false_or, h1])
        | refine k_of (by assumption) ?_
        | refine tr_block ?_
        | refine tr_scope ?_
        | (refine tr_skip ?_; try simp only [ex_seq, ex_block])
        | (refine tr_label ?_; try simp only [ex_seq, ex_block])
        | (refine tr_exit ?_; try simp only [ex_seq_exit, ex_block_exit, Nat.reduceEqDiff, if_true, if_false, ex_seq, ex_block, reduceCtorEq, ↓reduceIte])
        | (refine tr_ret ?_; try simp only [ex_seq_ret, ex_block_ret]))
    refine tr_cond rfl (fun ht => ?_) (fun hf => ?_)
    · repeat (first
          | refine tr_seq_k fun _ _ => ?_
          | (refine tr_region ?_; simp only [go_sem, List.getElem?_toArray, str_beq, reduceCtorEq, Nat.reduceEqDiff, Nat.reduceLT, Nat.reduceLeDiff, Nat.reduceAdd, Nat.reduceMul, Nat.reduceSub, Nat.reduceBEq, ↓reduceIte, bne_self_eq_false, Bool.and_false, Bool.false_and, Bool.true_or, Bool.false_or])
          | (refine tr_drawC (id := 6) follows 10000 (by kernel_rfl) ?_; simp only [go_sem, List.getElem?_toArray, str_beq, reduceCtorEq, Nat.reduceEqDiff, Nat.reduceLT, Nat.reduceLeDiff, Nat.reduceAdd, Nat.reduceMul, Nat.reduceSub, Nat.reduceBEq, ↓reduceIte, bne_self_eq_false, Bool.and_false, Bool.false_and, Bool.true_or, Bool.false_or])
          | refine k_of (by assumption) ?_
          | refine tr_block ?_
          | refine tr_scope ?_
          | (refine tr_skip ?_; try simp only [ex_seq, ex_block])
          | (refine tr_label ?_; try simp only [ex_seq, ex_block])
          | (refine tr_exit ?_; try simp only [ex_seq_exit, ex_block_exit, Nat.reduceEqDiff, if_true, if_false, ex_seq, ex_block, reduceCtorEq, ↓reduceIte])
          | (refine tr_ret ?_; try simp only [ex_seq_ret, ex_block_ret]))
      refine (hQ _ _ [bA false] ?_ (fun m => ?_)).2 <;> simp only [go_sem, List.getElem?_toArray, str_beq, reduceCtorEq, Nat.reduceEqDiff, Nat.reduceLT, Nat.reduceLeDiff, Nat.reduceAdd, Nat.reduceMul, Nat.reduceSub, Nat.reduceBEq, ↓reduceIte, bne_self_eq_false, Bool.and_false, Bool.false_and, Bool.true_or, Bool.false_or, Try.f33, hr]
    · cases hf
  | true =>
    have hlen : a.length = b.length := by
      have := of_decide_eq_true h1
      omega
    refine does_of' Try.func33 rfl (by kernel_rfl) rfl Try.ntmps33 rfl rfl fun Q hQ => ?_
    repeat (first
        | refine tr_seq_k fun _ _ => ?_
        | (refine tr_region ?_; simp only [go_sem, List.getElem?_toArray, str_beq, reduceCtorEq, Nat.reduceEqDiff, Nat.reduceLT, Nat.reduceLeDiff, Nat.reduceAdd, Nat.reduceMul, Nat.reduceSub, Nat.reduceBEq, ↓reduceIte, bne_self_eq_false, Bool.and_false, Bool.false_and, Bool.true_or, Bool.false_or, h1])
        | (refine tr_drawC (id := 6) follows 10000 (by kernel_rfl) ?_; simp only [go_sem, List.getElem?_toArray, str_beq, reduceCtorEq, Nat.reduceEqDiff, Nat.reduceLT, Nat.reduceLeDiff, Nat.reduceAdd, Nat.reduceMul, Nat.reduceSub, Nat.reduceBEq, ↓reduceIte, bne_self_eq_false, Bool.and_false, Bool.false_and, Bool.true_or, Bool.false_or, h1])
        | refine k_of (by assumption) ?_
        | refine tr_block ?_
        | refine tr_scope ?_
        | (refine tr_skip ?_; try simp only [ex_seq, ex_block])
        | (refine tr_label ?_; try simp only [ex_seq, ex_block])
        | (refine tr_exit ?_; try simp only [ex_seq_exit, ex_block_exit, Nat.reduceEqDiff, if_true, if_false, ex_seq, ex_block, reduceCtorEq, ↓reduceIte])
        | (refine tr_ret ?_; try simp only [ex_seq_ret, ex_block_ret]))
    refine tr_cond rfl (fun ht => ?_) (fun hf => ?_)
    · cases ht
    · repeat (first
          | refine tr_seq_k fun _ _ => ?_
          | (refine tr_region ?_; simp only [go_sem, List.getElem?_toArray, str_beq, reduceCtorEq, Nat.reduceEqDiff, Nat.reduceLT, Nat.reduceLeDiff, Nat.reduceAdd, Nat.reduceMul, Nat.reduceSub, Nat.reduceBEq, ↓reduceIte, bne_self_eq_false, Bool.and_false, Bool.false_and, Bool.true_or, Bool.false_or])
          | (refine tr_drawC (id := 6) follows 10000 (by kernel_rfl) ?_; simp only [go_sem, List.getElem?_toArray, str_beq, reduceCtorEq, Nat.reduceEqDiff, Nat.reduceLT, Nat.reduceLeDiff, Nat.reduceAdd, Nat.reduceMul, Nat.reduceSub, Nat.reduceBEq, ↓reduceIte, bne_self_eq_false, Bool.and_false, Bool.false_and, Bool.true_or, Bool.false_or])
          | refine k_of (by assumption) ?_
          | refine tr_block ?_
          | refine tr_scope ?_
          | (refine tr_skip ?_; try simp only [ex_seq, ex_block])
          | (refine tr_label ?_; try simp only [ex_seq, ex_block])
          | (refine tr_exit ?_; try simp only [ex_seq_exit, ex_block_exit, Nat.reduceEqDiff, if_true, if_false, ex_seq, ex_block, reduceCtorEq, ↓reduceIte])
          | (refine tr_ret ?_; try simp only [ex_seq_ret, ex_block_ret]))
      refine tr_loop_k (σ := Nat) (fun k => [(0, slB ex a), (1, slB ex2 b), (5, iA k)]) (fun _ => ⟨[], []⟩)
        (fun k => k ≤ a.length ∧ a.take k = b.take k) (fun k => a.length - k) 0 ⟨Nat.zero_le _, rfl⟩ ⟨rfl, rfl, rfl, trivial⟩ rfl ?_
      rintro k ⟨hk, hp⟩ K hK
      repeat (first
          | refine tr_seq_k fun _ _ => ?_
          | (refine tr_region ?_; simp only [go_sem, List.getElem?_toArray, str_beq, reduceCtorEq, Nat.reduceEqDiff, Nat.reduceLT, Nat.reduceLeDiff, Nat.reduceAdd, Nat.reduceMul, Nat.reduceSub, Nat.reduceBEq, ↓reduceIte, bne_self_eq_false, Bool.and_false, Bool.false_and, Bool.true_or, Bool.false_or])
          | (refine tr_drawC (id := 6) follows 10000 (by kernel_rfl) ?_; simp only [go_sem, List.getElem?_toArray, str_beq, reduceCtorEq, Nat.reduceEqDiff, Nat.reduceLT, Nat.reduceLeDiff, Nat.reduceAdd, Nat.reduceMul, Nat.reduceSub, Nat.reduceBEq, ↓reduceIte, bne_self_eq_false, Bool.and_false, Bool.false_and, Bool.true_or, Bool.false_or])
          | refine k_of (by assumption) ?_
          | refine tr_block ?_
          | refine tr_scope ?_
          | (refine tr_skip ?_; try simp only [ex_seq, ex_block])
          | (refine tr_label ?_; try simp only [ex_seq, ex_block])
          | (refine tr_exit ?_; try simp only [ex_seq_exit, ex_block_exit, Nat.reduceEqDiff, if_true, if_false, ex_seq, ex_block, reduceCtorEq, ↓reduceIte])
          | (refine tr_ret ?_; try simp only [ex_seq_ret, ex_block_ret]))
      refine tr_cond rfl (fun ht => ?_) (fun hf => ?_)
      · have hlt : k < a.length := by simpa using ht
        have hlb : k < b.length := by omega
        have ws := wrap_succ (show k ≤ 1000000000 by omega)
        have nB := fun x y => bin_neB x y a[k] b[k]
        simp only [pv_bind] at nB
        cases h2 : decide (a[k] = b[k]) with
        | false =>
          rw [h2] at nB
          have hr : decide (a = b) = false := decide_eq_false fun e => of_decide_eq_false h2 (by subst e; rfl)
          repeat (first
              | refine tr_seq_k fun _ _ => ?_
              | (refine tr_region ?_; simp only [go_sem, List.getElem?_toArray, str_beq, reduceCtorEq, Nat.reduceEqDiff, Nat.reduceLT, Nat.reduceLeDiff, Nat.reduceAdd, Nat.reduceMul, Nat.reduceSub, Nat.reduceBEq, ↓reduceIte, bne_self_eq_false, Bool.and_false, Bool.false_and, Bool.true_or, Bool.false_or, idxB hlt, idxB hlb, nB])
              | (refine tr_drawC (id := 6) follows 10000 (by kernel_rfl) ?_; simp only [go_sem, List.getElem?_toArray, str_beq, reduceCtorEq, Nat.reduceEqDiff, Nat.reduceLT, Nat.reduceLeDiff, Nat.reduceAdd, Nat.reduceMul, Nat.reduceSub, Nat.reduceBEq, ↓reduceIte, bne_self_eq_false, Bool.and_false, Bool.false_and, Bool.true_or, Bool.false_or, idxB hlt, idxB hlb, nB])
              | refine k_of (by assumption) ?_
              | refine tr_block ?_
              | refine tr_scope ?_
              | (refine tr_skip ?_; try simp only [ex_seq, ex_block])
              | (refine tr_label ?_; try simp only [ex_seq, ex_block])
              | (refine tr_exit ?_; try simp only [ex_seq_exit, ex_block_exit, Nat.reduceEqDiff, if_true, if_false, ex_seq, ex_block, reduceCtorEq, ↓reduceIte])
              | (refine tr_ret ?_; try simp only [ex_seq_ret, ex_block_ret]))
          refine tr_cond rfl (fun ht => ?_) (fun hf => ?_)
          · repeat (first
                | refine tr_seq_k fun _ _ => ?_
                | (refine tr_region ?_; simp only [go_sem, List.getElem?_toArray, str_beq, reduceCtorEq, Nat.reduceEqDiff, Nat.reduceLT, Nat.reduceLeDiff, Nat.reduceAdd, Nat.reduceMul, Nat.reduceSub, Nat.reduceBEq, ↓reduceIte, bne_self_eq_false, Bool.and_false, Bool.false_and, Bool.true_or, Bool.false_or])
                | (refine tr_drawC (id := 6) follows 10000 (by kernel_rfl) ?_; simp only [go_sem, List.getElem?_toArray, str_beq, reduceCtorEq, Nat.reduceEqDiff, Nat.reduceLT, Nat.reduceLeDiff, Nat.reduceAdd, Nat.reduceMul, Nat.reduceSub, Nat.reduceBEq, ↓reduceIte, bne_self_eq_false, Bool.and_false, Bool.false_and, Bool.true_or, Bool.false_or])
                | refine k_of (by assumption) ?_
                | refine tr_block ?_
                | refine tr_scope ?_
                | (refine tr_skip ?_; try simp only [ex_seq, ex_block])
                | (refine tr_label ?_; try simp only [ex_seq, ex_block])
                | (refine tr_exit ?_; try simp only [ex_seq_exit, ex_block_exit, Nat.reduceEqDiff, if_true, if_false, ex_seq, ex_block, reduceCtorEq, ↓reduceIte])
                | (refine tr_ret ?_; try simp only [ex_seq_ret, ex_block_ret]))
            refine (hQ _ _ [bA false] ?_ (fun m => ?_)).2 <;> simp only [go_sem, List.getElem?_toArray, str_beq, reduceCtorEq, Nat.reduceEqDiff, Nat.reduceLT, Nat.reduceLeDiff, Nat.reduceAdd, Nat.reduceMul, Nat.reduceSub, Nat.reduceBEq, ↓reduceIte, bne_self_eq_false, Bool.and_false, Bool.false_and, Bool.true_or, Bool.false_or, Try.f33, hr]
          · cases hf
        | true =>
          rw [h2] at nB
          repeat (first
              | refine tr_seq_k fun _ _ => ?_
              | (refine tr_region ?_; simp only [go_sem, List.getElem?_toArray, str_beq, reduceCtorEq, Nat.reduceEqDiff, Nat.reduceLT, Nat.reduceLeDiff, Nat.reduceAdd, Nat.reduceMul, Nat.reduceSub, Nat.reduceBEq, ↓reduceIte, bne_self_eq_false, Bool.and_false, Bool.false_and, Bool.true_or, Bool.false_or, idxB hlt, idxB hlb, nB])
              | (refine tr_drawC (id := 6) follows 10000 (by kernel_rfl) ?_; simp only [go_sem, List.getElem?_toArray, str_beq, reduceCtorEq, Nat.reduceEqDiff, Nat.reduceLT, Nat.reduceLeDiff, Nat.reduceAdd, Nat.reduceMul, Nat.reduceSub, Nat.reduceBEq, ↓reduceIte, bne_self_eq_false, Bool.and_false, Bool.false_and, Bool.true_or, Bool.false_or, idxB hlt, idxB hlb, nB])
              | refine k_of (by assumption) ?_
              | refine tr_block ?_
              | refine tr_scope ?_
              | (refine tr_skip ?_; try simp only [ex_seq, ex_block])
              | (refine tr_label ?_; try simp only [ex_seq, ex_block])
              | (refine tr_exit ?_; try simp only [ex_seq_exit, ex_block_exit, Nat.reduceEqDiff, if_true, if_false, ex_seq, ex_block, reduceCtorEq, ↓reduceIte])
              | (refine tr_ret ?_; try simp only [ex_seq_ret, ex_block_ret]))
          refine tr_cond rfl (fun ht => ?_) (fun hf => ?_)
          · cases ht
          · repeat (first
                | refine tr_seq_k fun _ _ => ?_
                | (refine tr_region ?_; simp only [go_sem, List.getElem?_toArray, str_beq, reduceCtorEq, Nat.reduceEqDiff, Nat.reduceLT, Nat.reduceLeDiff, Nat.reduceAdd, Nat.reduceMul, Nat.reduceSub, Nat.reduceBEq, ↓reduceIte, bne_self_eq_false, Bool.and_false, Bool.false_and, Bool.true_or, Bool.false_or, ws])
                | (refine tr_drawC (id := 6) follows 10000 (by kernel_rfl) ?_; simp only [go_sem, List.getElem?_toArray, str_beq, reduceCtorEq, Nat.reduceEqDiff, Nat.reduceLT, Nat.reduceLeDiff, Nat.reduceAdd, Nat.reduceMul, Nat.reduceSub, Nat.reduceBEq, ↓reduceIte, bne_self_eq_false, Bool.and_false, Bool.false_and, Bool.true_or, Bool.false_or, ws])
                | refine k_of (by assumption) ?_
                | refine tr_block ?_
                | refine tr_scope ?_
                | (refine tr_skip ?_; try simp only [ex_seq, ex_block])
                | (refine tr_label ?_; try simp only [ex_seq, ex_block])
                | (refine tr_exit ?_; try simp only [ex_seq_exit, ex_block_exit, Nat.reduceEqDiff, if_true, if_false, ex_seq, ex_block, reduceCtorEq, ↓reduceIte])
                | (refine tr_ret ?_; try simp only [ex_seq_ret, ex_block_ret]))
            exact hK (k + 1) _ _ ⟨hlt, take_next_eq hlt hlb hp (of_decide_eq_true h2)⟩ ⟨⟨rfl, rfl, rfl, trivial⟩, Keep.refl _, rfl, rfl, Nat.le_refl _, Nat.le_refl _⟩ (by omega)
      · have hkl : k = a.length := by
          have := of_decide_eq_false hf
          omega
        have hr : decide (a = b) = true := by
          rw [hkl, List.take_length, hlen, List.take_length] at hp
          exact decide_eq_true hp
        repeat (first
            | refine tr_seq_k fun _ _ => ?_
            | (refine tr_region ?_; simp only [go_sem, List.getElem?_toArray, str_beq, reduceCtorEq, Nat.reduceEqDiff, Nat.reduceLT, Nat.reduceLeDiff, Nat.reduceAdd, Nat.reduceMul, Nat.reduceSub, Nat.reduceBEq, ↓reduceIte, bne_self_eq_false, Bool.and_false, Bool.false_and, Bool.true_or, Bool.false_or])
            | (refine tr_drawC (id := 6) follows 10000 (by kernel_rfl) ?_; simp only [go_sem, List.getElem?_toArray, str_beq, reduceCtorEq, Nat.reduceEqDiff, Nat.reduceLT, Nat.reduceLeDiff, Nat.reduceAdd, Nat.reduceMul, Nat.reduceSub, Nat.reduceBEq, ↓reduceIte, bne_self_eq_false, Bool.and_false, Bool.false_and, Bool.true_or, Bool.false_or])
            | refine k_of (by assumption) ?_
            | refine tr_block ?_
            | refine tr_scope ?_
            | (refine tr_skip ?_; try simp only [ex_seq, ex_block])
            | (refine tr_label ?_; try simp only [ex_seq, ex_block])
            | (refine tr_exit ?_; try simp only [ex_seq_exit, ex_block_exit, Nat.reduceEqDiff, if_true, if_false, ex_seq, ex_block, reduceCtorEq, ↓reduceIte])
            | (refine tr_ret ?_; try simp only [ex_seq_ret, ex_block_ret]))
        refine (hQ _ _ [bA true] ?_ (fun m => ?_)).2 <;> simp only [go_sem, List.getElem?_toArray, str_beq, reduceCtorEq, Nat.reduceEqDiff, Nat.reduceLT, Nat.reduceLeDiff, Nat.reduceAdd, Nat.reduceMul, Nat.reduceSub, Nat.reduceBEq, ↓reduceIte, bne_self_eq_false, Bool.and_false, Bool.false_and, Bool.true_or, Bool.false_or, Try.f33, hr]
theorem prestrict_next {l : List Bd} {V : List ByteArray} {k : Nat} (hk : k < l.length) : prestrict (l.take (k + 1)) V = if pin V l[k].var then prestrict (l.take k) V ++ [l[k]] else prestrict (l.take k) V := by
  unfold prestrict
  rw [List.take_succ_eq_append_getElem hk, List.filter_append]
  cases h : pin V l[k].var <;> simp [h]
theorem prestrict_len (l : List Bd) (V : List ByteArray) : (prestrict l V).length ≤ l.length := List.length_filter_le _ _
theorem r4restrict_does (l : List Bd) (xs : List ByteArray) (ex ex2 : Bool) (hl : l.length ≤ 100000) (hx : xs.length ≤ 1000000) : Does Try.prog 40 [slB ex l, slS ex2 xs] (fun m => (slB (prestrict l xs).isEmpty (prestrict l xs), m)) := by
  refine Does.shut (e := 36) (size := 3) ?_
  refine does_of' Try.func40 rfl (by kernel_rfl) rfl Try.ntmps40 rfl rfl fun Q hQ => ?_
  repeat (first
      | refine tr_seq_k fun _ _ => ?_
      | (refine tr_region ?_; simp only [go_sem, List.getElem?_toArray, str_beq, reduceCtorEq, Nat.reduceEqDiff, Nat.reduceLT, Nat.reduceLeDiff, Nat.reduceAdd, Nat.reduceMul, Nat.reduceSub, Nat.reduceBEq, ↓reduceIte, bne_self_eq_false, Bool.and_false, Bool.false_and, Bool.true_or, Bool.false_or])
      | (refine tr_drawC (id := 9) follows 10000 (by kernel_rfl) ?_; simp only [go_sem, List.getElem?_toArray, str_beq, reduceCtorEq, Nat.reduceEqDiff, Nat.reduceLT, Nat.reduceLeDiff, Nat.reduceAdd, Nat.reduceMul, Nat.reduceSub, Nat.reduceBEq, ↓reduceIte, bne_self_eq_false, Bool.and_false, Bool.false_and, Bool.true_or, Bool.false_or])
      | refine k_of (by assumption) ?_
      | refine tr_block ?_
      | refine tr_scope ?_
      | (refine tr_skip ?_; try simp only [ex_seq, ex_block])
      | (refine tr_label ?_; try simp only [ex_seq, ex_block])
      | (refine tr_exit ?_; try simp only [ex_seq_exit, ex_block_exit, Nat.reduceEqDiff, if_true, if_false, ex_seq, ex_block, reduceCtorEq, ↓reduceIte])
      | (refine tr_ret ?_; try simp only [ex_seq_ret, ex_block_ret]))
  refine tr_loop_k (σ := Nat) (fun k => [(0, slB ex l), (1, slS ex2 xs), (5, colA bdC 0 (prestrict (l.take k) xs)), (6, iA k)]) (fun k => ⟨[], colH 36 3 (prestrict (l.take k) xs)⟩)
    (fun k => k ≤ l.length) (fun k => l.length - k) 0 (Nat.zero_le _) ⟨rfl, rfl, rfl, rfl, trivial⟩ rfl ?_
  rintro k hk K hK
  repeat (first
      | refine tr_seq_k fun _ _ => ?_
      | (refine tr_region ?_; simp only [go_sem, List.getElem?_toArray, str_beq, reduceCtorEq, Nat.reduceEqDiff, Nat.reduceLT, Nat.reduceLeDiff, Nat.reduceAdd, Nat.reduceMul, Nat.reduceSub, Nat.reduceBEq, ↓reduceIte, bne_self_eq_false, Bool.and_false, Bool.false_and, Bool.true_or, Bool.false_or])
      | (refine tr_drawC (id := 9) follows 10000 (by kernel_rfl) ?_; simp only [go_sem, List.getElem?_toArray, str_beq, reduceCtorEq, Nat.reduceEqDiff, Nat.reduceLT, Nat.reduceLeDiff, Nat.reduceAdd, Nat.reduceMul, Nat.reduceSub, Nat.reduceBEq, ↓reduceIte, bne_self_eq_false, Bool.and_false, Bool.false_and, Bool.true_or, Bool.false_or])
      | refine k_of (by assumption) ?_
      | refine tr_block ?_
      | refine tr_scope ?_
      | (refine tr_skip ?_; try simp only [ex_seq, ex_block])
      | (refine tr_label ?_; try simp only [ex_seq, ex_block])
      | (refine tr_exit ?_; try simp only [ex_seq_exit, ex_block_exit, Nat.reduceEqDiff, if_true, if_false, ex_seq, ex_block, reduceCtorEq, ↓reduceIte])
      | (refine tr_ret ?_; try simp only [ex_seq_ret, ex_block_ret]))
  refine tr_cond rfl (fun ht => ?_) (fun hf => ?_)
  · have hlt : k < l.length := by simpa using ht
    have ws := wrap_succ (show k ≤ 1000000000 by omega)
    have hnx := prestrict_next (V := xs) hlt
    have hle := prestrict_len (l.take k) xs
    rw [List.length_take] at hle
    generalize hO : prestrict (l.take k) xs = O at *
    repeat (first
        | refine tr_seq_k fun _ _ => ?_
        | (refine tr_region ?_; simp only [go_sem, List.getElem?_toArray, str_beq, reduceCtorEq, Nat.reduceEqDiff, Nat.reduceLT, Nat.reduceLeDiff, Nat.reduceAdd, Nat.reduceMul, Nat.reduceSub, Nat.reduceBEq, ↓reduceIte, bne_self_eq_false, Bool.and_false, Bool.false_and, Bool.true_or, Bool.false_or])
        | (refine tr_drawC (id := 9) follows 10000 (by kernel_rfl) ?_; simp only [go_sem, List.getElem?_toArray, str_beq, reduceCtorEq, Nat.reduceEqDiff, Nat.reduceLT, Nat.reduceLeDiff, Nat.reduceAdd, Nat.reduceMul, Nat.reduceSub, Nat.reduceBEq, ↓reduceIte, bne_self_eq_false, Bool.and_false, Bool.false_and, Bool.true_or, Bool.false_or])
        | refine k_of (by assumption) ?_
        | refine tr_block ?_
        | refine tr_scope ?_
        | (refine tr_skip ?_; try simp only [ex_seq, ex_block])
        | (refine tr_label ?_; try simp only [ex_seq, ex_block])
        | (refine tr_exit ?_; try simp only [ex_seq_exit, ex_block_exit, Nat.reduceEqDiff, if_true, if_false, ex_seq, ex_block, reduceCtorEq, ↓reduceIte])
        | (refine tr_ret ?_; try simp only [ex_seq_ret, ex_block_ret]))
    refine tr_loop_k (σ := Nat) (fun j => [(0, slB ex l), (1, slS ex2 xs), (5, colA bdC 0 O), (6, iA k), (7, bA (pin (xs.take j) l[k].var)), (8, iA j)]) (fun _ => ⟨[], colH 36 3 O⟩)
      (fun j => j ≤ xs.length) (fun j => xs.length - j) 0 (Nat.zero_le _) ⟨rfl, rfl, rfl, rfl, rfl, rfl, trivial⟩ rfl ?_
    rintro j hj K2 hK2
    repeat (first
        | refine tr_seq_k fun _ _ => ?_
        | (refine tr_region ?_; simp only [go_sem, List.getElem?_toArray, str_beq, reduceCtorEq, Nat.reduceEqDiff, Nat.reduceLT, Nat.reduceLeDiff, Nat.reduceAdd, Nat.reduceMul, Nat.reduceSub, Nat.reduceBEq, ↓reduceIte, bne_self_eq_false, Bool.and_false, Bool.false_and, Bool.true_or, Bool.false_or])
        | (refine tr_drawC (id := 9) follows 10000 (by kernel_rfl) ?_; simp only [go_sem, List.getElem?_toArray, str_beq, reduceCtorEq, Nat.reduceEqDiff, Nat.reduceLT, Nat.reduceLeDiff, Nat.reduceAdd, Nat.reduceMul, Nat.reduceSub, Nat.reduceBEq, ↓reduceIte, bne_self_eq_false, Bool.and_false, Bool.false_and, Bool.true_or, Bool.false_or])
        | refine k_of (by assumption) ?_
        | refine tr_block ?_
        | refine tr_scope ?_
        | (refine tr_skip ?_; try simp only [ex_seq, ex_block])
        | (refine tr_label ?_; try simp only [ex_seq, ex_block])
        | (refine tr_exit ?_; try simp only [ex_seq_exit, ex_block_exit, Nat.reduceEqDiff, if_true, if_false, ex_seq, ex_block, reduceCtorEq, ↓reduceIte])
        | (refine tr_ret ?_; try simp only [ex_seq_ret, ex_block_ret]))
    refine tr_cond rfl (fun ht => ?_) (fun hf => ?_)
    · have hjl : j < xs.length := by simpa using ht
      have wj := wrap_succ (show j ≤ 1000000000 by omega)
      have hpn := pin_next (s := l[k].var) hjl
      cases hp : pin (xs.take j) l[k].var with
      | true =>
        rw [hp, Bool.true_or] at hpn
        repeat (first
            | refine tr_seq_k fun _ _ => ?_
            | (refine tr_region ?_; simp only [go_sem, List.getElem?_toArray, str_beq, reduceCtorEq, Nat.reduceEqDiff, Nat.reduceLT, Nat.reduceLeDiff, Nat.reduceAdd, Nat.reduceMul, Nat.reduceSub, Nat.reduceBEq, ↓reduceIte, bne_self_eq_false, Bool.and_false, Bool.false_and, Bool.true_or, Bool.false_or, wj])
            | (refine tr_drawC (id := 9) follows 10000 (by kernel_rfl) ?_; simp only [go_sem, List.getElem?_toArray, str_beq, reduceCtorEq, Nat.reduceEqDiff, Nat.reduceLT, Nat.reduceLeDiff, Nat.reduceAdd, Nat.reduceMul, Nat.reduceSub, Nat.reduceBEq, ↓reduceIte, bne_self_eq_false, Bool.and_false, Bool.false_and, Bool.true_or, Bool.false_or, wj])
            | refine k_of (by assumption) ?_
            | refine tr_block ?_
            | refine tr_scope ?_
            | (refine tr_skip ?_; try simp only [ex_seq, ex_block])
            | (refine tr_label ?_; try simp only [ex_seq, ex_block])
            | (refine tr_exit ?_; try simp only [ex_seq_exit, ex_block_exit, Nat.reduceEqDiff, if_true, if_false, ex_seq, ex_block, reduceCtorEq, ↓reduceIte])
            | (refine tr_ret ?_; try simp only [ex_seq_ret, ex_block_ret]))
        exact hK2 (j + 1) _ _ hjl ⟨⟨rfl, rfl, rfl, rfl, by rw [hpn]; rfl, rfl, trivial⟩, Keep.of (eh := []) (ew := []) rfl (List.append_nil _).symm, by simp only [lowF, low_col]; rfl, rfl, Nat.le_refl _, Nat.le_refl _⟩ (by omega)
      | false =>
        rw [hp, Bool.false_or] at hpn
        repeat (first
            | refine tr_seq_k fun _ _ => ?_
            | (refine tr_region ?_; simp only [go_sem, List.getElem?_toArray, str_beq, reduceCtorEq, Nat.reduceEqDiff, Nat.reduceLT, Nat.reduceLeDiff, Nat.reduceAdd, Nat.reduceMul, Nat.reduceSub, Nat.reduceBEq, ↓reduceIte, bne_self_eq_false, Bool.and_false, Bool.false_and, Bool.true_or, Bool.false_or, idxS hjl, idxB hlt, wj])
            | (refine tr_drawC (id := 9) follows 10000 (by kernel_rfl) ?_; simp only [go_sem, List.getElem?_toArray, str_beq, reduceCtorEq, Nat.reduceEqDiff, Nat.reduceLT, Nat.reduceLeDiff, Nat.reduceAdd, Nat.reduceMul, Nat.reduceSub, Nat.reduceBEq, ↓reduceIte, bne_self_eq_false, Bool.and_false, Bool.false_and, Bool.true_or, Bool.false_or, idxS hjl, idxB hlt, wj])
            | refine k_of (by assumption) ?_
            | refine tr_block ?_
            | refine tr_scope ?_
            | (refine tr_skip ?_; try simp only [ex_seq, ex_block])
            | (refine tr_label ?_; try simp only [ex_seq, ex_block])
            | (refine tr_exit ?_; try simp only [ex_seq_exit, ex_block_exit, Nat.reduceEqDiff, if_true, if_false, ex_seq, ex_block, reduceCtorEq, ↓reduceIte])
            | (refine tr_ret ?_; try simp only [ex_seq_ret, ex_block_ret]))
        exact hK2 (j + 1) _ _ hjl ⟨⟨rfl, rfl, rfl, rfl, by rw [hpn]; rfl, rfl, trivial⟩, Keep.of (eh := []) (ew := []) rfl (List.append_nil _).symm, by simp only [lowF, low_col]; rfl, rfl, Nat.le_refl _, Nat.le_refl _⟩ (by omega)
    · have hjl : j = xs.length := by
        have := of_decide_eq_false hf
        omega
      subst hjl
      rw [List.take_length]
      cases hp : pin xs l[k].var with
      | true =>
        rw [hp, if_pos rfl] at hnx
        have ap := fun hp => appB hp O l[k] (by omega)
        rw [← hnx] at ap
        repeat (first
            | refine tr_seq_k fun _ _ => ?_
            | (refine tr_region ?_; simp only [go_sem, List.getElem?_toArray, str_beq, reduceCtorEq, Nat.reduceEqDiff, Nat.reduceLT, Nat.reduceLeDiff, Nat.reduceAdd, Nat.reduceMul, Nat.reduceSub, Nat.reduceBEq, ↓reduceIte, bne_self_eq_false, Bool.and_false, Bool.false_and, Bool.true_or, Bool.false_or])
            | (refine tr_drawC (id := 9) follows 10000 (by kernel_rfl) ?_; simp only [go_sem, List.getElem?_toArray, str_beq, reduceCtorEq, Nat.reduceEqDiff, Nat.reduceLT, Nat.reduceLeDiff, Nat.reduceAdd, Nat.reduceMul, Nat.reduceSub, Nat.reduceBEq, ↓reduceIte, bne_self_eq_false, Bool.and_false, Bool.false_and, Bool.true_or, Bool.false_or])
            | refine k_of (by assumption) ?_
            | refine tr_block ?_
            | refine tr_scope ?_
            | (refine tr_skip ?_; try simp only [ex_seq, ex_block])
            | (refine tr_label ?_; try simp only [ex_seq, ex_block])
            | (refine tr_exit ?_; try simp only [ex_seq_exit, ex_block_exit, Nat.reduceEqDiff, if_true, if_false, ex_seq, ex_block, reduceCtorEq, ↓reduceIte])
            | (refine tr_ret ?_; try simp only [ex_seq_ret, ex_block_ret]))
        refine tr_cond rfl (fun ht => ?_) (fun hf => ?_)
        · repeat (first
              | refine tr_seq_k fun _ _ => ?_
              | (refine tr_region ?_; simp only [go_sem, List.getElem?_toArray, str_beq, reduceCtorEq, Nat.reduceEqDiff, Nat.reduceLT, Nat.reduceLeDiff, Nat.reduceAdd, Nat.reduceMul, Nat.reduceSub, Nat.reduceBEq, ↓reduceIte, bne_self_eq_false, Bool.and_false, Bool.false_and, Bool.true_or, Bool.false_or, idxB hlt, build1B', one_max, ap, ws])
              | (refine tr_drawC (id := 9) follows 10000 (by kernel_rfl) ?_; simp only [go_sem, List.getElem?_toArray, str_beq, reduceCtorEq, Nat.reduceEqDiff, Nat.reduceLT, Nat.reduceLeDiff, Nat.reduceAdd, Nat.reduceMul, Nat.reduceSub, Nat.reduceBEq, ↓reduceIte, bne_self_eq_false, Bool.and_false, Bool.false_and, Bool.true_or, Bool.false_or, idxB hlt, build1B', one_max, ap, ws])
              | refine k_of (by assumption) ?_
              | refine tr_block ?_
              | refine tr_scope ?_
              | (refine tr_skip ?_; try simp only [ex_seq, ex_block])
              | (refine tr_label ?_; try simp only [ex_seq, ex_block])
              | (refine tr_exit ?_; try simp only [ex_seq_exit, ex_block_exit, Nat.reduceEqDiff, if_true, if_false, ex_seq, ex_block, reduceCtorEq, ↓reduceIte])
              | (refine tr_ret ?_; try simp only [ex_seq_ret, ex_block_ret]))
          exact hK (k + 1) _ _ hlt ⟨⟨rfl, rfl, rfl, rfl, trivial⟩, Keep.of (eh := []) (ew := []) rfl (List.append_nil _).symm, by simp only [lowF, low_col]; rfl, rfl, Nat.le_refl _, Nat.zero_le _⟩ (by omega)
        · cases hf
      | false =>
        rw [hp] at hnx
        have hnx : prestrict (l.take (k + 1)) xs = O := hnx
        repeat (first
            | refine tr_seq_k fun _ _ => ?_
            | (refine tr_region ?_; simp only [go_sem, List.getElem?_toArray, str_beq, reduceCtorEq, Nat.reduceEqDiff, Nat.reduceLT, Nat.reduceLeDiff, Nat.reduceAdd, Nat.reduceMul, Nat.reduceSub, Nat.reduceBEq, ↓reduceIte, bne_self_eq_false, Bool.and_false, Bool.false_and, Bool.true_or, Bool.false_or])
            | (refine tr_drawC (id := 9) follows 10000 (by kernel_rfl) ?_; simp only [go_sem, List.getElem?_toArray, str_beq, reduceCtorEq, Nat.reduceEqDiff, Nat.reduceLT, Nat.reduceLeDiff, Nat.reduceAdd, Nat.reduceMul, Nat.reduceSub, Nat.reduceBEq, ↓reduceIte, bne_self_eq_false, Bool.and_false, Bool.false_and, Bool.true_or, Bool.false_or])
            | refine k_of (by assumption) ?_
            | refine tr_block ?_
            | refine tr_scope ?_
            | (refine tr_skip ?_; try simp only [ex_seq, ex_block])
            | (refine tr_label ?_; try simp only [ex_seq, ex_block])
            | (refine tr_exit ?_; try simp only [ex_seq_exit, ex_block_exit, Nat.reduceEqDiff, if_true, if_false, ex_seq, ex_block, reduceCtorEq, ↓reduceIte])
            | (refine tr_ret ?_; try simp only [ex_seq_ret, ex_block_ret]))
        refine tr_cond rfl (fun ht => ?_) (fun hf => ?_)
        · cases ht
        · repeat (first
              | refine tr_seq_k fun _ _ => ?_
              | (refine tr_region ?_; simp only [go_sem, List.getElem?_toArray, str_beq, reduceCtorEq, Nat.reduceEqDiff, Nat.reduceLT, Nat.reduceLeDiff, Nat.reduceAdd, Nat.reduceMul, Nat.reduceSub, Nat.reduceBEq, ↓reduceIte, bne_self_eq_false, Bool.and_false, Bool.false_and, Bool.true_or, Bool.false_or, ws])
              | (refine tr_drawC (id := 9) follows 10000 (by kernel_rfl) ?_; simp only [go_sem, List.getElem?_toArray, str_beq, reduceCtorEq, Nat.reduceEqDiff, Nat.reduceLT, Nat.reduceLeDiff, Nat.reduceAdd, Nat.reduceMul, Nat.reduceSub, Nat.reduceBEq, ↓reduceIte, bne_self_eq_false, Bool.and_false, Bool.false_and, Bool.true_or, Bool.false_or, ws])
              | refine k_of (by assumption) ?_
              | refine tr_block ?_
              | refine tr_scope ?_
              | (refine tr_skip ?_; try simp only [ex_seq, ex_block])
              | (refine tr_label ?_; try simp only [ex_seq, ex_block])
              | (refine tr_exit ?_; try simp only [ex_seq_exit, ex_block_exit, Nat.reduceEqDiff, if_true, if_false, ex_seq, ex_block, reduceCtorEq, ↓reduceIte])
              | (refine tr_ret ?_; try simp only [ex_seq_ret, ex_block_ret]))
          exact hK (k + 1) _ _ hlt ⟨⟨rfl, rfl, by rw [hnx]; rfl, rfl, trivial⟩, by rw [hnx]; exact Keep.of (eh := []) (ew := []) rfl (List.append_nil _).symm, by simp only [lowF, low_col]; rfl, rfl, Nat.le_refl _, Nat.zero_le _⟩ (by omega)
  · have hkl : k = l.length := by
      have := of_decide_eq_false hf
      omega
    subst hkl
    rw [List.take_length]
    repeat (first
        | refine tr_seq_k fun _ _ => ?_
        | (refine tr_region ?_; simp only [go_sem, List.getElem?_toArray, str_beq, reduceCtorEq, Nat.reduceEqDiff, Nat.reduceLT, Nat.reduceLeDiff, Nat.reduceAdd, Nat.reduceMul, Nat.reduceSub, Nat.reduceBEq, ↓reduceIte, bne_self_eq_false, Bool.and_false, Bool.false_and, Bool.true_or, Bool.false_or])
        | (refine tr_drawC (id := 9) follows 10000 (by kernel_rfl) ?_; simp only [go_sem, List.getElem?_toArray, str_beq, reduceCtorEq, Nat.reduceEqDiff, Nat.reduceLT, Nat.reduceLeDiff, Nat.reduceAdd, Nat.reduceMul, Nat.reduceSub, Nat.reduceBEq, ↓reduceIte, bne_self_eq_false, Bool.and_false, Bool.false_and, Bool.true_or, Bool.false_or])
        | refine k_of (by assumption) ?_
        | refine tr_block ?_
        | refine tr_scope ?_
        | (refine tr_skip ?_; try simp only [ex_seq, ex_block])
        | (refine tr_label ?_; try simp only [ex_seq, ex_block])
        | (refine tr_exit ?_; try simp only [ex_seq_exit, ex_block_exit, Nat.reduceEqDiff, if_true, if_false, ex_seq, ex_block, reduceCtorEq, ↓reduceIte])
        | (refine tr_ret ?_; try simp only [ex_seq_ret, ex_block_ret]))
    refine (hQ _ _ [colA bdC 0 (prestrict l xs)] ?_ (fun m => ret_col bdC 36 3 (prestrict l xs) _ m)).2 <;> simp only [go_sem, List.getElem?_toArray, str_beq, reduceCtorEq, Nat.reduceEqDiff, Nat.reduceLT, Nat.reduceLeDiff, Nat.reduceAdd, Nat.reduceMul, Nat.reduceSub, Nat.reduceBEq, ↓reduceIte, bne_self_eq_false, Bool.and_false, Bool.false_and, Bool.true_or, Bool.false_or, Try.f40]
end Go.Proofs.Ytkkkpbnehpfkkaa

/-
  Chapter 4: SubstNames: the walk on abstract values.
-/
set_option linter.unusedSimpArgs false
set_option linter.unusedVariables false
namespace Go.Proofs.Ytkkkpbnehpfkkaa
open Go.Vs Go.Vs.Ab
set_option maxRecDepth 100000
set_option maxHeartbeats 8000000

abbrev y4X : ByteArray := ⟨#[88]⟩
abbrev y4Y : ByteArray := ⟨#[89]⟩
abbrev y4Z : ByteArray := ⟨#[90]⟩
abbrev y4Q : ByteArray := ⟨#[81]⟩
abbrev y4b : ByteArray := ⟨#[98]⟩
abbrev y4c : ByteArray := ⟨#[99]⟩
def two4L : List Bd := [⟨y4X, ⟨false, y4b⟩⟩, ⟨y4Y, ⟨true, y4Z⟩⟩]
def wantL : List Bd := [⟨y4X, ⟨false, y4b⟩⟩, ⟨y4Y, ⟨false, y4c⟩⟩, ⟨y4Z, ⟨false, y4c⟩⟩]
theorem bs4 (s1 : ByteArray) (v1 : Bool) (n1 : ByteArray) (s2 : ByteArray) (v2 : Bool) (n2 : ByteArray) : aBuildSlice Try.prog 22 2 [(0, .agg [.v (.string s1), .v (.bool v1), .v (.string n1)]), (1, .agg [.v (.string s2), .v (.bool v2), .v (.string n2)])] = some [.v (.string s1), .v (.bool v1), .v (.string n1), .v (.string s2), .v (.bool v2), .v (.string n2)] := by
  simp only [aBuildSlice, Try.underlying22, sz36, ze36]
  rfl
theorem bs43 (s1 : ByteArray) (v1 : Bool) (n1 : ByteArray) (s2 : ByteArray) (v2 : Bool) (n2 : ByteArray) (s3 : ByteArray) (v3 : Bool) (n3 : ByteArray) : aBuildSlice Try.prog 22 3 [(0, .agg [.v (.string s1), .v (.bool v1), .v (.string n1)]), (1, .agg [.v (.string s2), .v (.bool v2), .v (.string n2)]), (2, .agg [.v (.string s3), .v (.bool v3), .v (.string n3)])] = some [.v (.string s1), .v (.bool v1), .v (.string n1), .v (.string s2), .v (.bool v2), .v (.string n2), .v (.string s3), .v (.bool v3), .v (.string n3)] := by
  simp only [aBuildSlice, Try.underlying22, sz36, ze36]
  rfl
theorem bs4S (s t : ByteArray) : aBuildSlice Try.prog 31 2 [(0, .c (.v (.string s))), (1, .c (.v (.string t)))] = some [.v (.string s), .v (.string t)] := by
  simp only [aBuildSlice, Try.underlying31, sz9, ze9]
  rfl
theorem two4 : (2 ≤ maxLen) = True := eq_true (by decide)
theorem three4 : (3 ≤ maxLen) = True := eq_true (by decide)
theorem two_does : Does Try.prog 32 [] (fun m => (slB true two4L, m)) := by
  have cb := c_does y4b
  have vZ := v_does y4Z
  refine does_of' Try.func32 rfl (by kernel_rfl) rfl Try.ntmps32 rfl rfl fun Q hQ => ?_
  repeat (first
      | refine tr_seq_k fun _ _ => ?_
      | (refine tr_region ?_; simp only [go_sem, List.getElem?_toArray, str_beq, reduceCtorEq, Nat.reduceEqDiff, Nat.reduceLT, Nat.reduceLeDiff, Nat.reduceAdd, Nat.reduceMul, Nat.reduceSub, Nat.reduceBEq, ↓reduceIte, bne_self_eq_false, Bool.and_false, Bool.false_and, Bool.true_or, Bool.false_or, bs4, two4])
      | (refine call_of (cb) ?_ ?_
         · first | rfl | simp only [go_sem, List.getElem?_toArray, str_beq, reduceCtorEq, Nat.reduceEqDiff, Nat.reduceLT, Nat.reduceLeDiff, Nat.reduceAdd, Nat.reduceMul, Nat.reduceSub, Nat.reduceBEq, ↓reduceIte, bne_self_eq_false, Bool.and_false, Bool.false_and, Bool.true_or, Bool.false_or, bs4, two4, shut_col]
         simp only [go_sem, List.getElem?_toArray, str_beq, reduceCtorEq, Nat.reduceEqDiff, Nat.reduceLT, Nat.reduceLeDiff, Nat.reduceAdd, Nat.reduceMul, Nat.reduceSub, Nat.reduceBEq, ↓reduceIte, bne_self_eq_false, Bool.and_false, Bool.false_and, Bool.true_or, Bool.false_or, bs4, two4])
      | (refine call_of (vZ) ?_ ?_
         · first | rfl | simp only [go_sem, List.getElem?_toArray, str_beq, reduceCtorEq, Nat.reduceEqDiff, Nat.reduceLT, Nat.reduceLeDiff, Nat.reduceAdd, Nat.reduceMul, Nat.reduceSub, Nat.reduceBEq, ↓reduceIte, bne_self_eq_false, Bool.and_false, Bool.false_and, Bool.true_or, Bool.false_or, bs4, two4, shut_col]
         simp only [go_sem, List.getElem?_toArray, str_beq, reduceCtorEq, Nat.reduceEqDiff, Nat.reduceLT, Nat.reduceLeDiff, Nat.reduceAdd, Nat.reduceMul, Nat.reduceSub, Nat.reduceBEq, ↓reduceIte, bne_self_eq_false, Bool.and_false, Bool.false_and, Bool.true_or, Bool.false_or, bs4, two4])
      | refine k_of (by assumption) ?_
      | refine tr_block ?_
      | refine tr_scope ?_
      | (refine tr_skip ?_; try simp only [ex_seq, ex_block])
      | (refine tr_label ?_; try simp only [ex_seq, ex_block])
      | (refine tr_exit ?_; try simp only [ex_seq_exit, ex_block_exit, Nat.reduceEqDiff, if_true, if_false, ex_seq, ex_block, reduceCtorEq, ↓reduceIte])
      | (refine tr_ret ?_; try simp only [ex_seq_ret, ex_block_ret]))
  refine (hQ _ _ [.c (.sl true 2 [.v (.string y4X), .v (.bool false), .v (.string y4b), .v (.string y4Y), .v (.bool true), .v (.string y4Z)])] ?_ (fun m => rfl)).2 <;> simp only [go_sem, List.getElem?_toArray, str_beq, reduceCtorEq, Nat.reduceEqDiff, Nat.reduceLT, Nat.reduceLeDiff, Nat.reduceAdd, Nat.reduceMul, Nat.reduceSub, Nat.reduceBEq, ↓reduceIte, bne_self_eq_false, Bool.and_false, Bool.false_and, Bool.true_or, Bool.false_or, Try.f32]
theorem app4 (hp : List Blk) : aAppend Try.prog ⟨hp, []⟩ 22 (slB true two4L) (slB true two4L) = some (.own 0 4 ((two4L ++ two4L).flatMap bdC), ⟨hp, [⟨4, 36, 3⟩]⟩) := by
  simp only [aAppend, Try.underlying22, info_b, slR, slV]
  rfl
theorem names4_does : Does Try.prog 7 [] (fun m => (bA true, m)) := by
  have ct := two_does
  have cb := c_does y4b
  have cc := c_does y4c
  have cX := c_does y4X
  have vX := v_does y4X
  have vY := v_does y4Y
  have vZ := v_does y4Z
  have b1 := bind_does two4L y4Z ⟨false, y4c⟩ true (by decide)
  rw [show pbL two4L y4Z ⟨false, y4c⟩ = wantL by decide +kernel, show pbE two4L y4Z ⟨false, y4c⟩ = 0 by decide +kernel] at b1
  have b2 := bind_does two4L y4X ⟨false, y4c⟩ true (by decide)
  rw [show pbL two4L y4X ⟨false, y4c⟩ = [] by decide +kernel, show pbE two4L y4X ⟨false, y4c⟩ = 5 by decide +kernel] at b2
  have b3 := bind_does two4L y4Z ⟨true, y4Y⟩ true (by decide)
  rw [show pbL two4L y4Z ⟨true, y4Y⟩ = [] by decide +kernel, show pbE two4L y4Z ⟨true, y4Y⟩ = 2 by decide +kernel] at b3
  have b4 := bind_does two4L ⟨#[]⟩ ⟨false, y4c⟩ true (by decide)
  rw [show pbL two4L ⟨#[]⟩ ⟨false, y4c⟩ = [] by decide +kernel, show pbE two4L ⟨#[]⟩ ⟨false, y4c⟩ = 2 by decide +kernel] at b4
  have b5 := bind_does [⟨y4X, ⟨true, y4X⟩⟩] y4Y ⟨false, y4c⟩ true (by decide)
  rw [show pbL [⟨y4X, ⟨true, y4X⟩⟩] y4Y ⟨false, y4c⟩ = [] by decide +kernel, show pbE [⟨y4X, ⟨true, y4X⟩⟩] y4Y ⟨false, y4c⟩ = 15 by decide +kernel] at b5
  have c1 := compose_does [⟨y4X, ⟨true, y4Y⟩⟩] [⟨y4Y, ⟨true, y4X⟩⟩] true true (by decide) (by decide)
  rw [show pcR [⟨y4X, ⟨true, y4Y⟩⟩] [⟨y4Y, ⟨true, y4X⟩⟩] = [⟨y4Y, ⟨true, y4X⟩⟩] by decide +kernel, show pcE [⟨y4X, ⟨true, y4Y⟩⟩] [⟨y4Y, ⟨true, y4X⟩⟩] = true by decide +kernel] at c1
  have c2 := compose_does two4L [⟨y4Z, ⟨false, y4c⟩⟩] true true (by decide) (by decide)
  rw [show pcR two4L [⟨y4Z, ⟨false, y4c⟩⟩] = wantL by decide +kernel, show pcE two4L [⟨y4Z, ⟨false, y4c⟩⟩] = true by decide +kernel] at c2
  have g1 := get_does two4L y4Y true (by decide)
  rw [show (pget two4L y4Y).getD noTm = ⟨true, y4Z⟩ by decide +kernel, show (pget two4L y4Y).isSome = true by decide +kernel] at g1
  have g2 := get_does two4L y4Z true (by decide)
  rw [show (pget two4L y4Z).getD noTm = noTm by decide +kernel, show (pget two4L y4Z).isSome = false by decide +kernel] at g2
  have s1 := sameB_does wantL wantL false true (by decide)
  have s2 := sameB_does [⟨y4Y, ⟨true, y4X⟩⟩] [⟨y4Y, ⟨true, y4X⟩⟩] false true (by decide)
  have s3 := sameB_does [⟨y4Y, ⟨true, y4Z⟩⟩] [⟨y4Y, ⟨true, y4Z⟩⟩] false true (by decide)
  rw [decide_eq_true rfl] at s1 s2 s3
  have tX := term_does two4L ⟨false, y4X⟩ true (by decide)
  rw [show pterm two4L ⟨false, y4X⟩ = ⟨false, y4X⟩ from rfl] at tX
  have rs := restrict_does two4L [y4Y, y4Q] true true (by decide)
  rw [show prestrict two4L [y4Y, y4Q] = [⟨y4Y, ⟨true, y4Z⟩⟩] by decide +kernel] at rs
  have st := sl_tail (P := Try.prog) bdC 3 (fun _ => rfl) Try.underlying22 sz36 (ex := true) (l := two4L) (i := 1) (by decide)
  have st : aSlice Try.prog 22 (slB true two4L) (some 1) none none = some (slB true [⟨y4Y, ⟨true, y4Z⟩⟩]) := st
  have ck := check_does (two4L ++ two4L) false (by decide)
  rw [show pcheck (two4L ++ two4L) = false by decide +kernel] at ck
  have e1 := fun x y => bin_eqT x y ⟨true, y4Z⟩ ⟨true, y4Z⟩
  have e2 := fun x y => bin_eqT x y ⟨false, y4X⟩ ⟨false, y4X⟩
  rw [decide_eq_true rfl] at e1 e2
  simp only [pv_bind] at e1 e2
  refine does_of' Try.func7 rfl (by kernel_rfl) rfl Try.ntmps7 rfl rfl fun Q hQ => ?_
  repeat (first
      | refine tr_seq_k fun _ _ => ?_
      | (refine tr_region ?_; simp only [go_sem, List.getElem?_toArray, str_beq, reduceCtorEq, Nat.reduceEqDiff, Nat.reduceLT, Nat.reduceLeDiff, Nat.reduceAdd, Nat.reduceMul, Nat.reduceSub, Nat.reduceBEq, ↓reduceIte, bne_self_eq_false, Bool.and_false, Bool.false_and, Bool.true_or, Bool.false_or])
      | (refine tr_drawM (id := 13) follows [0, 1, 3, 7, 7, 31, 63, 127, 255, 511, 1023, 2047, 4095, 8191, 16383, 32767, 65535, 131071, 262143, 524287, 1048575, 2097151, 4194303, 8388607, 16777215, 33554431, 67108863, 134217727, 268435455, 268435455, 805306367, 1879048191, 4294967295, 8589934591, 17179869183, 34359738367, 68719476735, 137438953471, 274877906943, 549755813887, 549755813887, 2199023255551, 4398046511103, 8796093022207, 17592186044415, 35184372088831, 70368744177663, 140737488355327, 140737488355327, 562949953421311, 1125899906842623, 2251799813685247, 4503599627370495, 9007199254740991, 18014398509481983, 36028797018963967, 72057594037927935, 144115188075855871, 288230376151711743, 576460752303423487, 1152921504606846975, 2305843009213693951, 4611686018427387903, 9223372036854775807, 9223372036854775807, 36893488147419103231, 73786976294838206463, 147573952589676412927, 295147905179352825855, 590295810358705651711, 1180591620717411303423, 2361183241434822606847, 4722366482869645213695, 9444732965739290427391, 18889465931478580854783, 37778931862957161709567, 75557863725914323419135, 151115727451828646838271] (by kernel_rfl) ?_; (try (rw [List.append_eq]; simp only [List.cons_append, List.nil_append])); simp (maxSteps := 4000000) only [go_sem, List.getElem?_toArray, str_beq, reduceCtorEq, Nat.reduceEqDiff, Nat.reduceLT, Nat.reduceLeDiff, Nat.reduceAdd, Nat.reduceMul, Nat.reduceSub, Nat.reduceBEq, ↓reduceIte, bne_self_eq_false, Bool.and_false, Bool.false_and, Bool.true_or, Bool.false_or])
      | (refine call_of (lives_does) ?_ ?_
         · first | rfl | simp only [go_sem, List.getElem?_toArray, str_beq, reduceCtorEq, Nat.reduceEqDiff, Nat.reduceLT, Nat.reduceLeDiff, Nat.reduceAdd, Nat.reduceMul, Nat.reduceSub, Nat.reduceBEq, ↓reduceIte, bne_self_eq_false, Bool.and_false, Bool.false_and, Bool.true_or, Bool.false_or, shut_col]
         simp only [go_sem, List.getElem?_toArray, str_beq, reduceCtorEq, Nat.reduceEqDiff, Nat.reduceLT, Nat.reduceLeDiff, Nat.reduceAdd, Nat.reduceMul, Nat.reduceSub, Nat.reduceBEq, ↓reduceIte, bne_self_eq_false, Bool.and_false, Bool.false_and, Bool.true_or, Bool.false_or])
      | refine k_of (by assumption) ?_
      | refine tr_block ?_
      | refine tr_scope ?_
      | (refine tr_skip ?_; try simp only [ex_seq, ex_block])
      | (refine tr_label ?_; try simp only [ex_seq, ex_block])
      | (refine tr_exit ?_; try simp only [ex_seq_exit, ex_block_exit, Nat.reduceEqDiff, if_true, if_false, ex_seq, ex_block, reduceCtorEq, ↓reduceIte])
      | (refine tr_ret ?_; try simp only [ex_seq_ret, ex_block_ret]))
  refine tr_cond rfl (fun ht => ?_) (fun hf => ?_)
  · cases ht
  · repeat (first
        | refine tr_seq_k fun _ _ => ?_
        | (refine tr_region ?_; simp only [go_sem, List.getElem?_toArray, str_beq, reduceCtorEq, Nat.reduceEqDiff, Nat.reduceLT, Nat.reduceLeDiff, Nat.reduceAdd, Nat.reduceMul, Nat.reduceSub, Nat.reduceBEq, ↓reduceIte, bne_self_eq_false, Bool.and_false, Bool.false_and, Bool.true_or, Bool.false_or, bs4, bs43, build1B', one_max, two4, three4])
        | (refine call_of (ct) ?_ ?_
           · first | rfl | simp only [go_sem, List.getElem?_toArray, str_beq, reduceCtorEq, Nat.reduceEqDiff, Nat.reduceLT, Nat.reduceLeDiff, Nat.reduceAdd, Nat.reduceMul, Nat.reduceSub, Nat.reduceBEq, ↓reduceIte, bne_self_eq_false, Bool.and_false, Bool.false_and, Bool.true_or, Bool.false_or, bs4, bs43, build1B', one_max, two4, three4, shut_col]
           simp only [go_sem, List.getElem?_toArray, str_beq, reduceCtorEq, Nat.reduceEqDiff, Nat.reduceLT, Nat.reduceLeDiff, Nat.reduceAdd, Nat.reduceMul, Nat.reduceSub, Nat.reduceBEq, ↓reduceIte, bne_self_eq_false, Bool.and_false, Bool.false_and, Bool.true_or, Bool.false_or, bs4, bs43, build1B', one_max, two4, three4])
        | (refine call_of (cb) ?_ ?_
           · first | rfl | simp only [go_sem, List.getElem?_toArray, str_beq, reduceCtorEq, Nat.reduceEqDiff, Nat.reduceLT, Nat.reduceLeDiff, Nat.reduceAdd, Nat.reduceMul, Nat.reduceSub, Nat.reduceBEq, ↓reduceIte, bne_self_eq_false, Bool.and_false, Bool.false_and, Bool.true_or, Bool.false_or, bs4, bs43, build1B', one_max, two4, three4, shut_col]
           simp only [go_sem, List.getElem?_toArray, str_beq, reduceCtorEq, Nat.reduceEqDiff, Nat.reduceLT, Nat.reduceLeDiff, Nat.reduceAdd, Nat.reduceMul, Nat.reduceSub, Nat.reduceBEq, ↓reduceIte, bne_self_eq_false, Bool.and_false, Bool.false_and, Bool.true_or, Bool.false_or, bs4, bs43, build1B', one_max, two4, three4])
        | (refine call_of (cc) ?_ ?_
           · first | rfl | simp only [go_sem, List.getElem?_toArray, str_beq, reduceCtorEq, Nat.reduceEqDiff, Nat.reduceLT, Nat.reduceLeDiff, Nat.reduceAdd, Nat.reduceMul, Nat.reduceSub, Nat.reduceBEq, ↓reduceIte, bne_self_eq_false, Bool.and_false, Bool.false_and, Bool.true_or, Bool.false_or, bs4, bs43, build1B', one_max, two4, three4, shut_col]
           simp only [go_sem, List.getElem?_toArray, str_beq, reduceCtorEq, Nat.reduceEqDiff, Nat.reduceLT, Nat.reduceLeDiff, Nat.reduceAdd, Nat.reduceMul, Nat.reduceSub, Nat.reduceBEq, ↓reduceIte, bne_self_eq_false, Bool.and_false, Bool.false_and, Bool.true_or, Bool.false_or, bs4, bs43, build1B', one_max, two4, three4])
        | (refine call_of (vX) ?_ ?_
           · first | rfl | simp only [go_sem, List.getElem?_toArray, str_beq, reduceCtorEq, Nat.reduceEqDiff, Nat.reduceLT, Nat.reduceLeDiff, Nat.reduceAdd, Nat.reduceMul, Nat.reduceSub, Nat.reduceBEq, ↓reduceIte, bne_self_eq_false, Bool.and_false, Bool.false_and, Bool.true_or, Bool.false_or, bs4, bs43, build1B', one_max, two4, three4, shut_col]
           simp only [go_sem, List.getElem?_toArray, str_beq, reduceCtorEq, Nat.reduceEqDiff, Nat.reduceLT, Nat.reduceLeDiff, Nat.reduceAdd, Nat.reduceMul, Nat.reduceSub, Nat.reduceBEq, ↓reduceIte, bne_self_eq_false, Bool.and_false, Bool.false_and, Bool.true_or, Bool.false_or, bs4, bs43, build1B', one_max, two4, three4])
        | (refine call_of (vY) ?_ ?_
           · first | rfl | simp only [go_sem, List.getElem?_toArray, str_beq, reduceCtorEq, Nat.reduceEqDiff, Nat.reduceLT, Nat.reduceLeDiff, Nat.reduceAdd, Nat.reduceMul, Nat.reduceSub, Nat.reduceBEq, ↓reduceIte, bne_self_eq_false, Bool.and_false, Bool.false_and, Bool.true_or, Bool.false_or, bs4, bs43, build1B', one_max, two4, three4, shut_col]
           simp only [go_sem, List.getElem?_toArray, str_beq, reduceCtorEq, Nat.reduceEqDiff, Nat.reduceLT, Nat.reduceLeDiff, Nat.reduceAdd, Nat.reduceMul, Nat.reduceSub, Nat.reduceBEq, ↓reduceIte, bne_self_eq_false, Bool.and_false, Bool.false_and, Bool.true_or, Bool.false_or, bs4, bs43, build1B', one_max, two4, three4])
        | (refine call_of (b1) ?_ ?_
           · first | rfl | simp only [go_sem, List.getElem?_toArray, str_beq, reduceCtorEq, Nat.reduceEqDiff, Nat.reduceLT, Nat.reduceLeDiff, Nat.reduceAdd, Nat.reduceMul, Nat.reduceSub, Nat.reduceBEq, ↓reduceIte, bne_self_eq_false, Bool.and_false, Bool.false_and, Bool.true_or, Bool.false_or, bs4, bs43, build1B', one_max, two4, three4, shut_col]
           simp only [go_sem, List.getElem?_toArray, str_beq, reduceCtorEq, Nat.reduceEqDiff, Nat.reduceLT, Nat.reduceLeDiff, Nat.reduceAdd, Nat.reduceMul, Nat.reduceSub, Nat.reduceBEq, ↓reduceIte, bne_self_eq_false, Bool.and_false, Bool.false_and, Bool.true_or, Bool.false_or, bs4, bs43, build1B', one_max, two4, three4])
        | (refine call_of (b2) ?_ ?_
           · first | rfl | simp only [go_sem, List.getElem?_toArray, str_beq, reduceCtorEq, Nat.reduceEqDiff, Nat.reduceLT, Nat.reduceLeDiff, Nat.reduceAdd, Nat.reduceMul, Nat.reduceSub, Nat.reduceBEq, ↓reduceIte, bne_self_eq_false, Bool.and_false, Bool.false_and, Bool.true_or, Bool.false_or, bs4, bs43, build1B', one_max, two4, three4, shut_col]
           simp only [go_sem, List.getElem?_toArray, str_beq, reduceCtorEq, Nat.reduceEqDiff, Nat.reduceLT, Nat.reduceLeDiff, Nat.reduceAdd, Nat.reduceMul, Nat.reduceSub, Nat.reduceBEq, ↓reduceIte, bne_self_eq_false, Bool.and_false, Bool.false_and, Bool.true_or, Bool.false_or, bs4, bs43, build1B', one_max, two4, three4])
        | (refine call_of (b3) ?_ ?_
           · first | rfl | simp only [go_sem, List.getElem?_toArray, str_beq, reduceCtorEq, Nat.reduceEqDiff, Nat.reduceLT, Nat.reduceLeDiff, Nat.reduceAdd, Nat.reduceMul, Nat.reduceSub, Nat.reduceBEq, ↓reduceIte, bne_self_eq_false, Bool.and_false, Bool.false_and, Bool.true_or, Bool.false_or, bs4, bs43, build1B', one_max, two4, three4, shut_col]
           simp only [go_sem, List.getElem?_toArray, str_beq, reduceCtorEq, Nat.reduceEqDiff, Nat.reduceLT, Nat.reduceLeDiff, Nat.reduceAdd, Nat.reduceMul, Nat.reduceSub, Nat.reduceBEq, ↓reduceIte, bne_self_eq_false, Bool.and_false, Bool.false_and, Bool.true_or, Bool.false_or, bs4, bs43, build1B', one_max, two4, three4])
        | (refine call_of (b4) ?_ ?_
           · first | rfl | simp only [go_sem, List.getElem?_toArray, str_beq, reduceCtorEq, Nat.reduceEqDiff, Nat.reduceLT, Nat.reduceLeDiff, Nat.reduceAdd, Nat.reduceMul, Nat.reduceSub, Nat.reduceBEq, ↓reduceIte, bne_self_eq_false, Bool.and_false, Bool.false_and, Bool.true_or, Bool.false_or, bs4, bs43, build1B', one_max, two4, three4, shut_col]
           simp only [go_sem, List.getElem?_toArray, str_beq, reduceCtorEq, Nat.reduceEqDiff, Nat.reduceLT, Nat.reduceLeDiff, Nat.reduceAdd, Nat.reduceMul, Nat.reduceSub, Nat.reduceBEq, ↓reduceIte, bne_self_eq_false, Bool.and_false, Bool.false_and, Bool.true_or, Bool.false_or, bs4, bs43, build1B', one_max, two4, three4])
        | (refine call_of (b5) ?_ ?_
           · first | rfl | simp only [go_sem, List.getElem?_toArray, str_beq, reduceCtorEq, Nat.reduceEqDiff, Nat.reduceLT, Nat.reduceLeDiff, Nat.reduceAdd, Nat.reduceMul, Nat.reduceSub, Nat.reduceBEq, ↓reduceIte, bne_self_eq_false, Bool.and_false, Bool.false_and, Bool.true_or, Bool.false_or, bs4, bs43, build1B', one_max, two4, three4, shut_col]
           simp only [go_sem, List.getElem?_toArray, str_beq, reduceCtorEq, Nat.reduceEqDiff, Nat.reduceLT, Nat.reduceLeDiff, Nat.reduceAdd, Nat.reduceMul, Nat.reduceSub, Nat.reduceBEq, ↓reduceIte, bne_self_eq_false, Bool.and_false, Bool.false_and, Bool.true_or, Bool.false_or, bs4, bs43, build1B', one_max, two4, three4])
        | (refine call_of (c1) ?_ ?_
           · first | rfl | simp only [go_sem, List.getElem?_toArray, str_beq, reduceCtorEq, Nat.reduceEqDiff, Nat.reduceLT, Nat.reduceLeDiff, Nat.reduceAdd, Nat.reduceMul, Nat.reduceSub, Nat.reduceBEq, ↓reduceIte, bne_self_eq_false, Bool.and_false, Bool.false_and, Bool.true_or, Bool.false_or, bs4, bs43, build1B', one_max, two4, three4, shut_col]
           simp only [go_sem, List.getElem?_toArray, str_beq, reduceCtorEq, Nat.reduceEqDiff, Nat.reduceLT, Nat.reduceLeDiff, Nat.reduceAdd, Nat.reduceMul, Nat.reduceSub, Nat.reduceBEq, ↓reduceIte, bne_self_eq_false, Bool.and_false, Bool.false_and, Bool.true_or, Bool.false_or, bs4, bs43, build1B', one_max, two4, three4])
        | (refine call_of (c2) ?_ ?_
           · first | rfl | simp only [go_sem, List.getElem?_toArray, str_beq, reduceCtorEq, Nat.reduceEqDiff, Nat.reduceLT, Nat.reduceLeDiff, Nat.reduceAdd, Nat.reduceMul, Nat.reduceSub, Nat.reduceBEq, ↓reduceIte, bne_self_eq_false, Bool.and_false, Bool.false_and, Bool.true_or, Bool.false_or, bs4, bs43, build1B', one_max, two4, three4, shut_col]
           simp only [go_sem, List.getElem?_toArray, str_beq, reduceCtorEq, Nat.reduceEqDiff, Nat.reduceLT, Nat.reduceLeDiff, Nat.reduceAdd, Nat.reduceMul, Nat.reduceSub, Nat.reduceBEq, ↓reduceIte, bne_self_eq_false, Bool.and_false, Bool.false_and, Bool.true_or, Bool.false_or, bs4, bs43, build1B', one_max, two4, three4])
        | (refine call_of (g1) ?_ ?_
           · first | rfl | simp only [go_sem, List.getElem?_toArray, str_beq, reduceCtorEq, Nat.reduceEqDiff, Nat.reduceLT, Nat.reduceLeDiff, Nat.reduceAdd, Nat.reduceMul, Nat.reduceSub, Nat.reduceBEq, ↓reduceIte, bne_self_eq_false, Bool.and_false, Bool.false_and, Bool.true_or, Bool.false_or, bs4, bs43, build1B', one_max, two4, three4, shut_col]
           simp only [go_sem, List.getElem?_toArray, str_beq, reduceCtorEq, Nat.reduceEqDiff, Nat.reduceLT, Nat.reduceLeDiff, Nat.reduceAdd, Nat.reduceMul, Nat.reduceSub, Nat.reduceBEq, ↓reduceIte, bne_self_eq_false, Bool.and_false, Bool.false_and, Bool.true_or, Bool.false_or, bs4, bs43, build1B', one_max, two4, three4])
        | (refine call_of (g2) ?_ ?_
           · first | rfl | simp only [go_sem, List.getElem?_toArray, str_beq, reduceCtorEq, Nat.reduceEqDiff, Nat.reduceLT, Nat.reduceLeDiff, Nat.reduceAdd, Nat.reduceMul, Nat.reduceSub, Nat.reduceBEq, ↓reduceIte, bne_self_eq_false, Bool.and_false, Bool.false_and, Bool.true_or, Bool.false_or, bs4, bs43, build1B', one_max, two4, three4, shut_col]
           simp only [go_sem, List.getElem?_toArray, str_beq, reduceCtorEq, Nat.reduceEqDiff, Nat.reduceLT, Nat.reduceLeDiff, Nat.reduceAdd, Nat.reduceMul, Nat.reduceSub, Nat.reduceBEq, ↓reduceIte, bne_self_eq_false, Bool.and_false, Bool.false_and, Bool.true_or, Bool.false_or, bs4, bs43, build1B', one_max, two4, three4])
        | refine k_of (by assumption) ?_
        | refine tr_block ?_
        | refine tr_scope ?_
        | (refine tr_skip ?_; try simp only [ex_seq, ex_block])
        | (refine tr_label ?_; try simp only [ex_seq, ex_block])
        | (refine tr_exit ?_; try simp only [ex_seq_exit, ex_block_exit, Nat.reduceEqDiff, if_true, if_false, ex_seq, ex_block, reduceCtorEq, ↓reduceIte])
        | (refine tr_ret ?_; try simp only [ex_seq_ret, ex_block_ret]))
    refine tr_sub (fr' := [(1, _), (2, _), (3, _), (5, _), (7, _), (9, _), (11, _), (12, _), (13, _), (14, _), (15, _), (16, _), (17, _), (19, _)]) ⟨rfl, rfl, rfl, rfl, rfl, rfl, rfl, rfl, rfl, rfl, rfl, rfl, rfl, rfl, trivial⟩ ?_
    repeat (first
        | refine tr_seq_k fun _ _ => ?_
        | (refine tr_region ?_; simp only [go_sem, List.getElem?_toArray, str_beq, reduceCtorEq, Nat.reduceEqDiff, Nat.reduceLT, Nat.reduceLeDiff, Nat.reduceAdd, Nat.reduceMul, Nat.reduceSub, Nat.reduceBEq, ↓reduceIte, bne_self_eq_false, Bool.and_false, Bool.false_and, Bool.true_or, Bool.false_or, bs4, bs43, bs4S, build1B', one_max, two4, three4, st, app4, e1, e2, int_beq, show decide ((0 : Int) = 0) = true from rfl, show decide ((5 : Int) = 5) = true from rfl, show decide ((2 : Int) = 2) = true from rfl, show decide ((15 : Int) = 15) = true from rfl])
        | (refine tr_drawM (id := 13) follows [0, 1, 3, 7, 7, 31, 63, 127, 255, 511, 1023, 2047, 4095, 8191, 16383, 32767, 65535, 131071, 262143, 524287, 1048575, 2097151, 4194303, 8388607, 16777215, 33554431, 67108863, 134217727, 268435455, 268435455, 805306367, 1879048191, 4294967295, 8589934591, 17179869183, 34359738367, 68719476735, 137438953471, 274877906943, 549755813887, 549755813887, 2199023255551, 4398046511103, 8796093022207, 17592186044415, 35184372088831, 70368744177663, 140737488355327, 140737488355327, 562949953421311, 1125899906842623, 2251799813685247, 4503599627370495, 9007199254740991, 18014398509481983, 36028797018963967, 72057594037927935, 144115188075855871, 288230376151711743, 576460752303423487, 1152921504606846975, 2305843009213693951, 4611686018427387903, 9223372036854775807, 9223372036854775807, 36893488147419103231, 73786976294838206463, 147573952589676412927, 295147905179352825855, 590295810358705651711, 1180591620717411303423, 2361183241434822606847, 4722366482869645213695, 9444732965739290427391, 18889465931478580854783, 37778931862957161709567, 75557863725914323419135, 151115727451828646838271] (by kernel_rfl) ?_; (try (rw [List.append_eq]; simp only [List.cons_append, List.nil_append])); simp (maxSteps := 4000000) only [go_sem, List.getElem?_toArray, str_beq, reduceCtorEq, Nat.reduceEqDiff, Nat.reduceLT, Nat.reduceLeDiff, Nat.reduceAdd, Nat.reduceMul, Nat.reduceSub, Nat.reduceBEq, ↓reduceIte, bne_self_eq_false, Bool.and_false, Bool.false_and, Bool.true_or, Bool.false_or, bs4, bs43, bs4S, build1B', one_max, two4, three4, st, app4, e1, e2, int_beq, show decide ((0 : Int) = 0) = true from rfl, show decide ((5 : Int) = 5) = true from rfl, show decide ((2 : Int) = 2) = true from rfl, show decide ((15 : Int) = 15) = true from rfl])
        | (refine call_of (ct) ?_ ?_
           · first | rfl | simp only [go_sem, List.getElem?_toArray, str_beq, reduceCtorEq, Nat.reduceEqDiff, Nat.reduceLT, Nat.reduceLeDiff, Nat.reduceAdd, Nat.reduceMul, Nat.reduceSub, Nat.reduceBEq, ↓reduceIte, bne_self_eq_false, Bool.and_false, Bool.false_and, Bool.true_or, Bool.false_or, bs4, bs43, bs4S, build1B', one_max, two4, three4, st, app4, e1, e2, int_beq, show decide ((0 : Int) = 0) = true from rfl, show decide ((5 : Int) = 5) = true from rfl, show decide ((2 : Int) = 2) = true from rfl, show decide ((15 : Int) = 15) = true from rfl, shut_col]
           simp only [go_sem, List.getElem?_toArray, str_beq, reduceCtorEq, Nat.reduceEqDiff, Nat.reduceLT, Nat.reduceLeDiff, Nat.reduceAdd, Nat.reduceMul, Nat.reduceSub, Nat.reduceBEq, ↓reduceIte, bne_self_eq_false, Bool.and_false, Bool.false_and, Bool.true_or, Bool.false_or, bs4, bs43, bs4S, build1B', one_max, two4, three4, st, app4, e1, e2, int_beq, show decide ((0 : Int) = 0) = true from rfl, show decide ((5 : Int) = 5) = true from rfl, show decide ((2 : Int) = 2) = true from rfl, show decide ((15 : Int) = 15) = true from rfl])
        | (refine call_of (cb) ?_ ?_
           · first | rfl | simp only [go_sem, List.getElem?_toArray, str_beq, reduceCtorEq, Nat.reduceEqDiff, Nat.reduceLT, Nat.reduceLeDiff, Nat.reduceAdd, Nat.reduceMul, Nat.reduceSub, Nat.reduceBEq, ↓reduceIte, bne_self_eq_false, Bool.and_false, Bool.false_and, Bool.true_or, Bool.false_or, bs4, bs43, bs4S, build1B', one_max, two4, three4, st, app4, e1, e2, int_beq, show decide ((0 : Int) = 0) = true from rfl, show decide ((5 : Int) = 5) = true from rfl, show decide ((2 : Int) = 2) = true from rfl, show decide ((15 : Int) = 15) = true from rfl, shut_col]
           simp only [go_sem, List.getElem?_toArray, str_beq, reduceCtorEq, Nat.reduceEqDiff, Nat.reduceLT, Nat.reduceLeDiff, Nat.reduceAdd, Nat.reduceMul, Nat.reduceSub, Nat.reduceBEq, ↓reduceIte, bne_self_eq_false, Bool.and_false, Bool.false_and, Bool.true_or, Bool.false_or, bs4, bs43, bs4S, build1B', one_max, two4, three4, st, app4, e1, e2, int_beq, show decide ((0 : Int) = 0) = true from rfl, show decide ((5 : Int) = 5) = true from rfl, show decide ((2 : Int) = 2) = true from rfl, show decide ((15 : Int) = 15) = true from rfl])
        | (refine call_of (cc) ?_ ?_
           · first | rfl | simp only [go_sem, List.getElem?_toArray, str_beq, reduceCtorEq, Nat.reduceEqDiff, Nat.reduceLT, Nat.reduceLeDiff, Nat.reduceAdd, Nat.reduceMul, Nat.reduceSub, Nat.reduceBEq, ↓reduceIte, bne_self_eq_false, Bool.and_false, Bool.false_and, Bool.true_or, Bool.false_or, bs4, bs43, bs4S, build1B', one_max, two4, three4, st, app4, e1, e2, int_beq, show decide ((0 : Int) = 0) = true from rfl, show decide ((5 : Int) = 5) = true from rfl, show decide ((2 : Int) = 2) = true from rfl, show decide ((15 : Int) = 15) = true from rfl, shut_col]
           simp only [go_sem, List.getElem?_toArray, str_beq, reduceCtorEq, Nat.reduceEqDiff, Nat.reduceLT, Nat.reduceLeDiff, Nat.reduceAdd, Nat.reduceMul, Nat.reduceSub, Nat.reduceBEq, ↓reduceIte, bne_self_eq_false, Bool.and_false, Bool.false_and, Bool.true_or, Bool.false_or, bs4, bs43, bs4S, build1B', one_max, two4, three4, st, app4, e1, e2, int_beq, show decide ((0 : Int) = 0) = true from rfl, show decide ((5 : Int) = 5) = true from rfl, show decide ((2 : Int) = 2) = true from rfl, show decide ((15 : Int) = 15) = true from rfl])
        | (refine call_of (cX) ?_ ?_
           · first | rfl | simp only [go_sem, List.getElem?_toArray, str_beq, reduceCtorEq, Nat.reduceEqDiff, Nat.reduceLT, Nat.reduceLeDiff, Nat.reduceAdd, Nat.reduceMul, Nat.reduceSub, Nat.reduceBEq, ↓reduceIte, bne_self_eq_false, Bool.and_false, Bool.false_and, Bool.true_or, Bool.false_or, bs4, bs43, bs4S, build1B', one_max, two4, three4, st, app4, e1, e2, int_beq, show decide ((0 : Int) = 0) = true from rfl, show decide ((5 : Int) = 5) = true from rfl, show decide ((2 : Int) = 2) = true from rfl, show decide ((15 : Int) = 15) = true from rfl, shut_col]
           simp only [go_sem, List.getElem?_toArray, str_beq, reduceCtorEq, Nat.reduceEqDiff, Nat.reduceLT, Nat.reduceLeDiff, Nat.reduceAdd, Nat.reduceMul, Nat.reduceSub, Nat.reduceBEq, ↓reduceIte, bne_self_eq_false, Bool.and_false, Bool.false_and, Bool.true_or, Bool.false_or, bs4, bs43, bs4S, build1B', one_max, two4, three4, st, app4, e1, e2, int_beq, show decide ((0 : Int) = 0) = true from rfl, show decide ((5 : Int) = 5) = true from rfl, show decide ((2 : Int) = 2) = true from rfl, show decide ((15 : Int) = 15) = true from rfl])
        | (refine call_of (vX) ?_ ?_
           · first | rfl | simp only [go_sem, List.getElem?_toArray, str_beq, reduceCtorEq, Nat.reduceEqDiff, Nat.reduceLT, Nat.reduceLeDiff, Nat.reduceAdd, Nat.reduceMul, Nat.reduceSub, Nat.reduceBEq, ↓reduceIte, bne_self_eq_false, Bool.and_false, Bool.false_and, Bool.true_or, Bool.false_or, bs4, bs43, bs4S, build1B', one_max, two4, three4, st, app4, e1, e2, int_beq, show decide ((0 : Int) = 0) = true from rfl, show decide ((5 : Int) = 5) = true from rfl, show decide ((2 : Int) = 2) = true from rfl, show decide ((15 : Int) = 15) = true from rfl, shut_col]
           simp only [go_sem, List.getElem?_toArray, str_beq, reduceCtorEq, Nat.reduceEqDiff, Nat.reduceLT, Nat.reduceLeDiff, Nat.reduceAdd, Nat.reduceMul, Nat.reduceSub, Nat.reduceBEq, ↓reduceIte, bne_self_eq_false, Bool.and_false, Bool.false_and, Bool.true_or, Bool.false_or, bs4, bs43, bs4S, build1B', one_max, two4, three4, st, app4, e1, e2, int_beq, show decide ((0 : Int) = 0) = true from rfl, show decide ((5 : Int) = 5) = true from rfl, show decide ((2 : Int) = 2) = true from rfl, show decide ((15 : Int) = 15) = true from rfl])
        | (refine call_of (vY) ?_ ?_
           · first | rfl | simp only [go_sem, List.getElem?_toArray, str_beq, reduceCtorEq, Nat.reduceEqDiff, Nat.reduceLT, Nat.reduceLeDiff, Nat.reduceAdd, Nat.reduceMul, Nat.reduceSub, Nat.reduceBEq, ↓reduceIte, bne_self_eq_false, Bool.and_false, Bool.false_and, Bool.true_or, Bool.false_or, bs4, bs43, bs4S, build1B', one_max, two4, three4, st, app4, e1, e2, int_beq, show decide ((0 : Int) = 0) = true from rfl, show decide ((5 : Int) = 5) = true from rfl, show decide ((2 : Int) = 2) = true from rfl, show decide ((15 : Int) = 15) = true from rfl, shut_col]
           simp only [go_sem, List.getElem?_toArray, str_beq, reduceCtorEq, Nat.reduceEqDiff, Nat.reduceLT, Nat.reduceLeDiff, Nat.reduceAdd, Nat.reduceMul, Nat.reduceSub, Nat.reduceBEq, ↓reduceIte, bne_self_eq_false, Bool.and_false, Bool.false_and, Bool.true_or, Bool.false_or, bs4, bs43, bs4S, build1B', one_max, two4, three4, st, app4, e1, e2, int_beq, show decide ((0 : Int) = 0) = true from rfl, show decide ((5 : Int) = 5) = true from rfl, show decide ((2 : Int) = 2) = true from rfl, show decide ((15 : Int) = 15) = true from rfl])
        | (refine call_of (vZ) ?_ ?_
           · first | rfl | simp only [go_sem, List.getElem?_toArray, str_beq, reduceCtorEq, Nat.reduceEqDiff, Nat.reduceLT, Nat.reduceLeDiff, Nat.reduceAdd, Nat.reduceMul, Nat.reduceSub, Nat.reduceBEq, ↓reduceIte, bne_self_eq_false, Bool.and_false, Bool.false_and, Bool.true_or, Bool.false_or, bs4, bs43, bs4S, build1B', one_max, two4, three4, st, app4, e1, e2, int_beq, show decide ((0 : Int) = 0) = true from rfl, show decide ((5 : Int) = 5) = true from rfl, show decide ((2 : Int) = 2) = true from rfl, show decide ((15 : Int) = 15) = true from rfl, shut_col]
           simp only [go_sem, List.getElem?_toArray, str_beq, reduceCtorEq, Nat.reduceEqDiff, Nat.reduceLT, Nat.reduceLeDiff, Nat.reduceAdd, Nat.reduceMul, Nat.reduceSub, Nat.reduceBEq, ↓reduceIte, bne_self_eq_false, Bool.and_false, Bool.false_and, Bool.true_or, Bool.false_or, bs4, bs43, bs4S, build1B', one_max, two4, three4, st, app4, e1, e2, int_beq, show decide ((0 : Int) = 0) = true from rfl, show decide ((5 : Int) = 5) = true from rfl, show decide ((2 : Int) = 2) = true from rfl, show decide ((15 : Int) = 15) = true from rfl])
        | (refine call_of (s1) ?_ ?_
           · first | rfl | simp only [go_sem, List.getElem?_toArray, str_beq, reduceCtorEq, Nat.reduceEqDiff, Nat.reduceLT, Nat.reduceLeDiff, Nat.reduceAdd, Nat.reduceMul, Nat.reduceSub, Nat.reduceBEq, ↓reduceIte, bne_self_eq_false, Bool.and_false, Bool.false_and, Bool.true_or, Bool.false_or, bs4, bs43, bs4S, build1B', one_max, two4, three4, st, app4, e1, e2, int_beq, show decide ((0 : Int) = 0) = true from rfl, show decide ((5 : Int) = 5) = true from rfl, show decide ((2 : Int) = 2) = true from rfl, show decide ((15 : Int) = 15) = true from rfl, shut_col]
           simp only [go_sem, List.getElem?_toArray, str_beq, reduceCtorEq, Nat.reduceEqDiff, Nat.reduceLT, Nat.reduceLeDiff, Nat.reduceAdd, Nat.reduceMul, Nat.reduceSub, Nat.reduceBEq, ↓reduceIte, bne_self_eq_false, Bool.and_false, Bool.false_and, Bool.true_or, Bool.false_or, bs4, bs43, bs4S, build1B', one_max, two4, three4, st, app4, e1, e2, int_beq, show decide ((0 : Int) = 0) = true from rfl, show decide ((5 : Int) = 5) = true from rfl, show decide ((2 : Int) = 2) = true from rfl, show decide ((15 : Int) = 15) = true from rfl])
        | (refine call_of (s2) ?_ ?_
           · first | rfl | simp only [go_sem, List.getElem?_toArray, str_beq, reduceCtorEq, Nat.reduceEqDiff, Nat.reduceLT, Nat.reduceLeDiff, Nat.reduceAdd, Nat.reduceMul, Nat.reduceSub, Nat.reduceBEq, ↓reduceIte, bne_self_eq_false, Bool.and_false, Bool.false_and, Bool.true_or, Bool.false_or, bs4, bs43, bs4S, build1B', one_max, two4, three4, st, app4, e1, e2, int_beq, show decide ((0 : Int) = 0) = true from rfl, show decide ((5 : Int) = 5) = true from rfl, show decide ((2 : Int) = 2) = true from rfl, show decide ((15 : Int) = 15) = true from rfl, shut_col]
           simp only [go_sem, List.getElem?_toArray, str_beq, reduceCtorEq, Nat.reduceEqDiff, Nat.reduceLT, Nat.reduceLeDiff, Nat.reduceAdd, Nat.reduceMul, Nat.reduceSub, Nat.reduceBEq, ↓reduceIte, bne_self_eq_false, Bool.and_false, Bool.false_and, Bool.true_or, Bool.false_or, bs4, bs43, bs4S, build1B', one_max, two4, three4, st, app4, e1, e2, int_beq, show decide ((0 : Int) = 0) = true from rfl, show decide ((5 : Int) = 5) = true from rfl, show decide ((2 : Int) = 2) = true from rfl, show decide ((15 : Int) = 15) = true from rfl])
        | (refine call_of (s3) ?_ ?_
           · first | rfl | simp only [go_sem, List.getElem?_toArray, str_beq, reduceCtorEq, Nat.reduceEqDiff, Nat.reduceLT, Nat.reduceLeDiff, Nat.reduceAdd, Nat.reduceMul, Nat.reduceSub, Nat.reduceBEq, ↓reduceIte, bne_self_eq_false, Bool.and_false, Bool.false_and, Bool.true_or, Bool.false_or, bs4, bs43, bs4S, build1B', one_max, two4, three4, st, app4, e1, e2, int_beq, show decide ((0 : Int) = 0) = true from rfl, show decide ((5 : Int) = 5) = true from rfl, show decide ((2 : Int) = 2) = true from rfl, show decide ((15 : Int) = 15) = true from rfl, shut_col]
           simp only [go_sem, List.getElem?_toArray, str_beq, reduceCtorEq, Nat.reduceEqDiff, Nat.reduceLT, Nat.reduceLeDiff, Nat.reduceAdd, Nat.reduceMul, Nat.reduceSub, Nat.reduceBEq, ↓reduceIte, bne_self_eq_false, Bool.and_false, Bool.false_and, Bool.true_or, Bool.false_or, bs4, bs43, bs4S, build1B', one_max, two4, three4, st, app4, e1, e2, int_beq, show decide ((0 : Int) = 0) = true from rfl, show decide ((5 : Int) = 5) = true from rfl, show decide ((2 : Int) = 2) = true from rfl, show decide ((15 : Int) = 15) = true from rfl])
        | (refine call_of (tX) ?_ ?_
           · first | rfl | simp only [go_sem, List.getElem?_toArray, str_beq, reduceCtorEq, Nat.reduceEqDiff, Nat.reduceLT, Nat.reduceLeDiff, Nat.reduceAdd, Nat.reduceMul, Nat.reduceSub, Nat.reduceBEq, ↓reduceIte, bne_self_eq_false, Bool.and_false, Bool.false_and, Bool.true_or, Bool.false_or, bs4, bs43, bs4S, build1B', one_max, two4, three4, st, app4, e1, e2, int_beq, show decide ((0 : Int) = 0) = true from rfl, show decide ((5 : Int) = 5) = true from rfl, show decide ((2 : Int) = 2) = true from rfl, show decide ((15 : Int) = 15) = true from rfl, shut_col]
           simp only [go_sem, List.getElem?_toArray, str_beq, reduceCtorEq, Nat.reduceEqDiff, Nat.reduceLT, Nat.reduceLeDiff, Nat.reduceAdd, Nat.reduceMul, Nat.reduceSub, Nat.reduceBEq, ↓reduceIte, bne_self_eq_false, Bool.and_false, Bool.false_and, Bool.true_or, Bool.false_or, bs4, bs43, bs4S, build1B', one_max, two4, three4, st, app4, e1, e2, int_beq, show decide ((0 : Int) = 0) = true from rfl, show decide ((5 : Int) = 5) = true from rfl, show decide ((2 : Int) = 2) = true from rfl, show decide ((15 : Int) = 15) = true from rfl])
        | (refine call_of (rs) ?_ ?_
           · first | rfl | simp only [go_sem, List.getElem?_toArray, str_beq, reduceCtorEq, Nat.reduceEqDiff, Nat.reduceLT, Nat.reduceLeDiff, Nat.reduceAdd, Nat.reduceMul, Nat.reduceSub, Nat.reduceBEq, ↓reduceIte, bne_self_eq_false, Bool.and_false, Bool.false_and, Bool.true_or, Bool.false_or, bs4, bs43, bs4S, build1B', one_max, two4, three4, st, app4, e1, e2, int_beq, show decide ((0 : Int) = 0) = true from rfl, show decide ((5 : Int) = 5) = true from rfl, show decide ((2 : Int) = 2) = true from rfl, show decide ((15 : Int) = 15) = true from rfl, shut_col]
           simp only [go_sem, List.getElem?_toArray, str_beq, reduceCtorEq, Nat.reduceEqDiff, Nat.reduceLT, Nat.reduceLeDiff, Nat.reduceAdd, Nat.reduceMul, Nat.reduceSub, Nat.reduceBEq, ↓reduceIte, bne_self_eq_false, Bool.and_false, Bool.false_and, Bool.true_or, Bool.false_or, bs4, bs43, bs4S, build1B', one_max, two4, three4, st, app4, e1, e2, int_beq, show decide ((0 : Int) = 0) = true from rfl, show decide ((5 : Int) = 5) = true from rfl, show decide ((2 : Int) = 2) = true from rfl, show decide ((15 : Int) = 15) = true from rfl])
        | (refine call_of (ck) ?_ ?_
           · first | rfl | simp only [go_sem, List.getElem?_toArray, str_beq, reduceCtorEq, Nat.reduceEqDiff, Nat.reduceLT, Nat.reduceLeDiff, Nat.reduceAdd, Nat.reduceMul, Nat.reduceSub, Nat.reduceBEq, ↓reduceIte, bne_self_eq_false, Bool.and_false, Bool.false_and, Bool.true_or, Bool.false_or, bs4, bs43, bs4S, build1B', one_max, two4, three4, st, app4, e1, e2, int_beq, show decide ((0 : Int) = 0) = true from rfl, show decide ((5 : Int) = 5) = true from rfl, show decide ((2 : Int) = 2) = true from rfl, show decide ((15 : Int) = 15) = true from rfl, shut_col]
           simp only [go_sem, List.getElem?_toArray, str_beq, reduceCtorEq, Nat.reduceEqDiff, Nat.reduceLT, Nat.reduceLeDiff, Nat.reduceAdd, Nat.reduceMul, Nat.reduceSub, Nat.reduceBEq, ↓reduceIte, bne_self_eq_false, Bool.and_false, Bool.false_and, Bool.true_or, Bool.false_or, bs4, bs43, bs4S, build1B', one_max, two4, three4, st, app4, e1, e2, int_beq, show decide ((0 : Int) = 0) = true from rfl, show decide ((5 : Int) = 5) = true from rfl, show decide ((2 : Int) = 2) = true from rfl, show decide ((15 : Int) = 15) = true from rfl])
        | refine k_of (by assumption) ?_
        | refine tr_block ?_
        | refine tr_scope ?_
        | (refine tr_skip ?_; try simp only [ex_seq, ex_block])
        | (refine tr_label ?_; try simp only [ex_seq, ex_block])
        | (refine tr_exit ?_; try simp only [ex_seq_exit, ex_block_exit, Nat.reduceEqDiff, if_true, if_false, ex_seq, ex_block, reduceCtorEq, ↓reduceIte])
        | (refine tr_ret ?_; try simp only [ex_seq_ret, ex_block_ret]))
    refine (hQ _ _ [bA true] ?_ (fun m => rfl)).2 <;> simp only [go_sem, List.getElem?_toArray, str_beq, reduceCtorEq, Nat.reduceEqDiff, Nat.reduceLT, Nat.reduceLeDiff, Nat.reduceAdd, Nat.reduceMul, Nat.reduceSub, Nat.reduceBEq, ↓reduceIte, bne_self_eq_false, Bool.and_false, Bool.false_and, Bool.true_or, Bool.false_or, Try.f7]
end Go.Proofs.Ytkkkpbnehpfkkaa

namespace Go.Proofs.Ytkkkpbnehpfkkaa.names
open Go.ChangeShapes Go.WideShapes Go.ChangeAt Go.RowKit Go.Vs Go.Vs.Ab

theorem own : ownKnob Try.prog.godebug = none := by kernel_rfl
theorem laidOut : laidOutB Try.prog = true := by kernel_rfl
theorem readable : (Try.f7.params.toList.all fun t => Try.prog.readableRec t && decide (t < Try.prog.types.size)) = true := by kernel_rfl

set_option maxRecDepth 100000 in
theorem lifted (os : Os) (started : os.Started) (H : Type) (enc : TypeId × Value → H) :
    ReturnsInHanded {} Try.checked os 7 .any (Rows.substNamesSpec.pre6 enc Try.prog Try.f7 Rows.substNamesRow.domain false) (Rows.substNamesSpec.post enc Try.prog Try.f7 false true false false) := by
  refine returnsInHanded_of_change (C := Try.checked) own started (by kernel_rfl) Try.func7
    (ChangeSpec.witness6 (enc := enc) (C := Try.checked) false ⟨#[], #[], []⟩ 8 (by kernel_rfl) (by kernel_rfl) (by kernel_rfl) (by kernel_rfl)) ?_
  intro W base args ds gs before hval0 hW hcnd _
  have hval : ∀ (j : Nat) t v, Try.f7.params[j]? = some t → args[j]? = some v → Value.okWide Try.prog W .any base t v := hval0
  have hW' := hW
  obtain ⟨p, q, hA0, hV, rfl, hfz, hnd⟩ := hW
  have hA : DataW.TrodAll enc Try.prog W 0 (fun _ => true) true Try.f7.params.toList args.toList ds p := hA0
  rw [Try.params7] at hA
  obtain ⟨ha, rfl, rfl⟩ := trodAll_nil hA
  obtain rfl : args = #[] := by cases args; simp_all
  obtain ⟨rfl, rfl⟩ := trodVars_none hV
  refine ((names4_does).bool Reps.nil).mono fun e W' ⟨he, hb⟩ => ?_
  subst he
  refine ⟨_, rfl, law_post (tb := 4) hW' rfl rfl laidOut (fun t ht => ?_) rfl Try.underlying4 hb⟩
  have := List.all_eq_true.1 readable t ht
  simp only [Bool.and_eq_true, decide_eq_true_eq] at this
  exact this

theorem holds : Rows.SubstNamesSaid :=
  OpenClaim.holds_of_wide 7 Try.f7 rfl rfl rfl rfl rfl rfl rfl ⟨rfl, rfl, rfl, rfl, rfl⟩ rfl rfl rfl rfl rfl (by kernel_rfl) Try.func7 (by kernel_rfl)
    (of_decide_eq_true (by kernel_rfl)) (by unfold Func.isWrapper; first | (rw [if_pos (by decide +kernel)]; kernel_rfl) | (rw [if_neg (by decide +kernel)]; exact ⟨rfl, rfl⟩))
    (fun os started H enc _ => lifted os started H enc)
#print axioms holds
end Go.Proofs.Ytkkkpbnehpfkkaa.names
