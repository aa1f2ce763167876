/-
  For every input the statement MatchNames returns true, and leaves its arguments as they were.
-/
import Derived.Test.YthpbdonndcejhaaMatchNamesm1
import Derived.Test.YthpbdonndcejhaaAs
import Derived.KernelRfl
import Derived.Test.YthpbdonndcejhaaBe
import Derived.Test.YthpbdonndcejhaaAq
import Derived.Test.YthpbdonndcejhaaLaw
import Derived.Test.YthpbdonndcejhaaRows
/-
  Chapter 5: contracts on abstract values: Under, All.
-/
set_option linter.unusedSimpArgs false
set_option linter.unusedVariables false
namespace Go.Proofs.Ythpbdonndcejhaa
open Go.Vs Go.Vs.Ab

theorem args_get (p : Atm) {n k : Nat} (hn : n ≤ 4) (h : k < (p.args.take n).length) : (p.args.take n)[k] = p.arg k := by
  rw [List.getElem_take]
  rw [List.length_take] at h
  have hk : k < 4 := by omega
  obtain rfl | rfl | rfl | rfl : k = 0 ∨ k = 1 ∨ k = 2 ∨ k = 3 := by omega
  all_goals rfl
theorem args_len (p : Atm) {n : Nat} (hn : n ≤ 4) : (p.args.take n).length = n := by
  rw [List.length_take, Nat.min_eq_left (by show n ≤ 4; exact hn)]
theorem ptm_some {p : Atm} {k j : Nat} (hk : k ≤ 4) (h : pidx p k = some j) : ptmAt (p.args.take k) (p.arg k) = (j : Int) := by
  obtain ⟨h1, h2⟩ := pidx_some h
  have hl := args_len p hk
  unfold ptmAt
  rw [findIdx_hit (k := j) (by rw [hl]; exact h1)]
  · rw [List.any_eq_false]
    intro t ht
    obtain ⟨i, hi, rfl⟩ := List.mem_iff_getElem.1 ht
    rw [List.length_take, hl] at hi
    rw [List.getElem_take, args_get p hk (by rw [hl]; omega)]
    simp only [decide_eq_true_eq]
    intro e
    unfold pidx at h
    obtain ⟨_, xs, ys, e1, e2⟩ := List.find?_eq_some_iff_append.1 h
    have him : i ∈ xs ++ j :: ys := by rw [← e1]; exact List.mem_range.2 (by omega)
    have hs : (xs ++ j :: ys).Pairwise (· < ·) := by rw [← e1]; exact List.pairwise_lt_range
    rw [List.pairwise_append, List.pairwise_cons] at hs
    rw [List.mem_append, List.mem_cons] at him
    rcases him with him | him | him
    · have := e2 i him
      simp [e] at this
    · omega
    · have := hs.2.1.1 i him
      omega
  · rw [args_get p hk (by rw [hl]; omega), h2]
    exact decide_eq_true rfl
theorem ptm_none {p : Atm} {k : Nat} (hk : k ≤ 4) (h : pidx p k = none) : ptmAt (p.args.take k) (p.arg k) = -1 := by
  have hl := args_len p hk
  unfold ptmAt
  rw [findIdx_none]
  rw [List.any_eq_false]
  intro t ht
  obtain ⟨i, hi, rfl⟩ := List.mem_iff_getElem.1 ht
  rw [args_get p hk hi]
  simp only [decide_eq_true_eq]
  exact fun e => pidx_none h i (by omega) e.symm

set_option maxRecDepth 100000
set_option maxHeartbeats 2000000
theorem mund_does (a p : Atm) : Does Try.prog 20 [atA a, atA p] (fun m => (bA (pund a p), m)) := by
  have c1 := alike_does a p
  cases ha : palike a p with
  | false =>
    have hr : pund a p = false := by unfold pund; rw [ha]; rfl
    rw [ha] at c1
    refine does_of' Try.func20 rfl (by kernel_rfl) rfl Try.ntmps20 rfl rfl fun Q hQ => ?_
    repeat (first
        | refine tr_seq_k fun _ _ => ?_
        | (refine tr_region ?_; simp only [go_sem, List.getElem?_toArray, str_beq, reduceCtorEq, Nat.reduceEqDiff, Nat.reduceLT, Nat.reduceLeDiff, Nat.reduceAdd, Nat.reduceMul, Nat.reduceSub, Nat.reduceBEq, ↓reduceIte, bne_self_eq_false, Bool.and_false, Bool.false_and, Bool.true_or, Bool.false_or])
        | (refine tr_drawC (id := 6) follows 10000 (by kernel_rfl) ?_; simp only [go_sem, List.getElem?_toArray, str_beq, reduceCtorEq, Nat.reduceEqDiff, Nat.reduceLT, Nat.reduceLeDiff, Nat.reduceAdd, Nat.reduceMul, Nat.reduceSub, Nat.reduceBEq, ↓reduceIte, bne_self_eq_false, Bool.and_false, Bool.false_and, Bool.true_or, Bool.false_or])
        | (refine tr_draw (id := 8) follows 10000 [4] [0, 1, 2, 3, 4, 5] (by kernel_rfl) ?_; simp only [go_sem, List.getElem?_toArray, str_beq, reduceCtorEq, Nat.reduceEqDiff, Nat.reduceLT, Nat.reduceLeDiff, Nat.reduceAdd, Nat.reduceMul, Nat.reduceSub, Nat.reduceBEq, ↓reduceIte, bne_self_eq_false, Bool.and_false, Bool.false_and, Bool.true_or, Bool.false_or])
        | (refine tr_drawC (id := 9) follows 10000 (by kernel_rfl) ?_; simp only [go_sem, List.getElem?_toArray, str_beq, reduceCtorEq, Nat.reduceEqDiff, Nat.reduceLT, Nat.reduceLeDiff, Nat.reduceAdd, Nat.reduceMul, Nat.reduceSub, Nat.reduceBEq, ↓reduceIte, bne_self_eq_false, Bool.and_false, Bool.false_and, Bool.true_or, Bool.false_or])
        | (refine call_of (c1) ?_ ?_
           · first | rfl | simp only [go_sem, List.getElem?_toArray, str_beq, reduceCtorEq, Nat.reduceEqDiff, Nat.reduceLT, Nat.reduceLeDiff, Nat.reduceAdd, Nat.reduceMul, Nat.reduceSub, Nat.reduceBEq, ↓reduceIte, bne_self_eq_false, Bool.and_false, Bool.false_and, Bool.true_or, Bool.false_or, shut_col]
           simp only [go_sem, List.getElem?_toArray, str_beq, reduceCtorEq, Nat.reduceEqDiff, Nat.reduceLT, Nat.reduceLeDiff, Nat.reduceAdd, Nat.reduceMul, Nat.reduceSub, Nat.reduceBEq, ↓reduceIte, bne_self_eq_false, Bool.and_false, Bool.false_and, Bool.true_or, Bool.false_or])
        | refine k_of (by assumption) ?_
        | refine tr_block ?_
        | refine tr_scope ?_
        | (refine tr_skip ?_; try simp only [ex_seq, ex_block])
        | (refine tr_label ?_; try simp only [ex_seq, ex_block])
        | (refine tr_exit ?_; try simp only [ex_seq_exit, ex_block_exit, Nat.reduceEqDiff, if_true, if_false, ex_seq, ex_block, reduceCtorEq, ↓reduceIte])
        | (refine tr_ret ?_; try simp only [ex_seq_ret, ex_block_ret]))
    refine tr_cond rfl (fun ht => ?_) (fun hf => ?_)
    · repeat (first
          | refine tr_seq_k fun _ _ => ?_
          | (refine tr_region ?_; simp only [go_sem, List.getElem?_toArray, str_beq, reduceCtorEq, Nat.reduceEqDiff, Nat.reduceLT, Nat.reduceLeDiff, Nat.reduceAdd, Nat.reduceMul, Nat.reduceSub, Nat.reduceBEq, ↓reduceIte, bne_self_eq_false, Bool.and_false, Bool.false_and, Bool.true_or, Bool.false_or])
          | (refine tr_drawC (id := 6) follows 10000 (by kernel_rfl) ?_; simp only [go_sem, List.getElem?_toArray, str_beq, reduceCtorEq, Nat.reduceEqDiff, Nat.reduceLT, Nat.reduceLeDiff, Nat.reduceAdd, Nat.reduceMul, Nat.reduceSub, Nat.reduceBEq, ↓reduceIte, bne_self_eq_false, Bool.and_false, Bool.false_and, Bool.true_or, Bool.false_or])
          | (refine tr_draw (id := 8) follows 10000 [4] [0, 1, 2, 3, 4, 5] (by kernel_rfl) ?_; simp only [go_sem, List.getElem?_toArray, str_beq, reduceCtorEq, Nat.reduceEqDiff, Nat.reduceLT, Nat.reduceLeDiff, Nat.reduceAdd, Nat.reduceMul, Nat.reduceSub, Nat.reduceBEq, ↓reduceIte, bne_self_eq_false, Bool.and_false, Bool.false_and, Bool.true_or, Bool.false_or])
          | (refine tr_drawC (id := 9) follows 10000 (by kernel_rfl) ?_; simp only [go_sem, List.getElem?_toArray, str_beq, reduceCtorEq, Nat.reduceEqDiff, Nat.reduceLT, Nat.reduceLeDiff, Nat.reduceAdd, Nat.reduceMul, Nat.reduceSub, Nat.reduceBEq, ↓reduceIte, bne_self_eq_false, Bool.and_false, Bool.false_and, Bool.true_or, Bool.false_or])
          | refine k_of (by assumption) ?_
          | refine tr_block ?_
          | refine tr_scope ?_
          | (refine tr_skip ?_; try simp only [ex_seq, ex_block])
          | (refine tr_label ?_; try simp only [ex_seq, ex_block])
          | (refine tr_exit ?_; try simp only [ex_seq_exit, ex_block_exit, Nat.reduceEqDiff, if_true, if_false, ex_seq, ex_block, reduceCtorEq, ↓reduceIte])
          | (refine tr_ret ?_; try simp only [ex_seq_ret, ex_block_ret]))
      refine (hQ _ _ [bA false] ?_ (fun m => ?_)).2 <;> simp only [go_sem, List.getElem?_toArray, str_beq, reduceCtorEq, Nat.reduceEqDiff, Nat.reduceLT, Nat.reduceLeDiff, Nat.reduceAdd, Nat.reduceMul, Nat.reduceSub, Nat.reduceBEq, ↓reduceIte, bne_self_eq_false, Bool.and_false, Bool.false_and, Bool.true_or, Bool.false_or, Try.f20, hr]
    · cases hf
  | true =>
    rw [ha] at c1
    obtain ⟨_, _, b3, b4, b5⟩ := palike_iff.1 ha
    have hc := alike_count ha
    have hn := count_n (a := p) (by omega) (by omega)
    have h4 := p.count_le
    have hbn : bnds 4 none (some p.n) none = some (0, p.count, none) := by rw [← hn]; exact arrB h4
    have hlen := args_len p h4
    have hget := fun k => args_get (k := k) p h4
    have hz : pund a p = (List.range 4).all fun i => !decide (i < a.count) || pundAt a p i := by unfold pund; rw [ha]; rfl
    refine does_of' Try.func20 rfl (by kernel_rfl) rfl Try.ntmps20 rfl rfl fun Q hQ => ?_
    repeat (first
        | refine tr_seq_k fun _ _ => ?_
        | (refine tr_region ?_; simp only [go_sem, List.getElem?_toArray, str_beq, reduceCtorEq, Nat.reduceEqDiff, Nat.reduceLT, Nat.reduceLeDiff, Nat.reduceAdd, Nat.reduceMul, Nat.reduceSub, Nat.reduceBEq, ↓reduceIte, bne_self_eq_false, Bool.and_false, Bool.false_and, Bool.true_or, Bool.false_or])
        | (refine tr_drawC (id := 6) follows 10000 (by kernel_rfl) ?_; simp only [go_sem, List.getElem?_toArray, str_beq, reduceCtorEq, Nat.reduceEqDiff, Nat.reduceLT, Nat.reduceLeDiff, Nat.reduceAdd, Nat.reduceMul, Nat.reduceSub, Nat.reduceBEq, ↓reduceIte, bne_self_eq_false, Bool.and_false, Bool.false_and, Bool.true_or, Bool.false_or])
        | (refine tr_draw (id := 8) follows 10000 [4] [0, 1, 2, 3, 4, 5] (by kernel_rfl) ?_; simp only [go_sem, List.getElem?_toArray, str_beq, reduceCtorEq, Nat.reduceEqDiff, Nat.reduceLT, Nat.reduceLeDiff, Nat.reduceAdd, Nat.reduceMul, Nat.reduceSub, Nat.reduceBEq, ↓reduceIte, bne_self_eq_false, Bool.and_false, Bool.false_and, Bool.true_or, Bool.false_or])
        | (refine tr_drawC (id := 9) follows 10000 (by kernel_rfl) ?_; simp only [go_sem, List.getElem?_toArray, str_beq, reduceCtorEq, Nat.reduceEqDiff, Nat.reduceLT, Nat.reduceLeDiff, Nat.reduceAdd, Nat.reduceMul, Nat.reduceSub, Nat.reduceBEq, ↓reduceIte, bne_self_eq_false, Bool.and_false, Bool.false_and, Bool.true_or, Bool.false_or])
        | (refine call_of (c1) ?_ ?_
           · first | rfl | simp only [go_sem, List.getElem?_toArray, str_beq, reduceCtorEq, Nat.reduceEqDiff, Nat.reduceLT, Nat.reduceLeDiff, Nat.reduceAdd, Nat.reduceMul, Nat.reduceSub, Nat.reduceBEq, ↓reduceIte, bne_self_eq_false, Bool.and_false, Bool.false_and, Bool.true_or, Bool.false_or, shut_col]
           simp only [go_sem, List.getElem?_toArray, str_beq, reduceCtorEq, Nat.reduceEqDiff, Nat.reduceLT, Nat.reduceLeDiff, Nat.reduceAdd, Nat.reduceMul, Nat.reduceSub, Nat.reduceBEq, ↓reduceIte, bne_self_eq_false, Bool.and_false, Bool.false_and, Bool.true_or, Bool.false_or])
        | refine k_of (by assumption) ?_
        | refine tr_block ?_
        | refine tr_scope ?_
        | (refine tr_skip ?_; try simp only [ex_seq, ex_block])
        | (refine tr_label ?_; try simp only [ex_seq, ex_block])
        | (refine tr_exit ?_; try simp only [ex_seq_exit, ex_block_exit, Nat.reduceEqDiff, if_true, if_false, ex_seq, ex_block, reduceCtorEq, ↓reduceIte])
        | (refine tr_ret ?_; try simp only [ex_seq_ret, ex_block_ret]))
    refine tr_cond rfl (fun ht => ?_) (fun hf => ?_)
    · cases ht
    · repeat (first
          | refine tr_seq_k fun _ _ => ?_
          | (refine tr_region ?_; simp only [go_sem, List.getElem?_toArray, str_beq, reduceCtorEq, Nat.reduceEqDiff, Nat.reduceLT, Nat.reduceLeDiff, Nat.reduceAdd, Nat.reduceMul, Nat.reduceSub, Nat.reduceBEq, ↓reduceIte, bne_self_eq_false, Bool.and_false, Bool.false_and, Bool.true_or, Bool.false_or, hbn, arrL h4, four_max, arrC p h4, arrF p h4, Option.getD_none, Nat.sub_zero, hlen])
          | (refine tr_drawC (id := 6) follows 10000 (by kernel_rfl) ?_; simp only [go_sem, List.getElem?_toArray, str_beq, reduceCtorEq, Nat.reduceEqDiff, Nat.reduceLT, Nat.reduceLeDiff, Nat.reduceAdd, Nat.reduceMul, Nat.reduceSub, Nat.reduceBEq, ↓reduceIte, bne_self_eq_false, Bool.and_false, Bool.false_and, Bool.true_or, Bool.false_or, hbn, arrL h4, four_max, arrC p h4, arrF p h4, Option.getD_none, Nat.sub_zero, hlen])
          | (refine tr_draw (id := 8) follows 10000 [4] [0, 1, 2, 3, 4, 5] (by kernel_rfl) ?_; simp only [go_sem, List.getElem?_toArray, str_beq, reduceCtorEq, Nat.reduceEqDiff, Nat.reduceLT, Nat.reduceLeDiff, Nat.reduceAdd, Nat.reduceMul, Nat.reduceSub, Nat.reduceBEq, ↓reduceIte, bne_self_eq_false, Bool.and_false, Bool.false_and, Bool.true_or, Bool.false_or, hbn, arrL h4, four_max, arrC p h4, arrF p h4, Option.getD_none, Nat.sub_zero, hlen])
          | (refine tr_drawC (id := 9) follows 10000 (by kernel_rfl) ?_; simp only [go_sem, List.getElem?_toArray, str_beq, reduceCtorEq, Nat.reduceEqDiff, Nat.reduceLT, Nat.reduceLeDiff, Nat.reduceAdd, Nat.reduceMul, Nat.reduceSub, Nat.reduceBEq, ↓reduceIte, bne_self_eq_false, Bool.and_false, Bool.false_and, Bool.true_or, Bool.false_or, hbn, arrL h4, four_max, arrC p h4, arrF p h4, Option.getD_none, Nat.sub_zero, hlen])
          | refine k_of (by assumption) ?_
          | refine tr_block ?_
          | refine tr_scope ?_
          | (refine tr_skip ?_; try simp only [ex_seq, ex_block])
          | (refine tr_label ?_; try simp only [ex_seq, ex_block])
          | (refine tr_exit ?_; try simp only [ex_seq_exit, ex_block_exit, Nat.reduceEqDiff, if_true, if_false, ex_seq, ex_block, reduceCtorEq, ↓reduceIte])
          | (refine tr_ret ?_; try simp only [ex_seq_ret, ex_block_ret]))
      generalize hL : p.args.take p.count = L at *
      refine tr_loop_k (σ := Nat) (fun k => [(2, .ptr 0 0), (3, .ptr 1 0), (15, slM (Nat.beq 4 p.count) L), (16, iA p.count), (17, iA k)]) (fun _ => ⟨[⟨false, ([.c (.v (.string a.says)), .c (.v (.string a.pred)), .c (.v (.int .i64 a.n)), .c (.v (.bool a.a0.v)), .c (.v (.string a.a0.name)), .c (.v (.bool a.a1.v)), .c (.v (.string a.a1.name)), .c (.v (.bool a.a2.v)), .c (.v (.string a.a2.name)), .c (.v (.bool a.a3.v)), .c (.v (.string a.a3.name))] : List AV)⟩, ⟨true, ([.c (.v (.string p.says)), .c (.v (.string p.pred)), .c (.v (.int .i64 p.n)), .c (.v (.bool p.a0.v)), .c (.v (.string p.a0.name)), .c (.v (.bool p.a1.v)), .c (.v (.string p.a1.name)), .c (.v (.bool p.a2.v)), .c (.v (.string p.a2.name)), .c (.v (.bool p.a3.v)), .c (.v (.string p.a3.name))] : List AV)⟩], []⟩)
        (fun k => k ≤ p.count ∧ ∀ j, j < k → pundAt a p j = true) (fun k => p.count - k) 0 ⟨Nat.zero_le _, fun j h => absurd h (Nat.not_lt_zero _)⟩ ⟨rfl, rfl, rfl, rfl, rfl, trivial⟩ rfl ?_
      rintro k ⟨hk, hp⟩ K hK
      repeat (first
          | refine tr_seq_k fun _ _ => ?_
          | (refine tr_region ?_; simp only [go_sem, List.getElem?_toArray, str_beq, reduceCtorEq, Nat.reduceEqDiff, Nat.reduceLT, Nat.reduceLeDiff, Nat.reduceAdd, Nat.reduceMul, Nat.reduceSub, Nat.reduceBEq, ↓reduceIte, bne_self_eq_false, Bool.and_false, Bool.false_and, Bool.true_or, Bool.false_or])
          | (refine tr_drawC (id := 6) follows 10000 (by kernel_rfl) ?_; simp only [go_sem, List.getElem?_toArray, str_beq, reduceCtorEq, Nat.reduceEqDiff, Nat.reduceLT, Nat.reduceLeDiff, Nat.reduceAdd, Nat.reduceMul, Nat.reduceSub, Nat.reduceBEq, ↓reduceIte, bne_self_eq_false, Bool.and_false, Bool.false_and, Bool.true_or, Bool.false_or])
          | (refine tr_draw (id := 8) follows 10000 [4] [0, 1, 2, 3, 4, 5] (by kernel_rfl) ?_; simp only [go_sem, List.getElem?_toArray, str_beq, reduceCtorEq, Nat.reduceEqDiff, Nat.reduceLT, Nat.reduceLeDiff, Nat.reduceAdd, Nat.reduceMul, Nat.reduceSub, Nat.reduceBEq, ↓reduceIte, bne_self_eq_false, Bool.and_false, Bool.false_and, Bool.true_or, Bool.false_or])
          | (refine tr_drawC (id := 9) follows 10000 (by kernel_rfl) ?_; simp only [go_sem, List.getElem?_toArray, str_beq, reduceCtorEq, Nat.reduceEqDiff, Nat.reduceLT, Nat.reduceLeDiff, Nat.reduceAdd, Nat.reduceMul, Nat.reduceSub, Nat.reduceBEq, ↓reduceIte, bne_self_eq_false, Bool.and_false, Bool.false_and, Bool.true_or, Bool.false_or])
          | refine k_of (by assumption) ?_
          | refine tr_block ?_
          | refine tr_scope ?_
          | (refine tr_skip ?_; try simp only [ex_seq, ex_block])
          | (refine tr_label ?_; try simp only [ex_seq, ex_block])
          | (refine tr_exit ?_; try simp only [ex_seq_exit, ex_block_exit, Nat.reduceEqDiff, if_true, if_false, ex_seq, ex_block, reduceCtorEq, ↓reduceIte])
          | (refine tr_ret ?_; try simp only [ex_seq_ret, ex_block_ret]))
      refine tr_cond rfl (fun ht => ?_) (fun hf => ?_)
      · have hlt : k < p.count := by
          have := of_decide_eq_true ht
          omega
        have hk4 : k < 4 := by omega
        have hkL : k < L.length := by omega
        have gk := hget k hkL
        have ws := wrap_succ (show k ≤ 1000000000 by omega)
        have nT := fun x y => bin_neT x y (p.arg k) (a.arg k)
        simp only [pv_bind] at nT
        have cI := indexM_does (p.args.take k) (p.arg k) (Nat.beq 4 k) (by rw [List.length_take]; omega)
        have bad : pundAt a p k = false → pund a p = false := fun h => by
          rw [hz]
          exact all_fail (l := List.range 4) (k := k) (by rw [List.length_range]; exact hk4) (by rw [List.getElem_range, h, decide_eq_true (by omega)]; rfl)
        have good : pundAt a p k = true → ∀ fr' m', Back ⟨[⟨false, ([.c (.v (.string a.says)), .c (.v (.string a.pred)), .c (.v (.int .i64 a.n)), .c (.v (.bool a.a0.v)), .c (.v (.string a.a0.name)), .c (.v (.bool a.a1.v)), .c (.v (.string a.a1.name)), .c (.v (.bool a.a2.v)), .c (.v (.string a.a2.name)), .c (.v (.bool a.a3.v)), .c (.v (.string a.a3.name))] : List AV)⟩, ⟨true, ([.c (.v (.string p.says)), .c (.v (.string p.pred)), .c (.v (.int .i64 p.n)), .c (.v (.bool p.a0.v)), .c (.v (.string p.a0.name)), .c (.v (.bool p.a1.v)), .c (.v (.string p.a1.name)), .c (.v (.bool p.a2.v)), .c (.v (.string p.a2.name)), .c (.v (.bool p.a3.v)), .c (.v (.string p.a3.name))] : List AV)⟩], []⟩ [(2, .ptr 0 0), (3, .ptr 1 0), (15, slM (Nat.beq 4 p.count) L), (16, iA p.count), (17, iA ((k + 1 : Nat) : Int))] ⟨[⟨false, ([.c (.v (.string a.says)), .c (.v (.string a.pred)), .c (.v (.int .i64 a.n)), .c (.v (.bool a.a0.v)), .c (.v (.string a.a0.name)), .c (.v (.bool a.a1.v)), .c (.v (.string a.a1.name)), .c (.v (.bool a.a2.v)), .c (.v (.string a.a2.name)), .c (.v (.bool a.a3.v)), .c (.v (.string a.a3.name))] : List AV)⟩, ⟨true, ([.c (.v (.string p.says)), .c (.v (.string p.pred)), .c (.v (.int .i64 p.n)), .c (.v (.bool p.a0.v)), .c (.v (.string p.a0.name)), .c (.v (.bool p.a1.v)), .c (.v (.string p.a1.name)), .c (.v (.bool p.a2.v)), .c (.v (.string p.a2.name)), .c (.v (.bool p.a3.v)), .c (.v (.string p.a3.name))] : List AV)⟩], []⟩ fr' m' → K fr' m' := fun hv fr' m' hB => hK (k + 1) fr' m' ⟨hlt, fun j hj => by
          by_cases e : j = k
          · subst e; exact hv
          · exact hp j (by omega)⟩ hB (by omega)
        cases hv : (p.arg k).v with
        | false =>
          have hpa : pundAt a p k = decide (p.arg k = a.arg k) := by unfold pundAt; rw [if_pos hv]
          cases hx : decide (p.arg k = a.arg k) with
          | false =>
            simp only [hx, hv, Bool.not_false] at nT
            have hr := bad (hpa.trans hx)
            repeat (first
                | refine tr_seq_k fun _ _ => ?_
                | (refine tr_region ?_; simp only [go_sem, List.getElem?_toArray, str_beq, reduceCtorEq, Nat.reduceEqDiff, Nat.reduceLT, Nat.reduceLeDiff, Nat.reduceAdd, Nat.reduceMul, Nat.reduceSub, Nat.reduceBEq, ↓reduceIte, bne_self_eq_false, Bool.and_false, Bool.false_and, Bool.true_or, Bool.false_or, idxM hkL, gk, arrT hk4, atD2 a hk4, atLe hk4, hv, nT])
                | (refine tr_drawC (id := 6) follows 10000 (by kernel_rfl) ?_; simp only [go_sem, List.getElem?_toArray, str_beq, reduceCtorEq, Nat.reduceEqDiff, Nat.reduceLT, Nat.reduceLeDiff, Nat.reduceAdd, Nat.reduceMul, Nat.reduceSub, Nat.reduceBEq, ↓reduceIte, bne_self_eq_false, Bool.and_false, Bool.false_and, Bool.true_or, Bool.false_or, idxM hkL, gk, arrT hk4, atD2 a hk4, atLe hk4, hv, nT])
                | (refine tr_draw (id := 8) follows 10000 [4] [0, 1, 2, 3, 4, 5] (by kernel_rfl) ?_; simp only [go_sem, List.getElem?_toArray, str_beq, reduceCtorEq, Nat.reduceEqDiff, Nat.reduceLT, Nat.reduceLeDiff, Nat.reduceAdd, Nat.reduceMul, Nat.reduceSub, Nat.reduceBEq, ↓reduceIte, bne_self_eq_false, Bool.and_false, Bool.false_and, Bool.true_or, Bool.false_or, idxM hkL, gk, arrT hk4, atD2 a hk4, atLe hk4, hv, nT])
                | (refine tr_drawC (id := 9) follows 10000 (by kernel_rfl) ?_; simp only [go_sem, List.getElem?_toArray, str_beq, reduceCtorEq, Nat.reduceEqDiff, Nat.reduceLT, Nat.reduceLeDiff, Nat.reduceAdd, Nat.reduceMul, Nat.reduceSub, Nat.reduceBEq, ↓reduceIte, bne_self_eq_false, Bool.and_false, Bool.false_and, Bool.true_or, Bool.false_or, idxM hkL, gk, arrT hk4, atD2 a hk4, atLe hk4, hv, nT])
                | refine k_of (by assumption) ?_
                | refine tr_block ?_
                | refine tr_scope ?_
                | (refine tr_skip ?_; try simp only [ex_seq, ex_block])
                | (refine tr_label ?_; try simp only [ex_seq, ex_block])
                | (refine tr_exit ?_; try simp only [ex_seq_exit, ex_block_exit, Nat.reduceEqDiff, if_true, if_false, ex_seq, ex_block, reduceCtorEq, ↓reduceIte])
                | (refine tr_ret ?_; try simp only [ex_seq_ret, ex_block_ret]))
            refine tr_cond rfl (fun ht => ?_) (fun hf => ?_)
            · repeat (first
                  | refine tr_seq_k fun _ _ => ?_
                  | (refine tr_region ?_; simp only [go_sem, List.getElem?_toArray, str_beq, reduceCtorEq, Nat.reduceEqDiff, Nat.reduceLT, Nat.reduceLeDiff, Nat.reduceAdd, Nat.reduceMul, Nat.reduceSub, Nat.reduceBEq, ↓reduceIte, bne_self_eq_false, Bool.and_false, Bool.false_and, Bool.true_or, Bool.false_or])
                  | (refine tr_drawC (id := 6) follows 10000 (by kernel_rfl) ?_; simp only [go_sem, List.getElem?_toArray, str_beq, reduceCtorEq, Nat.reduceEqDiff, Nat.reduceLT, Nat.reduceLeDiff, Nat.reduceAdd, Nat.reduceMul, Nat.reduceSub, Nat.reduceBEq, ↓reduceIte, bne_self_eq_false, Bool.and_false, Bool.false_and, Bool.true_or, Bool.false_or])
                  | (refine tr_draw (id := 8) follows 10000 [4] [0, 1, 2, 3, 4, 5] (by kernel_rfl) ?_; simp only [go_sem, List.getElem?_toArray, str_beq, reduceCtorEq, Nat.reduceEqDiff, Nat.reduceLT, Nat.reduceLeDiff, Nat.reduceAdd, Nat.reduceMul, Nat.reduceSub, Nat.reduceBEq, ↓reduceIte, bne_self_eq_false, Bool.and_false, Bool.false_and, Bool.true_or, Bool.false_or])
                  | (refine tr_drawC (id := 9) follows 10000 (by kernel_rfl) ?_; simp only [go_sem, List.getElem?_toArray, str_beq, reduceCtorEq, Nat.reduceEqDiff, Nat.reduceLT, Nat.reduceLeDiff, Nat.reduceAdd, Nat.reduceMul, Nat.reduceSub, Nat.reduceBEq, ↓reduceIte, bne_self_eq_false, Bool.and_false, Bool.false_and, Bool.true_or, Bool.false_or])
                  | refine k_of (by assumption) ?_
                  | refine tr_block ?_
                  | refine tr_scope ?_
                  | (refine tr_skip ?_; try simp only [ex_seq, ex_block])
                  | (refine tr_label ?_; try simp only [ex_seq, ex_block])
                  | (refine tr_exit ?_; try simp only [ex_seq_exit, ex_block_exit, Nat.reduceEqDiff, if_true, if_false, ex_seq, ex_block, reduceCtorEq, ↓reduceIte])
                  | (refine tr_ret ?_; try simp only [ex_seq_ret, ex_block_ret]))
              refine (hQ _ _ [bA false] ?_ (fun m => ?_)).2 <;> simp only [go_sem, List.getElem?_toArray, str_beq, reduceCtorEq, Nat.reduceEqDiff, Nat.reduceLT, Nat.reduceLeDiff, Nat.reduceAdd, Nat.reduceMul, Nat.reduceSub, Nat.reduceBEq, ↓reduceIte, bne_self_eq_false, Bool.and_false, Bool.false_and, Bool.true_or, Bool.false_or, Try.f20, hr]
            · cases hf
          | true =>
            simp only [hx, hv, Bool.not_true] at nT
            simp only [tmA, tmC, hv] at cI
            repeat (first
                | refine tr_seq_k fun _ _ => ?_
                | (refine tr_region ?_; simp only [go_sem, List.getElem?_toArray, str_beq, reduceCtorEq, Nat.reduceEqDiff, Nat.reduceLT, Nat.reduceLeDiff, Nat.reduceAdd, Nat.reduceMul, Nat.reduceSub, Nat.reduceBEq, ↓reduceIte, bne_self_eq_false, Bool.and_false, Bool.false_and, Bool.true_or, Bool.false_or, idxM hkL, gk, arrT hk4, atD2 a hk4, atLe hk4, hv, nT])
                | (refine tr_drawC (id := 6) follows 10000 (by kernel_rfl) ?_; simp only [go_sem, List.getElem?_toArray, str_beq, reduceCtorEq, Nat.reduceEqDiff, Nat.reduceLT, Nat.reduceLeDiff, Nat.reduceAdd, Nat.reduceMul, Nat.reduceSub, Nat.reduceBEq, ↓reduceIte, bne_self_eq_false, Bool.and_false, Bool.false_and, Bool.true_or, Bool.false_or, idxM hkL, gk, arrT hk4, atD2 a hk4, atLe hk4, hv, nT])
                | (refine tr_draw (id := 8) follows 10000 [4] [0, 1, 2, 3, 4, 5] (by kernel_rfl) ?_; simp only [go_sem, List.getElem?_toArray, str_beq, reduceCtorEq, Nat.reduceEqDiff, Nat.reduceLT, Nat.reduceLeDiff, Nat.reduceAdd, Nat.reduceMul, Nat.reduceSub, Nat.reduceBEq, ↓reduceIte, bne_self_eq_false, Bool.and_false, Bool.false_and, Bool.true_or, Bool.false_or, idxM hkL, gk, arrT hk4, atD2 a hk4, atLe hk4, hv, nT])
                | (refine tr_drawC (id := 9) follows 10000 (by kernel_rfl) ?_; simp only [go_sem, List.getElem?_toArray, str_beq, reduceCtorEq, Nat.reduceEqDiff, Nat.reduceLT, Nat.reduceLeDiff, Nat.reduceAdd, Nat.reduceMul, Nat.reduceSub, Nat.reduceBEq, ↓reduceIte, bne_self_eq_false, Bool.and_false, Bool.false_and, Bool.true_or, Bool.false_or, idxM hkL, gk, arrT hk4, atD2 a hk4, atLe hk4, hv, nT])
                | refine k_of (by assumption) ?_
                | refine tr_block ?_
                | refine tr_scope ?_
                | (refine tr_skip ?_; try simp only [ex_seq, ex_block])
                | (refine tr_label ?_; try simp only [ex_seq, ex_block])
                | (refine tr_exit ?_; try simp only [ex_seq_exit, ex_block_exit, Nat.reduceEqDiff, if_true, if_false, ex_seq, ex_block, reduceCtorEq, ↓reduceIte])
                | (refine tr_ret ?_; try simp only [ex_seq_ret, ex_block_ret]))
            refine tr_cond rfl (fun ht => ?_) (fun hf => ?_)
            · cases ht
            · repeat (first
                  | refine tr_seq_k fun _ _ => ?_
                  | (refine tr_region ?_; simp only [go_sem, List.getElem?_toArray, str_beq, reduceCtorEq, Nat.reduceEqDiff, Nat.reduceLT, Nat.reduceLeDiff, Nat.reduceAdd, Nat.reduceMul, Nat.reduceSub, Nat.reduceBEq, ↓reduceIte, bne_self_eq_false, Bool.and_false, Bool.false_and, Bool.true_or, Bool.false_or, arrB (Nat.le_of_lt hk4), arrL (Nat.le_of_lt hk4), four_max, arrC p (Nat.le_of_lt hk4), arrF p (Nat.le_of_lt hk4), Option.getD_none, Nat.sub_zero])
                  | (refine tr_drawC (id := 6) follows 10000 (by kernel_rfl) ?_; simp only [go_sem, List.getElem?_toArray, str_beq, reduceCtorEq, Nat.reduceEqDiff, Nat.reduceLT, Nat.reduceLeDiff, Nat.reduceAdd, Nat.reduceMul, Nat.reduceSub, Nat.reduceBEq, ↓reduceIte, bne_self_eq_false, Bool.and_false, Bool.false_and, Bool.true_or, Bool.false_or, arrB (Nat.le_of_lt hk4), arrL (Nat.le_of_lt hk4), four_max, arrC p (Nat.le_of_lt hk4), arrF p (Nat.le_of_lt hk4), Option.getD_none, Nat.sub_zero])
                  | (refine tr_draw (id := 8) follows 10000 [4] [0, 1, 2, 3, 4, 5] (by kernel_rfl) ?_; simp only [go_sem, List.getElem?_toArray, str_beq, reduceCtorEq, Nat.reduceEqDiff, Nat.reduceLT, Nat.reduceLeDiff, Nat.reduceAdd, Nat.reduceMul, Nat.reduceSub, Nat.reduceBEq, ↓reduceIte, bne_self_eq_false, Bool.and_false, Bool.false_and, Bool.true_or, Bool.false_or, arrB (Nat.le_of_lt hk4), arrL (Nat.le_of_lt hk4), four_max, arrC p (Nat.le_of_lt hk4), arrF p (Nat.le_of_lt hk4), Option.getD_none, Nat.sub_zero])
                  | (refine tr_drawC (id := 9) follows 10000 (by kernel_rfl) ?_; simp only [go_sem, List.getElem?_toArray, str_beq, reduceCtorEq, Nat.reduceEqDiff, Nat.reduceLT, Nat.reduceLeDiff, Nat.reduceAdd, Nat.reduceMul, Nat.reduceSub, Nat.reduceBEq, ↓reduceIte, bne_self_eq_false, Bool.and_false, Bool.false_and, Bool.true_or, Bool.false_or, arrB (Nat.le_of_lt hk4), arrL (Nat.le_of_lt hk4), four_max, arrC p (Nat.le_of_lt hk4), arrF p (Nat.le_of_lt hk4), Option.getD_none, Nat.sub_zero])
                  | (refine call_of (cI) ?_ ?_
                     · first | rfl | simp only [go_sem, List.getElem?_toArray, str_beq, reduceCtorEq, Nat.reduceEqDiff, Nat.reduceLT, Nat.reduceLeDiff, Nat.reduceAdd, Nat.reduceMul, Nat.reduceSub, Nat.reduceBEq, ↓reduceIte, bne_self_eq_false, Bool.and_false, Bool.false_and, Bool.true_or, Bool.false_or, arrB (Nat.le_of_lt hk4), arrL (Nat.le_of_lt hk4), four_max, arrC p (Nat.le_of_lt hk4), arrF p (Nat.le_of_lt hk4), Option.getD_none, Nat.sub_zero, shut_col]
                     simp only [go_sem, List.getElem?_toArray, str_beq, reduceCtorEq, Nat.reduceEqDiff, Nat.reduceLT, Nat.reduceLeDiff, Nat.reduceAdd, Nat.reduceMul, Nat.reduceSub, Nat.reduceBEq, ↓reduceIte, bne_self_eq_false, Bool.and_false, Bool.false_and, Bool.true_or, Bool.false_or, arrB (Nat.le_of_lt hk4), arrL (Nat.le_of_lt hk4), four_max, arrC p (Nat.le_of_lt hk4), arrF p (Nat.le_of_lt hk4), Option.getD_none, Nat.sub_zero])
                  | refine k_of (by assumption) ?_
                  | refine tr_block ?_
                  | refine tr_scope ?_
                  | (refine tr_skip ?_; try simp only [ex_seq, ex_block])
                  | (refine tr_label ?_; try simp only [ex_seq, ex_block])
                  | (refine tr_exit ?_; try simp only [ex_seq_exit, ex_block_exit, Nat.reduceEqDiff, if_true, if_false, ex_seq, ex_block, reduceCtorEq, ↓reduceIte])
                  | (refine tr_ret ?_; try simp only [ex_seq_ret, ex_block_ret]))
              refine tr_cond rfl (fun ht => ?_) (fun hf => ?_)
              · cases ht
              · repeat (first
                    | refine tr_seq_k fun _ _ => ?_
                    | (refine tr_region ?_; simp only [go_sem, List.getElem?_toArray, str_beq, reduceCtorEq, Nat.reduceEqDiff, Nat.reduceLT, Nat.reduceLeDiff, Nat.reduceAdd, Nat.reduceMul, Nat.reduceSub, Nat.reduceBEq, ↓reduceIte, bne_self_eq_false, Bool.and_false, Bool.false_and, Bool.true_or, Bool.false_or, ws])
                    | (refine tr_drawC (id := 6) follows 10000 (by kernel_rfl) ?_; simp only [go_sem, List.getElem?_toArray, str_beq, reduceCtorEq, Nat.reduceEqDiff, Nat.reduceLT, Nat.reduceLeDiff, Nat.reduceAdd, Nat.reduceMul, Nat.reduceSub, Nat.reduceBEq, ↓reduceIte, bne_self_eq_false, Bool.and_false, Bool.false_and, Bool.true_or, Bool.false_or, ws])
                    | (refine tr_draw (id := 8) follows 10000 [4] [0, 1, 2, 3, 4, 5] (by kernel_rfl) ?_; simp only [go_sem, List.getElem?_toArray, str_beq, reduceCtorEq, Nat.reduceEqDiff, Nat.reduceLT, Nat.reduceLeDiff, Nat.reduceAdd, Nat.reduceMul, Nat.reduceSub, Nat.reduceBEq, ↓reduceIte, bne_self_eq_false, Bool.and_false, Bool.false_and, Bool.true_or, Bool.false_or, ws])
                    | (refine tr_drawC (id := 9) follows 10000 (by kernel_rfl) ?_; simp only [go_sem, List.getElem?_toArray, str_beq, reduceCtorEq, Nat.reduceEqDiff, Nat.reduceLT, Nat.reduceLeDiff, Nat.reduceAdd, Nat.reduceMul, Nat.reduceSub, Nat.reduceBEq, ↓reduceIte, bne_self_eq_false, Bool.and_false, Bool.false_and, Bool.true_or, Bool.false_or, ws])
                    | refine k_of (by assumption) ?_
                    | refine tr_block ?_
                    | refine tr_scope ?_
                    | (refine tr_skip ?_; try simp only [ex_seq, ex_block])
                    | (refine tr_label ?_; try simp only [ex_seq, ex_block])
                    | (refine tr_exit ?_; try simp only [ex_seq_exit, ex_block_exit, Nat.reduceEqDiff, if_true, if_false, ex_seq, ex_block, reduceCtorEq, ↓reduceIte])
                    | (refine tr_ret ?_; try simp only [ex_seq_ret, ex_block_ret]))
                exact good (hpa.trans hx) _ _ ⟨⟨rfl, rfl, rfl, rfl, rfl, trivial⟩, Keep.of (eh := [_]) (ew := []) rfl rfl, rfl, rfl, Nat.le_refl _, Nat.le_refl _⟩
        | true =>
          have hvn : ¬ (p.arg k).v = false := by rw [hv]; exact fun e => Bool.noConfusion e
          simp only [tmA, tmC, hv] at cI
          cases hi : pidx p k with
          | none =>
            have hpa : pundAt a p k = true := by unfold pundAt; rw [if_neg hvn, hi]
            have hm : decide ((0 : Int) ≤ -1) = false := rfl
            rw [ptm_none (Nat.le_of_lt hk4) hi] at cI
            repeat (first
                | refine tr_seq_k fun _ _ => ?_
                | (refine tr_region ?_; simp only [go_sem, List.getElem?_toArray, str_beq, reduceCtorEq, Nat.reduceEqDiff, Nat.reduceLT, Nat.reduceLeDiff, Nat.reduceAdd, Nat.reduceMul, Nat.reduceSub, Nat.reduceBEq, ↓reduceIte, bne_self_eq_false, Bool.and_false, Bool.false_and, Bool.true_or, Bool.false_or, idxM hkL, gk, arrT hk4, atD2 a hk4, atLe hk4, hv])
                | (refine tr_drawC (id := 6) follows 10000 (by kernel_rfl) ?_; simp only [go_sem, List.getElem?_toArray, str_beq, reduceCtorEq, Nat.reduceEqDiff, Nat.reduceLT, Nat.reduceLeDiff, Nat.reduceAdd, Nat.reduceMul, Nat.reduceSub, Nat.reduceBEq, ↓reduceIte, bne_self_eq_false, Bool.and_false, Bool.false_and, Bool.true_or, Bool.false_or, idxM hkL, gk, arrT hk4, atD2 a hk4, atLe hk4, hv])
                | (refine tr_draw (id := 8) follows 10000 [4] [0, 1, 2, 3, 4, 5] (by kernel_rfl) ?_; simp only [go_sem, List.getElem?_toArray, str_beq, reduceCtorEq, Nat.reduceEqDiff, Nat.reduceLT, Nat.reduceLeDiff, Nat.reduceAdd, Nat.reduceMul, Nat.reduceSub, Nat.reduceBEq, ↓reduceIte, bne_self_eq_false, Bool.and_false, Bool.false_and, Bool.true_or, Bool.false_or, idxM hkL, gk, arrT hk4, atD2 a hk4, atLe hk4, hv])
                | (refine tr_drawC (id := 9) follows 10000 (by kernel_rfl) ?_; simp only [go_sem, List.getElem?_toArray, str_beq, reduceCtorEq, Nat.reduceEqDiff, Nat.reduceLT, Nat.reduceLeDiff, Nat.reduceAdd, Nat.reduceMul, Nat.reduceSub, Nat.reduceBEq, ↓reduceIte, bne_self_eq_false, Bool.and_false, Bool.false_and, Bool.true_or, Bool.false_or, idxM hkL, gk, arrT hk4, atD2 a hk4, atLe hk4, hv])
                | refine k_of (by assumption) ?_
                | refine tr_block ?_
                | refine tr_scope ?_
                | (refine tr_skip ?_; try simp only [ex_seq, ex_block])
                | (refine tr_label ?_; try simp only [ex_seq, ex_block])
                | (refine tr_exit ?_; try simp only [ex_seq_exit, ex_block_exit, Nat.reduceEqDiff, if_true, if_false, ex_seq, ex_block, reduceCtorEq, ↓reduceIte])
                | (refine tr_ret ?_; try simp only [ex_seq_ret, ex_block_ret]))
            refine tr_cond rfl (fun ht => ?_) (fun hf => ?_)
            · cases ht
            · repeat (first
                  | refine tr_seq_k fun _ _ => ?_
                  | (refine tr_region ?_; simp only [go_sem, List.getElem?_toArray, str_beq, reduceCtorEq, Nat.reduceEqDiff, Nat.reduceLT, Nat.reduceLeDiff, Nat.reduceAdd, Nat.reduceMul, Nat.reduceSub, Nat.reduceBEq, ↓reduceIte, bne_self_eq_false, Bool.and_false, Bool.false_and, Bool.true_or, Bool.false_or, arrB (Nat.le_of_lt hk4), arrL (Nat.le_of_lt hk4), four_max, arrC p (Nat.le_of_lt hk4), arrF p (Nat.le_of_lt hk4), Option.getD_none, Nat.sub_zero, hm])
                  | (refine tr_drawC (id := 6) follows 10000 (by kernel_rfl) ?_; simp only [go_sem, List.getElem?_toArray, str_beq, reduceCtorEq, Nat.reduceEqDiff, Nat.reduceLT, Nat.reduceLeDiff, Nat.reduceAdd, Nat.reduceMul, Nat.reduceSub, Nat.reduceBEq, ↓reduceIte, bne_self_eq_false, Bool.and_false, Bool.false_and, Bool.true_or, Bool.false_or, arrB (Nat.le_of_lt hk4), arrL (Nat.le_of_lt hk4), four_max, arrC p (Nat.le_of_lt hk4), arrF p (Nat.le_of_lt hk4), Option.getD_none, Nat.sub_zero, hm])
                  | (refine tr_draw (id := 8) follows 10000 [4] [0, 1, 2, 3, 4, 5] (by kernel_rfl) ?_; simp only [go_sem, List.getElem?_toArray, str_beq, reduceCtorEq, Nat.reduceEqDiff, Nat.reduceLT, Nat.reduceLeDiff, Nat.reduceAdd, Nat.reduceMul, Nat.reduceSub, Nat.reduceBEq, ↓reduceIte, bne_self_eq_false, Bool.and_false, Bool.false_and, Bool.true_or, Bool.false_or, arrB (Nat.le_of_lt hk4), arrL (Nat.le_of_lt hk4), four_max, arrC p (Nat.le_of_lt hk4), arrF p (Nat.le_of_lt hk4), Option.getD_none, Nat.sub_zero, hm])
                  | (refine tr_drawC (id := 9) follows 10000 (by kernel_rfl) ?_; simp only [go_sem, List.getElem?_toArray, str_beq, reduceCtorEq, Nat.reduceEqDiff, Nat.reduceLT, Nat.reduceLeDiff, Nat.reduceAdd, Nat.reduceMul, Nat.reduceSub, Nat.reduceBEq, ↓reduceIte, bne_self_eq_false, Bool.and_false, Bool.false_and, Bool.true_or, Bool.false_or, arrB (Nat.le_of_lt hk4), arrL (Nat.le_of_lt hk4), four_max, arrC p (Nat.le_of_lt hk4), arrF p (Nat.le_of_lt hk4), Option.getD_none, Nat.sub_zero, hm])
                  | (refine call_of (cI) ?_ ?_
                     · first | rfl | simp only [go_sem, List.getElem?_toArray, str_beq, reduceCtorEq, Nat.reduceEqDiff, Nat.reduceLT, Nat.reduceLeDiff, Nat.reduceAdd, Nat.reduceMul, Nat.reduceSub, Nat.reduceBEq, ↓reduceIte, bne_self_eq_false, Bool.and_false, Bool.false_and, Bool.true_or, Bool.false_or, arrB (Nat.le_of_lt hk4), arrL (Nat.le_of_lt hk4), four_max, arrC p (Nat.le_of_lt hk4), arrF p (Nat.le_of_lt hk4), Option.getD_none, Nat.sub_zero, hm, shut_col]
                     simp only [go_sem, List.getElem?_toArray, str_beq, reduceCtorEq, Nat.reduceEqDiff, Nat.reduceLT, Nat.reduceLeDiff, Nat.reduceAdd, Nat.reduceMul, Nat.reduceSub, Nat.reduceBEq, ↓reduceIte, bne_self_eq_false, Bool.and_false, Bool.false_and, Bool.true_or, Bool.false_or, arrB (Nat.le_of_lt hk4), arrL (Nat.le_of_lt hk4), four_max, arrC p (Nat.le_of_lt hk4), arrF p (Nat.le_of_lt hk4), Option.getD_none, Nat.sub_zero, hm])
                  | refine k_of (by assumption) ?_
                  | refine tr_block ?_
                  | refine tr_scope ?_
                  | (refine tr_skip ?_; try simp only [ex_seq, ex_block])
                  | (refine tr_label ?_; try simp only [ex_seq, ex_block])
                  | (refine tr_exit ?_; try simp only [ex_seq_exit, ex_block_exit, Nat.reduceEqDiff, if_true, if_false, ex_seq, ex_block, reduceCtorEq, ↓reduceIte])
                  | (refine tr_ret ?_; try simp only [ex_seq_ret, ex_block_ret]))
              refine tr_cond rfl (fun ht => ?_) (fun hf => ?_)
              · cases ht
              · repeat (first
                    | refine tr_seq_k fun _ _ => ?_
                    | (refine tr_region ?_; simp only [go_sem, List.getElem?_toArray, str_beq, reduceCtorEq, Nat.reduceEqDiff, Nat.reduceLT, Nat.reduceLeDiff, Nat.reduceAdd, Nat.reduceMul, Nat.reduceSub, Nat.reduceBEq, ↓reduceIte, bne_self_eq_false, Bool.and_false, Bool.false_and, Bool.true_or, Bool.false_or, ws])
                    | (refine tr_drawC (id := 6) follows 10000 (by kernel_rfl) ?_; simp only [go_sem, List.getElem?_toArray, str_beq, reduceCtorEq, Nat.reduceEqDiff, Nat.reduceLT, Nat.reduceLeDiff, Nat.reduceAdd, Nat.reduceMul, Nat.reduceSub, Nat.reduceBEq, ↓reduceIte, bne_self_eq_false, Bool.and_false, Bool.false_and, Bool.true_or, Bool.false_or, ws])
                    | (refine tr_draw (id := 8) follows 10000 [4] [0, 1, 2, 3, 4, 5] (by kernel_rfl) ?_; simp only [go_sem, List.getElem?_toArray, str_beq, reduceCtorEq, Nat.reduceEqDiff, Nat.reduceLT, Nat.reduceLeDiff, Nat.reduceAdd, Nat.reduceMul, Nat.reduceSub, Nat.reduceBEq, ↓reduceIte, bne_self_eq_false, Bool.and_false, Bool.false_and, Bool.true_or, Bool.false_or, ws])
                    | (refine tr_drawC (id := 9) follows 10000 (by kernel_rfl) ?_; simp only [go_sem, List.getElem?_toArray, str_beq, reduceCtorEq, Nat.reduceEqDiff, Nat.reduceLT, Nat.reduceLeDiff, Nat.reduceAdd, Nat.reduceMul, Nat.reduceSub, Nat.reduceBEq, ↓reduceIte, bne_self_eq_false, Bool.and_false, Bool.false_and, Bool.true_or, Bool.false_or, ws])
                    | refine k_of (by assumption) ?_
                    | refine tr_block ?_
                    | refine tr_scope ?_
                    | (refine tr_skip ?_; try simp only [ex_seq, ex_block])
                    | (refine tr_label ?_; try simp only [ex_seq, ex_block])
                    | (refine tr_exit ?_; try simp only [ex_seq_exit, ex_block_exit, Nat.reduceEqDiff, if_true, if_false, ex_seq, ex_block, reduceCtorEq, ↓reduceIte])
                    | (refine tr_ret ?_; try simp only [ex_seq_ret, ex_block_ret]))
                exact good hpa _ _ ⟨⟨rfl, rfl, rfl, rfl, rfl, trivial⟩, Keep.of (eh := [_]) (ew := []) rfl rfl, rfl, rfl, Nat.le_refl _, Nat.le_refl _⟩
          | some j =>
            have hjk := (pidx_some hi).1
            have hj4 : j < 4 := by omega
            have hpa : pundAt a p k = decide (a.arg j = a.arg k) := by unfold pundAt; rw [if_neg hvn, hi]
            have hm : decide ((0 : Int) ≤ (j : Int)) = true := decide_eq_true (Int.natCast_nonneg j)
            have nT2 := fun x y => bin_neT x y (a.arg j) (a.arg k)
            simp only [pv_bind] at nT2
            rw [ptm_some (Nat.le_of_lt hk4) hi] at cI
            cases hx : decide (a.arg j = a.arg k) with
            | false =>
              simp only [hx, Bool.not_false] at nT2
              have hr := bad (hpa.trans hx)
              repeat (first
                  | refine tr_seq_k fun _ _ => ?_
                  | (refine tr_region ?_; simp only [go_sem, List.getElem?_toArray, str_beq, reduceCtorEq, Nat.reduceEqDiff, Nat.reduceLT, Nat.reduceLeDiff, Nat.reduceAdd, Nat.reduceMul, Nat.reduceSub, Nat.reduceBEq, ↓reduceIte, bne_self_eq_false, Bool.and_false, Bool.false_and, Bool.true_or, Bool.false_or, idxM hkL, gk, arrT hk4, atD2 a hk4, atLe hk4, hv])
                  | (refine tr_drawC (id := 6) follows 10000 (by kernel_rfl) ?_; simp only [go_sem, List.getElem?_toArray, str_beq, reduceCtorEq, Nat.reduceEqDiff, Nat.reduceLT, Nat.reduceLeDiff, Nat.reduceAdd, Nat.reduceMul, Nat.reduceSub, Nat.reduceBEq, ↓reduceIte, bne_self_eq_false, Bool.and_false, Bool.false_and, Bool.true_or, Bool.false_or, idxM hkL, gk, arrT hk4, atD2 a hk4, atLe hk4, hv])
                  | (refine tr_draw (id := 8) follows 10000 [4] [0, 1, 2, 3, 4, 5] (by kernel_rfl) ?_; simp only [go_sem, List.getElem?_toArray, str_beq, reduceCtorEq, Nat.reduceEqDiff, Nat.reduceLT, Nat.reduceLeDiff, Nat.reduceAdd, Nat.reduceMul, Nat.reduceSub, Nat.reduceBEq, ↓reduceIte, bne_self_eq_false, Bool.and_false, Bool.false_and, Bool.true_or, Bool.false_or, idxM hkL, gk, arrT hk4, atD2 a hk4, atLe hk4, hv])
                  | (refine tr_drawC (id := 9) follows 10000 (by kernel_rfl) ?_; simp only [go_sem, List.getElem?_toArray, str_beq, reduceCtorEq, Nat.reduceEqDiff, Nat.reduceLT, Nat.reduceLeDiff, Nat.reduceAdd, Nat.reduceMul, Nat.reduceSub, Nat.reduceBEq, ↓reduceIte, bne_self_eq_false, Bool.and_false, Bool.false_and, Bool.true_or, Bool.false_or, idxM hkL, gk, arrT hk4, atD2 a hk4, atLe hk4, hv])
                  | refine k_of (by assumption) ?_
                  | refine tr_block ?_
                  | refine tr_scope ?_
                  | (refine tr_skip ?_; try simp only [ex_seq, ex_block])
                  | (refine tr_label ?_; try simp only [ex_seq, ex_block])
                  | (refine tr_exit ?_; try simp only [ex_seq_exit, ex_block_exit, Nat.reduceEqDiff, if_true, if_false, ex_seq, ex_block, reduceCtorEq, ↓reduceIte])
                  | (refine tr_ret ?_; try simp only [ex_seq_ret, ex_block_ret]))
              refine tr_cond rfl (fun ht => ?_) (fun hf => ?_)
              · cases ht
              · repeat (first
                    | refine tr_seq_k fun _ _ => ?_
                    | (refine tr_region ?_; simp only [go_sem, List.getElem?_toArray, str_beq, reduceCtorEq, Nat.reduceEqDiff, Nat.reduceLT, Nat.reduceLeDiff, Nat.reduceAdd, Nat.reduceMul, Nat.reduceSub, Nat.reduceBEq, ↓reduceIte, bne_self_eq_false, Bool.and_false, Bool.false_and, Bool.true_or, Bool.false_or, arrB (Nat.le_of_lt hk4), arrL (Nat.le_of_lt hk4), four_max, arrC p (Nat.le_of_lt hk4), arrF p (Nat.le_of_lt hk4), Option.getD_none, Nat.sub_zero, hm, arrT hk4, atD2 a hk4, atLe hk4, arrT hj4, atD2 a hj4, atLe hj4, nT2])
                    | (refine tr_drawC (id := 6) follows 10000 (by kernel_rfl) ?_; simp only [go_sem, List.getElem?_toArray, str_beq, reduceCtorEq, Nat.reduceEqDiff, Nat.reduceLT, Nat.reduceLeDiff, Nat.reduceAdd, Nat.reduceMul, Nat.reduceSub, Nat.reduceBEq, ↓reduceIte, bne_self_eq_false, Bool.and_false, Bool.false_and, Bool.true_or, Bool.false_or, arrB (Nat.le_of_lt hk4), arrL (Nat.le_of_lt hk4), four_max, arrC p (Nat.le_of_lt hk4), arrF p (Nat.le_of_lt hk4), Option.getD_none, Nat.sub_zero, hm, arrT hk4, atD2 a hk4, atLe hk4, arrT hj4, atD2 a hj4, atLe hj4, nT2])
                    | (refine tr_draw (id := 8) follows 10000 [4] [0, 1, 2, 3, 4, 5] (by kernel_rfl) ?_; simp only [go_sem, List.getElem?_toArray, str_beq, reduceCtorEq, Nat.reduceEqDiff, Nat.reduceLT, Nat.reduceLeDiff, Nat.reduceAdd, Nat.reduceMul, Nat.reduceSub, Nat.reduceBEq, ↓reduceIte, bne_self_eq_false, Bool.and_false, Bool.false_and, Bool.true_or, Bool.false_or, arrB (Nat.le_of_lt hk4), arrL (Nat.le_of_lt hk4), four_max, arrC p (Nat.le_of_lt hk4), arrF p (Nat.le_of_lt hk4), Option.getD_none, Nat.sub_zero, hm, arrT hk4, atD2 a hk4, atLe hk4, arrT hj4, atD2 a hj4, atLe hj4, nT2])
                    | (refine tr_drawC (id := 9) follows 10000 (by kernel_rfl) ?_; simp only [go_sem, List.getElem?_toArray, str_beq, reduceCtorEq, Nat.reduceEqDiff, Nat.reduceLT, Nat.reduceLeDiff, Nat.reduceAdd, Nat.reduceMul, Nat.reduceSub, Nat.reduceBEq, ↓reduceIte, bne_self_eq_false, Bool.and_false, Bool.false_and, Bool.true_or, Bool.false_or, arrB (Nat.le_of_lt hk4), arrL (Nat.le_of_lt hk4), four_max, arrC p (Nat.le_of_lt hk4), arrF p (Nat.le_of_lt hk4), Option.getD_none, Nat.sub_zero, hm, arrT hk4, atD2 a hk4, atLe hk4, arrT hj4, atD2 a hj4, atLe hj4, nT2])
                    | (refine call_of (cI) ?_ ?_
                       · first | rfl | simp only [go_sem, List.getElem?_toArray, str_beq, reduceCtorEq, Nat.reduceEqDiff, Nat.reduceLT, Nat.reduceLeDiff, Nat.reduceAdd, Nat.reduceMul, Nat.reduceSub, Nat.reduceBEq, ↓reduceIte, bne_self_eq_false, Bool.and_false, Bool.false_and, Bool.true_or, Bool.false_or, arrB (Nat.le_of_lt hk4), arrL (Nat.le_of_lt hk4), four_max, arrC p (Nat.le_of_lt hk4), arrF p (Nat.le_of_lt hk4), Option.getD_none, Nat.sub_zero, hm, arrT hk4, atD2 a hk4, atLe hk4, arrT hj4, atD2 a hj4, atLe hj4, nT2, shut_col]
                       simp only [go_sem, List.getElem?_toArray, str_beq, reduceCtorEq, Nat.reduceEqDiff, Nat.reduceLT, Nat.reduceLeDiff, Nat.reduceAdd, Nat.reduceMul, Nat.reduceSub, Nat.reduceBEq, ↓reduceIte, bne_self_eq_false, Bool.and_false, Bool.false_and, Bool.true_or, Bool.false_or, arrB (Nat.le_of_lt hk4), arrL (Nat.le_of_lt hk4), four_max, arrC p (Nat.le_of_lt hk4), arrF p (Nat.le_of_lt hk4), Option.getD_none, Nat.sub_zero, hm, arrT hk4, atD2 a hk4, atLe hk4, arrT hj4, atD2 a hj4, atLe hj4, nT2])
                    | refine k_of (by assumption) ?_
                    | refine tr_block ?_
                    | refine tr_scope ?_
                    | (refine tr_skip ?_; try simp only [ex_seq, ex_block])
                    | (refine tr_label ?_; try simp only [ex_seq, ex_block])
                    | (refine tr_exit ?_; try simp only [ex_seq_exit, ex_block_exit, Nat.reduceEqDiff, if_true, if_false, ex_seq, ex_block, reduceCtorEq, ↓reduceIte])
                    | (refine tr_ret ?_; try simp only [ex_seq_ret, ex_block_ret]))
                refine tr_cond rfl (fun ht => ?_) (fun hf => ?_)
                · repeat (first
                      | refine tr_seq_k fun _ _ => ?_
                      | (refine tr_region ?_; simp only [go_sem, List.getElem?_toArray, str_beq, reduceCtorEq, Nat.reduceEqDiff, Nat.reduceLT, Nat.reduceLeDiff, Nat.reduceAdd, Nat.reduceMul, Nat.reduceSub, Nat.reduceBEq, ↓reduceIte, bne_self_eq_false, Bool.and_false, Bool.false_and, Bool.true_or, Bool.false_or])
                      | (refine tr_drawC (id := 6) follows 10000 (by kernel_rfl) ?_; simp only [go_sem, List.getElem?_toArray, str_beq, reduceCtorEq, Nat.reduceEqDiff, Nat.reduceLT, Nat.reduceLeDiff, Nat.reduceAdd, Nat.reduceMul, Nat.reduceSub, Nat.reduceBEq, ↓reduceIte, bne_self_eq_false, Bool.and_false, Bool.false_and, Bool.true_or, Bool.false_or])
                      | (refine tr_draw (id := 8) follows 10000 [4] [0, 1, 2, 3, 4, 5] (by kernel_rfl) ?_; simp only [go_sem, List.getElem?_toArray, str_beq, reduceCtorEq, Nat.reduceEqDiff, Nat.reduceLT, Nat.reduceLeDiff, Nat.reduceAdd, Nat.reduceMul, Nat.reduceSub, Nat.reduceBEq, ↓reduceIte, bne_self_eq_false, Bool.and_false, Bool.false_and, Bool.true_or, Bool.false_or])
                      | (refine tr_drawC (id := 9) follows 10000 (by kernel_rfl) ?_; simp only [go_sem, List.getElem?_toArray, str_beq, reduceCtorEq, Nat.reduceEqDiff, Nat.reduceLT, Nat.reduceLeDiff, Nat.reduceAdd, Nat.reduceMul, Nat.reduceSub, Nat.reduceBEq, ↓reduceIte, bne_self_eq_false, Bool.and_false, Bool.false_and, Bool.true_or, Bool.false_or])
                      | refine k_of (by assumption) ?_
                      | refine tr_block ?_
                      | refine tr_scope ?_
                      | (refine tr_skip ?_; try simp only [ex_seq, ex_block])
                      | (refine tr_label ?_; try simp only [ex_seq, ex_block])
                      | (refine tr_exit ?_; try simp only [ex_seq_exit, ex_block_exit, Nat.reduceEqDiff, if_true, if_false, ex_seq, ex_block, reduceCtorEq, ↓reduceIte])
                      | (refine tr_ret ?_; try simp only [ex_seq_ret, ex_block_ret]))
                  refine (hQ _ _ [bA false] ?_ (fun m => ?_)).2 <;> simp only [go_sem, List.getElem?_toArray, str_beq, reduceCtorEq, Nat.reduceEqDiff, Nat.reduceLT, Nat.reduceLeDiff, Nat.reduceAdd, Nat.reduceMul, Nat.reduceSub, Nat.reduceBEq, ↓reduceIte, bne_self_eq_false, Bool.and_false, Bool.false_and, Bool.true_or, Bool.false_or, Try.f20, hr]
                · cases hf
            | true =>
              simp only [hx, Bool.not_true] at nT2
              repeat (first
                  | refine tr_seq_k fun _ _ => ?_
                  | (refine tr_region ?_; simp only [go_sem, List.getElem?_toArray, str_beq, reduceCtorEq, Nat.reduceEqDiff, Nat.reduceLT, Nat.reduceLeDiff, Nat.reduceAdd, Nat.reduceMul, Nat.reduceSub, Nat.reduceBEq, ↓reduceIte, bne_self_eq_false, Bool.and_false, Bool.false_and, Bool.true_or, Bool.false_or, idxM hkL, gk, arrT hk4, atD2 a hk4, atLe hk4, hv])
                  | (refine tr_drawC (id := 6) follows 10000 (by kernel_rfl) ?_; simp only [go_sem, List.getElem?_toArray, str_beq, reduceCtorEq, Nat.reduceEqDiff, Nat.reduceLT, Nat.reduceLeDiff, Nat.reduceAdd, Nat.reduceMul, Nat.reduceSub, Nat.reduceBEq, ↓reduceIte, bne_self_eq_false, Bool.and_false, Bool.false_and, Bool.true_or, Bool.false_or, idxM hkL, gk, arrT hk4, atD2 a hk4, atLe hk4, hv])
                  | (refine tr_draw (id := 8) follows 10000 [4] [0, 1, 2, 3, 4, 5] (by kernel_rfl) ?_; simp only [go_sem, List.getElem?_toArray, str_beq, reduceCtorEq, Nat.reduceEqDiff, Nat.reduceLT, Nat.reduceLeDiff, Nat.reduceAdd, Nat.reduceMul, Nat.reduceSub, Nat.reduceBEq, ↓reduceIte, bne_self_eq_false, Bool.and_false, Bool.false_and, Bool.true_or, Bool.false_or, idxM hkL, gk, arrT hk4, atD2 a hk4, atLe hk4, hv])
                  | (refine tr_drawC (id := 9) follows 10000 (by kernel_rfl) ?_; simp only [go_sem, List.getElem?_toArray, str_beq, reduceCtorEq, Nat.reduceEqDiff, Nat.reduceLT, Nat.reduceLeDiff, Nat.reduceAdd, Nat.reduceMul, Nat.reduceSub, Nat.reduceBEq, ↓reduceIte, bne_self_eq_false, Bool.and_false, Bool.false_and, Bool.true_or, Bool.false_or, idxM hkL, gk, arrT hk4, atD2 a hk4, atLe hk4, hv])
                  | refine k_of (by assumption) ?_
                  | refine tr_block ?_
                  | refine tr_scope ?_
                  | (refine tr_skip ?_; try simp only [ex_seq, ex_block])
                  | (refine tr_label ?_; try simp only [ex_seq, ex_block])
                  | (refine tr_exit ?_; try simp only [ex_seq_exit, ex_block_exit, Nat.reduceEqDiff, if_true, if_false, ex_seq, ex_block, reduceCtorEq, ↓reduceIte])
                  | (refine tr_ret ?_; try simp only [ex_seq_ret, ex_block_ret]))
              refine tr_cond rfl (fun ht => ?_) (fun hf => ?_)
              · cases ht
              · repeat (first
                    | refine tr_seq_k fun _ _ => ?_
                    | (refine tr_region ?_; simp only [go_sem, List.getElem?_toArray, str_beq, reduceCtorEq, Nat.reduceEqDiff, Nat.reduceLT, Nat.reduceLeDiff, Nat.reduceAdd, Nat.reduceMul, Nat.reduceSub, Nat.reduceBEq, ↓reduceIte, bne_self_eq_false, Bool.and_false, Bool.false_and, Bool.true_or, Bool.false_or, arrB (Nat.le_of_lt hk4), arrL (Nat.le_of_lt hk4), four_max, arrC p (Nat.le_of_lt hk4), arrF p (Nat.le_of_lt hk4), Option.getD_none, Nat.sub_zero, hm, arrT hk4, atD2 a hk4, atLe hk4, arrT hj4, atD2 a hj4, atLe hj4, nT2])
                    | (refine tr_drawC (id := 6) follows 10000 (by kernel_rfl) ?_; simp only [go_sem, List.getElem?_toArray, str_beq, reduceCtorEq, Nat.reduceEqDiff, Nat.reduceLT, Nat.reduceLeDiff, Nat.reduceAdd, Nat.reduceMul, Nat.reduceSub, Nat.reduceBEq, ↓reduceIte, bne_self_eq_false, Bool.and_false, Bool.false_and, Bool.true_or, Bool.false_or, arrB (Nat.le_of_lt hk4), arrL (Nat.le_of_lt hk4), four_max, arrC p (Nat.le_of_lt hk4), arrF p (Nat.le_of_lt hk4), Option.getD_none, Nat.sub_zero, hm, arrT hk4, atD2 a hk4, atLe hk4, arrT hj4, atD2 a hj4, atLe hj4, nT2])
                    | (refine tr_draw (id := 8) follows 10000 [4] [0, 1, 2, 3, 4, 5] (by kernel_rfl) ?_; simp only [go_sem, List.getElem?_toArray, str_beq, reduceCtorEq, Nat.reduceEqDiff, Nat.reduceLT, Nat.reduceLeDiff, Nat.reduceAdd, Nat.reduceMul, Nat.reduceSub, Nat.reduceBEq, ↓reduceIte, bne_self_eq_false, Bool.and_false, Bool.false_and, Bool.true_or, Bool.false_or, arrB (Nat.le_of_lt hk4), arrL (Nat.le_of_lt hk4), four_max, arrC p (Nat.le_of_lt hk4), arrF p (Nat.le_of_lt hk4), Option.getD_none, Nat.sub_zero, hm, arrT hk4, atD2 a hk4, atLe hk4, arrT hj4, atD2 a hj4, atLe hj4, nT2])
                    | (refine tr_drawC (id := 9) follows 10000 (by kernel_rfl) ?_; simp only [go_sem, List.getElem?_toArray, str_beq, reduceCtorEq, Nat.reduceEqDiff, Nat.reduceLT, Nat.reduceLeDiff, Nat.reduceAdd, Nat.reduceMul, Nat.reduceSub, Nat.reduceBEq, ↓reduceIte, bne_self_eq_false, Bool.and_false, Bool.false_and, Bool.true_or, Bool.false_or, arrB (Nat.le_of_lt hk4), arrL (Nat.le_of_lt hk4), four_max, arrC p (Nat.le_of_lt hk4), arrF p (Nat.le_of_lt hk4), Option.getD_none, Nat.sub_zero, hm, arrT hk4, atD2 a hk4, atLe hk4, arrT hj4, atD2 a hj4, atLe hj4, nT2])
                    | (refine call_of (cI) ?_ ?_
                       · first | rfl | simp only [go_sem, List.getElem?_toArray, str_beq, reduceCtorEq, Nat.reduceEqDiff, Nat.reduceLT, Nat.reduceLeDiff, Nat.reduceAdd, Nat.reduceMul, Nat.reduceSub, Nat.reduceBEq, ↓reduceIte, bne_self_eq_false, Bool.and_false, Bool.false_and, Bool.true_or, Bool.false_or, arrB (Nat.le_of_lt hk4), arrL (Nat.le_of_lt hk4), four_max, arrC p (Nat.le_of_lt hk4), arrF p (Nat.le_of_lt hk4), Option.getD_none, Nat.sub_zero, hm, arrT hk4, atD2 a hk4, atLe hk4, arrT hj4, atD2 a hj4, atLe hj4, nT2, shut_col]
                       simp only [go_sem, List.getElem?_toArray, str_beq, reduceCtorEq, Nat.reduceEqDiff, Nat.reduceLT, Nat.reduceLeDiff, Nat.reduceAdd, Nat.reduceMul, Nat.reduceSub, Nat.reduceBEq, ↓reduceIte, bne_self_eq_false, Bool.and_false, Bool.false_and, Bool.true_or, Bool.false_or, arrB (Nat.le_of_lt hk4), arrL (Nat.le_of_lt hk4), four_max, arrC p (Nat.le_of_lt hk4), arrF p (Nat.le_of_lt hk4), Option.getD_none, Nat.sub_zero, hm, arrT hk4, atD2 a hk4, atLe hk4, arrT hj4, atD2 a hj4, atLe hj4, nT2])
                    | refine k_of (by assumption) ?_
                    | refine tr_block ?_
                    | refine tr_scope ?_
                    | (refine tr_skip ?_; try simp only [ex_seq, ex_block])
                    | (refine tr_label ?_; try simp only [ex_seq, ex_block])
                    | (refine tr_exit ?_; try simp only [ex_seq_exit, ex_block_exit, Nat.reduceEqDiff, if_true, if_false, ex_seq, ex_block, reduceCtorEq, ↓reduceIte])
                    | (refine tr_ret ?_; try simp only [ex_seq_ret, ex_block_ret]))
                refine tr_cond rfl (fun ht => ?_) (fun hf => ?_)
                · cases ht
                · repeat (first
                      | refine tr_seq_k fun _ _ => ?_
                      | (refine tr_region ?_; simp only [go_sem, List.getElem?_toArray, str_beq, reduceCtorEq, Nat.reduceEqDiff, Nat.reduceLT, Nat.reduceLeDiff, Nat.reduceAdd, Nat.reduceMul, Nat.reduceSub, Nat.reduceBEq, ↓reduceIte, bne_self_eq_false, Bool.and_false, Bool.false_and, Bool.true_or, Bool.false_or, ws])
                      | (refine tr_drawC (id := 6) follows 10000 (by kernel_rfl) ?_; simp only [go_sem, List.getElem?_toArray, str_beq, reduceCtorEq, Nat.reduceEqDiff, Nat.reduceLT, Nat.reduceLeDiff, Nat.reduceAdd, Nat.reduceMul, Nat.reduceSub, Nat.reduceBEq, ↓reduceIte, bne_self_eq_false, Bool.and_false, Bool.false_and, Bool.true_or, Bool.false_or, ws])
                      | (refine tr_draw (id := 8) follows 10000 [4] [0, 1, 2, 3, 4, 5] (by kernel_rfl) ?_; simp only [go_sem, List.getElem?_toArray, str_beq, reduceCtorEq, Nat.reduceEqDiff, Nat.reduceLT, Nat.reduceLeDiff, Nat.reduceAdd, Nat.reduceMul, Nat.reduceSub, Nat.reduceBEq, ↓reduceIte, bne_self_eq_false, Bool.and_false, Bool.false_and, Bool.true_or, Bool.false_or, ws])
                      | (refine tr_drawC (id := 9) follows 10000 (by kernel_rfl) ?_; simp only [go_sem, List.getElem?_toArray, str_beq, reduceCtorEq, Nat.reduceEqDiff, Nat.reduceLT, Nat.reduceLeDiff, Nat.reduceAdd, Nat.reduceMul, Nat.reduceSub, Nat.reduceBEq, ↓reduceIte, bne_self_eq_false, Bool.and_false, Bool.false_and, Bool.true_or, Bool.false_or, ws])
                      | refine k_of (by assumption) ?_
                      | refine tr_block ?_
                      | refine tr_scope ?_
                      | (refine tr_skip ?_; try simp only [ex_seq, ex_block])
                      | (refine tr_label ?_; try simp only [ex_seq, ex_block])
                      | (refine tr_exit ?_; try simp only [ex_seq_exit, ex_block_exit, Nat.reduceEqDiff, if_true, if_false, ex_seq, ex_block, reduceCtorEq, ↓reduceIte])
                      | (refine tr_ret ?_; try simp only [ex_seq_ret, ex_block_ret]))
                  exact good (hpa.trans hx) _ _ ⟨⟨rfl, rfl, rfl, rfl, rfl, trivial⟩, Keep.of (eh := [_]) (ew := []) rfl rfl, rfl, rfl, Nat.le_refl _, Nat.le_refl _⟩
      · have hkl : k = p.count := by
          have := of_decide_eq_false hf
          omega
        have hr : pund a p = true := by
          rw [hz, List.all_eq_true]
          intro i hi
          by_cases h : i < a.count
          · rw [hp i (by omega)]; simp
          · simp [h]
        repeat (first
            | refine tr_seq_k fun _ _ => ?_
            | (refine tr_region ?_; simp only [go_sem, List.getElem?_toArray, str_beq, reduceCtorEq, Nat.reduceEqDiff, Nat.reduceLT, Nat.reduceLeDiff, Nat.reduceAdd, Nat.reduceMul, Nat.reduceSub, Nat.reduceBEq, ↓reduceIte, bne_self_eq_false, Bool.and_false, Bool.false_and, Bool.true_or, Bool.false_or])
            | (refine tr_drawC (id := 6) follows 10000 (by kernel_rfl) ?_; simp only [go_sem, List.getElem?_toArray, str_beq, reduceCtorEq, Nat.reduceEqDiff, Nat.reduceLT, Nat.reduceLeDiff, Nat.reduceAdd, Nat.reduceMul, Nat.reduceSub, Nat.reduceBEq, ↓reduceIte, bne_self_eq_false, Bool.and_false, Bool.false_and, Bool.true_or, Bool.false_or])
            | (refine tr_draw (id := 8) follows 10000 [4] [0, 1, 2, 3, 4, 5] (by kernel_rfl) ?_; simp only [go_sem, List.getElem?_toArray, str_beq, reduceCtorEq, Nat.reduceEqDiff, Nat.reduceLT, Nat.reduceLeDiff, Nat.reduceAdd, Nat.reduceMul, Nat.reduceSub, Nat.reduceBEq, ↓reduceIte, bne_self_eq_false, Bool.and_false, Bool.false_and, Bool.true_or, Bool.false_or])
            | (refine tr_drawC (id := 9) follows 10000 (by kernel_rfl) ?_; simp only [go_sem, List.getElem?_toArray, str_beq, reduceCtorEq, Nat.reduceEqDiff, Nat.reduceLT, Nat.reduceLeDiff, Nat.reduceAdd, Nat.reduceMul, Nat.reduceSub, Nat.reduceBEq, ↓reduceIte, bne_self_eq_false, Bool.and_false, Bool.false_and, Bool.true_or, Bool.false_or])
            | refine k_of (by assumption) ?_
            | refine tr_block ?_
            | refine tr_scope ?_
            | (refine tr_skip ?_; try simp only [ex_seq, ex_block])
            | (refine tr_label ?_; try simp only [ex_seq, ex_block])
            | (refine tr_exit ?_; try simp only [ex_seq_exit, ex_block_exit, Nat.reduceEqDiff, if_true, if_false, ex_seq, ex_block, reduceCtorEq, ↓reduceIte])
            | (refine tr_ret ?_; try simp only [ex_seq_ret, ex_block_ret]))
        refine (hQ _ _ [bA true] ?_ (fun m => ?_)).2 <;> simp only [go_sem, List.getElem?_toArray, str_beq, reduceCtorEq, Nat.reduceEqDiff, Nat.reduceLT, Nat.reduceLeDiff, Nat.reduceAdd, Nat.reduceMul, Nat.reduceSub, Nat.reduceBEq, ↓reduceIte, bne_self_eq_false, Bool.and_false, Bool.false_and, Bool.true_or, Bool.false_or, Try.f20, hr]

theorem pall_next (p : Atm) {l : List Atm} {k : Nat} (h : k < l.length) : pall p (l.take (k + 1)) = pall p (l.take k) ++ (if pmatch p l[k] = true then [l[k]] else []) := by
  unfold pall
  rw [List.take_succ_eq_append_getElem h, List.filter_append]
  congr 1
  cases hm : pmatch p l[k] with
  | true => rw [List.filter_cons_of_pos hm]; rfl
  | false => rw [List.filter_cons_of_neg (by rw [hm]; exact fun e => Bool.noConfusion e)]; rfl
theorem build1A (a : Atm) : aBuildSlice Try.prog 53 1 [(0, .agg [.v (.string a.says), .v (.string a.pred), .v (.int .i64 a.n), .v (.bool a.a0.v), .v (.string a.a0.name), .v (.bool a.a1.v), .v (.string a.a1.name), .v (.bool a.a2.v), .v (.string a.a2.name), .v (.bool a.a3.v), .v (.string a.a3.name)])] = some [.v (.string a.says), .v (.string a.pred), .v (.int .i64 a.n), .v (.bool a.a0.v), .v (.string a.a0.name), .v (.bool a.a1.v), .v (.string a.a1.name), .v (.bool a.a2.v), .v (.string a.a2.name), .v (.bool a.a3.v), .v (.string a.a3.name)] := build1 Try.underlying53 sz26 ze26 (by decide) (by decide) (by decide) rfl rfl
theorem appA (hp : List Blk) (l : List Atm) (a : Atm) (hl : l.length ≤ 1000000) : aAppend Try.prog ⟨hp, colH 26 11 l⟩ 53 (colA atC 0 l) (.c (.sl true 1 [.v (.string a.says), .v (.string a.pred), .v (.int .i64 a.n), .v (.bool a.a0.v), .v (.string a.a0.name), .v (.bool a.a1.v), .v (.string a.a1.name), .v (.bool a.a2.v), .v (.string a.a2.name), .v (.bool a.a3.v), .v (.string a.a3.name)])) = some (colA atC 0 (l ++ [a]), ⟨hp, colH 26 11 (l ++ [a])⟩) :=
  app_col0 (P := Try.prog) atC (size := 11) (fun _ => rfl) Try.underlying53 info_a (hp := hp) (l := l) (x := a) (ex := true) (Nat.le_trans (show _ ≤ 1000001 by omega) (by decide)) (by omega)
theorem all_does (p : Atm) (l : List Atm) (ex : Bool) (hl : l.length ≤ 100000) : Does Try.prog 26 [atA p, slT ex l] (fun m => (slT (pall p l).isEmpty (pall p l), m)) := by
  refine Does.shut (e := 26) (size := 11) ?_
  refine does_of' Try.func26 rfl (by kernel_rfl) rfl Try.ntmps26 rfl rfl fun Q hQ => ?_
  repeat (first
      | refine tr_seq_k fun _ _ => ?_
      | (refine tr_region ?_; simp only [go_sem, List.getElem?_toArray, str_beq, reduceCtorEq, Nat.reduceEqDiff, Nat.reduceLT, Nat.reduceLeDiff, Nat.reduceAdd, Nat.reduceMul, Nat.reduceSub, Nat.reduceBEq, ↓reduceIte, bne_self_eq_false, Bool.and_false, Bool.false_and, Bool.true_or, Bool.false_or])
      | refine k_of (by assumption) ?_
      | refine tr_block ?_
      | refine tr_scope ?_
      | (refine tr_skip ?_; try simp only [ex_seq, ex_block])
      | (refine tr_label ?_; try simp only [ex_seq, ex_block])
      | (refine tr_exit ?_; try simp only [ex_seq_exit, ex_block_exit, Nat.reduceEqDiff, if_true, if_false, ex_seq, ex_block, reduceCtorEq, ↓reduceIte])
      | (refine tr_ret ?_; try simp only [ex_seq_ret, ex_block_ret]))
  refine tr_loop_k (σ := Nat) (fun k => [(2, .ptr 0 0), (5, colA atC 0 (pall p (l.take k))), (10, slT ex l), (11, iA l.length), (12, iA k)]) (fun k => ⟨[⟨false, ([.c (.v (.string p.says)), .c (.v (.string p.pred)), .c (.v (.int .i64 p.n)), .c (.v (.bool p.a0.v)), .c (.v (.string p.a0.name)), .c (.v (.bool p.a1.v)), .c (.v (.string p.a1.name)), .c (.v (.bool p.a2.v)), .c (.v (.string p.a2.name)), .c (.v (.bool p.a3.v)), .c (.v (.string p.a3.name))] : List AV)⟩], colH 26 11 (pall p (l.take k))⟩)
    (fun k => k ≤ l.length) (fun k => l.length - k) 0 (Nat.zero_le _) ⟨rfl, rfl, rfl, rfl, rfl, trivial⟩ rfl ?_
  rintro k hk K hK
  repeat (first
      | refine tr_seq_k fun _ _ => ?_
      | (refine tr_region ?_; simp only [go_sem, List.getElem?_toArray, str_beq, reduceCtorEq, Nat.reduceEqDiff, Nat.reduceLT, Nat.reduceLeDiff, Nat.reduceAdd, Nat.reduceMul, Nat.reduceSub, Nat.reduceBEq, ↓reduceIte, bne_self_eq_false, Bool.and_false, Bool.false_and, Bool.true_or, Bool.false_or])
      | refine k_of (by assumption) ?_
      | refine tr_block ?_
      | refine tr_scope ?_
      | (refine tr_skip ?_; try simp only [ex_seq, ex_block])
      | (refine tr_label ?_; try simp only [ex_seq, ex_block])
      | (refine tr_exit ?_; try simp only [ex_seq_exit, ex_block_exit, Nat.reduceEqDiff, if_true, if_false, ex_seq, ex_block, reduceCtorEq, ↓reduceIte])
      | (refine tr_ret ?_; try simp only [ex_seq_ret, ex_block_ret]))
  refine tr_cond rfl (fun ht => ?_) (fun hf => ?_)
  · have hlt : k < l.length := by simpa using ht
    have ws := wrap_succ (show k ≤ 1000000000 by omega)
    have cM := match_does p l[k]
    have on := pall_next p hlt
    have tl : (pall p (l.take k)).length ≤ k := Nat.le_trans (List.length_filter_le _ _) (by rw [List.length_take]; omega)
    have hpm : pmatch p l[k] = (pextend [] p l[k]).isSome := rfl
    cases hm : (pextend [] p l[k]).isSome with
    | true =>
      rw [hm] at cM hpm
      rw [if_pos hpm] at on
      have hA0 := fun hp => appA hp (pall p (l.take k)) l[k] (by omega)
      rw [← on] at hA0
      repeat (first
          | refine tr_seq_k fun _ _ => ?_
          | (refine tr_region ?_; simp only [go_sem, List.getElem?_toArray, str_beq, reduceCtorEq, Nat.reduceEqDiff, Nat.reduceLT, Nat.reduceLeDiff, Nat.reduceAdd, Nat.reduceMul, Nat.reduceSub, Nat.reduceBEq, ↓reduceIte, bne_self_eq_false, Bool.and_false, Bool.false_and, Bool.true_or, Bool.false_or, idxA hlt, atC])
          | (refine call_of (cM) ?_ ?_
             · first | rfl | simp only [go_sem, List.getElem?_toArray, str_beq, reduceCtorEq, Nat.reduceEqDiff, Nat.reduceLT, Nat.reduceLeDiff, Nat.reduceAdd, Nat.reduceMul, Nat.reduceSub, Nat.reduceBEq, ↓reduceIte, bne_self_eq_false, Bool.and_false, Bool.false_and, Bool.true_or, Bool.false_or, idxA hlt, atC, shut_col]
             simp only [go_sem, List.getElem?_toArray, str_beq, reduceCtorEq, Nat.reduceEqDiff, Nat.reduceLT, Nat.reduceLeDiff, Nat.reduceAdd, Nat.reduceMul, Nat.reduceSub, Nat.reduceBEq, ↓reduceIte, bne_self_eq_false, Bool.and_false, Bool.false_and, Bool.true_or, Bool.false_or, idxA hlt, atC])
          | refine k_of (by assumption) ?_
          | refine tr_block ?_
          | refine tr_scope ?_
          | (refine tr_skip ?_; try simp only [ex_seq, ex_block])
          | (refine tr_label ?_; try simp only [ex_seq, ex_block])
          | (refine tr_exit ?_; try simp only [ex_seq_exit, ex_block_exit, Nat.reduceEqDiff, if_true, if_false, ex_seq, ex_block, reduceCtorEq, ↓reduceIte])
          | (refine tr_ret ?_; try simp only [ex_seq_ret, ex_block_ret]))
      refine tr_cond rfl (fun ht => ?_) (fun hf => ?_)
      · repeat (first
            | refine tr_seq_k fun _ _ => ?_
            | (refine tr_region ?_; simp only [go_sem, List.getElem?_toArray, str_beq, reduceCtorEq, Nat.reduceEqDiff, Nat.reduceLT, Nat.reduceLeDiff, Nat.reduceAdd, Nat.reduceMul, Nat.reduceSub, Nat.reduceBEq, ↓reduceIte, bne_self_eq_false, Bool.and_false, Bool.false_and, Bool.true_or, Bool.false_or, build1A, one_max, hA0, ws])
            | refine k_of (by assumption) ?_
            | refine tr_block ?_
            | refine tr_scope ?_
            | (refine tr_skip ?_; try simp only [ex_seq, ex_block])
            | (refine tr_label ?_; try simp only [ex_seq, ex_block])
            | (refine tr_exit ?_; try simp only [ex_seq_exit, ex_block_exit, Nat.reduceEqDiff, if_true, if_false, ex_seq, ex_block, reduceCtorEq, ↓reduceIte])
            | (refine tr_ret ?_; try simp only [ex_seq_ret, ex_block_ret]))
        exact hK (k + 1) _ _ hlt ⟨⟨rfl, rfl, rfl, rfl, rfl, trivial⟩, Keep.of (eh := [_]) (ew := []) rfl (by rw [List.append_nil]), by simp only [lowF, low_col]; rfl, rfl, Nat.le_refl _, Nat.zero_le _⟩ (by omega)
      · cases hf
    | false =>
      rw [hm] at cM hpm
      rw [if_neg (by rw [hpm]; exact fun e => Bool.noConfusion e), List.append_nil] at on
      repeat (first
          | refine tr_seq_k fun _ _ => ?_
          | (refine tr_region ?_; simp only [go_sem, List.getElem?_toArray, str_beq, reduceCtorEq, Nat.reduceEqDiff, Nat.reduceLT, Nat.reduceLeDiff, Nat.reduceAdd, Nat.reduceMul, Nat.reduceSub, Nat.reduceBEq, ↓reduceIte, bne_self_eq_false, Bool.and_false, Bool.false_and, Bool.true_or, Bool.false_or, idxA hlt, atC])
          | (refine call_of (cM) ?_ ?_
             · first | rfl | simp only [go_sem, List.getElem?_toArray, str_beq, reduceCtorEq, Nat.reduceEqDiff, Nat.reduceLT, Nat.reduceLeDiff, Nat.reduceAdd, Nat.reduceMul, Nat.reduceSub, Nat.reduceBEq, ↓reduceIte, bne_self_eq_false, Bool.and_false, Bool.false_and, Bool.true_or, Bool.false_or, idxA hlt, atC, shut_col]
             simp only [go_sem, List.getElem?_toArray, str_beq, reduceCtorEq, Nat.reduceEqDiff, Nat.reduceLT, Nat.reduceLeDiff, Nat.reduceAdd, Nat.reduceMul, Nat.reduceSub, Nat.reduceBEq, ↓reduceIte, bne_self_eq_false, Bool.and_false, Bool.false_and, Bool.true_or, Bool.false_or, idxA hlt, atC])
          | refine k_of (by assumption) ?_
          | refine tr_block ?_
          | refine tr_scope ?_
          | (refine tr_skip ?_; try simp only [ex_seq, ex_block])
          | (refine tr_label ?_; try simp only [ex_seq, ex_block])
          | (refine tr_exit ?_; try simp only [ex_seq_exit, ex_block_exit, Nat.reduceEqDiff, if_true, if_false, ex_seq, ex_block, reduceCtorEq, ↓reduceIte])
          | (refine tr_ret ?_; try simp only [ex_seq_ret, ex_block_ret]))
      refine tr_cond rfl (fun ht => ?_) (fun hf => ?_)
      · cases ht
      · repeat (first
            | refine tr_seq_k fun _ _ => ?_
            | (refine tr_region ?_; simp only [go_sem, List.getElem?_toArray, str_beq, reduceCtorEq, Nat.reduceEqDiff, Nat.reduceLT, Nat.reduceLeDiff, Nat.reduceAdd, Nat.reduceMul, Nat.reduceSub, Nat.reduceBEq, ↓reduceIte, bne_self_eq_false, Bool.and_false, Bool.false_and, Bool.true_or, Bool.false_or, ws])
            | refine k_of (by assumption) ?_
            | refine tr_block ?_
            | refine tr_scope ?_
            | (refine tr_skip ?_; try simp only [ex_seq, ex_block])
            | (refine tr_label ?_; try simp only [ex_seq, ex_block])
            | (refine tr_exit ?_; try simp only [ex_seq_exit, ex_block_exit, Nat.reduceEqDiff, if_true, if_false, ex_seq, ex_block, reduceCtorEq, ↓reduceIte])
            | (refine tr_ret ?_; try simp only [ex_seq_ret, ex_block_ret]))
        exact hK (k + 1) _ _ hlt ⟨⟨rfl, by rw [on]; rfl, rfl, rfl, rfl, trivial⟩, Keep.of (eh := [_]) (ew := []) rfl (by rw [on, List.append_nil]), by simp only [lowF, low_col]; rfl, rfl, Nat.le_refl _, Nat.zero_le _⟩ (by omega)
  · have hkl : k = l.length := by
      have := of_decide_eq_false hf
      omega
    subst hkl
    rw [List.take_length]
    repeat (first
        | refine tr_seq_k fun _ _ => ?_
        | (refine tr_region ?_; simp only [go_sem, List.getElem?_toArray, str_beq, reduceCtorEq, Nat.reduceEqDiff, Nat.reduceLT, Nat.reduceLeDiff, Nat.reduceAdd, Nat.reduceMul, Nat.reduceSub, Nat.reduceBEq, ↓reduceIte, bne_self_eq_false, Bool.and_false, Bool.false_and, Bool.true_or, Bool.false_or])
        | refine k_of (by assumption) ?_
        | refine tr_block ?_
        | refine tr_scope ?_
        | (refine tr_skip ?_; try simp only [ex_seq, ex_block])
        | (refine tr_label ?_; try simp only [ex_seq, ex_block])
        | (refine tr_exit ?_; try simp only [ex_seq_exit, ex_block_exit, Nat.reduceEqDiff, if_true, if_false, ex_seq, ex_block, reduceCtorEq, ↓reduceIte])
        | (refine tr_ret ?_; try simp only [ex_seq_ret, ex_block_ret]))
    refine (hQ _ _ [colA atC 0 (pall p l)] ?_ (fun m => ret_col atC 26 11 (pall p l) _ m)).2 <;> simp only [go_sem, List.getElem?_toArray, str_beq, reduceCtorEq, Nat.reduceEqDiff, Nat.reduceLT, Nat.reduceLeDiff, Nat.reduceAdd, Nat.reduceMul, Nat.reduceSub, Nat.reduceBEq, ↓reduceIte, bne_self_eq_false, Bool.and_false, Bool.false_and, Bool.true_or, Bool.false_or, Try.f26]
end Go.Proofs.Ythpbdonndcejhaa

/-
  Chapter 5: the chapter's examples.
-/
set_option linter.unusedSimpArgs false
set_option linter.unusedVariables false
namespace Go.Proofs.Ythpbdonndcejhaa
open Go.Vs Go.Vs.Ab

namespace H5
def hintTab : List ((Nat × Nat) × Nat × List Nat × List Nat) := [
  ((3, 15), 10000, [], [0, 1, 2, 3, 4, 5, 6, 7, 8, 9, 10, 11, 12, 13, 14]),
  ((3, 16), 10000, [1, 4], [0, 2, 3, 1, 4, 5, 6, 7, 8, 9]),
  ((3, 21), 10000, [2, 5, 10, 13], [0, 1, 3, 4, 2, 5, 6, 7, 8, 9, 11, 12, 10, 13, 14, 15, 16]),
  ((4, 7), 10000, [1, 5, 10, 19], [0, 1, 2, 3, 4, 5, 6, 7, 8, 9, 11, 10, 12, 13, 14, 15, 16, 17, 18, 19, 20, 21, 22]),
  ((4, 13), 10000, [4, 11], [0, 1, 2, 3, 5, 4, 6, 7, 8, 9, 10, 11, 12, 13]),
  ((5, 5), 10000, [2, 6, 11, 17, 23, 25], [0, 1, 2, 3, 4, 5, 6, 7, 8, 9, 10, 11, 12, 13, 14, 15, 16, 17, 18, 19, 20, 21, 22, 24, 23, 25, 26, 27]),
  ((6, 5), 10000, [0, 2, 5], [3, 4, 0, 1, 2, 5, 6, 7, 8, 9, 10]),
  ((6, 6), 10000, [0, 2, 5], [3, 4, 0, 1, 2, 5, 6, 7, 8, 9, 10]),
  ((6, 8), 10000, [1, 2, 3], [0, 1, 2, 3, 4, 5, 6, 7, 8]),
  ((6, 9), 10000, [0, 2, 5], [3, 4, 0, 1, 2, 5, 6, 7, 8, 9, 10]),
  ((7, 10), 10000, [2, 3, 6, 7], [0, 1, 4, 5, 2, 3, 6, 7, 8, 9]),
  ((7, 15), 10000, [5], [0, 1, 2, 3, 4, 5, 6, 7, 8, 9, 10]),
  ((7, 17), 10000, [20], [0, 1, 2, 3, 4, 5, 6, 7, 8, 9, 10, 11, 12, 13, 14, 15, 16, 17, 18, 19, 20, 21, 22]),
  ((17, 4), 10000, [], [0, 1, 2, 3, 4, 5, 6, 7, 8, 9, 10, 11, 12, 13, 14, 15, 16, 17, 18, 19, 20, 21, 22, 23, 24]),
  ((20, 6), 10000, [], [0, 1, 2, 3, 4, 5, 6, 7, 8, 9, 10]),
  ((20, 8), 10000, [4], [0, 1, 2, 3, 4, 5]),
  ((20, 9), 10000, [], [0, 1, 2, 3, 4, 5, 6, 7, 8, 9, 10, 11, 12, 13, 14, 15, 16]),
  ((24, 6), 10000, [], [0, 1, 2, 3, 4, 5, 6, 7, 8]),
  ((25, 6), 10000, [], [0, 1, 2, 3, 4, 5, 6, 7, 8]),
  ((32, 6), 10000, [], [0, 1, 2, 3, 4, 5, 6]),
  ((34, 11), 10000, [2, 3, 5], [0, 1, 4, 2, 3, 5, 6, 7]),
  ((40, 9), 10000, [], [0, 1, 2, 3, 4, 5, 6, 7, 8, 9, 10, 11, 12]),
  ((41, 4), 10000, [], [0, 1, 2, 3, 4, 5]),
  ((42, 4), 10000, [], [0, 1, 2, 3, 4, 5, 6, 7, 8, 9, 10, 11, 12, 13, 14, 15]),
  ((47, 1), 10000, [], [0, 1, 2, 3, 4, 5, 6, 7]),
  ((50, 2), 10000, [5, 6, 10], [0, 1, 2, 3, 4, 7, 8, 9, 5, 6, 10, 11]),
  ((51, 5), 10000, [6, 8, 9], [0, 1, 2, 3, 4, 5, 6, 7, 8, 9, 10]),
  ((56, 1), 10000, [], [0, 1, 2, 3, 4, 5, 6, 7, 8])]
end H5
set_option maxRecDepth 100000
set_option maxHeartbeats 4000000
abbrev wAlice : ByteArray := ⟨#[97, 108, 105, 99, 101]⟩
abbrev wP : ByteArray := ⟨#[112]⟩
abbrev wX : ByteArray := ⟨#[88]⟩
abbrev wa : ByteArray := ⟨#[97]⟩
abbrev wb : ByteArray := ⟨#[98]⟩
abbrev tZ : Tm := ⟨false, ⟨#[]⟩⟩
def exP : Atm := ⟨wAlice, wP, 2, ⟨true, wX⟩, ⟨true, wX⟩, tZ, tZ⟩
def exG : Atm := ⟨wAlice, wP, 2, ⟨false, wa⟩, ⟨false, wa⟩, tZ, tZ⟩
def exH : Atm := ⟨wAlice, wP, 2, ⟨false, wa⟩, ⟨false, wb⟩, tZ, tZ⟩
theorem bsXX : aBuildSlice Try.prog 44 2 [(0, .c (.v (.string ⟨#[88]⟩))), (1, .c (.v (.string ⟨#[88]⟩)))] = some [.v (.string ⟨#[88]⟩), .v (.string ⟨#[88]⟩)] := by kernel_rfl
theorem bsaa : aBuildSlice Try.prog 44 2 [(0, .c (.v (.string ⟨#[97]⟩))), (1, .c (.v (.string ⟨#[97]⟩)))] = some [.v (.string ⟨#[97]⟩), .v (.string ⟨#[97]⟩)] := by kernel_rfl
theorem bsab : aBuildSlice Try.prog 44 2 [(0, .c (.v (.string ⟨#[97]⟩))), (1, .c (.v (.string ⟨#[98]⟩)))] = some [.v (.string ⟨#[97]⟩), .v (.string ⟨#[98]⟩)] := by kernel_rfl
theorem two_max : (2 ≤ maxLen) = True := eq_true (by decide)
theorem exA (s t : ByteArray) (a : Atm) (h : answer (evFun Try.prog (lookH H5.hintTab) 100 21 [sA wAlice, sA wP, .c (.sl true 2 [.v (.string s), .v (.string t)])] ⟨[], []⟩) = some (.agg a.cells)) : Does Try.prog 21 [sA wAlice, sA wP, .c (.sl true 2 [.v (.string s), .v (.string t)])] (fun m => (atA a, m)) :=
  does_of_evA follows (callable Try.func21 (by kernel_rfl)) (av_at a) rfl h
theorem same_ex : Does Try.prog 24 [slB false [⟨wX, ⟨false, wa⟩⟩], slB true [⟨wX, ⟨false, wa⟩⟩]] (fun m => (bA true, m)) :=
  does_of_evA (H := lookH H5.hintTab) (n := 100) follows (v := .bool true) (callable Try.func24 (by kernel_rfl)) rfl rfl (by kernel_rfl)
theorem lives5_does : Does Try.prog 8 [] (fun m => (bA true, m)) := by
  have a1 := exA wX wX exP (by kernel_rfl)
  have a2 := exA wa wa exG (by kernel_rfl)
  have a3 := exA wa wb exH (by kernel_rfl)
  have m1 := match_does exP exG
  have m2 := match_does exP exH
  have e1 : pextL [] exP exG = [⟨wX, ⟨false, wa⟩⟩] := by decide +kernel
  have e2 : (pextend [] exP exG).isSome = true := by decide +kernel
  have e3 : pextL [] exP exH = [] := by decide +kernel
  have e4 : (pextend [] exP exH).isSome = false := by decide +kernel
  rw [e1, e2] at m1
  rw [e3, e4] at m2
  have cc := c_does wa
  refine does_of' Try.func8 rfl (by kernel_rfl) rfl Try.ntmps8 rfl rfl fun Q hQ => ?_
  repeat (first
      | refine tr_seq_k fun _ _ => ?_
      | (refine tr_region ?_; simp only [go_sem, List.getElem?_toArray, str_beq, reduceCtorEq, Nat.reduceEqDiff, Nat.reduceLT, Nat.reduceLeDiff, Nat.reduceAdd, Nat.reduceMul, Nat.reduceSub, Nat.reduceBEq, ↓reduceIte, bne_self_eq_false, Bool.and_false, Bool.false_and, Bool.true_or, Bool.false_or, bsXX, bsaa, bsab, two_max, one_max, build1B'])
      | (refine call_of (a1) ?_ ?_
         · first | rfl | simp only [go_sem, List.getElem?_toArray, str_beq, reduceCtorEq, Nat.reduceEqDiff, Nat.reduceLT, Nat.reduceLeDiff, Nat.reduceAdd, Nat.reduceMul, Nat.reduceSub, Nat.reduceBEq, ↓reduceIte, bne_self_eq_false, Bool.and_false, Bool.false_and, Bool.true_or, Bool.false_or, bsXX, bsaa, bsab, two_max, one_max, build1B', shut_col]
         simp only [go_sem, List.getElem?_toArray, str_beq, reduceCtorEq, Nat.reduceEqDiff, Nat.reduceLT, Nat.reduceLeDiff, Nat.reduceAdd, Nat.reduceMul, Nat.reduceSub, Nat.reduceBEq, ↓reduceIte, bne_self_eq_false, Bool.and_false, Bool.false_and, Bool.true_or, Bool.false_or, bsXX, bsaa, bsab, two_max, one_max, build1B'])
      | (refine call_of (a2) ?_ ?_
         · first | rfl | simp only [go_sem, List.getElem?_toArray, str_beq, reduceCtorEq, Nat.reduceEqDiff, Nat.reduceLT, Nat.reduceLeDiff, Nat.reduceAdd, Nat.reduceMul, Nat.reduceSub, Nat.reduceBEq, ↓reduceIte, bne_self_eq_false, Bool.and_false, Bool.false_and, Bool.true_or, Bool.false_or, bsXX, bsaa, bsab, two_max, one_max, build1B', shut_col]
         simp only [go_sem, List.getElem?_toArray, str_beq, reduceCtorEq, Nat.reduceEqDiff, Nat.reduceLT, Nat.reduceLeDiff, Nat.reduceAdd, Nat.reduceMul, Nat.reduceSub, Nat.reduceBEq, ↓reduceIte, bne_self_eq_false, Bool.and_false, Bool.false_and, Bool.true_or, Bool.false_or, bsXX, bsaa, bsab, two_max, one_max, build1B'])
      | (refine call_of (a3) ?_ ?_
         · first | rfl | simp only [go_sem, List.getElem?_toArray, str_beq, reduceCtorEq, Nat.reduceEqDiff, Nat.reduceLT, Nat.reduceLeDiff, Nat.reduceAdd, Nat.reduceMul, Nat.reduceSub, Nat.reduceBEq, ↓reduceIte, bne_self_eq_false, Bool.and_false, Bool.false_and, Bool.true_or, Bool.false_or, bsXX, bsaa, bsab, two_max, one_max, build1B', shut_col]
         simp only [go_sem, List.getElem?_toArray, str_beq, reduceCtorEq, Nat.reduceEqDiff, Nat.reduceLT, Nat.reduceLeDiff, Nat.reduceAdd, Nat.reduceMul, Nat.reduceSub, Nat.reduceBEq, ↓reduceIte, bne_self_eq_false, Bool.and_false, Bool.false_and, Bool.true_or, Bool.false_or, bsXX, bsaa, bsab, two_max, one_max, build1B'])
      | (refine call_of (m1) ?_ ?_
         · first | rfl | simp only [go_sem, List.getElem?_toArray, str_beq, reduceCtorEq, Nat.reduceEqDiff, Nat.reduceLT, Nat.reduceLeDiff, Nat.reduceAdd, Nat.reduceMul, Nat.reduceSub, Nat.reduceBEq, ↓reduceIte, bne_self_eq_false, Bool.and_false, Bool.false_and, Bool.true_or, Bool.false_or, bsXX, bsaa, bsab, two_max, one_max, build1B', shut_col]
         simp only [go_sem, List.getElem?_toArray, str_beq, reduceCtorEq, Nat.reduceEqDiff, Nat.reduceLT, Nat.reduceLeDiff, Nat.reduceAdd, Nat.reduceMul, Nat.reduceSub, Nat.reduceBEq, ↓reduceIte, bne_self_eq_false, Bool.and_false, Bool.false_and, Bool.true_or, Bool.false_or, bsXX, bsaa, bsab, two_max, one_max, build1B'])
      | (refine call_of (m2) ?_ ?_
         · first | rfl | simp only [go_sem, List.getElem?_toArray, str_beq, reduceCtorEq, Nat.reduceEqDiff, Nat.reduceLT, Nat.reduceLeDiff, Nat.reduceAdd, Nat.reduceMul, Nat.reduceSub, Nat.reduceBEq, ↓reduceIte, bne_self_eq_false, Bool.and_false, Bool.false_and, Bool.true_or, Bool.false_or, bsXX, bsaa, bsab, two_max, one_max, build1B', shut_col]
         simp only [go_sem, List.getElem?_toArray, str_beq, reduceCtorEq, Nat.reduceEqDiff, Nat.reduceLT, Nat.reduceLeDiff, Nat.reduceAdd, Nat.reduceMul, Nat.reduceSub, Nat.reduceBEq, ↓reduceIte, bne_self_eq_false, Bool.and_false, Bool.false_and, Bool.true_or, Bool.false_or, bsXX, bsaa, bsab, two_max, one_max, build1B'])
      | (refine call_of (cc) ?_ ?_
         · first | rfl | simp only [go_sem, List.getElem?_toArray, str_beq, reduceCtorEq, Nat.reduceEqDiff, Nat.reduceLT, Nat.reduceLeDiff, Nat.reduceAdd, Nat.reduceMul, Nat.reduceSub, Nat.reduceBEq, ↓reduceIte, bne_self_eq_false, Bool.and_false, Bool.false_and, Bool.true_or, Bool.false_or, bsXX, bsaa, bsab, two_max, one_max, build1B', shut_col]
         simp only [go_sem, List.getElem?_toArray, str_beq, reduceCtorEq, Nat.reduceEqDiff, Nat.reduceLT, Nat.reduceLeDiff, Nat.reduceAdd, Nat.reduceMul, Nat.reduceSub, Nat.reduceBEq, ↓reduceIte, bne_self_eq_false, Bool.and_false, Bool.false_and, Bool.true_or, Bool.false_or, bsXX, bsaa, bsab, two_max, one_max, build1B'])
      | (refine call_of (same_ex) ?_ ?_
         · first | rfl | simp only [go_sem, List.getElem?_toArray, str_beq, reduceCtorEq, Nat.reduceEqDiff, Nat.reduceLT, Nat.reduceLeDiff, Nat.reduceAdd, Nat.reduceMul, Nat.reduceSub, Nat.reduceBEq, ↓reduceIte, bne_self_eq_false, Bool.and_false, Bool.false_and, Bool.true_or, Bool.false_or, bsXX, bsaa, bsab, two_max, one_max, build1B', shut_col]
         simp only [go_sem, List.getElem?_toArray, str_beq, reduceCtorEq, Nat.reduceEqDiff, Nat.reduceLT, Nat.reduceLeDiff, Nat.reduceAdd, Nat.reduceMul, Nat.reduceSub, Nat.reduceBEq, ↓reduceIte, bne_self_eq_false, Bool.and_false, Bool.false_and, Bool.true_or, Bool.false_or, bsXX, bsaa, bsab, two_max, one_max, build1B'])
      | refine k_of (by assumption) ?_
      | refine tr_block ?_
      | refine tr_scope ?_
      | (refine tr_skip ?_; try simp only [ex_seq, ex_block])
      | (refine tr_label ?_; try simp only [ex_seq, ex_block])
      | (refine tr_exit ?_; try simp only [ex_seq_exit, ex_block_exit, Nat.reduceEqDiff, if_true, if_false, ex_seq, ex_block, reduceCtorEq, ↓reduceIte])
      | (refine tr_ret ?_; try simp only [ex_seq_ret, ex_block_ret]))
  refine (hQ _ _ [bA true] ?_ (fun m => rfl)).2 <;> simp only [go_sem, List.getElem?_toArray, str_beq, reduceCtorEq, Nat.reduceEqDiff, Nat.reduceLT, Nat.reduceLeDiff, Nat.reduceAdd, Nat.reduceMul, Nat.reduceSub, Nat.reduceBEq, ↓reduceIte, bne_self_eq_false, Bool.and_false, Bool.false_and, Bool.true_or, Bool.false_or, Try.f8]
end Go.Proofs.Ythpbdonndcejhaa

/-
  Chapter 5: the statement MatchNames: the walk on abstract values.
-/
set_option linter.unusedSimpArgs false
set_option linter.unusedVariables false
namespace Go.Proofs.Ythpbdonndcejhaa
open Go.Vs Go.Vs.Ab

theorem three_max : (3 ≤ maxLen) = True := eq_true (by decide)
abbrev wBob : ByteArray := ⟨#[98, 111, 98]⟩
abbrev wOpen : ByteArray := ⟨#[111, 112, 101, 110]⟩
abbrev wY : ByteArray := ⟨#[89]⟩
abbrev wZ : ByteArray := ⟨#[90]⟩
abbrev wc : ByteArray := ⟨#[99]⟩
abbrev wd : ByteArray := ⟨#[100]⟩
abbrev we : ByteArray := ⟨#[101]⟩
def nmP : Atm := ⟨wAlice, wP, 3, ⟨true, wY⟩, ⟨false, wb⟩, ⟨true, wX⟩, tZ⟩
def nmG : Atm := ⟨wAlice, wP, 3, ⟨false, wc⟩, ⟨false, wb⟩, ⟨false, wd⟩, tZ⟩
def nmB : Atm := ⟨wBob, wP, 3, ⟨false, wc⟩, ⟨false, wb⟩, ⟨false, wd⟩, tZ⟩
def nmO : Atm := ⟨wAlice, wOpen, 0, tZ, tZ, tZ, tZ⟩
def nmZ : Atm := ⟨wAlice, wP, 2, ⟨true, wZ⟩, ⟨true, wZ⟩, tZ, tZ⟩
def nmX : Atm := ⟨wAlice, wP, 2, ⟨true, wX⟩, ⟨true, wY⟩, tZ, tZ⟩
def nmW : List Bd := [⟨wX, ⟨false, wd⟩⟩, ⟨wY, ⟨false, wc⟩⟩]
set_option maxRecDepth 100000
set_option maxHeartbeats 8000000
theorem nmA (s p : ByteArray) (c : CV) (a : Atm) (hs : shuts [sA s, sA p, .c c] = some [sA s, sA p, .c c]) (h : answer (evFun Try.prog (lookH H5.hintTab) 100 21 [sA s, sA p, .c c] ⟨[], []⟩) = some (.agg a.cells)) : Does Try.prog 21 [sA s, sA p, .c c] (fun m => (atA a, m)) :=
  does_of_evA follows (callable Try.func21 (by kernel_rfl)) (av_at a) hs h
theorem bs3P : aBuildSlice Try.prog 44 3 [(0, .c (.v (.string ⟨#[89]⟩))), (1, .c (.v (.string ⟨#[98]⟩))), (2, .c (.v (.string ⟨#[88]⟩)))] = some [.v (.string ⟨#[89]⟩), .v (.string ⟨#[98]⟩), .v (.string ⟨#[88]⟩)] := by kernel_rfl
theorem bs3G : aBuildSlice Try.prog 44 3 [(0, .c (.v (.string ⟨#[99]⟩))), (1, .c (.v (.string ⟨#[98]⟩))), (2, .c (.v (.string ⟨#[100]⟩)))] = some [.v (.string ⟨#[99]⟩), .v (.string ⟨#[98]⟩), .v (.string ⟨#[100]⟩)] := by kernel_rfl
theorem bs2Z : aBuildSlice Try.prog 44 2 [(0, .c (.v (.string ⟨#[90]⟩))), (1, .c (.v (.string ⟨#[90]⟩)))] = some [.v (.string ⟨#[90]⟩), .v (.string ⟨#[90]⟩)] := by kernel_rfl
theorem bs2X : aBuildSlice Try.prog 44 2 [(0, .c (.v (.string ⟨#[88]⟩))), (1, .c (.v (.string ⟨#[89]⟩)))] = some [.v (.string ⟨#[88]⟩), .v (.string ⟨#[89]⟩)] := by kernel_rfl
theorem bs2B : aBuildSlice Try.prog 29 2 [(0, .agg [.v (.string ⟨#[88]⟩), .v (.bool false), .v (.string ⟨#[100]⟩)]), (1, .agg [.v (.string ⟨#[89]⟩), .v (.bool false), .v (.string ⟨#[99]⟩)])] = some (nmW.flatMap bdC) := by kernel_rfl
theorem bs3A (a b c : Atm) : aBuildSlice Try.prog 53 3 [(0, .agg [.v (.string a.says), .v (.string a.pred), .v (.int .i64 a.n), .v (.bool a.a0.v), .v (.string a.a0.name), .v (.bool a.a1.v), .v (.string a.a1.name), .v (.bool a.a2.v), .v (.string a.a2.name), .v (.bool a.a3.v), .v (.string a.a3.name)]), (1, .agg [.v (.string b.says), .v (.string b.pred), .v (.int .i64 b.n), .v (.bool b.a0.v), .v (.string b.a0.name), .v (.bool b.a1.v), .v (.string b.a1.name), .v (.bool b.a2.v), .v (.string b.a2.name), .v (.bool b.a3.v), .v (.string b.a3.name)]), (2, .agg [.v (.string c.says), .v (.string c.pred), .v (.int .i64 c.n), .v (.bool c.a0.v), .v (.string c.a0.name), .v (.bool c.a1.v), .v (.string c.a1.name), .v (.bool c.a2.v), .v (.string c.a2.name), .v (.bool c.a3.v), .v (.string c.a3.name)])] = some ([a, b, c].flatMap atC) := by
  simp only [aBuildSlice, Try.underlying53, sz26, ze26]
  rfl
theorem bs2A (a b : Atm) : aBuildSlice Try.prog 53 2 [(0, .agg [.v (.string a.says), .v (.string a.pred), .v (.int .i64 a.n), .v (.bool a.a0.v), .v (.string a.a0.name), .v (.bool a.a1.v), .v (.string a.a1.name), .v (.bool a.a2.v), .v (.string a.a2.name), .v (.bool a.a3.v), .v (.string a.a3.name)]), (1, .agg [.v (.string b.says), .v (.string b.pred), .v (.int .i64 b.n), .v (.bool b.a0.v), .v (.string b.a0.name), .v (.bool b.a1.v), .v (.string b.a1.name), .v (.bool b.a2.v), .v (.string b.a2.name), .v (.bool b.a3.v), .v (.string b.a3.name)])] = some ([a, b].flatMap atC) := by
  simp only [aBuildSlice, Try.underlying53, sz26, ze26]
  rfl
theorem same_nm : Does Try.prog 24 [slB false nmW, slB true nmW] (fun m => (bA true, m)) :=
  does_of_evA (H := lookH H5.hintTab) (n := 100) follows (v := .bool true) (callable Try.func24 (by kernel_rfl)) rfl rfl (by kernel_rfl)
theorem names_law : Does Try.prog 6 [] (fun m => (bA true, m)) := by
  have aP := nmA wAlice wP (.sl true 3 [.v (.string wY), .v (.string wb), .v (.string wX)]) nmP rfl (by kernel_rfl)
  have aG := nmA wAlice wP (.sl true 3 [.v (.string wc), .v (.string wb), .v (.string wd)]) nmG rfl (by kernel_rfl)
  have aB := nmA wBob wP (.sl true 3 [.v (.string wc), .v (.string wb), .v (.string wd)]) nmB rfl (by kernel_rfl)
  have aO := nmA wAlice wOpen (.sl true 0 []) nmO rfl (by kernel_rfl)
  have aZ := nmA wAlice wP (.sl true 2 [.v (.string wZ), .v (.string wZ)]) nmZ rfl (by kernel_rfl)
  have aX := nmA wAlice wP (.sl true 2 [.v (.string wX), .v (.string wY)]) nmX rfl (by kernel_rfl)
  have m1 := match_does nmP nmG
  rw [show pextL [] nmP nmG = nmW by decide +kernel, show (pextend [] nmP nmG).isSome = true by decide +kernel] at m1
  have e1 := extend_does [⟨wX, ⟨false, wd⟩⟩] nmP nmG true (by decide)
  rw [show pextL [⟨wX, ⟨false, wd⟩⟩] nmP nmG = nmW by decide +kernel, show (pextend [⟨wX, ⟨false, wd⟩⟩] nmP nmG).isSome = true by decide +kernel] at e1
  have e2 := extend_does [⟨wX, ⟨false, we⟩⟩] nmP nmG true (by decide)
  rw [show pextL [⟨wX, ⟨false, we⟩⟩] nmP nmG = [] by decide +kernel, show (pextend [⟨wX, ⟨false, we⟩⟩] nmP nmG).isSome = false by decide +kernel] at e2
  have m2 := match_does nmP nmP
  rw [show pextL [] nmP nmP = [] by decide +kernel, show (pextend [] nmP nmP).isSome = false by decide +kernel] at m2
  have m3 := match_does nmP nmB
  rw [show pextL [] nmP nmB = [] by decide +kernel, show (pextend [] nmP nmB).isSome = false by decide +kernel] at m3
  have e3 := extend_does [⟨wX, ⟨true, wX⟩⟩] nmP nmG true (by decide)
  rw [show pextL [⟨wX, ⟨true, wX⟩⟩] nmP nmG = [] by decide +kernel, show (pextend [⟨wX, ⟨true, wX⟩⟩] nmP nmG).isSome = false by decide +kernel] at e3
  have m4 := match_does nmO nmO
  rw [show pextL [] nmO nmO = [] by decide +kernel, show (pextend [] nmO nmO).isSome = true by decide +kernel] at m4
  have u1 := mund_does nmP nmP
  rw [show pund nmP nmP = true by decide +kernel] at u1
  have u2 := mund_does nmZ nmX
  rw [show pund nmZ nmX = true by decide +kernel] at u2
  have u3 := mund_does nmX nmZ
  rw [show pund nmX nmZ = false by decide +kernel] at u3
  have al := all_does nmP [nmG, nmP, nmG] true (by decide)
  rw [show pall nmP [nmG, nmP, nmG] = [nmG, nmG] by decide +kernel] at al
  have sG := sameA_does [nmG, nmG] [nmG, nmG] false true (by decide)
  rw [decide_eq_true rfl] at sG
  have cd := c_does wd
  have ce := c_does we
  have cc := c_does wc
  have cV := v_does wX
  refine does_of' Try.func6 rfl (by kernel_rfl) rfl Try.ntmps6 rfl rfl fun Q hQ => ?_
  repeat (first
      | refine tr_seq_k fun _ _ => ?_
      | (refine tr_region ?_; simp only [go_sem, List.getElem?_toArray, str_beq, reduceCtorEq, Nat.reduceEqDiff, Nat.reduceLT, Nat.reduceLeDiff, Nat.reduceAdd, Nat.reduceMul, Nat.reduceSub, Nat.reduceBEq, ↓reduceIte, bne_self_eq_false, Bool.and_false, Bool.false_and, Bool.true_or, Bool.false_or])
      | (refine tr_draw (id := 5) follows 10000 [0, 2, 5] [3, 4, 0, 1, 2, 5, 6, 7, 8, 9, 10] (by kernel_rfl) ?_; simp only [go_sem, List.getElem?_toArray, str_beq, reduceCtorEq, Nat.reduceEqDiff, Nat.reduceLT, Nat.reduceLeDiff, Nat.reduceAdd, Nat.reduceMul, Nat.reduceSub, Nat.reduceBEq, ↓reduceIte, bne_self_eq_false, Bool.and_false, Bool.false_and, Bool.true_or, Bool.false_or])
      | (refine tr_draw (id := 6) follows 10000 [0, 2, 5] [3, 4, 0, 1, 2, 5, 6, 7, 8, 9, 10] (by kernel_rfl) ?_; simp only [go_sem, List.getElem?_toArray, str_beq, reduceCtorEq, Nat.reduceEqDiff, Nat.reduceLT, Nat.reduceLeDiff, Nat.reduceAdd, Nat.reduceMul, Nat.reduceSub, Nat.reduceBEq, ↓reduceIte, bne_self_eq_false, Bool.and_false, Bool.false_and, Bool.true_or, Bool.false_or])
      | (refine tr_draw (id := 8) follows 10000 [1, 2, 3] [0, 1, 2, 3, 4, 5, 6, 7, 8] (by kernel_rfl) ?_; simp only [go_sem, List.getElem?_toArray, str_beq, reduceCtorEq, Nat.reduceEqDiff, Nat.reduceLT, Nat.reduceLeDiff, Nat.reduceAdd, Nat.reduceMul, Nat.reduceSub, Nat.reduceBEq, ↓reduceIte, bne_self_eq_false, Bool.and_false, Bool.false_and, Bool.true_or, Bool.false_or])
      | (refine tr_draw (id := 9) follows 10000 [0, 2, 5] [3, 4, 0, 1, 2, 5, 6, 7, 8, 9, 10] (by kernel_rfl) ?_; simp only [go_sem, List.getElem?_toArray, str_beq, reduceCtorEq, Nat.reduceEqDiff, Nat.reduceLT, Nat.reduceLeDiff, Nat.reduceAdd, Nat.reduceMul, Nat.reduceSub, Nat.reduceBEq, ↓reduceIte, bne_self_eq_false, Bool.and_false, Bool.false_and, Bool.true_or, Bool.false_or])
      | (refine tr_drawM (id := 12) follows [0, 1, 3, 3, 15, 31, 63, 127, 255, 511, 1023, 1023, 4095, 8191, 16383, 32767, 65535, 131071, 262143, 524287, 1048575, 2097151, 4194303, 8388607, 16777215, 33554431, 67108863, 134217727, 268435455, 536870911, 1073741823, 2147483647, 4294967295, 8589934591, 17179869183, 34359738367, 68719476735, 137438953471, 274877906943, 549755813887, 549755813887, 2199023255551, 4398046511103, 8796093022207, 17592186044415, 35184372088831, 17592186044415, 140737488355327, 281474976710655, 562949953421311, 1125899906842623, 2251799813685247, 4503599627370495, 2251799813685247, 18014398509481983, 36028797018963967, 72057594037927935, 144115188075855871, 288230376151711743, 576460752303423487, 576460752303423487, 576460752303423487, 576460752303423487, 8646911284551352319, 18446744073709551615, 576460752303423487, 576460752303423487, 111256925194560733183, 295147905179352825855, 590295810358705651711, 1180591620717411303423] (by kernel_rfl) ?_; try (rw [List.append_eq]; simp only [List.cons_append, List.nil_append]); simp (maxSteps := 4000000) only [go_sem, List.getElem?_toArray, str_beq, reduceCtorEq, Nat.reduceEqDiff, Nat.reduceLT, Nat.reduceLeDiff, Nat.reduceAdd, Nat.reduceMul, Nat.reduceSub, Nat.reduceBEq, ↓reduceIte, bne_self_eq_false, Bool.and_false, Bool.false_and, Bool.true_or, Bool.false_or])
      | (refine call_of (lives5_does) ?_ ?_
         · first | rfl | simp only [go_sem, List.getElem?_toArray, str_beq, reduceCtorEq, Nat.reduceEqDiff, Nat.reduceLT, Nat.reduceLeDiff, Nat.reduceAdd, Nat.reduceMul, Nat.reduceSub, Nat.reduceBEq, ↓reduceIte, bne_self_eq_false, Bool.and_false, Bool.false_and, Bool.true_or, Bool.false_or, shut_col]
         simp only [go_sem, List.getElem?_toArray, str_beq, reduceCtorEq, Nat.reduceEqDiff, Nat.reduceLT, Nat.reduceLeDiff, Nat.reduceAdd, Nat.reduceMul, Nat.reduceSub, Nat.reduceBEq, ↓reduceIte, bne_self_eq_false, Bool.and_false, Bool.false_and, Bool.true_or, Bool.false_or])
      | refine k_of (by assumption) ?_
      | refine tr_block ?_
      | refine tr_scope ?_
      | (refine tr_skip ?_; try simp only [ex_seq, ex_block])
      | (refine tr_label ?_; try simp only [ex_seq, ex_block])
      | (refine tr_exit ?_; try simp only [ex_seq_exit, ex_block_exit, Nat.reduceEqDiff, if_true, if_false, ex_seq, ex_block, reduceCtorEq, ↓reduceIte])
      | (refine tr_ret ?_; try simp only [ex_seq_ret, ex_block_ret]))
  refine tr_cond rfl (fun ht => ?_) (fun hf => ?_)
  · cases ht
  · repeat (first
        | refine tr_seq_k fun _ _ => ?_
        | (refine tr_region ?_; simp only [go_sem, List.getElem?_toArray, str_beq, reduceCtorEq, Nat.reduceEqDiff, Nat.reduceLT, Nat.reduceLeDiff, Nat.reduceAdd, Nat.reduceMul, Nat.reduceSub, Nat.reduceBEq, ↓reduceIte, bne_self_eq_false, Bool.and_false, Bool.false_and, Bool.true_or, Bool.false_or, bs3P, bs3G, bs2Z, bs2X, bs2B, two_max, one_max, three_max, build1B'])
        | (refine tr_draw (id := 5) follows 10000 [0, 2, 5] [3, 4, 0, 1, 2, 5, 6, 7, 8, 9, 10] (by kernel_rfl) ?_; simp only [go_sem, List.getElem?_toArray, str_beq, reduceCtorEq, Nat.reduceEqDiff, Nat.reduceLT, Nat.reduceLeDiff, Nat.reduceAdd, Nat.reduceMul, Nat.reduceSub, Nat.reduceBEq, ↓reduceIte, bne_self_eq_false, Bool.and_false, Bool.false_and, Bool.true_or, Bool.false_or, bs3P, bs3G, bs2Z, bs2X, bs2B, two_max, one_max, three_max, build1B'])
        | (refine tr_draw (id := 6) follows 10000 [0, 2, 5] [3, 4, 0, 1, 2, 5, 6, 7, 8, 9, 10] (by kernel_rfl) ?_; simp only [go_sem, List.getElem?_toArray, str_beq, reduceCtorEq, Nat.reduceEqDiff, Nat.reduceLT, Nat.reduceLeDiff, Nat.reduceAdd, Nat.reduceMul, Nat.reduceSub, Nat.reduceBEq, ↓reduceIte, bne_self_eq_false, Bool.and_false, Bool.false_and, Bool.true_or, Bool.false_or, bs3P, bs3G, bs2Z, bs2X, bs2B, two_max, one_max, three_max, build1B'])
        | (refine tr_draw (id := 8) follows 10000 [1, 2, 3] [0, 1, 2, 3, 4, 5, 6, 7, 8] (by kernel_rfl) ?_; simp only [go_sem, List.getElem?_toArray, str_beq, reduceCtorEq, Nat.reduceEqDiff, Nat.reduceLT, Nat.reduceLeDiff, Nat.reduceAdd, Nat.reduceMul, Nat.reduceSub, Nat.reduceBEq, ↓reduceIte, bne_self_eq_false, Bool.and_false, Bool.false_and, Bool.true_or, Bool.false_or, bs3P, bs3G, bs2Z, bs2X, bs2B, two_max, one_max, three_max, build1B'])
        | (refine tr_draw (id := 9) follows 10000 [0, 2, 5] [3, 4, 0, 1, 2, 5, 6, 7, 8, 9, 10] (by kernel_rfl) ?_; simp only [go_sem, List.getElem?_toArray, str_beq, reduceCtorEq, Nat.reduceEqDiff, Nat.reduceLT, Nat.reduceLeDiff, Nat.reduceAdd, Nat.reduceMul, Nat.reduceSub, Nat.reduceBEq, ↓reduceIte, bne_self_eq_false, Bool.and_false, Bool.false_and, Bool.true_or, Bool.false_or, bs3P, bs3G, bs2Z, bs2X, bs2B, two_max, one_max, three_max, build1B'])
        | (refine call_of (aP) ?_ ?_
           · first | rfl | simp only [go_sem, List.getElem?_toArray, str_beq, reduceCtorEq, Nat.reduceEqDiff, Nat.reduceLT, Nat.reduceLeDiff, Nat.reduceAdd, Nat.reduceMul, Nat.reduceSub, Nat.reduceBEq, ↓reduceIte, bne_self_eq_false, Bool.and_false, Bool.false_and, Bool.true_or, Bool.false_or, bs3P, bs3G, bs2Z, bs2X, bs2B, two_max, one_max, three_max, build1B', shut_col]
           simp only [go_sem, List.getElem?_toArray, str_beq, reduceCtorEq, Nat.reduceEqDiff, Nat.reduceLT, Nat.reduceLeDiff, Nat.reduceAdd, Nat.reduceMul, Nat.reduceSub, Nat.reduceBEq, ↓reduceIte, bne_self_eq_false, Bool.and_false, Bool.false_and, Bool.true_or, Bool.false_or, bs3P, bs3G, bs2Z, bs2X, bs2B, two_max, one_max, three_max, build1B'])
        | (refine call_of (aG) ?_ ?_
           · first | rfl | simp only [go_sem, List.getElem?_toArray, str_beq, reduceCtorEq, Nat.reduceEqDiff, Nat.reduceLT, Nat.reduceLeDiff, Nat.reduceAdd, Nat.reduceMul, Nat.reduceSub, Nat.reduceBEq, ↓reduceIte, bne_self_eq_false, Bool.and_false, Bool.false_and, Bool.true_or, Bool.false_or, bs3P, bs3G, bs2Z, bs2X, bs2B, two_max, one_max, three_max, build1B', shut_col]
           simp only [go_sem, List.getElem?_toArray, str_beq, reduceCtorEq, Nat.reduceEqDiff, Nat.reduceLT, Nat.reduceLeDiff, Nat.reduceAdd, Nat.reduceMul, Nat.reduceSub, Nat.reduceBEq, ↓reduceIte, bne_self_eq_false, Bool.and_false, Bool.false_and, Bool.true_or, Bool.false_or, bs3P, bs3G, bs2Z, bs2X, bs2B, two_max, one_max, three_max, build1B'])
        | (refine call_of (m1) ?_ ?_
           · first | rfl | simp only [go_sem, List.getElem?_toArray, str_beq, reduceCtorEq, Nat.reduceEqDiff, Nat.reduceLT, Nat.reduceLeDiff, Nat.reduceAdd, Nat.reduceMul, Nat.reduceSub, Nat.reduceBEq, ↓reduceIte, bne_self_eq_false, Bool.and_false, Bool.false_and, Bool.true_or, Bool.false_or, bs3P, bs3G, bs2Z, bs2X, bs2B, two_max, one_max, three_max, build1B', shut_col]
           simp only [go_sem, List.getElem?_toArray, str_beq, reduceCtorEq, Nat.reduceEqDiff, Nat.reduceLT, Nat.reduceLeDiff, Nat.reduceAdd, Nat.reduceMul, Nat.reduceSub, Nat.reduceBEq, ↓reduceIte, bne_self_eq_false, Bool.and_false, Bool.false_and, Bool.true_or, Bool.false_or, bs3P, bs3G, bs2Z, bs2X, bs2B, two_max, one_max, three_max, build1B'])
        | (refine call_of (cd) ?_ ?_
           · first | rfl | simp only [go_sem, List.getElem?_toArray, str_beq, reduceCtorEq, Nat.reduceEqDiff, Nat.reduceLT, Nat.reduceLeDiff, Nat.reduceAdd, Nat.reduceMul, Nat.reduceSub, Nat.reduceBEq, ↓reduceIte, bne_self_eq_false, Bool.and_false, Bool.false_and, Bool.true_or, Bool.false_or, bs3P, bs3G, bs2Z, bs2X, bs2B, two_max, one_max, three_max, build1B', shut_col]
           simp only [go_sem, List.getElem?_toArray, str_beq, reduceCtorEq, Nat.reduceEqDiff, Nat.reduceLT, Nat.reduceLeDiff, Nat.reduceAdd, Nat.reduceMul, Nat.reduceSub, Nat.reduceBEq, ↓reduceIte, bne_self_eq_false, Bool.and_false, Bool.false_and, Bool.true_or, Bool.false_or, bs3P, bs3G, bs2Z, bs2X, bs2B, two_max, one_max, three_max, build1B'])
        | (refine call_of (e1) ?_ ?_
           · first | rfl | simp only [go_sem, List.getElem?_toArray, str_beq, reduceCtorEq, Nat.reduceEqDiff, Nat.reduceLT, Nat.reduceLeDiff, Nat.reduceAdd, Nat.reduceMul, Nat.reduceSub, Nat.reduceBEq, ↓reduceIte, bne_self_eq_false, Bool.and_false, Bool.false_and, Bool.true_or, Bool.false_or, bs3P, bs3G, bs2Z, bs2X, bs2B, two_max, one_max, three_max, build1B', shut_col]
           simp only [go_sem, List.getElem?_toArray, str_beq, reduceCtorEq, Nat.reduceEqDiff, Nat.reduceLT, Nat.reduceLeDiff, Nat.reduceAdd, Nat.reduceMul, Nat.reduceSub, Nat.reduceBEq, ↓reduceIte, bne_self_eq_false, Bool.and_false, Bool.false_and, Bool.true_or, Bool.false_or, bs3P, bs3G, bs2Z, bs2X, bs2B, two_max, one_max, three_max, build1B'])
        | (refine call_of (ce) ?_ ?_
           · first | rfl | simp only [go_sem, List.getElem?_toArray, str_beq, reduceCtorEq, Nat.reduceEqDiff, Nat.reduceLT, Nat.reduceLeDiff, Nat.reduceAdd, Nat.reduceMul, Nat.reduceSub, Nat.reduceBEq, ↓reduceIte, bne_self_eq_false, Bool.and_false, Bool.false_and, Bool.true_or, Bool.false_or, bs3P, bs3G, bs2Z, bs2X, bs2B, two_max, one_max, three_max, build1B', shut_col]
           simp only [go_sem, List.getElem?_toArray, str_beq, reduceCtorEq, Nat.reduceEqDiff, Nat.reduceLT, Nat.reduceLeDiff, Nat.reduceAdd, Nat.reduceMul, Nat.reduceSub, Nat.reduceBEq, ↓reduceIte, bne_self_eq_false, Bool.and_false, Bool.false_and, Bool.true_or, Bool.false_or, bs3P, bs3G, bs2Z, bs2X, bs2B, two_max, one_max, three_max, build1B'])
        | (refine call_of (e2) ?_ ?_
           · first | rfl | simp only [go_sem, List.getElem?_toArray, str_beq, reduceCtorEq, Nat.reduceEqDiff, Nat.reduceLT, Nat.reduceLeDiff, Nat.reduceAdd, Nat.reduceMul, Nat.reduceSub, Nat.reduceBEq, ↓reduceIte, bne_self_eq_false, Bool.and_false, Bool.false_and, Bool.true_or, Bool.false_or, bs3P, bs3G, bs2Z, bs2X, bs2B, two_max, one_max, three_max, build1B', shut_col]
           simp only [go_sem, List.getElem?_toArray, str_beq, reduceCtorEq, Nat.reduceEqDiff, Nat.reduceLT, Nat.reduceLeDiff, Nat.reduceAdd, Nat.reduceMul, Nat.reduceSub, Nat.reduceBEq, ↓reduceIte, bne_self_eq_false, Bool.and_false, Bool.false_and, Bool.true_or, Bool.false_or, bs3P, bs3G, bs2Z, bs2X, bs2B, two_max, one_max, three_max, build1B'])
        | (refine call_of (m2) ?_ ?_
           · first | rfl | simp only [go_sem, List.getElem?_toArray, str_beq, reduceCtorEq, Nat.reduceEqDiff, Nat.reduceLT, Nat.reduceLeDiff, Nat.reduceAdd, Nat.reduceMul, Nat.reduceSub, Nat.reduceBEq, ↓reduceIte, bne_self_eq_false, Bool.and_false, Bool.false_and, Bool.true_or, Bool.false_or, bs3P, bs3G, bs2Z, bs2X, bs2B, two_max, one_max, three_max, build1B', shut_col]
           simp only [go_sem, List.getElem?_toArray, str_beq, reduceCtorEq, Nat.reduceEqDiff, Nat.reduceLT, Nat.reduceLeDiff, Nat.reduceAdd, Nat.reduceMul, Nat.reduceSub, Nat.reduceBEq, ↓reduceIte, bne_self_eq_false, Bool.and_false, Bool.false_and, Bool.true_or, Bool.false_or, bs3P, bs3G, bs2Z, bs2X, bs2B, two_max, one_max, three_max, build1B'])
        | (refine call_of (aB) ?_ ?_
           · first | rfl | simp only [go_sem, List.getElem?_toArray, str_beq, reduceCtorEq, Nat.reduceEqDiff, Nat.reduceLT, Nat.reduceLeDiff, Nat.reduceAdd, Nat.reduceMul, Nat.reduceSub, Nat.reduceBEq, ↓reduceIte, bne_self_eq_false, Bool.and_false, Bool.false_and, Bool.true_or, Bool.false_or, bs3P, bs3G, bs2Z, bs2X, bs2B, two_max, one_max, three_max, build1B', shut_col]
           simp only [go_sem, List.getElem?_toArray, str_beq, reduceCtorEq, Nat.reduceEqDiff, Nat.reduceLT, Nat.reduceLeDiff, Nat.reduceAdd, Nat.reduceMul, Nat.reduceSub, Nat.reduceBEq, ↓reduceIte, bne_self_eq_false, Bool.and_false, Bool.false_and, Bool.true_or, Bool.false_or, bs3P, bs3G, bs2Z, bs2X, bs2B, two_max, one_max, three_max, build1B'])
        | (refine call_of (m3) ?_ ?_
           · first | rfl | simp only [go_sem, List.getElem?_toArray, str_beq, reduceCtorEq, Nat.reduceEqDiff, Nat.reduceLT, Nat.reduceLeDiff, Nat.reduceAdd, Nat.reduceMul, Nat.reduceSub, Nat.reduceBEq, ↓reduceIte, bne_self_eq_false, Bool.and_false, Bool.false_and, Bool.true_or, Bool.false_or, bs3P, bs3G, bs2Z, bs2X, bs2B, two_max, one_max, three_max, build1B', shut_col]
           simp only [go_sem, List.getElem?_toArray, str_beq, reduceCtorEq, Nat.reduceEqDiff, Nat.reduceLT, Nat.reduceLeDiff, Nat.reduceAdd, Nat.reduceMul, Nat.reduceSub, Nat.reduceBEq, ↓reduceIte, bne_self_eq_false, Bool.and_false, Bool.false_and, Bool.true_or, Bool.false_or, bs3P, bs3G, bs2Z, bs2X, bs2B, two_max, one_max, three_max, build1B'])
        | (refine call_of (cV) ?_ ?_
           · first | rfl | simp only [go_sem, List.getElem?_toArray, str_beq, reduceCtorEq, Nat.reduceEqDiff, Nat.reduceLT, Nat.reduceLeDiff, Nat.reduceAdd, Nat.reduceMul, Nat.reduceSub, Nat.reduceBEq, ↓reduceIte, bne_self_eq_false, Bool.and_false, Bool.false_and, Bool.true_or, Bool.false_or, bs3P, bs3G, bs2Z, bs2X, bs2B, two_max, one_max, three_max, build1B', shut_col]
           simp only [go_sem, List.getElem?_toArray, str_beq, reduceCtorEq, Nat.reduceEqDiff, Nat.reduceLT, Nat.reduceLeDiff, Nat.reduceAdd, Nat.reduceMul, Nat.reduceSub, Nat.reduceBEq, ↓reduceIte, bne_self_eq_false, Bool.and_false, Bool.false_and, Bool.true_or, Bool.false_or, bs3P, bs3G, bs2Z, bs2X, bs2B, two_max, one_max, three_max, build1B'])
        | (refine call_of (e3) ?_ ?_
           · first | rfl | simp only [go_sem, List.getElem?_toArray, str_beq, reduceCtorEq, Nat.reduceEqDiff, Nat.reduceLT, Nat.reduceLeDiff, Nat.reduceAdd, Nat.reduceMul, Nat.reduceSub, Nat.reduceBEq, ↓reduceIte, bne_self_eq_false, Bool.and_false, Bool.false_and, Bool.true_or, Bool.false_or, bs3P, bs3G, bs2Z, bs2X, bs2B, two_max, one_max, three_max, build1B', shut_col]
           simp only [go_sem, List.getElem?_toArray, str_beq, reduceCtorEq, Nat.reduceEqDiff, Nat.reduceLT, Nat.reduceLeDiff, Nat.reduceAdd, Nat.reduceMul, Nat.reduceSub, Nat.reduceBEq, ↓reduceIte, bne_self_eq_false, Bool.and_false, Bool.false_and, Bool.true_or, Bool.false_or, bs3P, bs3G, bs2Z, bs2X, bs2B, two_max, one_max, three_max, build1B'])
        | (refine call_of (aO) ?_ ?_
           · first | rfl | simp only [go_sem, List.getElem?_toArray, str_beq, reduceCtorEq, Nat.reduceEqDiff, Nat.reduceLT, Nat.reduceLeDiff, Nat.reduceAdd, Nat.reduceMul, Nat.reduceSub, Nat.reduceBEq, ↓reduceIte, bne_self_eq_false, Bool.and_false, Bool.false_and, Bool.true_or, Bool.false_or, bs3P, bs3G, bs2Z, bs2X, bs2B, two_max, one_max, three_max, build1B', shut_col]
           simp only [go_sem, List.getElem?_toArray, str_beq, reduceCtorEq, Nat.reduceEqDiff, Nat.reduceLT, Nat.reduceLeDiff, Nat.reduceAdd, Nat.reduceMul, Nat.reduceSub, Nat.reduceBEq, ↓reduceIte, bne_self_eq_false, Bool.and_false, Bool.false_and, Bool.true_or, Bool.false_or, bs3P, bs3G, bs2Z, bs2X, bs2B, two_max, one_max, three_max, build1B'])
        | (refine call_of (m4) ?_ ?_
           · first | rfl | simp only [go_sem, List.getElem?_toArray, str_beq, reduceCtorEq, Nat.reduceEqDiff, Nat.reduceLT, Nat.reduceLeDiff, Nat.reduceAdd, Nat.reduceMul, Nat.reduceSub, Nat.reduceBEq, ↓reduceIte, bne_self_eq_false, Bool.and_false, Bool.false_and, Bool.true_or, Bool.false_or, bs3P, bs3G, bs2Z, bs2X, bs2B, two_max, one_max, three_max, build1B', shut_col]
           simp only [go_sem, List.getElem?_toArray, str_beq, reduceCtorEq, Nat.reduceEqDiff, Nat.reduceLT, Nat.reduceLeDiff, Nat.reduceAdd, Nat.reduceMul, Nat.reduceSub, Nat.reduceBEq, ↓reduceIte, bne_self_eq_false, Bool.and_false, Bool.false_and, Bool.true_or, Bool.false_or, bs3P, bs3G, bs2Z, bs2X, bs2B, two_max, one_max, three_max, build1B'])
        | (refine call_of (cc) ?_ ?_
           · first | rfl | simp only [go_sem, List.getElem?_toArray, str_beq, reduceCtorEq, Nat.reduceEqDiff, Nat.reduceLT, Nat.reduceLeDiff, Nat.reduceAdd, Nat.reduceMul, Nat.reduceSub, Nat.reduceBEq, ↓reduceIte, bne_self_eq_false, Bool.and_false, Bool.false_and, Bool.true_or, Bool.false_or, bs3P, bs3G, bs2Z, bs2X, bs2B, two_max, one_max, three_max, build1B', shut_col]
           simp only [go_sem, List.getElem?_toArray, str_beq, reduceCtorEq, Nat.reduceEqDiff, Nat.reduceLT, Nat.reduceLeDiff, Nat.reduceAdd, Nat.reduceMul, Nat.reduceSub, Nat.reduceBEq, ↓reduceIte, bne_self_eq_false, Bool.and_false, Bool.false_and, Bool.true_or, Bool.false_or, bs3P, bs3G, bs2Z, bs2X, bs2B, two_max, one_max, three_max, build1B'])
        | refine k_of (by assumption) ?_
        | refine tr_block ?_
        | refine tr_scope ?_
        | (refine tr_skip ?_; try simp only [ex_seq, ex_block])
        | (refine tr_label ?_; try simp only [ex_seq, ex_block])
        | (refine tr_exit ?_; try simp only [ex_seq_exit, ex_block_exit, Nat.reduceEqDiff, if_true, if_false, ex_seq, ex_block, reduceCtorEq, ↓reduceIte])
        | (refine tr_ret ?_; try simp only [ex_seq_ret, ex_block_ret]))
    refine tr_sub (fr' := [(1, _), (2, _), (3, _), (4, _), (5, _), (6, _), (8, _), (10, _), (12, _), (14, _), (15, _), (16, _), (17, _)]) ⟨rfl, rfl, rfl, rfl, rfl, rfl, rfl, rfl, rfl, rfl, rfl, rfl, rfl, trivial⟩ ?_
    repeat (first
        | refine tr_seq_k fun _ _ => ?_
        | (refine tr_region ?_; simp only [go_sem, List.getElem?_toArray, str_beq, reduceCtorEq, Nat.reduceEqDiff, Nat.reduceLT, Nat.reduceLeDiff, Nat.reduceAdd, Nat.reduceMul, Nat.reduceSub, Nat.reduceBEq, ↓reduceIte, bne_self_eq_false, Bool.and_false, Bool.false_and, Bool.true_or, Bool.false_or, bs2Z, bs2X, bs2B, bs3A, bs2A, two_max, three_max, show (((0 : Nat) : Int) == 0) = true from rfl, Int.natCast_zero, Int.ofNat_zero])
        | (refine tr_draw (id := 5) follows 10000 [0, 2, 5] [3, 4, 0, 1, 2, 5, 6, 7, 8, 9, 10] (by kernel_rfl) ?_; simp only [go_sem, List.getElem?_toArray, str_beq, reduceCtorEq, Nat.reduceEqDiff, Nat.reduceLT, Nat.reduceLeDiff, Nat.reduceAdd, Nat.reduceMul, Nat.reduceSub, Nat.reduceBEq, ↓reduceIte, bne_self_eq_false, Bool.and_false, Bool.false_and, Bool.true_or, Bool.false_or, bs2Z, bs2X, bs2B, bs3A, bs2A, two_max, three_max, show (((0 : Nat) : Int) == 0) = true from rfl, Int.natCast_zero, Int.ofNat_zero])
        | (refine tr_draw (id := 6) follows 10000 [0, 2, 5] [3, 4, 0, 1, 2, 5, 6, 7, 8, 9, 10] (by kernel_rfl) ?_; simp only [go_sem, List.getElem?_toArray, str_beq, reduceCtorEq, Nat.reduceEqDiff, Nat.reduceLT, Nat.reduceLeDiff, Nat.reduceAdd, Nat.reduceMul, Nat.reduceSub, Nat.reduceBEq, ↓reduceIte, bne_self_eq_false, Bool.and_false, Bool.false_and, Bool.true_or, Bool.false_or, bs2Z, bs2X, bs2B, bs3A, bs2A, two_max, three_max, show (((0 : Nat) : Int) == 0) = true from rfl, Int.natCast_zero, Int.ofNat_zero])
        | (refine tr_draw (id := 8) follows 10000 [1, 2, 3] [0, 1, 2, 3, 4, 5, 6, 7, 8] (by kernel_rfl) ?_; simp only [go_sem, List.getElem?_toArray, str_beq, reduceCtorEq, Nat.reduceEqDiff, Nat.reduceLT, Nat.reduceLeDiff, Nat.reduceAdd, Nat.reduceMul, Nat.reduceSub, Nat.reduceBEq, ↓reduceIte, bne_self_eq_false, Bool.and_false, Bool.false_and, Bool.true_or, Bool.false_or, bs2Z, bs2X, bs2B, bs3A, bs2A, two_max, three_max, show (((0 : Nat) : Int) == 0) = true from rfl, Int.natCast_zero, Int.ofNat_zero])
        | (refine tr_draw (id := 9) follows 10000 [0, 2, 5] [3, 4, 0, 1, 2, 5, 6, 7, 8, 9, 10] (by kernel_rfl) ?_; simp only [go_sem, List.getElem?_toArray, str_beq, reduceCtorEq, Nat.reduceEqDiff, Nat.reduceLT, Nat.reduceLeDiff, Nat.reduceAdd, Nat.reduceMul, Nat.reduceSub, Nat.reduceBEq, ↓reduceIte, bne_self_eq_false, Bool.and_false, Bool.false_and, Bool.true_or, Bool.false_or, bs2Z, bs2X, bs2B, bs3A, bs2A, two_max, three_max, show (((0 : Nat) : Int) == 0) = true from rfl, Int.natCast_zero, Int.ofNat_zero])
        | (refine tr_drawM (id := 12) follows [0, 1, 3, 3, 15, 31, 63, 127, 255, 511, 1023, 1023, 4095, 8191, 16383, 32767, 65535, 131071, 262143, 524287, 1048575, 2097151, 4194303, 8388607, 16777215, 33554431, 67108863, 134217727, 268435455, 536870911, 1073741823, 2147483647, 4294967295, 8589934591, 17179869183, 34359738367, 68719476735, 137438953471, 274877906943, 549755813887, 549755813887, 2199023255551, 4398046511103, 8796093022207, 17592186044415, 35184372088831, 17592186044415, 140737488355327, 281474976710655, 562949953421311, 1125899906842623, 2251799813685247, 4503599627370495, 2251799813685247, 18014398509481983, 36028797018963967, 72057594037927935, 144115188075855871, 288230376151711743, 576460752303423487, 576460752303423487, 576460752303423487, 576460752303423487, 8646911284551352319, 18446744073709551615, 576460752303423487, 576460752303423487, 111256925194560733183, 295147905179352825855, 590295810358705651711, 1180591620717411303423] (by kernel_rfl) ?_; try (rw [List.append_eq]; simp only [List.cons_append, List.nil_append]); simp (maxSteps := 4000000) only [go_sem, List.getElem?_toArray, str_beq, reduceCtorEq, Nat.reduceEqDiff, Nat.reduceLT, Nat.reduceLeDiff, Nat.reduceAdd, Nat.reduceMul, Nat.reduceSub, Nat.reduceBEq, ↓reduceIte, bne_self_eq_false, Bool.and_false, Bool.false_and, Bool.true_or, Bool.false_or, bs2Z, bs2X, bs2B, bs3A, bs2A, two_max, three_max, show (((0 : Nat) : Int) == 0) = true from rfl, Int.natCast_zero, Int.ofNat_zero])
        | (refine call_of (cd) ?_ ?_
           · first | rfl | simp only [go_sem, List.getElem?_toArray, str_beq, reduceCtorEq, Nat.reduceEqDiff, Nat.reduceLT, Nat.reduceLeDiff, Nat.reduceAdd, Nat.reduceMul, Nat.reduceSub, Nat.reduceBEq, ↓reduceIte, bne_self_eq_false, Bool.and_false, Bool.false_and, Bool.true_or, Bool.false_or, bs2Z, bs2X, bs2B, bs3A, bs2A, two_max, three_max, show (((0 : Nat) : Int) == 0) = true from rfl, Int.natCast_zero, Int.ofNat_zero, shut_col]
           simp only [go_sem, List.getElem?_toArray, str_beq, reduceCtorEq, Nat.reduceEqDiff, Nat.reduceLT, Nat.reduceLeDiff, Nat.reduceAdd, Nat.reduceMul, Nat.reduceSub, Nat.reduceBEq, ↓reduceIte, bne_self_eq_false, Bool.and_false, Bool.false_and, Bool.true_or, Bool.false_or, bs2Z, bs2X, bs2B, bs3A, bs2A, two_max, three_max, show (((0 : Nat) : Int) == 0) = true from rfl, Int.natCast_zero, Int.ofNat_zero])
        | (refine call_of (cc) ?_ ?_
           · first | rfl | simp only [go_sem, List.getElem?_toArray, str_beq, reduceCtorEq, Nat.reduceEqDiff, Nat.reduceLT, Nat.reduceLeDiff, Nat.reduceAdd, Nat.reduceMul, Nat.reduceSub, Nat.reduceBEq, ↓reduceIte, bne_self_eq_false, Bool.and_false, Bool.false_and, Bool.true_or, Bool.false_or, bs2Z, bs2X, bs2B, bs3A, bs2A, two_max, three_max, show (((0 : Nat) : Int) == 0) = true from rfl, Int.natCast_zero, Int.ofNat_zero, shut_col]
           simp only [go_sem, List.getElem?_toArray, str_beq, reduceCtorEq, Nat.reduceEqDiff, Nat.reduceLT, Nat.reduceLeDiff, Nat.reduceAdd, Nat.reduceMul, Nat.reduceSub, Nat.reduceBEq, ↓reduceIte, bne_self_eq_false, Bool.and_false, Bool.false_and, Bool.true_or, Bool.false_or, bs2Z, bs2X, bs2B, bs3A, bs2A, two_max, three_max, show (((0 : Nat) : Int) == 0) = true from rfl, Int.natCast_zero, Int.ofNat_zero])
        | (refine call_of (same_nm) ?_ ?_
           · first | rfl | simp only [go_sem, List.getElem?_toArray, str_beq, reduceCtorEq, Nat.reduceEqDiff, Nat.reduceLT, Nat.reduceLeDiff, Nat.reduceAdd, Nat.reduceMul, Nat.reduceSub, Nat.reduceBEq, ↓reduceIte, bne_self_eq_false, Bool.and_false, Bool.false_and, Bool.true_or, Bool.false_or, bs2Z, bs2X, bs2B, bs3A, bs2A, two_max, three_max, show (((0 : Nat) : Int) == 0) = true from rfl, Int.natCast_zero, Int.ofNat_zero, shut_col]
           simp only [go_sem, List.getElem?_toArray, str_beq, reduceCtorEq, Nat.reduceEqDiff, Nat.reduceLT, Nat.reduceLeDiff, Nat.reduceAdd, Nat.reduceMul, Nat.reduceSub, Nat.reduceBEq, ↓reduceIte, bne_self_eq_false, Bool.and_false, Bool.false_and, Bool.true_or, Bool.false_or, bs2Z, bs2X, bs2B, bs3A, bs2A, two_max, three_max, show (((0 : Nat) : Int) == 0) = true from rfl, Int.natCast_zero, Int.ofNat_zero])
        | (refine call_of (u1) ?_ ?_
           · first | rfl | simp only [go_sem, List.getElem?_toArray, str_beq, reduceCtorEq, Nat.reduceEqDiff, Nat.reduceLT, Nat.reduceLeDiff, Nat.reduceAdd, Nat.reduceMul, Nat.reduceSub, Nat.reduceBEq, ↓reduceIte, bne_self_eq_false, Bool.and_false, Bool.false_and, Bool.true_or, Bool.false_or, bs2Z, bs2X, bs2B, bs3A, bs2A, two_max, three_max, show (((0 : Nat) : Int) == 0) = true from rfl, Int.natCast_zero, Int.ofNat_zero, shut_col]
           simp only [go_sem, List.getElem?_toArray, str_beq, reduceCtorEq, Nat.reduceEqDiff, Nat.reduceLT, Nat.reduceLeDiff, Nat.reduceAdd, Nat.reduceMul, Nat.reduceSub, Nat.reduceBEq, ↓reduceIte, bne_self_eq_false, Bool.and_false, Bool.false_and, Bool.true_or, Bool.false_or, bs2Z, bs2X, bs2B, bs3A, bs2A, two_max, three_max, show (((0 : Nat) : Int) == 0) = true from rfl, Int.natCast_zero, Int.ofNat_zero])
        | (refine call_of (aZ) ?_ ?_
           · first | rfl | simp only [go_sem, List.getElem?_toArray, str_beq, reduceCtorEq, Nat.reduceEqDiff, Nat.reduceLT, Nat.reduceLeDiff, Nat.reduceAdd, Nat.reduceMul, Nat.reduceSub, Nat.reduceBEq, ↓reduceIte, bne_self_eq_false, Bool.and_false, Bool.false_and, Bool.true_or, Bool.false_or, bs2Z, bs2X, bs2B, bs3A, bs2A, two_max, three_max, show (((0 : Nat) : Int) == 0) = true from rfl, Int.natCast_zero, Int.ofNat_zero, shut_col]
           simp only [go_sem, List.getElem?_toArray, str_beq, reduceCtorEq, Nat.reduceEqDiff, Nat.reduceLT, Nat.reduceLeDiff, Nat.reduceAdd, Nat.reduceMul, Nat.reduceSub, Nat.reduceBEq, ↓reduceIte, bne_self_eq_false, Bool.and_false, Bool.false_and, Bool.true_or, Bool.false_or, bs2Z, bs2X, bs2B, bs3A, bs2A, two_max, three_max, show (((0 : Nat) : Int) == 0) = true from rfl, Int.natCast_zero, Int.ofNat_zero])
        | (refine call_of (aX) ?_ ?_
           · first | rfl | simp only [go_sem, List.getElem?_toArray, str_beq, reduceCtorEq, Nat.reduceEqDiff, Nat.reduceLT, Nat.reduceLeDiff, Nat.reduceAdd, Nat.reduceMul, Nat.reduceSub, Nat.reduceBEq, ↓reduceIte, bne_self_eq_false, Bool.and_false, Bool.false_and, Bool.true_or, Bool.false_or, bs2Z, bs2X, bs2B, bs3A, bs2A, two_max, three_max, show (((0 : Nat) : Int) == 0) = true from rfl, Int.natCast_zero, Int.ofNat_zero, shut_col]
           simp only [go_sem, List.getElem?_toArray, str_beq, reduceCtorEq, Nat.reduceEqDiff, Nat.reduceLT, Nat.reduceLeDiff, Nat.reduceAdd, Nat.reduceMul, Nat.reduceSub, Nat.reduceBEq, ↓reduceIte, bne_self_eq_false, Bool.and_false, Bool.false_and, Bool.true_or, Bool.false_or, bs2Z, bs2X, bs2B, bs3A, bs2A, two_max, three_max, show (((0 : Nat) : Int) == 0) = true from rfl, Int.natCast_zero, Int.ofNat_zero])
        | (refine call_of (u2) ?_ ?_
           · first | rfl | simp only [go_sem, List.getElem?_toArray, str_beq, reduceCtorEq, Nat.reduceEqDiff, Nat.reduceLT, Nat.reduceLeDiff, Nat.reduceAdd, Nat.reduceMul, Nat.reduceSub, Nat.reduceBEq, ↓reduceIte, bne_self_eq_false, Bool.and_false, Bool.false_and, Bool.true_or, Bool.false_or, bs2Z, bs2X, bs2B, bs3A, bs2A, two_max, three_max, show (((0 : Nat) : Int) == 0) = true from rfl, Int.natCast_zero, Int.ofNat_zero, shut_col]
           simp only [go_sem, List.getElem?_toArray, str_beq, reduceCtorEq, Nat.reduceEqDiff, Nat.reduceLT, Nat.reduceLeDiff, Nat.reduceAdd, Nat.reduceMul, Nat.reduceSub, Nat.reduceBEq, ↓reduceIte, bne_self_eq_false, Bool.and_false, Bool.false_and, Bool.true_or, Bool.false_or, bs2Z, bs2X, bs2B, bs3A, bs2A, two_max, three_max, show (((0 : Nat) : Int) == 0) = true from rfl, Int.natCast_zero, Int.ofNat_zero])
        | (refine call_of (u3) ?_ ?_
           · first | rfl | simp only [go_sem, List.getElem?_toArray, str_beq, reduceCtorEq, Nat.reduceEqDiff, Nat.reduceLT, Nat.reduceLeDiff, Nat.reduceAdd, Nat.reduceMul, Nat.reduceSub, Nat.reduceBEq, ↓reduceIte, bne_self_eq_false, Bool.and_false, Bool.false_and, Bool.true_or, Bool.false_or, bs2Z, bs2X, bs2B, bs3A, bs2A, two_max, three_max, show (((0 : Nat) : Int) == 0) = true from rfl, Int.natCast_zero, Int.ofNat_zero, shut_col]
           simp only [go_sem, List.getElem?_toArray, str_beq, reduceCtorEq, Nat.reduceEqDiff, Nat.reduceLT, Nat.reduceLeDiff, Nat.reduceAdd, Nat.reduceMul, Nat.reduceSub, Nat.reduceBEq, ↓reduceIte, bne_self_eq_false, Bool.and_false, Bool.false_and, Bool.true_or, Bool.false_or, bs2Z, bs2X, bs2B, bs3A, bs2A, two_max, three_max, show (((0 : Nat) : Int) == 0) = true from rfl, Int.natCast_zero, Int.ofNat_zero])
        | (refine call_of (al) ?_ ?_
           · first | rfl | simp only [go_sem, List.getElem?_toArray, str_beq, reduceCtorEq, Nat.reduceEqDiff, Nat.reduceLT, Nat.reduceLeDiff, Nat.reduceAdd, Nat.reduceMul, Nat.reduceSub, Nat.reduceBEq, ↓reduceIte, bne_self_eq_false, Bool.and_false, Bool.false_and, Bool.true_or, Bool.false_or, bs2Z, bs2X, bs2B, bs3A, bs2A, two_max, three_max, show (((0 : Nat) : Int) == 0) = true from rfl, Int.natCast_zero, Int.ofNat_zero, shut_col]
           simp only [go_sem, List.getElem?_toArray, str_beq, reduceCtorEq, Nat.reduceEqDiff, Nat.reduceLT, Nat.reduceLeDiff, Nat.reduceAdd, Nat.reduceMul, Nat.reduceSub, Nat.reduceBEq, ↓reduceIte, bne_self_eq_false, Bool.and_false, Bool.false_and, Bool.true_or, Bool.false_or, bs2Z, bs2X, bs2B, bs3A, bs2A, two_max, three_max, show (((0 : Nat) : Int) == 0) = true from rfl, Int.natCast_zero, Int.ofNat_zero])
        | (refine call_of (sG) ?_ ?_
           · first | rfl | simp only [go_sem, List.getElem?_toArray, str_beq, reduceCtorEq, Nat.reduceEqDiff, Nat.reduceLT, Nat.reduceLeDiff, Nat.reduceAdd, Nat.reduceMul, Nat.reduceSub, Nat.reduceBEq, ↓reduceIte, bne_self_eq_false, Bool.and_false, Bool.false_and, Bool.true_or, Bool.false_or, bs2Z, bs2X, bs2B, bs3A, bs2A, two_max, three_max, show (((0 : Nat) : Int) == 0) = true from rfl, Int.natCast_zero, Int.ofNat_zero, shut_col]
           simp only [go_sem, List.getElem?_toArray, str_beq, reduceCtorEq, Nat.reduceEqDiff, Nat.reduceLT, Nat.reduceLeDiff, Nat.reduceAdd, Nat.reduceMul, Nat.reduceSub, Nat.reduceBEq, ↓reduceIte, bne_self_eq_false, Bool.and_false, Bool.false_and, Bool.true_or, Bool.false_or, bs2Z, bs2X, bs2B, bs3A, bs2A, two_max, three_max, show (((0 : Nat) : Int) == 0) = true from rfl, Int.natCast_zero, Int.ofNat_zero])
        | refine k_of (by assumption) ?_
        | refine tr_block ?_
        | refine tr_scope ?_
        | (refine tr_skip ?_; try simp only [ex_seq, ex_block])
        | (refine tr_label ?_; try simp only [ex_seq, ex_block])
        | (refine tr_exit ?_; try simp only [ex_seq_exit, ex_block_exit, Nat.reduceEqDiff, if_true, if_false, ex_seq, ex_block, reduceCtorEq, ↓reduceIte])
        | (refine tr_ret ?_; try simp only [ex_seq_ret, ex_block_ret]))
    refine (hQ _ _ [bA true] ?_ (fun m => rfl)).2 <;> simp only [go_sem, List.getElem?_toArray, str_beq, reduceCtorEq, Nat.reduceEqDiff, Nat.reduceLT, Nat.reduceLeDiff, Nat.reduceAdd, Nat.reduceMul, Nat.reduceSub, Nat.reduceBEq, ↓reduceIte, bne_self_eq_false, Bool.and_false, Bool.false_and, Bool.true_or, Bool.false_or, Try.f6]
end Go.Proofs.Ythpbdonndcejhaa

namespace Go.Proofs.Ythpbdonndcejhaa.names
open Go.ChangeShapes Go.WideShapes Go.ChangeAt Go.RowKit Go.Vs Go.Vs.Ab

theorem own : ownKnob Try.prog.godebug = none := by kernel_rfl
theorem laidOut : laidOutB Try.prog = true := by kernel_rfl
theorem readable : (Try.f6.params.toList.all fun t => Try.prog.readableRec t && decide (t < Try.prog.types.size)) = true := by kernel_rfl

set_option maxRecDepth 100000 in
theorem lifted (os : Os) (started : os.Started) (H : Type) (enc : TypeId × Value → H) :
    ReturnsInHanded {} Try.checked os 6 .any (Rows.matchNamesSpec.pre6 enc Try.prog Try.f6 Rows.matchNamesRow.domain false) (Rows.matchNamesSpec.post enc Try.prog Try.f6 false true false false) := by
  refine returnsInHanded_of_change (C := Try.checked) own started (by kernel_rfl) Try.func6
    (ChangeSpec.witness6 (enc := enc) (C := Try.checked) false ⟨#[], #[], []⟩ 8 (by kernel_rfl) (by kernel_rfl) (by kernel_rfl) (by kernel_rfl)) ?_
  intro W base args ds gs before hval0 hW hcnd _
  have hval : ∀ (j : Nat) t v, Try.f6.params[j]? = some t → args[j]? = some v → Value.okWide Try.prog W .any base t v := hval0
  have hW' := hW
  obtain ⟨p, q, hA0, hV, rfl, hfz, hnd⟩ := hW
  have hA : DataW.TrodAll enc Try.prog W 0 (fun _ => true) true Try.f6.params.toList args.toList ds p := hA0
  rw [Try.params6] at hA
  obtain ⟨ha, rfl, rfl⟩ := trodAll_nil hA
  obtain rfl : args = #[] := by cases args; simp_all
  obtain ⟨rfl, rfl⟩ := trodVars_none hV
  refine ((names_law).bool Reps.nil).mono fun e W' ⟨he, hb⟩ => ?_
  subst he
  refine ⟨_, rfl, law_post (tb := 4) hW' rfl rfl laidOut (fun t ht => ?_) rfl Try.underlying4 hb⟩
  have := List.all_eq_true.1 readable t ht
  simp only [Bool.and_eq_true, decide_eq_true_eq] at this
  exact this

theorem holds : Rows.MatchNamesSaid :=
  OpenClaim.holds_of_wide 6 Try.f6 rfl rfl rfl rfl rfl rfl rfl ⟨rfl, rfl, rfl, rfl, rfl⟩ rfl rfl rfl rfl rfl (by kernel_rfl) Try.func6 (by kernel_rfl)
    (of_decide_eq_true (by kernel_rfl)) (by unfold Func.isWrapper; first | (rw [if_pos (by decide +kernel)]; kernel_rfl) | (rw [if_neg (by decide +kernel)]; exact ⟨rfl, rfl⟩))
    (fun os started H enc _ => lifted os started H enc)
#print axioms holds
end Go.Proofs.Ythpbdonndcejhaa.names
