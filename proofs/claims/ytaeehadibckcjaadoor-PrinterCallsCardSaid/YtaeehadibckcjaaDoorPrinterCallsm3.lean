/-
  For every input the statement PrinterCalls returns true, and leaves its arguments as they were.
-/
import Derived.Test.YtaeehadibckcjaaDoorPrinterCallsm2
import Derived.Test.YtaeehadibckcjaaDoorRows
import Derived.LaidSub
import Derived.MakeChecks
import Derived.Test.YtaeehadibckcjaaDoorAq
import Derived.Test.YtaeehadibckcjaaDoorLaw
import Derived.Test.YtaeehadibckcjaaDoorCards
import Derived.Test.YtaeehadibckcjaaDoorTie
import Derived.ProofKit
import Derived.LaidMore
import Derived.LaidHandle
import Derived.OpenShut
import Derived.Stop.Joined
import Derived.SevenTiedAt
/-
  Chapter 11: PrinterCalls, the walk.
-/
set_option linter.unusedSimpArgs false
set_option linter.unusedVariables false
namespace Go.Proofs.YtaeehadibckcjaaDoor
open Go.RowKit Go.Vs Go.Vs.Ab
set_option maxRecDepth 100000
set_option maxHeartbeats 4000000
theorem pcalls_does (p : Pol) (a : Atm) (hn : PolNum p) : Does Tryd.prog 6 [poA p, atA a] (fun m => (bA true, m)) := by
  have c0 := lives11_does
  have cL := lightP_does p
  have cA := lightA_does a
  cases h1 : lightP p with
  | false =>
    rw [h1] at cL
    refine does_of' Tryd.func6 rfl (by kernel_rfl) rfl Tryd.ntmps6 rfl rfl fun Q hQ => ?_
    repeat (first
        | refine tr_seq_k fun _ _ => ?_
        | (refine tr_region ?_; simp only [go_sem, List.getElem?_toArray, str_beq, reduceCtorEq, Nat.reduceEqDiff, Nat.reduceLT, Nat.reduceLeDiff, Nat.reduceAdd, Nat.reduceMul, Nat.reduceSub, Nat.reduceBEq, ↓reduceIte, bne_self_eq_false, Bool.and_false, Bool.false_and, Bool.true_or, Bool.false_or])
        | (refine tr_draw (id := 8) follows 10000 [5, 11] [0, 1, 2, 3, 4, 6, 7, 8, 9, 10, 5, 11, 12] (by kernel_rfl) ?_; simp only [go_sem, List.getElem?_toArray, str_beq, reduceCtorEq, Nat.reduceEqDiff, Nat.reduceLT, Nat.reduceLeDiff, Nat.reduceAdd, Nat.reduceMul, Nat.reduceSub, Nat.reduceBEq, ↓reduceIte, bne_self_eq_false, Bool.and_false, Bool.false_and, Bool.true_or, Bool.false_or])
        | (refine tr_draw (id := 13) follows 10000 [5, 11] [0, 1, 2, 3, 4, 6, 7, 8, 9, 10, 5, 11, 12] (by kernel_rfl) ?_; simp only [go_sem, List.getElem?_toArray, str_beq, reduceCtorEq, Nat.reduceEqDiff, Nat.reduceLT, Nat.reduceLeDiff, Nat.reduceAdd, Nat.reduceMul, Nat.reduceSub, Nat.reduceBEq, ↓reduceIte, bne_self_eq_false, Bool.and_false, Bool.false_and, Bool.true_or, Bool.false_or])
        | (refine tr_draw (id := 18) follows 10000 [5, 11] [0, 1, 2, 3, 4, 6, 7, 8, 9, 10, 5, 11, 12] (by kernel_rfl) ?_; simp only [go_sem, List.getElem?_toArray, str_beq, reduceCtorEq, Nat.reduceEqDiff, Nat.reduceLT, Nat.reduceLeDiff, Nat.reduceAdd, Nat.reduceMul, Nat.reduceSub, Nat.reduceBEq, ↓reduceIte, bne_self_eq_false, Bool.and_false, Bool.false_and, Bool.true_or, Bool.false_or])
        | (refine tr_draw (id := 20) follows 10000 [1, 3, 7, 9] [0, 2, 1, 3, 4, 5, 6, 8, 7, 9, 10, 11, 12] (by kernel_rfl) ?_; simp only [go_sem, List.getElem?_toArray, str_beq, reduceCtorEq, Nat.reduceEqDiff, Nat.reduceLT, Nat.reduceLeDiff, Nat.reduceAdd, Nat.reduceMul, Nat.reduceSub, Nat.reduceBEq, ↓reduceIte, bne_self_eq_false, Bool.and_false, Bool.false_and, Bool.true_or, Bool.false_or])
        | (refine call_of (c0) ?_ ?_
           · first | rfl | simp only [go_sem, List.getElem?_toArray, str_beq, reduceCtorEq, Nat.reduceEqDiff, Nat.reduceLT, Nat.reduceLeDiff, Nat.reduceAdd, Nat.reduceMul, Nat.reduceSub, Nat.reduceBEq, ↓reduceIte, bne_self_eq_false, Bool.and_false, Bool.false_and, Bool.true_or, Bool.false_or, shut_col]
           simp only [go_sem, List.getElem?_toArray, str_beq, reduceCtorEq, Nat.reduceEqDiff, Nat.reduceLT, Nat.reduceLeDiff, Nat.reduceAdd, Nat.reduceMul, Nat.reduceSub, Nat.reduceBEq, ↓reduceIte, bne_self_eq_false, Bool.and_false, Bool.false_and, Bool.true_or, Bool.false_or])
        | refine k_of (by assumption) ?_
        | refine tr_block ?_
        | refine tr_scope ?_
        | (refine tr_skip ?_; try simp only [ex_seq, ex_block])
        | (refine tr_label ?_; try simp only [ex_seq, ex_block])
        | (refine tr_exit ?_; try simp only [ex_seq_exit, ex_block_exit, Nat.reduceEqDiff, if_true, if_false, ex_seq, ex_block, reduceCtorEq, ↓reduceIte])
        | (refine tr_ret ?_; try simp only [ex_seq_ret, ex_block_ret]))
    refine tr_cond rfl (fun ht => ?_) (fun hf => ?_)
    · cases ht
    · repeat (first
          | refine tr_seq_k fun _ _ => ?_
          | (refine tr_region ?_; simp only [go_sem, List.getElem?_toArray, str_beq, reduceCtorEq, Nat.reduceEqDiff, Nat.reduceLT, Nat.reduceLeDiff, Nat.reduceAdd, Nat.reduceMul, Nat.reduceSub, Nat.reduceBEq, ↓reduceIte, bne_self_eq_false, Bool.and_false, Bool.false_and, Bool.true_or, Bool.false_or])
          | (refine tr_draw (id := 8) follows 10000 [5, 11] [0, 1, 2, 3, 4, 6, 7, 8, 9, 10, 5, 11, 12] (by kernel_rfl) ?_; simp only [go_sem, List.getElem?_toArray, str_beq, reduceCtorEq, Nat.reduceEqDiff, Nat.reduceLT, Nat.reduceLeDiff, Nat.reduceAdd, Nat.reduceMul, Nat.reduceSub, Nat.reduceBEq, ↓reduceIte, bne_self_eq_false, Bool.and_false, Bool.false_and, Bool.true_or, Bool.false_or])
          | (refine tr_draw (id := 13) follows 10000 [5, 11] [0, 1, 2, 3, 4, 6, 7, 8, 9, 10, 5, 11, 12] (by kernel_rfl) ?_; simp only [go_sem, List.getElem?_toArray, str_beq, reduceCtorEq, Nat.reduceEqDiff, Nat.reduceLT, Nat.reduceLeDiff, Nat.reduceAdd, Nat.reduceMul, Nat.reduceSub, Nat.reduceBEq, ↓reduceIte, bne_self_eq_false, Bool.and_false, Bool.false_and, Bool.true_or, Bool.false_or])
          | (refine tr_draw (id := 18) follows 10000 [5, 11] [0, 1, 2, 3, 4, 6, 7, 8, 9, 10, 5, 11, 12] (by kernel_rfl) ?_; simp only [go_sem, List.getElem?_toArray, str_beq, reduceCtorEq, Nat.reduceEqDiff, Nat.reduceLT, Nat.reduceLeDiff, Nat.reduceAdd, Nat.reduceMul, Nat.reduceSub, Nat.reduceBEq, ↓reduceIte, bne_self_eq_false, Bool.and_false, Bool.false_and, Bool.true_or, Bool.false_or])
          | (refine tr_draw (id := 20) follows 10000 [1, 3, 7, 9] [0, 2, 1, 3, 4, 5, 6, 8, 7, 9, 10, 11, 12] (by kernel_rfl) ?_; simp only [go_sem, List.getElem?_toArray, str_beq, reduceCtorEq, Nat.reduceEqDiff, Nat.reduceLT, Nat.reduceLeDiff, Nat.reduceAdd, Nat.reduceMul, Nat.reduceSub, Nat.reduceBEq, ↓reduceIte, bne_self_eq_false, Bool.and_false, Bool.false_and, Bool.true_or, Bool.false_or])
          | (refine call_of (cL) ?_ ?_
             · first | rfl | simp only [go_sem, List.getElem?_toArray, str_beq, reduceCtorEq, Nat.reduceEqDiff, Nat.reduceLT, Nat.reduceLeDiff, Nat.reduceAdd, Nat.reduceMul, Nat.reduceSub, Nat.reduceBEq, ↓reduceIte, bne_self_eq_false, Bool.and_false, Bool.false_and, Bool.true_or, Bool.false_or, shut_col]
             simp only [go_sem, List.getElem?_toArray, str_beq, reduceCtorEq, Nat.reduceEqDiff, Nat.reduceLT, Nat.reduceLeDiff, Nat.reduceAdd, Nat.reduceMul, Nat.reduceSub, Nat.reduceBEq, ↓reduceIte, bne_self_eq_false, Bool.and_false, Bool.false_and, Bool.true_or, Bool.false_or])
          | refine k_of (by assumption) ?_
          | refine tr_block ?_
          | refine tr_scope ?_
          | (refine tr_skip ?_; try simp only [ex_seq, ex_block])
          | (refine tr_label ?_; try simp only [ex_seq, ex_block])
          | (refine tr_exit ?_; try simp only [ex_seq_exit, ex_block_exit, Nat.reduceEqDiff, if_true, if_false, ex_seq, ex_block, reduceCtorEq, ↓reduceIte])
          | (refine tr_ret ?_; try simp only [ex_seq_ret, ex_block_ret]))
      refine tr_cond rfl (fun ht => ?_) (fun hf => ?_)
      · repeat (first
            | refine tr_seq_k fun _ _ => ?_
            | (refine tr_region ?_; simp only [go_sem, List.getElem?_toArray, str_beq, reduceCtorEq, Nat.reduceEqDiff, Nat.reduceLT, Nat.reduceLeDiff, Nat.reduceAdd, Nat.reduceMul, Nat.reduceSub, Nat.reduceBEq, ↓reduceIte, bne_self_eq_false, Bool.and_false, Bool.false_and, Bool.true_or, Bool.false_or])
            | (refine tr_draw (id := 8) follows 10000 [5, 11] [0, 1, 2, 3, 4, 6, 7, 8, 9, 10, 5, 11, 12] (by kernel_rfl) ?_; simp only [go_sem, List.getElem?_toArray, str_beq, reduceCtorEq, Nat.reduceEqDiff, Nat.reduceLT, Nat.reduceLeDiff, Nat.reduceAdd, Nat.reduceMul, Nat.reduceSub, Nat.reduceBEq, ↓reduceIte, bne_self_eq_false, Bool.and_false, Bool.false_and, Bool.true_or, Bool.false_or])
            | (refine tr_draw (id := 13) follows 10000 [5, 11] [0, 1, 2, 3, 4, 6, 7, 8, 9, 10, 5, 11, 12] (by kernel_rfl) ?_; simp only [go_sem, List.getElem?_toArray, str_beq, reduceCtorEq, Nat.reduceEqDiff, Nat.reduceLT, Nat.reduceLeDiff, Nat.reduceAdd, Nat.reduceMul, Nat.reduceSub, Nat.reduceBEq, ↓reduceIte, bne_self_eq_false, Bool.and_false, Bool.false_and, Bool.true_or, Bool.false_or])
            | (refine tr_draw (id := 18) follows 10000 [5, 11] [0, 1, 2, 3, 4, 6, 7, 8, 9, 10, 5, 11, 12] (by kernel_rfl) ?_; simp only [go_sem, List.getElem?_toArray, str_beq, reduceCtorEq, Nat.reduceEqDiff, Nat.reduceLT, Nat.reduceLeDiff, Nat.reduceAdd, Nat.reduceMul, Nat.reduceSub, Nat.reduceBEq, ↓reduceIte, bne_self_eq_false, Bool.and_false, Bool.false_and, Bool.true_or, Bool.false_or])
            | (refine tr_draw (id := 20) follows 10000 [1, 3, 7, 9] [0, 2, 1, 3, 4, 5, 6, 8, 7, 9, 10, 11, 12] (by kernel_rfl) ?_; simp only [go_sem, List.getElem?_toArray, str_beq, reduceCtorEq, Nat.reduceEqDiff, Nat.reduceLT, Nat.reduceLeDiff, Nat.reduceAdd, Nat.reduceMul, Nat.reduceSub, Nat.reduceBEq, ↓reduceIte, bne_self_eq_false, Bool.and_false, Bool.false_and, Bool.true_or, Bool.false_or])
            | refine k_of (by assumption) ?_
            | refine tr_block ?_
            | refine tr_scope ?_
            | (refine tr_skip ?_; try simp only [ex_seq, ex_block])
            | (refine tr_label ?_; try simp only [ex_seq, ex_block])
            | (refine tr_exit ?_; try simp only [ex_seq_exit, ex_block_exit, Nat.reduceEqDiff, if_true, if_false, ex_seq, ex_block, reduceCtorEq, ↓reduceIte])
            | (refine tr_ret ?_; try simp only [ex_seq_ret, ex_block_ret]))
        refine (hQ _ _ [bA true] ?_ (fun m => ?_)).2 <;> simp only [go_sem, List.getElem?_toArray, str_beq, reduceCtorEq, Nat.reduceEqDiff, Nat.reduceLT, Nat.reduceLeDiff, Nat.reduceAdd, Nat.reduceMul, Nat.reduceSub, Nat.reduceBEq, ↓reduceIte, bne_self_eq_false, Bool.and_false, Bool.false_and, Bool.true_or, Bool.false_or, Tryd.f6,]
      · cases hf
  | true =>
   rw [h1] at cL
   cases h2 : lightA a with
   | false =>
    rw [h2] at cA
    refine does_of' Tryd.func6 rfl (by kernel_rfl) rfl Tryd.ntmps6 rfl rfl fun Q hQ => ?_
    repeat (first
        | refine tr_seq_k fun _ _ => ?_
        | (refine tr_region ?_; simp only [go_sem, List.getElem?_toArray, str_beq, reduceCtorEq, Nat.reduceEqDiff, Nat.reduceLT, Nat.reduceLeDiff, Nat.reduceAdd, Nat.reduceMul, Nat.reduceSub, Nat.reduceBEq, ↓reduceIte, bne_self_eq_false, Bool.and_false, Bool.false_and, Bool.true_or, Bool.false_or])
        | (refine tr_draw (id := 8) follows 10000 [5, 11] [0, 1, 2, 3, 4, 6, 7, 8, 9, 10, 5, 11, 12] (by kernel_rfl) ?_; simp only [go_sem, List.getElem?_toArray, str_beq, reduceCtorEq, Nat.reduceEqDiff, Nat.reduceLT, Nat.reduceLeDiff, Nat.reduceAdd, Nat.reduceMul, Nat.reduceSub, Nat.reduceBEq, ↓reduceIte, bne_self_eq_false, Bool.and_false, Bool.false_and, Bool.true_or, Bool.false_or])
        | (refine tr_draw (id := 13) follows 10000 [5, 11] [0, 1, 2, 3, 4, 6, 7, 8, 9, 10, 5, 11, 12] (by kernel_rfl) ?_; simp only [go_sem, List.getElem?_toArray, str_beq, reduceCtorEq, Nat.reduceEqDiff, Nat.reduceLT, Nat.reduceLeDiff, Nat.reduceAdd, Nat.reduceMul, Nat.reduceSub, Nat.reduceBEq, ↓reduceIte, bne_self_eq_false, Bool.and_false, Bool.false_and, Bool.true_or, Bool.false_or])
        | (refine tr_draw (id := 18) follows 10000 [5, 11] [0, 1, 2, 3, 4, 6, 7, 8, 9, 10, 5, 11, 12] (by kernel_rfl) ?_; simp only [go_sem, List.getElem?_toArray, str_beq, reduceCtorEq, Nat.reduceEqDiff, Nat.reduceLT, Nat.reduceLeDiff, Nat.reduceAdd, Nat.reduceMul, Nat.reduceSub, Nat.reduceBEq, ↓reduceIte, bne_self_eq_false, Bool.and_false, Bool.false_and, Bool.true_or, Bool.false_or])
        | (refine tr_draw (id := 20) follows 10000 [1, 3, 7, 9] [0, 2, 1, 3, 4, 5, 6, 8, 7, 9, 10, 11, 12] (by kernel_rfl) ?_; simp only [go_sem, List.getElem?_toArray, str_beq, reduceCtorEq, Nat.reduceEqDiff, Nat.reduceLT, Nat.reduceLeDiff, Nat.reduceAdd, Nat.reduceMul, Nat.reduceSub, Nat.reduceBEq, ↓reduceIte, bne_self_eq_false, Bool.and_false, Bool.false_and, Bool.true_or, Bool.false_or])
        | (refine call_of (c0) ?_ ?_
           · first | rfl | simp only [go_sem, List.getElem?_toArray, str_beq, reduceCtorEq, Nat.reduceEqDiff, Nat.reduceLT, Nat.reduceLeDiff, Nat.reduceAdd, Nat.reduceMul, Nat.reduceSub, Nat.reduceBEq, ↓reduceIte, bne_self_eq_false, Bool.and_false, Bool.false_and, Bool.true_or, Bool.false_or, shut_col]
           simp only [go_sem, List.getElem?_toArray, str_beq, reduceCtorEq, Nat.reduceEqDiff, Nat.reduceLT, Nat.reduceLeDiff, Nat.reduceAdd, Nat.reduceMul, Nat.reduceSub, Nat.reduceBEq, ↓reduceIte, bne_self_eq_false, Bool.and_false, Bool.false_and, Bool.true_or, Bool.false_or])
        | refine k_of (by assumption) ?_
        | refine tr_block ?_
        | refine tr_scope ?_
        | (refine tr_skip ?_; try simp only [ex_seq, ex_block])
        | (refine tr_label ?_; try simp only [ex_seq, ex_block])
        | (refine tr_exit ?_; try simp only [ex_seq_exit, ex_block_exit, Nat.reduceEqDiff, if_true, if_false, ex_seq, ex_block, reduceCtorEq, ↓reduceIte])
        | (refine tr_ret ?_; try simp only [ex_seq_ret, ex_block_ret]))
    refine tr_cond rfl (fun ht => ?_) (fun hf => ?_)
    · cases ht
    · repeat (first
          | refine tr_seq_k fun _ _ => ?_
          | (refine tr_region ?_; simp only [go_sem, List.getElem?_toArray, str_beq, reduceCtorEq, Nat.reduceEqDiff, Nat.reduceLT, Nat.reduceLeDiff, Nat.reduceAdd, Nat.reduceMul, Nat.reduceSub, Nat.reduceBEq, ↓reduceIte, bne_self_eq_false, Bool.and_false, Bool.false_and, Bool.true_or, Bool.false_or])
          | (refine tr_draw (id := 8) follows 10000 [5, 11] [0, 1, 2, 3, 4, 6, 7, 8, 9, 10, 5, 11, 12] (by kernel_rfl) ?_; simp only [go_sem, List.getElem?_toArray, str_beq, reduceCtorEq, Nat.reduceEqDiff, Nat.reduceLT, Nat.reduceLeDiff, Nat.reduceAdd, Nat.reduceMul, Nat.reduceSub, Nat.reduceBEq, ↓reduceIte, bne_self_eq_false, Bool.and_false, Bool.false_and, Bool.true_or, Bool.false_or])
          | (refine tr_draw (id := 13) follows 10000 [5, 11] [0, 1, 2, 3, 4, 6, 7, 8, 9, 10, 5, 11, 12] (by kernel_rfl) ?_; simp only [go_sem, List.getElem?_toArray, str_beq, reduceCtorEq, Nat.reduceEqDiff, Nat.reduceLT, Nat.reduceLeDiff, Nat.reduceAdd, Nat.reduceMul, Nat.reduceSub, Nat.reduceBEq, ↓reduceIte, bne_self_eq_false, Bool.and_false, Bool.false_and, Bool.true_or, Bool.false_or])
          | (refine tr_draw (id := 18) follows 10000 [5, 11] [0, 1, 2, 3, 4, 6, 7, 8, 9, 10, 5, 11, 12] (by kernel_rfl) ?_; simp only [go_sem, List.getElem?_toArray, str_beq, reduceCtorEq, Nat.reduceEqDiff, Nat.reduceLT, Nat.reduceLeDiff, Nat.reduceAdd, Nat.reduceMul, Nat.reduceSub, Nat.reduceBEq, ↓reduceIte, bne_self_eq_false, Bool.and_false, Bool.false_and, Bool.true_or, Bool.false_or])
          | (refine tr_draw (id := 20) follows 10000 [1, 3, 7, 9] [0, 2, 1, 3, 4, 5, 6, 8, 7, 9, 10, 11, 12] (by kernel_rfl) ?_; simp only [go_sem, List.getElem?_toArray, str_beq, reduceCtorEq, Nat.reduceEqDiff, Nat.reduceLT, Nat.reduceLeDiff, Nat.reduceAdd, Nat.reduceMul, Nat.reduceSub, Nat.reduceBEq, ↓reduceIte, bne_self_eq_false, Bool.and_false, Bool.false_and, Bool.true_or, Bool.false_or])
          | (refine call_of (cL) ?_ ?_
             · first | rfl | simp only [go_sem, List.getElem?_toArray, str_beq, reduceCtorEq, Nat.reduceEqDiff, Nat.reduceLT, Nat.reduceLeDiff, Nat.reduceAdd, Nat.reduceMul, Nat.reduceSub, Nat.reduceBEq, ↓reduceIte, bne_self_eq_false, Bool.and_false, Bool.false_and, Bool.true_or, Bool.false_or, shut_col]
             simp only [go_sem, List.getElem?_toArray, str_beq, reduceCtorEq, Nat.reduceEqDiff, Nat.reduceLT, Nat.reduceLeDiff, Nat.reduceAdd, Nat.reduceMul, Nat.reduceSub, Nat.reduceBEq, ↓reduceIte, bne_self_eq_false, Bool.and_false, Bool.false_and, Bool.true_or, Bool.false_or])
          | (refine call_of (cA) ?_ ?_
             · first | rfl | simp only [go_sem, List.getElem?_toArray, str_beq, reduceCtorEq, Nat.reduceEqDiff, Nat.reduceLT, Nat.reduceLeDiff, Nat.reduceAdd, Nat.reduceMul, Nat.reduceSub, Nat.reduceBEq, ↓reduceIte, bne_self_eq_false, Bool.and_false, Bool.false_and, Bool.true_or, Bool.false_or, shut_col]
             simp only [go_sem, List.getElem?_toArray, str_beq, reduceCtorEq, Nat.reduceEqDiff, Nat.reduceLT, Nat.reduceLeDiff, Nat.reduceAdd, Nat.reduceMul, Nat.reduceSub, Nat.reduceBEq, ↓reduceIte, bne_self_eq_false, Bool.and_false, Bool.false_and, Bool.true_or, Bool.false_or])
          | refine k_of (by assumption) ?_
          | refine tr_block ?_
          | refine tr_scope ?_
          | (refine tr_skip ?_; try simp only [ex_seq, ex_block])
          | (refine tr_label ?_; try simp only [ex_seq, ex_block])
          | (refine tr_exit ?_; try simp only [ex_seq_exit, ex_block_exit, Nat.reduceEqDiff, if_true, if_false, ex_seq, ex_block, reduceCtorEq, ↓reduceIte])
          | (refine tr_ret ?_; try simp only [ex_seq_ret, ex_block_ret]))
      refine tr_cond rfl (fun ht => ?_) (fun hf => ?_)
      · repeat (first
            | refine tr_seq_k fun _ _ => ?_
            | (refine tr_region ?_; simp only [go_sem, List.getElem?_toArray, str_beq, reduceCtorEq, Nat.reduceEqDiff, Nat.reduceLT, Nat.reduceLeDiff, Nat.reduceAdd, Nat.reduceMul, Nat.reduceSub, Nat.reduceBEq, ↓reduceIte, bne_self_eq_false, Bool.and_false, Bool.false_and, Bool.true_or, Bool.false_or])
            | (refine tr_draw (id := 8) follows 10000 [5, 11] [0, 1, 2, 3, 4, 6, 7, 8, 9, 10, 5, 11, 12] (by kernel_rfl) ?_; simp only [go_sem, List.getElem?_toArray, str_beq, reduceCtorEq, Nat.reduceEqDiff, Nat.reduceLT, Nat.reduceLeDiff, Nat.reduceAdd, Nat.reduceMul, Nat.reduceSub, Nat.reduceBEq, ↓reduceIte, bne_self_eq_false, Bool.and_false, Bool.false_and, Bool.true_or, Bool.false_or])
            | (refine tr_draw (id := 13) follows 10000 [5, 11] [0, 1, 2, 3, 4, 6, 7, 8, 9, 10, 5, 11, 12] (by kernel_rfl) ?_; simp only [go_sem, List.getElem?_toArray, str_beq, reduceCtorEq, Nat.reduceEqDiff, Nat.reduceLT, Nat.reduceLeDiff, Nat.reduceAdd, Nat.reduceMul, Nat.reduceSub, Nat.reduceBEq, ↓reduceIte, bne_self_eq_false, Bool.and_false, Bool.false_and, Bool.true_or, Bool.false_or])
            | (refine tr_draw (id := 18) follows 10000 [5, 11] [0, 1, 2, 3, 4, 6, 7, 8, 9, 10, 5, 11, 12] (by kernel_rfl) ?_; simp only [go_sem, List.getElem?_toArray, str_beq, reduceCtorEq, Nat.reduceEqDiff, Nat.reduceLT, Nat.reduceLeDiff, Nat.reduceAdd, Nat.reduceMul, Nat.reduceSub, Nat.reduceBEq, ↓reduceIte, bne_self_eq_false, Bool.and_false, Bool.false_and, Bool.true_or, Bool.false_or])
            | (refine tr_draw (id := 20) follows 10000 [1, 3, 7, 9] [0, 2, 1, 3, 4, 5, 6, 8, 7, 9, 10, 11, 12] (by kernel_rfl) ?_; simp only [go_sem, List.getElem?_toArray, str_beq, reduceCtorEq, Nat.reduceEqDiff, Nat.reduceLT, Nat.reduceLeDiff, Nat.reduceAdd, Nat.reduceMul, Nat.reduceSub, Nat.reduceBEq, ↓reduceIte, bne_self_eq_false, Bool.and_false, Bool.false_and, Bool.true_or, Bool.false_or])
            | refine k_of (by assumption) ?_
            | refine tr_block ?_
            | refine tr_scope ?_
            | (refine tr_skip ?_; try simp only [ex_seq, ex_block])
            | (refine tr_label ?_; try simp only [ex_seq, ex_block])
            | (refine tr_exit ?_; try simp only [ex_seq_exit, ex_block_exit, Nat.reduceEqDiff, if_true, if_false, ex_seq, ex_block, reduceCtorEq, ↓reduceIte])
            | (refine tr_ret ?_; try simp only [ex_seq_ret, ex_block_ret]))
        refine (hQ _ _ [bA true] ?_ (fun m => ?_)).2 <;> simp only [go_sem, List.getElem?_toArray, str_beq, reduceCtorEq, Nat.reduceEqDiff, Nat.reduceLT, Nat.reduceLeDiff, Nat.reduceAdd, Nat.reduceMul, Nat.reduceSub, Nat.reduceBEq, ↓reduceIte, bne_self_eq_false, Bool.and_false, Bool.false_and, Bool.true_or, Bool.false_or, Tryd.f6,]
      · cases hf
   | true =>
    rw [h2] at cA
    obtain ⟨hk, hrd⟩ := light_ok h1 hn
    have ha := lightA_sz h2
    have cP := polText_does p hk
    have cR := rpol_does p hk hrd
    have cG := goal_does a ha
    have cH := rgoal_does a ha
    refine does_of' Tryd.func6 rfl (by kernel_rfl) rfl Tryd.ntmps6 rfl rfl fun Q hQ => ?_
    repeat (first
        | refine tr_seq_k fun _ _ => ?_
        | (refine tr_region ?_; simp only [go_sem, List.getElem?_toArray, str_beq, reduceCtorEq, Nat.reduceEqDiff, Nat.reduceLT, Nat.reduceLeDiff, Nat.reduceAdd, Nat.reduceMul, Nat.reduceSub, Nat.reduceBEq, ↓reduceIte, bne_self_eq_false, Bool.and_false, Bool.false_and, Bool.true_or, Bool.false_or])
        | (refine tr_draw (id := 8) follows 10000 [5, 11] [0, 1, 2, 3, 4, 6, 7, 8, 9, 10, 5, 11, 12] (by kernel_rfl) ?_; simp only [go_sem, List.getElem?_toArray, str_beq, reduceCtorEq, Nat.reduceEqDiff, Nat.reduceLT, Nat.reduceLeDiff, Nat.reduceAdd, Nat.reduceMul, Nat.reduceSub, Nat.reduceBEq, ↓reduceIte, bne_self_eq_false, Bool.and_false, Bool.false_and, Bool.true_or, Bool.false_or])
        | (refine tr_draw (id := 13) follows 10000 [5, 11] [0, 1, 2, 3, 4, 6, 7, 8, 9, 10, 5, 11, 12] (by kernel_rfl) ?_; simp only [go_sem, List.getElem?_toArray, str_beq, reduceCtorEq, Nat.reduceEqDiff, Nat.reduceLT, Nat.reduceLeDiff, Nat.reduceAdd, Nat.reduceMul, Nat.reduceSub, Nat.reduceBEq, ↓reduceIte, bne_self_eq_false, Bool.and_false, Bool.false_and, Bool.true_or, Bool.false_or])
        | (refine tr_draw (id := 18) follows 10000 [5, 11] [0, 1, 2, 3, 4, 6, 7, 8, 9, 10, 5, 11, 12] (by kernel_rfl) ?_; simp only [go_sem, List.getElem?_toArray, str_beq, reduceCtorEq, Nat.reduceEqDiff, Nat.reduceLT, Nat.reduceLeDiff, Nat.reduceAdd, Nat.reduceMul, Nat.reduceSub, Nat.reduceBEq, ↓reduceIte, bne_self_eq_false, Bool.and_false, Bool.false_and, Bool.true_or, Bool.false_or])
        | (refine tr_draw (id := 20) follows 10000 [1, 3, 7, 9] [0, 2, 1, 3, 4, 5, 6, 8, 7, 9, 10, 11, 12] (by kernel_rfl) ?_; simp only [go_sem, List.getElem?_toArray, str_beq, reduceCtorEq, Nat.reduceEqDiff, Nat.reduceLT, Nat.reduceLeDiff, Nat.reduceAdd, Nat.reduceMul, Nat.reduceSub, Nat.reduceBEq, ↓reduceIte, bne_self_eq_false, Bool.and_false, Bool.false_and, Bool.true_or, Bool.false_or])
        | (refine call_of (c0) ?_ ?_
           · first | rfl | simp only [go_sem, List.getElem?_toArray, str_beq, reduceCtorEq, Nat.reduceEqDiff, Nat.reduceLT, Nat.reduceLeDiff, Nat.reduceAdd, Nat.reduceMul, Nat.reduceSub, Nat.reduceBEq, ↓reduceIte, bne_self_eq_false, Bool.and_false, Bool.false_and, Bool.true_or, Bool.false_or, shut_col]
           simp only [go_sem, List.getElem?_toArray, str_beq, reduceCtorEq, Nat.reduceEqDiff, Nat.reduceLT, Nat.reduceLeDiff, Nat.reduceAdd, Nat.reduceMul, Nat.reduceSub, Nat.reduceBEq, ↓reduceIte, bne_self_eq_false, Bool.and_false, Bool.false_and, Bool.true_or, Bool.false_or])
        | refine k_of (by assumption) ?_
        | refine tr_block ?_
        | refine tr_scope ?_
        | (refine tr_skip ?_; try simp only [ex_seq, ex_block])
        | (refine tr_label ?_; try simp only [ex_seq, ex_block])
        | (refine tr_exit ?_; try simp only [ex_seq_exit, ex_block_exit, Nat.reduceEqDiff, if_true, if_false, ex_seq, ex_block, reduceCtorEq, ↓reduceIte])
        | (refine tr_ret ?_; try simp only [ex_seq_ret, ex_block_ret]))
    refine tr_cond rfl (fun ht => ?_) (fun hf => ?_)
    · cases ht
    · repeat (first
          | refine tr_seq_k fun _ _ => ?_
          | (refine tr_region ?_; simp only [go_sem, List.getElem?_toArray, str_beq, reduceCtorEq, Nat.reduceEqDiff, Nat.reduceLT, Nat.reduceLeDiff, Nat.reduceAdd, Nat.reduceMul, Nat.reduceSub, Nat.reduceBEq, ↓reduceIte, bne_self_eq_false, Bool.and_false, Bool.false_and, Bool.true_or, Bool.false_or])
          | (refine tr_draw (id := 8) follows 10000 [5, 11] [0, 1, 2, 3, 4, 6, 7, 8, 9, 10, 5, 11, 12] (by kernel_rfl) ?_; simp only [go_sem, List.getElem?_toArray, str_beq, reduceCtorEq, Nat.reduceEqDiff, Nat.reduceLT, Nat.reduceLeDiff, Nat.reduceAdd, Nat.reduceMul, Nat.reduceSub, Nat.reduceBEq, ↓reduceIte, bne_self_eq_false, Bool.and_false, Bool.false_and, Bool.true_or, Bool.false_or])
          | (refine tr_draw (id := 13) follows 10000 [5, 11] [0, 1, 2, 3, 4, 6, 7, 8, 9, 10, 5, 11, 12] (by kernel_rfl) ?_; simp only [go_sem, List.getElem?_toArray, str_beq, reduceCtorEq, Nat.reduceEqDiff, Nat.reduceLT, Nat.reduceLeDiff, Nat.reduceAdd, Nat.reduceMul, Nat.reduceSub, Nat.reduceBEq, ↓reduceIte, bne_self_eq_false, Bool.and_false, Bool.false_and, Bool.true_or, Bool.false_or])
          | (refine tr_draw (id := 18) follows 10000 [5, 11] [0, 1, 2, 3, 4, 6, 7, 8, 9, 10, 5, 11, 12] (by kernel_rfl) ?_; simp only [go_sem, List.getElem?_toArray, str_beq, reduceCtorEq, Nat.reduceEqDiff, Nat.reduceLT, Nat.reduceLeDiff, Nat.reduceAdd, Nat.reduceMul, Nat.reduceSub, Nat.reduceBEq, ↓reduceIte, bne_self_eq_false, Bool.and_false, Bool.false_and, Bool.true_or, Bool.false_or])
          | (refine tr_draw (id := 20) follows 10000 [1, 3, 7, 9] [0, 2, 1, 3, 4, 5, 6, 8, 7, 9, 10, 11, 12] (by kernel_rfl) ?_; simp only [go_sem, List.getElem?_toArray, str_beq, reduceCtorEq, Nat.reduceEqDiff, Nat.reduceLT, Nat.reduceLeDiff, Nat.reduceAdd, Nat.reduceMul, Nat.reduceSub, Nat.reduceBEq, ↓reduceIte, bne_self_eq_false, Bool.and_false, Bool.false_and, Bool.true_or, Bool.false_or])
          | (refine call_of (cL) ?_ ?_
             · first | rfl | simp only [go_sem, List.getElem?_toArray, str_beq, reduceCtorEq, Nat.reduceEqDiff, Nat.reduceLT, Nat.reduceLeDiff, Nat.reduceAdd, Nat.reduceMul, Nat.reduceSub, Nat.reduceBEq, ↓reduceIte, bne_self_eq_false, Bool.and_false, Bool.false_and, Bool.true_or, Bool.false_or, shut_col]
             simp only [go_sem, List.getElem?_toArray, str_beq, reduceCtorEq, Nat.reduceEqDiff, Nat.reduceLT, Nat.reduceLeDiff, Nat.reduceAdd, Nat.reduceMul, Nat.reduceSub, Nat.reduceBEq, ↓reduceIte, bne_self_eq_false, Bool.and_false, Bool.false_and, Bool.true_or, Bool.false_or])
          | (refine call_of (cA) ?_ ?_
             · first | rfl | simp only [go_sem, List.getElem?_toArray, str_beq, reduceCtorEq, Nat.reduceEqDiff, Nat.reduceLT, Nat.reduceLeDiff, Nat.reduceAdd, Nat.reduceMul, Nat.reduceSub, Nat.reduceBEq, ↓reduceIte, bne_self_eq_false, Bool.and_false, Bool.false_and, Bool.true_or, Bool.false_or, shut_col]
             simp only [go_sem, List.getElem?_toArray, str_beq, reduceCtorEq, Nat.reduceEqDiff, Nat.reduceLT, Nat.reduceLeDiff, Nat.reduceAdd, Nat.reduceMul, Nat.reduceSub, Nat.reduceBEq, ↓reduceIte, bne_self_eq_false, Bool.and_false, Bool.false_and, Bool.true_or, Bool.false_or])
          | refine k_of (by assumption) ?_
          | refine tr_block ?_
          | refine tr_scope ?_
          | (refine tr_skip ?_; try simp only [ex_seq, ex_block])
          | (refine tr_label ?_; try simp only [ex_seq, ex_block])
          | (refine tr_exit ?_; try simp only [ex_seq_exit, ex_block_exit, Nat.reduceEqDiff, if_true, if_false, ex_seq, ex_block, reduceCtorEq, ↓reduceIte])
          | (refine tr_ret ?_; try simp only [ex_seq_ret, ex_block_ret]))
      refine tr_cond rfl (fun ht => ?_) (fun hf => ?_)
      · cases ht
      · repeat (first
            | refine tr_seq_k fun _ _ => ?_
            | (refine tr_region ?_; simp only [go_sem, List.getElem?_toArray, str_beq, reduceCtorEq, Nat.reduceEqDiff, Nat.reduceLT, Nat.reduceLeDiff, Nat.reduceAdd, Nat.reduceMul, Nat.reduceSub, Nat.reduceBEq, ↓reduceIte, bne_self_eq_false, Bool.and_false, Bool.false_and, Bool.true_or, Bool.false_or])
            | (refine tr_draw (id := 8) follows 10000 [5, 11] [0, 1, 2, 3, 4, 6, 7, 8, 9, 10, 5, 11, 12] (by kernel_rfl) ?_; simp only [go_sem, List.getElem?_toArray, str_beq, reduceCtorEq, Nat.reduceEqDiff, Nat.reduceLT, Nat.reduceLeDiff, Nat.reduceAdd, Nat.reduceMul, Nat.reduceSub, Nat.reduceBEq, ↓reduceIte, bne_self_eq_false, Bool.and_false, Bool.false_and, Bool.true_or, Bool.false_or])
            | (refine tr_draw (id := 13) follows 10000 [5, 11] [0, 1, 2, 3, 4, 6, 7, 8, 9, 10, 5, 11, 12] (by kernel_rfl) ?_; simp only [go_sem, List.getElem?_toArray, str_beq, reduceCtorEq, Nat.reduceEqDiff, Nat.reduceLT, Nat.reduceLeDiff, Nat.reduceAdd, Nat.reduceMul, Nat.reduceSub, Nat.reduceBEq, ↓reduceIte, bne_self_eq_false, Bool.and_false, Bool.false_and, Bool.true_or, Bool.false_or])
            | (refine tr_draw (id := 18) follows 10000 [5, 11] [0, 1, 2, 3, 4, 6, 7, 8, 9, 10, 5, 11, 12] (by kernel_rfl) ?_; simp only [go_sem, List.getElem?_toArray, str_beq, reduceCtorEq, Nat.reduceEqDiff, Nat.reduceLT, Nat.reduceLeDiff, Nat.reduceAdd, Nat.reduceMul, Nat.reduceSub, Nat.reduceBEq, ↓reduceIte, bne_self_eq_false, Bool.and_false, Bool.false_and, Bool.true_or, Bool.false_or])
            | (refine tr_draw (id := 20) follows 10000 [1, 3, 7, 9] [0, 2, 1, 3, 4, 5, 6, 8, 7, 9, 10, 11, 12] (by kernel_rfl) ?_; simp only [go_sem, List.getElem?_toArray, str_beq, reduceCtorEq, Nat.reduceEqDiff, Nat.reduceLT, Nat.reduceLeDiff, Nat.reduceAdd, Nat.reduceMul, Nat.reduceSub, Nat.reduceBEq, ↓reduceIte, bne_self_eq_false, Bool.and_false, Bool.false_and, Bool.true_or, Bool.false_or])
            | refine k_of (by assumption) ?_
            | refine tr_block ?_
            | refine tr_scope ?_
            | (refine tr_skip ?_; try simp only [ex_seq, ex_block])
            | (refine tr_label ?_; try simp only [ex_seq, ex_block])
            | (refine tr_exit ?_; try simp only [ex_seq_exit, ex_block_exit, Nat.reduceEqDiff, if_true, if_false, ex_seq, ex_block, reduceCtorEq, ↓reduceIte])
            | (refine tr_ret ?_; try simp only [ex_seq_ret, ex_block_ret]))
        refine tr_loop_k (σ := Nat) (fun k => [(2, .ptr 0 0), (3, .ptr 1 0), (5, iA k)]) (fun _ => ⟨[⟨false, [.c (slC stC p.e1 p.prin), .c (slC prC p.e2 p.preds), .c (slC clC p.e3 p.clears), iA p.quota, iA p.budget, .c (slC ruC p.e4 p.rules), .c (slC grC p.e5 p.grants)]⟩, ⟨false, (atC a).map AV.c⟩], []⟩) (fun k => k ≤ p.rules.length) (fun k => p.rules.length - k) 0 (Nat.zero_le _) ⟨rfl, rfl, rfl, trivial⟩ rfl ?_
        rintro k hkk K hK
        by_cases hkl : k < p.rules.length
        · have d1 : decide ((k : Int) < (p.rules.length : Nat)) = true := decide_eq_true (by omega)
          have ix := idxRu (ex := p.e4) hkl
          have ws := wrap_succ (show k ≤ 1000000000 by have := hk.rules.1; omega)
          have hx := hk.rules.2 p.rules[k] (List.getElem_mem hkl)
          skip
          generalize p.rules[k] = x at *
          have k1 := rule_does x hx.1 hx.2.1 hx.2.2
          have k2 := rrule_does x hx.1 hx.2.1 hx.2.2
          repeat (first
              | refine tr_seq_k fun _ _ => ?_
              | (refine tr_region ?_; simp only [go_sem, List.getElem?_toArray, str_beq, reduceCtorEq, Nat.reduceEqDiff, Nat.reduceLT, Nat.reduceLeDiff, Nat.reduceAdd, Nat.reduceMul, Nat.reduceSub, Nat.reduceBEq, ↓reduceIte, bne_self_eq_false, Bool.and_false, Bool.false_and, Bool.true_or, Bool.false_or, d1])
              | (refine tr_draw (id := 8) follows 10000 [5, 11] [0, 1, 2, 3, 4, 6, 7, 8, 9, 10, 5, 11, 12] (by kernel_rfl) ?_; simp only [go_sem, List.getElem?_toArray, str_beq, reduceCtorEq, Nat.reduceEqDiff, Nat.reduceLT, Nat.reduceLeDiff, Nat.reduceAdd, Nat.reduceMul, Nat.reduceSub, Nat.reduceBEq, ↓reduceIte, bne_self_eq_false, Bool.and_false, Bool.false_and, Bool.true_or, Bool.false_or, d1])
              | (refine tr_draw (id := 13) follows 10000 [5, 11] [0, 1, 2, 3, 4, 6, 7, 8, 9, 10, 5, 11, 12] (by kernel_rfl) ?_; simp only [go_sem, List.getElem?_toArray, str_beq, reduceCtorEq, Nat.reduceEqDiff, Nat.reduceLT, Nat.reduceLeDiff, Nat.reduceAdd, Nat.reduceMul, Nat.reduceSub, Nat.reduceBEq, ↓reduceIte, bne_self_eq_false, Bool.and_false, Bool.false_and, Bool.true_or, Bool.false_or, d1])
              | (refine tr_draw (id := 18) follows 10000 [5, 11] [0, 1, 2, 3, 4, 6, 7, 8, 9, 10, 5, 11, 12] (by kernel_rfl) ?_; simp only [go_sem, List.getElem?_toArray, str_beq, reduceCtorEq, Nat.reduceEqDiff, Nat.reduceLT, Nat.reduceLeDiff, Nat.reduceAdd, Nat.reduceMul, Nat.reduceSub, Nat.reduceBEq, ↓reduceIte, bne_self_eq_false, Bool.and_false, Bool.false_and, Bool.true_or, Bool.false_or, d1])
              | (refine tr_draw (id := 20) follows 10000 [1, 3, 7, 9] [0, 2, 1, 3, 4, 5, 6, 8, 7, 9, 10, 11, 12] (by kernel_rfl) ?_; simp only [go_sem, List.getElem?_toArray, str_beq, reduceCtorEq, Nat.reduceEqDiff, Nat.reduceLT, Nat.reduceLeDiff, Nat.reduceAdd, Nat.reduceMul, Nat.reduceSub, Nat.reduceBEq, ↓reduceIte, bne_self_eq_false, Bool.and_false, Bool.false_and, Bool.true_or, Bool.false_or, d1])
              | refine k_of (by assumption) ?_
              | refine tr_block ?_
              | refine tr_scope ?_
              | (refine tr_skip ?_; try simp only [ex_seq, ex_block])
              | (refine tr_label ?_; try simp only [ex_seq, ex_block])
              | (refine tr_exit ?_; try simp only [ex_seq_exit, ex_block_exit, Nat.reduceEqDiff, if_true, if_false, ex_seq, ex_block, reduceCtorEq, ↓reduceIte])
              | (refine tr_ret ?_; try simp only [ex_seq_ret, ex_block_ret]))
          refine tr_cond rfl (fun ht => ?_) (fun hf => ?_)
          · repeat (first
                | refine tr_seq_k fun _ _ => ?_
                | (refine tr_region ?_; simp only [go_sem, List.getElem?_toArray, str_beq, reduceCtorEq, Nat.reduceEqDiff, Nat.reduceLT, Nat.reduceLeDiff, Nat.reduceAdd, Nat.reduceMul, Nat.reduceSub, Nat.reduceBEq, ↓reduceIte, bne_self_eq_false, Bool.and_false, Bool.false_and, Bool.true_or, Bool.false_or, ix])
                | (refine tr_draw (id := 8) follows 10000 [5, 11] [0, 1, 2, 3, 4, 6, 7, 8, 9, 10, 5, 11, 12] (by kernel_rfl) ?_; simp only [go_sem, List.getElem?_toArray, str_beq, reduceCtorEq, Nat.reduceEqDiff, Nat.reduceLT, Nat.reduceLeDiff, Nat.reduceAdd, Nat.reduceMul, Nat.reduceSub, Nat.reduceBEq, ↓reduceIte, bne_self_eq_false, Bool.and_false, Bool.false_and, Bool.true_or, Bool.false_or, ix])
                | (refine tr_draw (id := 13) follows 10000 [5, 11] [0, 1, 2, 3, 4, 6, 7, 8, 9, 10, 5, 11, 12] (by kernel_rfl) ?_; simp only [go_sem, List.getElem?_toArray, str_beq, reduceCtorEq, Nat.reduceEqDiff, Nat.reduceLT, Nat.reduceLeDiff, Nat.reduceAdd, Nat.reduceMul, Nat.reduceSub, Nat.reduceBEq, ↓reduceIte, bne_self_eq_false, Bool.and_false, Bool.false_and, Bool.true_or, Bool.false_or, ix])
                | (refine tr_draw (id := 18) follows 10000 [5, 11] [0, 1, 2, 3, 4, 6, 7, 8, 9, 10, 5, 11, 12] (by kernel_rfl) ?_; simp only [go_sem, List.getElem?_toArray, str_beq, reduceCtorEq, Nat.reduceEqDiff, Nat.reduceLT, Nat.reduceLeDiff, Nat.reduceAdd, Nat.reduceMul, Nat.reduceSub, Nat.reduceBEq, ↓reduceIte, bne_self_eq_false, Bool.and_false, Bool.false_and, Bool.true_or, Bool.false_or, ix])
                | (refine tr_draw (id := 20) follows 10000 [1, 3, 7, 9] [0, 2, 1, 3, 4, 5, 6, 8, 7, 9, 10, 11, 12] (by kernel_rfl) ?_; simp only [go_sem, List.getElem?_toArray, str_beq, reduceCtorEq, Nat.reduceEqDiff, Nat.reduceLT, Nat.reduceLeDiff, Nat.reduceAdd, Nat.reduceMul, Nat.reduceSub, Nat.reduceBEq, ↓reduceIte, bne_self_eq_false, Bool.and_false, Bool.false_and, Bool.true_or, Bool.false_or, ix])
                | (refine call_of (k1) ?_ ?_
                   · first | rfl | simp only [go_sem, List.getElem?_toArray, str_beq, reduceCtorEq, Nat.reduceEqDiff, Nat.reduceLT, Nat.reduceLeDiff, Nat.reduceAdd, Nat.reduceMul, Nat.reduceSub, Nat.reduceBEq, ↓reduceIte, bne_self_eq_false, Bool.and_false, Bool.false_and, Bool.true_or, Bool.false_or, ix, shut_col]
                   simp only [go_sem, List.getElem?_toArray, str_beq, reduceCtorEq, Nat.reduceEqDiff, Nat.reduceLT, Nat.reduceLeDiff, Nat.reduceAdd, Nat.reduceMul, Nat.reduceSub, Nat.reduceBEq, ↓reduceIte, bne_self_eq_false, Bool.and_false, Bool.false_and, Bool.true_or, Bool.false_or, ix])
                | (refine call_of (k2) ?_ ?_
                   · first | rfl | simp only [go_sem, List.getElem?_toArray, str_beq, reduceCtorEq, Nat.reduceEqDiff, Nat.reduceLT, Nat.reduceLeDiff, Nat.reduceAdd, Nat.reduceMul, Nat.reduceSub, Nat.reduceBEq, ↓reduceIte, bne_self_eq_false, Bool.and_false, Bool.false_and, Bool.true_or, Bool.false_or, ix, shut_col]
                   simp only [go_sem, List.getElem?_toArray, str_beq, reduceCtorEq, Nat.reduceEqDiff, Nat.reduceLT, Nat.reduceLeDiff, Nat.reduceAdd, Nat.reduceMul, Nat.reduceSub, Nat.reduceBEq, ↓reduceIte, bne_self_eq_false, Bool.and_false, Bool.false_and, Bool.true_or, Bool.false_or, ix])
                | refine k_of (by assumption) ?_
                | refine tr_block ?_
                | refine tr_scope ?_
                | (refine tr_skip ?_; try simp only [ex_seq, ex_block])
                | (refine tr_label ?_; try simp only [ex_seq, ex_block])
                | (refine tr_exit ?_; try simp only [ex_seq_exit, ex_block_exit, Nat.reduceEqDiff, if_true, if_false, ex_seq, ex_block, reduceCtorEq, ↓reduceIte])
                | (refine tr_ret ?_; try simp only [ex_seq_ret, ex_block_ret]))
            refine tr_cond rfl (fun ht => ?_) (fun hf => ?_)
            · cases ht
            · repeat (first
                  | refine tr_seq_k fun _ _ => ?_
                  | (refine tr_region ?_; simp only [go_sem, List.getElem?_toArray, str_beq, reduceCtorEq, Nat.reduceEqDiff, Nat.reduceLT, Nat.reduceLeDiff, Nat.reduceAdd, Nat.reduceMul, Nat.reduceSub, Nat.reduceBEq, ↓reduceIte, bne_self_eq_false, Bool.and_false, Bool.false_and, Bool.true_or, Bool.false_or, ix, ws])
                  | (refine tr_draw (id := 8) follows 10000 [5, 11] [0, 1, 2, 3, 4, 6, 7, 8, 9, 10, 5, 11, 12] (by kernel_rfl) ?_; simp only [go_sem, List.getElem?_toArray, str_beq, reduceCtorEq, Nat.reduceEqDiff, Nat.reduceLT, Nat.reduceLeDiff, Nat.reduceAdd, Nat.reduceMul, Nat.reduceSub, Nat.reduceBEq, ↓reduceIte, bne_self_eq_false, Bool.and_false, Bool.false_and, Bool.true_or, Bool.false_or, ix, ws])
                  | (refine tr_draw (id := 13) follows 10000 [5, 11] [0, 1, 2, 3, 4, 6, 7, 8, 9, 10, 5, 11, 12] (by kernel_rfl) ?_; simp only [go_sem, List.getElem?_toArray, str_beq, reduceCtorEq, Nat.reduceEqDiff, Nat.reduceLT, Nat.reduceLeDiff, Nat.reduceAdd, Nat.reduceMul, Nat.reduceSub, Nat.reduceBEq, ↓reduceIte, bne_self_eq_false, Bool.and_false, Bool.false_and, Bool.true_or, Bool.false_or, ix, ws])
                  | (refine tr_draw (id := 18) follows 10000 [5, 11] [0, 1, 2, 3, 4, 6, 7, 8, 9, 10, 5, 11, 12] (by kernel_rfl) ?_; simp only [go_sem, List.getElem?_toArray, str_beq, reduceCtorEq, Nat.reduceEqDiff, Nat.reduceLT, Nat.reduceLeDiff, Nat.reduceAdd, Nat.reduceMul, Nat.reduceSub, Nat.reduceBEq, ↓reduceIte, bne_self_eq_false, Bool.and_false, Bool.false_and, Bool.true_or, Bool.false_or, ix, ws])
                  | (refine tr_draw (id := 20) follows 10000 [1, 3, 7, 9] [0, 2, 1, 3, 4, 5, 6, 8, 7, 9, 10, 11, 12] (by kernel_rfl) ?_; simp only [go_sem, List.getElem?_toArray, str_beq, reduceCtorEq, Nat.reduceEqDiff, Nat.reduceLT, Nat.reduceLeDiff, Nat.reduceAdd, Nat.reduceMul, Nat.reduceSub, Nat.reduceBEq, ↓reduceIte, bne_self_eq_false, Bool.and_false, Bool.false_and, Bool.true_or, Bool.false_or, ix, ws])
                  | refine k_of (by assumption) ?_
                  | refine tr_block ?_
                  | refine tr_scope ?_
                  | (refine tr_skip ?_; try simp only [ex_seq, ex_block])
                  | (refine tr_label ?_; try simp only [ex_seq, ex_block])
                  | (refine tr_exit ?_; try simp only [ex_seq_exit, ex_block_exit, Nat.reduceEqDiff, if_true, if_false, ex_seq, ex_block, reduceCtorEq, ↓reduceIte])
                  | (refine tr_ret ?_; try simp only [ex_seq_ret, ex_block_ret]))
              exact hK (k + 1) _ _ hkl ⟨⟨rfl, rfl, rfl, trivial⟩, Keep.refl _, rfl, rfl, Nat.le_refl _, Nat.le_refl _⟩ (by omega)
          · cases hf
        · have d1 : decide ((k : Int) < (p.rules.length : Nat)) = false := decide_eq_false (by omega)
          obtain rfl : k = p.rules.length := by omega
          repeat (first
              | refine tr_seq_k fun _ _ => ?_
              | (refine tr_region ?_; simp only [go_sem, List.getElem?_toArray, str_beq, reduceCtorEq, Nat.reduceEqDiff, Nat.reduceLT, Nat.reduceLeDiff, Nat.reduceAdd, Nat.reduceMul, Nat.reduceSub, Nat.reduceBEq, ↓reduceIte, bne_self_eq_false, Bool.and_false, Bool.false_and, Bool.true_or, Bool.false_or, d1])
              | (refine tr_draw (id := 8) follows 10000 [5, 11] [0, 1, 2, 3, 4, 6, 7, 8, 9, 10, 5, 11, 12] (by kernel_rfl) ?_; simp only [go_sem, List.getElem?_toArray, str_beq, reduceCtorEq, Nat.reduceEqDiff, Nat.reduceLT, Nat.reduceLeDiff, Nat.reduceAdd, Nat.reduceMul, Nat.reduceSub, Nat.reduceBEq, ↓reduceIte, bne_self_eq_false, Bool.and_false, Bool.false_and, Bool.true_or, Bool.false_or, d1])
              | (refine tr_draw (id := 13) follows 10000 [5, 11] [0, 1, 2, 3, 4, 6, 7, 8, 9, 10, 5, 11, 12] (by kernel_rfl) ?_; simp only [go_sem, List.getElem?_toArray, str_beq, reduceCtorEq, Nat.reduceEqDiff, Nat.reduceLT, Nat.reduceLeDiff, Nat.reduceAdd, Nat.reduceMul, Nat.reduceSub, Nat.reduceBEq, ↓reduceIte, bne_self_eq_false, Bool.and_false, Bool.false_and, Bool.true_or, Bool.false_or, d1])
              | (refine tr_draw (id := 18) follows 10000 [5, 11] [0, 1, 2, 3, 4, 6, 7, 8, 9, 10, 5, 11, 12] (by kernel_rfl) ?_; simp only [go_sem, List.getElem?_toArray, str_beq, reduceCtorEq, Nat.reduceEqDiff, Nat.reduceLT, Nat.reduceLeDiff, Nat.reduceAdd, Nat.reduceMul, Nat.reduceSub, Nat.reduceBEq, ↓reduceIte, bne_self_eq_false, Bool.and_false, Bool.false_and, Bool.true_or, Bool.false_or, d1])
              | (refine tr_draw (id := 20) follows 10000 [1, 3, 7, 9] [0, 2, 1, 3, 4, 5, 6, 8, 7, 9, 10, 11, 12] (by kernel_rfl) ?_; simp only [go_sem, List.getElem?_toArray, str_beq, reduceCtorEq, Nat.reduceEqDiff, Nat.reduceLT, Nat.reduceLeDiff, Nat.reduceAdd, Nat.reduceMul, Nat.reduceSub, Nat.reduceBEq, ↓reduceIte, bne_self_eq_false, Bool.and_false, Bool.false_and, Bool.true_or, Bool.false_or, d1])
              | refine k_of (by assumption) ?_
              | refine tr_block ?_
              | refine tr_scope ?_
              | (refine tr_skip ?_; try simp only [ex_seq, ex_block])
              | (refine tr_label ?_; try simp only [ex_seq, ex_block])
              | (refine tr_exit ?_; try simp only [ex_seq_exit, ex_block_exit, Nat.reduceEqDiff, if_true, if_false, ex_seq, ex_block, reduceCtorEq, ↓reduceIte])
              | (refine tr_ret ?_; try simp only [ex_seq_ret, ex_block_ret]))
          refine tr_cond rfl (fun ht => ?_) (fun hf => ?_)
          · cases ht
          · repeat (first
                | refine tr_seq_k fun _ _ => ?_
                | (refine tr_region ?_; simp only [go_sem, List.getElem?_toArray, str_beq, reduceCtorEq, Nat.reduceEqDiff, Nat.reduceLT, Nat.reduceLeDiff, Nat.reduceAdd, Nat.reduceMul, Nat.reduceSub, Nat.reduceBEq, ↓reduceIte, bne_self_eq_false, Bool.and_false, Bool.false_and, Bool.true_or, Bool.false_or])
                | (refine tr_draw (id := 8) follows 10000 [5, 11] [0, 1, 2, 3, 4, 6, 7, 8, 9, 10, 5, 11, 12] (by kernel_rfl) ?_; simp only [go_sem, List.getElem?_toArray, str_beq, reduceCtorEq, Nat.reduceEqDiff, Nat.reduceLT, Nat.reduceLeDiff, Nat.reduceAdd, Nat.reduceMul, Nat.reduceSub, Nat.reduceBEq, ↓reduceIte, bne_self_eq_false, Bool.and_false, Bool.false_and, Bool.true_or, Bool.false_or])
                | (refine tr_draw (id := 13) follows 10000 [5, 11] [0, 1, 2, 3, 4, 6, 7, 8, 9, 10, 5, 11, 12] (by kernel_rfl) ?_; simp only [go_sem, List.getElem?_toArray, str_beq, reduceCtorEq, Nat.reduceEqDiff, Nat.reduceLT, Nat.reduceLeDiff, Nat.reduceAdd, Nat.reduceMul, Nat.reduceSub, Nat.reduceBEq, ↓reduceIte, bne_self_eq_false, Bool.and_false, Bool.false_and, Bool.true_or, Bool.false_or])
                | (refine tr_draw (id := 18) follows 10000 [5, 11] [0, 1, 2, 3, 4, 6, 7, 8, 9, 10, 5, 11, 12] (by kernel_rfl) ?_; simp only [go_sem, List.getElem?_toArray, str_beq, reduceCtorEq, Nat.reduceEqDiff, Nat.reduceLT, Nat.reduceLeDiff, Nat.reduceAdd, Nat.reduceMul, Nat.reduceSub, Nat.reduceBEq, ↓reduceIte, bne_self_eq_false, Bool.and_false, Bool.false_and, Bool.true_or, Bool.false_or])
                | (refine tr_draw (id := 20) follows 10000 [1, 3, 7, 9] [0, 2, 1, 3, 4, 5, 6, 8, 7, 9, 10, 11, 12] (by kernel_rfl) ?_; simp only [go_sem, List.getElem?_toArray, str_beq, reduceCtorEq, Nat.reduceEqDiff, Nat.reduceLT, Nat.reduceLeDiff, Nat.reduceAdd, Nat.reduceMul, Nat.reduceSub, Nat.reduceBEq, ↓reduceIte, bne_self_eq_false, Bool.and_false, Bool.false_and, Bool.true_or, Bool.false_or])
                | refine k_of (by assumption) ?_
                | refine tr_block ?_
                | refine tr_scope ?_
                | (refine tr_skip ?_; try simp only [ex_seq, ex_block])
                | (refine tr_label ?_; try simp only [ex_seq, ex_block])
                | (refine tr_exit ?_; try simp only [ex_seq_exit, ex_block_exit, Nat.reduceEqDiff, if_true, if_false, ex_seq, ex_block, reduceCtorEq, ↓reduceIte])
                | (refine tr_ret ?_; try simp only [ex_seq_ret, ex_block_ret]))
            refine tr_loop_k (σ := Nat) (fun k => [(2, .ptr 0 0), (3, .ptr 1 0), (6, iA k)]) (fun _ => ⟨[⟨false, [.c (slC stC p.e1 p.prin), .c (slC prC p.e2 p.preds), .c (slC clC p.e3 p.clears), iA p.quota, iA p.budget, .c (slC ruC p.e4 p.rules), .c (slC grC p.e5 p.grants)]⟩, ⟨false, (atC a).map AV.c⟩], []⟩) (fun k => k ≤ p.grants.length) (fun k => p.grants.length - k) 0 (Nat.zero_le _) ⟨rfl, rfl, rfl, trivial⟩ rfl ?_
            rintro k hkk K hK
            by_cases hkl : k < p.grants.length
            · have d1 : decide ((k : Int) < (p.grants.length : Nat)) = true := decide_eq_true (by omega)
              have ix := idxGr (ex := p.e5) hkl
              have ws := wrap_succ (show k ≤ 1000000000 by have := hk.grants.1; omega)
              have hx := hk.grants.2 p.grants[k] (List.getElem_mem hkl)
              skip
              generalize p.grants[k] = x at *
              have k1 := grant_does x hx.1 hx.2.1 hx.2.2.1 hx.2.2.2
              have k2 := rgrant_does x hx.1 hx.2.1 hx.2.2.1 hx.2.2.2
              repeat (first
                  | refine tr_seq_k fun _ _ => ?_
                  | (refine tr_region ?_; simp only [go_sem, List.getElem?_toArray, str_beq, reduceCtorEq, Nat.reduceEqDiff, Nat.reduceLT, Nat.reduceLeDiff, Nat.reduceAdd, Nat.reduceMul, Nat.reduceSub, Nat.reduceBEq, ↓reduceIte, bne_self_eq_false, Bool.and_false, Bool.false_and, Bool.true_or, Bool.false_or, d1])
                  | (refine tr_draw (id := 8) follows 10000 [5, 11] [0, 1, 2, 3, 4, 6, 7, 8, 9, 10, 5, 11, 12] (by kernel_rfl) ?_; simp only [go_sem, List.getElem?_toArray, str_beq, reduceCtorEq, Nat.reduceEqDiff, Nat.reduceLT, Nat.reduceLeDiff, Nat.reduceAdd, Nat.reduceMul, Nat.reduceSub, Nat.reduceBEq, ↓reduceIte, bne_self_eq_false, Bool.and_false, Bool.false_and, Bool.true_or, Bool.false_or, d1])
                  | (refine tr_draw (id := 13) follows 10000 [5, 11] [0, 1, 2, 3, 4, 6, 7, 8, 9, 10, 5, 11, 12] (by kernel_rfl) ?_; simp only [go_sem, List.getElem?_toArray, str_beq, reduceCtorEq, Nat.reduceEqDiff, Nat.reduceLT, Nat.reduceLeDiff, Nat.reduceAdd, Nat.reduceMul, Nat.reduceSub, Nat.reduceBEq, ↓reduceIte, bne_self_eq_false, Bool.and_false, Bool.false_and, Bool.true_or, Bool.false_or, d1])
                  | (refine tr_draw (id := 18) follows 10000 [5, 11] [0, 1, 2, 3, 4, 6, 7, 8, 9, 10, 5, 11, 12] (by kernel_rfl) ?_; simp only [go_sem, List.getElem?_toArray, str_beq, reduceCtorEq, Nat.reduceEqDiff, Nat.reduceLT, Nat.reduceLeDiff, Nat.reduceAdd, Nat.reduceMul, Nat.reduceSub, Nat.reduceBEq, ↓reduceIte, bne_self_eq_false, Bool.and_false, Bool.false_and, Bool.true_or, Bool.false_or, d1])
                  | (refine tr_draw (id := 20) follows 10000 [1, 3, 7, 9] [0, 2, 1, 3, 4, 5, 6, 8, 7, 9, 10, 11, 12] (by kernel_rfl) ?_; simp only [go_sem, List.getElem?_toArray, str_beq, reduceCtorEq, Nat.reduceEqDiff, Nat.reduceLT, Nat.reduceLeDiff, Nat.reduceAdd, Nat.reduceMul, Nat.reduceSub, Nat.reduceBEq, ↓reduceIte, bne_self_eq_false, Bool.and_false, Bool.false_and, Bool.true_or, Bool.false_or, d1])
                  | refine k_of (by assumption) ?_
                  | refine tr_block ?_
                  | refine tr_scope ?_
                  | (refine tr_skip ?_; try simp only [ex_seq, ex_block])
                  | (refine tr_label ?_; try simp only [ex_seq, ex_block])
                  | (refine tr_exit ?_; try simp only [ex_seq_exit, ex_block_exit, Nat.reduceEqDiff, if_true, if_false, ex_seq, ex_block, reduceCtorEq, ↓reduceIte])
                  | (refine tr_ret ?_; try simp only [ex_seq_ret, ex_block_ret]))
              refine tr_cond rfl (fun ht => ?_) (fun hf => ?_)
              · repeat (first
                    | refine tr_seq_k fun _ _ => ?_
                    | (refine tr_region ?_; simp only [go_sem, List.getElem?_toArray, str_beq, reduceCtorEq, Nat.reduceEqDiff, Nat.reduceLT, Nat.reduceLeDiff, Nat.reduceAdd, Nat.reduceMul, Nat.reduceSub, Nat.reduceBEq, ↓reduceIte, bne_self_eq_false, Bool.and_false, Bool.false_and, Bool.true_or, Bool.false_or, ix])
                    | (refine tr_draw (id := 8) follows 10000 [5, 11] [0, 1, 2, 3, 4, 6, 7, 8, 9, 10, 5, 11, 12] (by kernel_rfl) ?_; simp only [go_sem, List.getElem?_toArray, str_beq, reduceCtorEq, Nat.reduceEqDiff, Nat.reduceLT, Nat.reduceLeDiff, Nat.reduceAdd, Nat.reduceMul, Nat.reduceSub, Nat.reduceBEq, ↓reduceIte, bne_self_eq_false, Bool.and_false, Bool.false_and, Bool.true_or, Bool.false_or, ix])
                    | (refine tr_draw (id := 13) follows 10000 [5, 11] [0, 1, 2, 3, 4, 6, 7, 8, 9, 10, 5, 11, 12] (by kernel_rfl) ?_; simp only [go_sem, List.getElem?_toArray, str_beq, reduceCtorEq, Nat.reduceEqDiff, Nat.reduceLT, Nat.reduceLeDiff, Nat.reduceAdd, Nat.reduceMul, Nat.reduceSub, Nat.reduceBEq, ↓reduceIte, bne_self_eq_false, Bool.and_false, Bool.false_and, Bool.true_or, Bool.false_or, ix])
                    | (refine tr_draw (id := 18) follows 10000 [5, 11] [0, 1, 2, 3, 4, 6, 7, 8, 9, 10, 5, 11, 12] (by kernel_rfl) ?_; simp only [go_sem, List.getElem?_toArray, str_beq, reduceCtorEq, Nat.reduceEqDiff, Nat.reduceLT, Nat.reduceLeDiff, Nat.reduceAdd, Nat.reduceMul, Nat.reduceSub, Nat.reduceBEq, ↓reduceIte, bne_self_eq_false, Bool.and_false, Bool.false_and, Bool.true_or, Bool.false_or, ix])
                    | (refine tr_draw (id := 20) follows 10000 [1, 3, 7, 9] [0, 2, 1, 3, 4, 5, 6, 8, 7, 9, 10, 11, 12] (by kernel_rfl) ?_; simp only [go_sem, List.getElem?_toArray, str_beq, reduceCtorEq, Nat.reduceEqDiff, Nat.reduceLT, Nat.reduceLeDiff, Nat.reduceAdd, Nat.reduceMul, Nat.reduceSub, Nat.reduceBEq, ↓reduceIte, bne_self_eq_false, Bool.and_false, Bool.false_and, Bool.true_or, Bool.false_or, ix])
                    | (refine call_of (k1) ?_ ?_
                       · first | rfl | simp only [go_sem, List.getElem?_toArray, str_beq, reduceCtorEq, Nat.reduceEqDiff, Nat.reduceLT, Nat.reduceLeDiff, Nat.reduceAdd, Nat.reduceMul, Nat.reduceSub, Nat.reduceBEq, ↓reduceIte, bne_self_eq_false, Bool.and_false, Bool.false_and, Bool.true_or, Bool.false_or, ix, shut_col]
                       simp only [go_sem, List.getElem?_toArray, str_beq, reduceCtorEq, Nat.reduceEqDiff, Nat.reduceLT, Nat.reduceLeDiff, Nat.reduceAdd, Nat.reduceMul, Nat.reduceSub, Nat.reduceBEq, ↓reduceIte, bne_self_eq_false, Bool.and_false, Bool.false_and, Bool.true_or, Bool.false_or, ix])
                    | (refine call_of (k2) ?_ ?_
                       · first | rfl | simp only [go_sem, List.getElem?_toArray, str_beq, reduceCtorEq, Nat.reduceEqDiff, Nat.reduceLT, Nat.reduceLeDiff, Nat.reduceAdd, Nat.reduceMul, Nat.reduceSub, Nat.reduceBEq, ↓reduceIte, bne_self_eq_false, Bool.and_false, Bool.false_and, Bool.true_or, Bool.false_or, ix, shut_col]
                       simp only [go_sem, List.getElem?_toArray, str_beq, reduceCtorEq, Nat.reduceEqDiff, Nat.reduceLT, Nat.reduceLeDiff, Nat.reduceAdd, Nat.reduceMul, Nat.reduceSub, Nat.reduceBEq, ↓reduceIte, bne_self_eq_false, Bool.and_false, Bool.false_and, Bool.true_or, Bool.false_or, ix])
                    | refine k_of (by assumption) ?_
                    | refine tr_block ?_
                    | refine tr_scope ?_
                    | (refine tr_skip ?_; try simp only [ex_seq, ex_block])
                    | (refine tr_label ?_; try simp only [ex_seq, ex_block])
                    | (refine tr_exit ?_; try simp only [ex_seq_exit, ex_block_exit, Nat.reduceEqDiff, if_true, if_false, ex_seq, ex_block, reduceCtorEq, ↓reduceIte])
                    | (refine tr_ret ?_; try simp only [ex_seq_ret, ex_block_ret]))
                refine tr_cond rfl (fun ht => ?_) (fun hf => ?_)
                · cases ht
                · repeat (first
                      | refine tr_seq_k fun _ _ => ?_
                      | (refine tr_region ?_; simp only [go_sem, List.getElem?_toArray, str_beq, reduceCtorEq, Nat.reduceEqDiff, Nat.reduceLT, Nat.reduceLeDiff, Nat.reduceAdd, Nat.reduceMul, Nat.reduceSub, Nat.reduceBEq, ↓reduceIte, bne_self_eq_false, Bool.and_false, Bool.false_and, Bool.true_or, Bool.false_or, ix, ws])
                      | (refine tr_draw (id := 8) follows 10000 [5, 11] [0, 1, 2, 3, 4, 6, 7, 8, 9, 10, 5, 11, 12] (by kernel_rfl) ?_; simp only [go_sem, List.getElem?_toArray, str_beq, reduceCtorEq, Nat.reduceEqDiff, Nat.reduceLT, Nat.reduceLeDiff, Nat.reduceAdd, Nat.reduceMul, Nat.reduceSub, Nat.reduceBEq, ↓reduceIte, bne_self_eq_false, Bool.and_false, Bool.false_and, Bool.true_or, Bool.false_or, ix, ws])
                      | (refine tr_draw (id := 13) follows 10000 [5, 11] [0, 1, 2, 3, 4, 6, 7, 8, 9, 10, 5, 11, 12] (by kernel_rfl) ?_; simp only [go_sem, List.getElem?_toArray, str_beq, reduceCtorEq, Nat.reduceEqDiff, Nat.reduceLT, Nat.reduceLeDiff, Nat.reduceAdd, Nat.reduceMul, Nat.reduceSub, Nat.reduceBEq, ↓reduceIte, bne_self_eq_false, Bool.and_false, Bool.false_and, Bool.true_or, Bool.false_or, ix, ws])
                      | (refine tr_draw (id := 18) follows 10000 [5, 11] [0, 1, 2, 3, 4, 6, 7, 8, 9, 10, 5, 11, 12] (by kernel_rfl) ?_; simp only [go_sem, List.getElem?_toArray, str_beq, reduceCtorEq, Nat.reduceEqDiff, Nat.reduceLT, Nat.reduceLeDiff, Nat.reduceAdd, Nat.reduceMul, Nat.reduceSub, Nat.reduceBEq, ↓reduceIte, bne_self_eq_false, Bool.and_false, Bool.false_and, Bool.true_or, Bool.false_or, ix, ws])
                      | (refine tr_draw (id := 20) follows 10000 [1, 3, 7, 9] [0, 2, 1, 3, 4, 5, 6, 8, 7, 9, 10, 11, 12] (by kernel_rfl) ?_; simp only [go_sem, List.getElem?_toArray, str_beq, reduceCtorEq, Nat.reduceEqDiff, Nat.reduceLT, Nat.reduceLeDiff, Nat.reduceAdd, Nat.reduceMul, Nat.reduceSub, Nat.reduceBEq, ↓reduceIte, bne_self_eq_false, Bool.and_false, Bool.false_and, Bool.true_or, Bool.false_or, ix, ws])
                      | refine k_of (by assumption) ?_
                      | refine tr_block ?_
                      | refine tr_scope ?_
                      | (refine tr_skip ?_; try simp only [ex_seq, ex_block])
                      | (refine tr_label ?_; try simp only [ex_seq, ex_block])
                      | (refine tr_exit ?_; try simp only [ex_seq_exit, ex_block_exit, Nat.reduceEqDiff, if_true, if_false, ex_seq, ex_block, reduceCtorEq, ↓reduceIte])
                      | (refine tr_ret ?_; try simp only [ex_seq_ret, ex_block_ret]))
                  exact hK (k + 1) _ _ hkl ⟨⟨rfl, rfl, rfl, trivial⟩, Keep.refl _, rfl, rfl, Nat.le_refl _, Nat.le_refl _⟩ (by omega)
              · cases hf
            · have d1 : decide ((k : Int) < (p.grants.length : Nat)) = false := decide_eq_false (by omega)
              obtain rfl : k = p.grants.length := by omega
              repeat (first
                  | refine tr_seq_k fun _ _ => ?_
                  | (refine tr_region ?_; simp only [go_sem, List.getElem?_toArray, str_beq, reduceCtorEq, Nat.reduceEqDiff, Nat.reduceLT, Nat.reduceLeDiff, Nat.reduceAdd, Nat.reduceMul, Nat.reduceSub, Nat.reduceBEq, ↓reduceIte, bne_self_eq_false, Bool.and_false, Bool.false_and, Bool.true_or, Bool.false_or, d1])
                  | (refine tr_draw (id := 8) follows 10000 [5, 11] [0, 1, 2, 3, 4, 6, 7, 8, 9, 10, 5, 11, 12] (by kernel_rfl) ?_; simp only [go_sem, List.getElem?_toArray, str_beq, reduceCtorEq, Nat.reduceEqDiff, Nat.reduceLT, Nat.reduceLeDiff, Nat.reduceAdd, Nat.reduceMul, Nat.reduceSub, Nat.reduceBEq, ↓reduceIte, bne_self_eq_false, Bool.and_false, Bool.false_and, Bool.true_or, Bool.false_or, d1])
                  | (refine tr_draw (id := 13) follows 10000 [5, 11] [0, 1, 2, 3, 4, 6, 7, 8, 9, 10, 5, 11, 12] (by kernel_rfl) ?_; simp only [go_sem, List.getElem?_toArray, str_beq, reduceCtorEq, Nat.reduceEqDiff, Nat.reduceLT, Nat.reduceLeDiff, Nat.reduceAdd, Nat.reduceMul, Nat.reduceSub, Nat.reduceBEq, ↓reduceIte, bne_self_eq_false, Bool.and_false, Bool.false_and, Bool.true_or, Bool.false_or, d1])
                  | (refine tr_draw (id := 18) follows 10000 [5, 11] [0, 1, 2, 3, 4, 6, 7, 8, 9, 10, 5, 11, 12] (by kernel_rfl) ?_; simp only [go_sem, List.getElem?_toArray, str_beq, reduceCtorEq, Nat.reduceEqDiff, Nat.reduceLT, Nat.reduceLeDiff, Nat.reduceAdd, Nat.reduceMul, Nat.reduceSub, Nat.reduceBEq, ↓reduceIte, bne_self_eq_false, Bool.and_false, Bool.false_and, Bool.true_or, Bool.false_or, d1])
                  | (refine tr_draw (id := 20) follows 10000 [1, 3, 7, 9] [0, 2, 1, 3, 4, 5, 6, 8, 7, 9, 10, 11, 12] (by kernel_rfl) ?_; simp only [go_sem, List.getElem?_toArray, str_beq, reduceCtorEq, Nat.reduceEqDiff, Nat.reduceLT, Nat.reduceLeDiff, Nat.reduceAdd, Nat.reduceMul, Nat.reduceSub, Nat.reduceBEq, ↓reduceIte, bne_self_eq_false, Bool.and_false, Bool.false_and, Bool.true_or, Bool.false_or, d1])
                  | refine k_of (by assumption) ?_
                  | refine tr_block ?_
                  | refine tr_scope ?_
                  | (refine tr_skip ?_; try simp only [ex_seq, ex_block])
                  | (refine tr_label ?_; try simp only [ex_seq, ex_block])
                  | (refine tr_exit ?_; try simp only [ex_seq_exit, ex_block_exit, Nat.reduceEqDiff, if_true, if_false, ex_seq, ex_block, reduceCtorEq, ↓reduceIte])
                  | (refine tr_ret ?_; try simp only [ex_seq_ret, ex_block_ret]))
              refine tr_cond rfl (fun ht => ?_) (fun hf => ?_)
              · cases ht
              · repeat (first
                    | refine tr_seq_k fun _ _ => ?_
                    | (refine tr_region ?_; simp only [go_sem, List.getElem?_toArray, str_beq, reduceCtorEq, Nat.reduceEqDiff, Nat.reduceLT, Nat.reduceLeDiff, Nat.reduceAdd, Nat.reduceMul, Nat.reduceSub, Nat.reduceBEq, ↓reduceIte, bne_self_eq_false, Bool.and_false, Bool.false_and, Bool.true_or, Bool.false_or])
                    | (refine tr_draw (id := 8) follows 10000 [5, 11] [0, 1, 2, 3, 4, 6, 7, 8, 9, 10, 5, 11, 12] (by kernel_rfl) ?_; simp only [go_sem, List.getElem?_toArray, str_beq, reduceCtorEq, Nat.reduceEqDiff, Nat.reduceLT, Nat.reduceLeDiff, Nat.reduceAdd, Nat.reduceMul, Nat.reduceSub, Nat.reduceBEq, ↓reduceIte, bne_self_eq_false, Bool.and_false, Bool.false_and, Bool.true_or, Bool.false_or])
                    | (refine tr_draw (id := 13) follows 10000 [5, 11] [0, 1, 2, 3, 4, 6, 7, 8, 9, 10, 5, 11, 12] (by kernel_rfl) ?_; simp only [go_sem, List.getElem?_toArray, str_beq, reduceCtorEq, Nat.reduceEqDiff, Nat.reduceLT, Nat.reduceLeDiff, Nat.reduceAdd, Nat.reduceMul, Nat.reduceSub, Nat.reduceBEq, ↓reduceIte, bne_self_eq_false, Bool.and_false, Bool.false_and, Bool.true_or, Bool.false_or])
                    | (refine tr_draw (id := 18) follows 10000 [5, 11] [0, 1, 2, 3, 4, 6, 7, 8, 9, 10, 5, 11, 12] (by kernel_rfl) ?_; simp only [go_sem, List.getElem?_toArray, str_beq, reduceCtorEq, Nat.reduceEqDiff, Nat.reduceLT, Nat.reduceLeDiff, Nat.reduceAdd, Nat.reduceMul, Nat.reduceSub, Nat.reduceBEq, ↓reduceIte, bne_self_eq_false, Bool.and_false, Bool.false_and, Bool.true_or, Bool.false_or])
                    | (refine tr_draw (id := 20) follows 10000 [1, 3, 7, 9] [0, 2, 1, 3, 4, 5, 6, 8, 7, 9, 10, 11, 12] (by kernel_rfl) ?_; simp only [go_sem, List.getElem?_toArray, str_beq, reduceCtorEq, Nat.reduceEqDiff, Nat.reduceLT, Nat.reduceLeDiff, Nat.reduceAdd, Nat.reduceMul, Nat.reduceSub, Nat.reduceBEq, ↓reduceIte, bne_self_eq_false, Bool.and_false, Bool.false_and, Bool.true_or, Bool.false_or])
                    | refine k_of (by assumption) ?_
                    | refine tr_block ?_
                    | refine tr_scope ?_
                    | (refine tr_skip ?_; try simp only [ex_seq, ex_block])
                    | (refine tr_label ?_; try simp only [ex_seq, ex_block])
                    | (refine tr_exit ?_; try simp only [ex_seq_exit, ex_block_exit, Nat.reduceEqDiff, if_true, if_false, ex_seq, ex_block, reduceCtorEq, ↓reduceIte])
                    | (refine tr_ret ?_; try simp only [ex_seq_ret, ex_block_ret]))
                refine tr_loop_k (σ := Nat) (fun k => [(2, .ptr 0 0), (3, .ptr 1 0), (7, iA k)]) (fun _ => ⟨[⟨false, [.c (slC stC p.e1 p.prin), .c (slC prC p.e2 p.preds), .c (slC clC p.e3 p.clears), iA p.quota, iA p.budget, .c (slC ruC p.e4 p.rules), .c (slC grC p.e5 p.grants)]⟩, ⟨false, (atC a).map AV.c⟩], []⟩) (fun k => k ≤ p.clears.length) (fun k => p.clears.length - k) 0 (Nat.zero_le _) ⟨rfl, rfl, rfl, trivial⟩ rfl ?_
                rintro k hkk K hK
                by_cases hkl : k < p.clears.length
                · have d1 : decide ((k : Int) < (p.clears.length : Nat)) = true := decide_eq_true (by omega)
                  have ix := idxC (ex := p.e3) hkl
                  have ws := wrap_succ (show k ≤ 1000000000 by have := hk.clears.1; omega)
                  have hx := hk.clears.2 p.clears[k] (List.getElem_mem hkl)
                  have hy := hrd p.clears[k] (List.getElem_mem hkl)
                  generalize p.clears[k] = x at *
                  have k1 := clear_does x hx.1 hx.2.1 hx.2.2
                  have k2 := rclear_does x hx.1 hx.2.1 hy
                  repeat (first
                      | refine tr_seq_k fun _ _ => ?_
                      | (refine tr_region ?_; simp only [go_sem, List.getElem?_toArray, str_beq, reduceCtorEq, Nat.reduceEqDiff, Nat.reduceLT, Nat.reduceLeDiff, Nat.reduceAdd, Nat.reduceMul, Nat.reduceSub, Nat.reduceBEq, ↓reduceIte, bne_self_eq_false, Bool.and_false, Bool.false_and, Bool.true_or, Bool.false_or, d1])
                      | (refine tr_draw (id := 8) follows 10000 [5, 11] [0, 1, 2, 3, 4, 6, 7, 8, 9, 10, 5, 11, 12] (by kernel_rfl) ?_; simp only [go_sem, List.getElem?_toArray, str_beq, reduceCtorEq, Nat.reduceEqDiff, Nat.reduceLT, Nat.reduceLeDiff, Nat.reduceAdd, Nat.reduceMul, Nat.reduceSub, Nat.reduceBEq, ↓reduceIte, bne_self_eq_false, Bool.and_false, Bool.false_and, Bool.true_or, Bool.false_or, d1])
                      | (refine tr_draw (id := 13) follows 10000 [5, 11] [0, 1, 2, 3, 4, 6, 7, 8, 9, 10, 5, 11, 12] (by kernel_rfl) ?_; simp only [go_sem, List.getElem?_toArray, str_beq, reduceCtorEq, Nat.reduceEqDiff, Nat.reduceLT, Nat.reduceLeDiff, Nat.reduceAdd, Nat.reduceMul, Nat.reduceSub, Nat.reduceBEq, ↓reduceIte, bne_self_eq_false, Bool.and_false, Bool.false_and, Bool.true_or, Bool.false_or, d1])
                      | (refine tr_draw (id := 18) follows 10000 [5, 11] [0, 1, 2, 3, 4, 6, 7, 8, 9, 10, 5, 11, 12] (by kernel_rfl) ?_; simp only [go_sem, List.getElem?_toArray, str_beq, reduceCtorEq, Nat.reduceEqDiff, Nat.reduceLT, Nat.reduceLeDiff, Nat.reduceAdd, Nat.reduceMul, Nat.reduceSub, Nat.reduceBEq, ↓reduceIte, bne_self_eq_false, Bool.and_false, Bool.false_and, Bool.true_or, Bool.false_or, d1])
                      | (refine tr_draw (id := 20) follows 10000 [1, 3, 7, 9] [0, 2, 1, 3, 4, 5, 6, 8, 7, 9, 10, 11, 12] (by kernel_rfl) ?_; simp only [go_sem, List.getElem?_toArray, str_beq, reduceCtorEq, Nat.reduceEqDiff, Nat.reduceLT, Nat.reduceLeDiff, Nat.reduceAdd, Nat.reduceMul, Nat.reduceSub, Nat.reduceBEq, ↓reduceIte, bne_self_eq_false, Bool.and_false, Bool.false_and, Bool.true_or, Bool.false_or, d1])
                      | refine k_of (by assumption) ?_
                      | refine tr_block ?_
                      | refine tr_scope ?_
                      | (refine tr_skip ?_; try simp only [ex_seq, ex_block])
                      | (refine tr_label ?_; try simp only [ex_seq, ex_block])
                      | (refine tr_exit ?_; try simp only [ex_seq_exit, ex_block_exit, Nat.reduceEqDiff, if_true, if_false, ex_seq, ex_block, reduceCtorEq, ↓reduceIte])
                      | (refine tr_ret ?_; try simp only [ex_seq_ret, ex_block_ret]))
                  refine tr_cond rfl (fun ht => ?_) (fun hf => ?_)
                  · repeat (first
                        | refine tr_seq_k fun _ _ => ?_
                        | (refine tr_region ?_; simp only [go_sem, List.getElem?_toArray, str_beq, reduceCtorEq, Nat.reduceEqDiff, Nat.reduceLT, Nat.reduceLeDiff, Nat.reduceAdd, Nat.reduceMul, Nat.reduceSub, Nat.reduceBEq, ↓reduceIte, bne_self_eq_false, Bool.and_false, Bool.false_and, Bool.true_or, Bool.false_or, ix])
                        | (refine tr_draw (id := 8) follows 10000 [5, 11] [0, 1, 2, 3, 4, 6, 7, 8, 9, 10, 5, 11, 12] (by kernel_rfl) ?_; simp only [go_sem, List.getElem?_toArray, str_beq, reduceCtorEq, Nat.reduceEqDiff, Nat.reduceLT, Nat.reduceLeDiff, Nat.reduceAdd, Nat.reduceMul, Nat.reduceSub, Nat.reduceBEq, ↓reduceIte, bne_self_eq_false, Bool.and_false, Bool.false_and, Bool.true_or, Bool.false_or, ix])
                        | (refine tr_draw (id := 13) follows 10000 [5, 11] [0, 1, 2, 3, 4, 6, 7, 8, 9, 10, 5, 11, 12] (by kernel_rfl) ?_; simp only [go_sem, List.getElem?_toArray, str_beq, reduceCtorEq, Nat.reduceEqDiff, Nat.reduceLT, Nat.reduceLeDiff, Nat.reduceAdd, Nat.reduceMul, Nat.reduceSub, Nat.reduceBEq, ↓reduceIte, bne_self_eq_false, Bool.and_false, Bool.false_and, Bool.true_or, Bool.false_or, ix])
                        | (refine tr_draw (id := 18) follows 10000 [5, 11] [0, 1, 2, 3, 4, 6, 7, 8, 9, 10, 5, 11, 12] (by kernel_rfl) ?_; simp only [go_sem, List.getElem?_toArray, str_beq, reduceCtorEq, Nat.reduceEqDiff, Nat.reduceLT, Nat.reduceLeDiff, Nat.reduceAdd, Nat.reduceMul, Nat.reduceSub, Nat.reduceBEq, ↓reduceIte, bne_self_eq_false, Bool.and_false, Bool.false_and, Bool.true_or, Bool.false_or, ix])
                        | (refine tr_draw (id := 20) follows 10000 [1, 3, 7, 9] [0, 2, 1, 3, 4, 5, 6, 8, 7, 9, 10, 11, 12] (by kernel_rfl) ?_; simp only [go_sem, List.getElem?_toArray, str_beq, reduceCtorEq, Nat.reduceEqDiff, Nat.reduceLT, Nat.reduceLeDiff, Nat.reduceAdd, Nat.reduceMul, Nat.reduceSub, Nat.reduceBEq, ↓reduceIte, bne_self_eq_false, Bool.and_false, Bool.false_and, Bool.true_or, Bool.false_or, ix])
                        | (refine call_of (k1) ?_ ?_
                           · first | rfl | simp only [go_sem, List.getElem?_toArray, str_beq, reduceCtorEq, Nat.reduceEqDiff, Nat.reduceLT, Nat.reduceLeDiff, Nat.reduceAdd, Nat.reduceMul, Nat.reduceSub, Nat.reduceBEq, ↓reduceIte, bne_self_eq_false, Bool.and_false, Bool.false_and, Bool.true_or, Bool.false_or, ix, shut_col]
                           simp only [go_sem, List.getElem?_toArray, str_beq, reduceCtorEq, Nat.reduceEqDiff, Nat.reduceLT, Nat.reduceLeDiff, Nat.reduceAdd, Nat.reduceMul, Nat.reduceSub, Nat.reduceBEq, ↓reduceIte, bne_self_eq_false, Bool.and_false, Bool.false_and, Bool.true_or, Bool.false_or, ix])
                        | (refine call_of (k2) ?_ ?_
                           · first | rfl | simp only [go_sem, List.getElem?_toArray, str_beq, reduceCtorEq, Nat.reduceEqDiff, Nat.reduceLT, Nat.reduceLeDiff, Nat.reduceAdd, Nat.reduceMul, Nat.reduceSub, Nat.reduceBEq, ↓reduceIte, bne_self_eq_false, Bool.and_false, Bool.false_and, Bool.true_or, Bool.false_or, ix, shut_col]
                           simp only [go_sem, List.getElem?_toArray, str_beq, reduceCtorEq, Nat.reduceEqDiff, Nat.reduceLT, Nat.reduceLeDiff, Nat.reduceAdd, Nat.reduceMul, Nat.reduceSub, Nat.reduceBEq, ↓reduceIte, bne_self_eq_false, Bool.and_false, Bool.false_and, Bool.true_or, Bool.false_or, ix])
                        | refine k_of (by assumption) ?_
                        | refine tr_block ?_
                        | refine tr_scope ?_
                        | (refine tr_skip ?_; try simp only [ex_seq, ex_block])
                        | (refine tr_label ?_; try simp only [ex_seq, ex_block])
                        | (refine tr_exit ?_; try simp only [ex_seq_exit, ex_block_exit, Nat.reduceEqDiff, if_true, if_false, ex_seq, ex_block, reduceCtorEq, ↓reduceIte])
                        | (refine tr_ret ?_; try simp only [ex_seq_ret, ex_block_ret]))
                    refine tr_cond rfl (fun ht => ?_) (fun hf => ?_)
                    · cases ht
                    · repeat (first
                          | refine tr_seq_k fun _ _ => ?_
                          | (refine tr_region ?_; simp only [go_sem, List.getElem?_toArray, str_beq, reduceCtorEq, Nat.reduceEqDiff, Nat.reduceLT, Nat.reduceLeDiff, Nat.reduceAdd, Nat.reduceMul, Nat.reduceSub, Nat.reduceBEq, ↓reduceIte, bne_self_eq_false, Bool.and_false, Bool.false_and, Bool.true_or, Bool.false_or, ix, ws])
                          | (refine tr_draw (id := 8) follows 10000 [5, 11] [0, 1, 2, 3, 4, 6, 7, 8, 9, 10, 5, 11, 12] (by kernel_rfl) ?_; simp only [go_sem, List.getElem?_toArray, str_beq, reduceCtorEq, Nat.reduceEqDiff, Nat.reduceLT, Nat.reduceLeDiff, Nat.reduceAdd, Nat.reduceMul, Nat.reduceSub, Nat.reduceBEq, ↓reduceIte, bne_self_eq_false, Bool.and_false, Bool.false_and, Bool.true_or, Bool.false_or, ix, ws])
                          | (refine tr_draw (id := 13) follows 10000 [5, 11] [0, 1, 2, 3, 4, 6, 7, 8, 9, 10, 5, 11, 12] (by kernel_rfl) ?_; simp only [go_sem, List.getElem?_toArray, str_beq, reduceCtorEq, Nat.reduceEqDiff, Nat.reduceLT, Nat.reduceLeDiff, Nat.reduceAdd, Nat.reduceMul, Nat.reduceSub, Nat.reduceBEq, ↓reduceIte, bne_self_eq_false, Bool.and_false, Bool.false_and, Bool.true_or, Bool.false_or, ix, ws])
                          | (refine tr_draw (id := 18) follows 10000 [5, 11] [0, 1, 2, 3, 4, 6, 7, 8, 9, 10, 5, 11, 12] (by kernel_rfl) ?_; simp only [go_sem, List.getElem?_toArray, str_beq, reduceCtorEq, Nat.reduceEqDiff, Nat.reduceLT, Nat.reduceLeDiff, Nat.reduceAdd, Nat.reduceMul, Nat.reduceSub, Nat.reduceBEq, ↓reduceIte, bne_self_eq_false, Bool.and_false, Bool.false_and, Bool.true_or, Bool.false_or, ix, ws])
                          | (refine tr_draw (id := 20) follows 10000 [1, 3, 7, 9] [0, 2, 1, 3, 4, 5, 6, 8, 7, 9, 10, 11, 12] (by kernel_rfl) ?_; simp only [go_sem, List.getElem?_toArray, str_beq, reduceCtorEq, Nat.reduceEqDiff, Nat.reduceLT, Nat.reduceLeDiff, Nat.reduceAdd, Nat.reduceMul, Nat.reduceSub, Nat.reduceBEq, ↓reduceIte, bne_self_eq_false, Bool.and_false, Bool.false_and, Bool.true_or, Bool.false_or, ix, ws])
                          | refine k_of (by assumption) ?_
                          | refine tr_block ?_
                          | refine tr_scope ?_
                          | (refine tr_skip ?_; try simp only [ex_seq, ex_block])
                          | (refine tr_label ?_; try simp only [ex_seq, ex_block])
                          | (refine tr_exit ?_; try simp only [ex_seq_exit, ex_block_exit, Nat.reduceEqDiff, if_true, if_false, ex_seq, ex_block, reduceCtorEq, ↓reduceIte])
                          | (refine tr_ret ?_; try simp only [ex_seq_ret, ex_block_ret]))
                      exact hK (k + 1) _ _ hkl ⟨⟨rfl, rfl, rfl, trivial⟩, Keep.refl _, rfl, rfl, Nat.le_refl _, Nat.le_refl _⟩ (by omega)
                  · cases hf
                · have d1 : decide ((k : Int) < (p.clears.length : Nat)) = false := decide_eq_false (by omega)
                  obtain rfl : k = p.clears.length := by omega
                  repeat (first
                      | refine tr_seq_k fun _ _ => ?_
                      | (refine tr_region ?_; simp only [go_sem, List.getElem?_toArray, str_beq, reduceCtorEq, Nat.reduceEqDiff, Nat.reduceLT, Nat.reduceLeDiff, Nat.reduceAdd, Nat.reduceMul, Nat.reduceSub, Nat.reduceBEq, ↓reduceIte, bne_self_eq_false, Bool.and_false, Bool.false_and, Bool.true_or, Bool.false_or, d1])
                      | (refine tr_draw (id := 8) follows 10000 [5, 11] [0, 1, 2, 3, 4, 6, 7, 8, 9, 10, 5, 11, 12] (by kernel_rfl) ?_; simp only [go_sem, List.getElem?_toArray, str_beq, reduceCtorEq, Nat.reduceEqDiff, Nat.reduceLT, Nat.reduceLeDiff, Nat.reduceAdd, Nat.reduceMul, Nat.reduceSub, Nat.reduceBEq, ↓reduceIte, bne_self_eq_false, Bool.and_false, Bool.false_and, Bool.true_or, Bool.false_or, d1])
                      | (refine tr_draw (id := 13) follows 10000 [5, 11] [0, 1, 2, 3, 4, 6, 7, 8, 9, 10, 5, 11, 12] (by kernel_rfl) ?_; simp only [go_sem, List.getElem?_toArray, str_beq, reduceCtorEq, Nat.reduceEqDiff, Nat.reduceLT, Nat.reduceLeDiff, Nat.reduceAdd, Nat.reduceMul, Nat.reduceSub, Nat.reduceBEq, ↓reduceIte, bne_self_eq_false, Bool.and_false, Bool.false_and, Bool.true_or, Bool.false_or, d1])
                      | (refine tr_draw (id := 18) follows 10000 [5, 11] [0, 1, 2, 3, 4, 6, 7, 8, 9, 10, 5, 11, 12] (by kernel_rfl) ?_; simp only [go_sem, List.getElem?_toArray, str_beq, reduceCtorEq, Nat.reduceEqDiff, Nat.reduceLT, Nat.reduceLeDiff, Nat.reduceAdd, Nat.reduceMul, Nat.reduceSub, Nat.reduceBEq, ↓reduceIte, bne_self_eq_false, Bool.and_false, Bool.false_and, Bool.true_or, Bool.false_or, d1])
                      | (refine tr_draw (id := 20) follows 10000 [1, 3, 7, 9] [0, 2, 1, 3, 4, 5, 6, 8, 7, 9, 10, 11, 12] (by kernel_rfl) ?_; simp only [go_sem, List.getElem?_toArray, str_beq, reduceCtorEq, Nat.reduceEqDiff, Nat.reduceLT, Nat.reduceLeDiff, Nat.reduceAdd, Nat.reduceMul, Nat.reduceSub, Nat.reduceBEq, ↓reduceIte, bne_self_eq_false, Bool.and_false, Bool.false_and, Bool.true_or, Bool.false_or, d1])
                      | refine k_of (by assumption) ?_
                      | refine tr_block ?_
                      | refine tr_scope ?_
                      | (refine tr_skip ?_; try simp only [ex_seq, ex_block])
                      | (refine tr_label ?_; try simp only [ex_seq, ex_block])
                      | (refine tr_exit ?_; try simp only [ex_seq_exit, ex_block_exit, Nat.reduceEqDiff, if_true, if_false, ex_seq, ex_block, reduceCtorEq, ↓reduceIte])
                      | (refine tr_ret ?_; try simp only [ex_seq_ret, ex_block_ret]))
                  refine tr_cond rfl (fun ht => ?_) (fun hf => ?_)
                  · cases ht
                  · skip
                    repeat (first
                        | refine tr_seq_k fun _ _ => ?_
                        | (refine tr_region ?_; simp only [go_sem, List.getElem?_toArray, str_beq, reduceCtorEq, Nat.reduceEqDiff, Nat.reduceLT, Nat.reduceLeDiff, Nat.reduceAdd, Nat.reduceMul, Nat.reduceSub, Nat.reduceBEq, ↓reduceIte, bne_self_eq_false, Bool.and_false, Bool.false_and, Bool.true_or, Bool.false_or])
                        | (refine tr_draw (id := 8) follows 10000 [5, 11] [0, 1, 2, 3, 4, 6, 7, 8, 9, 10, 5, 11, 12] (by kernel_rfl) ?_; simp only [go_sem, List.getElem?_toArray, str_beq, reduceCtorEq, Nat.reduceEqDiff, Nat.reduceLT, Nat.reduceLeDiff, Nat.reduceAdd, Nat.reduceMul, Nat.reduceSub, Nat.reduceBEq, ↓reduceIte, bne_self_eq_false, Bool.and_false, Bool.false_and, Bool.true_or, Bool.false_or])
                        | (refine tr_draw (id := 13) follows 10000 [5, 11] [0, 1, 2, 3, 4, 6, 7, 8, 9, 10, 5, 11, 12] (by kernel_rfl) ?_; simp only [go_sem, List.getElem?_toArray, str_beq, reduceCtorEq, Nat.reduceEqDiff, Nat.reduceLT, Nat.reduceLeDiff, Nat.reduceAdd, Nat.reduceMul, Nat.reduceSub, Nat.reduceBEq, ↓reduceIte, bne_self_eq_false, Bool.and_false, Bool.false_and, Bool.true_or, Bool.false_or])
                        | (refine tr_draw (id := 18) follows 10000 [5, 11] [0, 1, 2, 3, 4, 6, 7, 8, 9, 10, 5, 11, 12] (by kernel_rfl) ?_; simp only [go_sem, List.getElem?_toArray, str_beq, reduceCtorEq, Nat.reduceEqDiff, Nat.reduceLT, Nat.reduceLeDiff, Nat.reduceAdd, Nat.reduceMul, Nat.reduceSub, Nat.reduceBEq, ↓reduceIte, bne_self_eq_false, Bool.and_false, Bool.false_and, Bool.true_or, Bool.false_or])
                        | (refine tr_draw (id := 20) follows 10000 [1, 3, 7, 9] [0, 2, 1, 3, 4, 5, 6, 8, 7, 9, 10, 11, 12] (by kernel_rfl) ?_; simp only [go_sem, List.getElem?_toArray, str_beq, reduceCtorEq, Nat.reduceEqDiff, Nat.reduceLT, Nat.reduceLeDiff, Nat.reduceAdd, Nat.reduceMul, Nat.reduceSub, Nat.reduceBEq, ↓reduceIte, bne_self_eq_false, Bool.and_false, Bool.false_and, Bool.true_or, Bool.false_or])
                        | (refine call_of (cP) ?_ ?_
                           · first | rfl | simp only [go_sem, List.getElem?_toArray, str_beq, reduceCtorEq, Nat.reduceEqDiff, Nat.reduceLT, Nat.reduceLeDiff, Nat.reduceAdd, Nat.reduceMul, Nat.reduceSub, Nat.reduceBEq, ↓reduceIte, bne_self_eq_false, Bool.and_false, Bool.false_and, Bool.true_or, Bool.false_or, shut_col]
                           simp only [go_sem, List.getElem?_toArray, str_beq, reduceCtorEq, Nat.reduceEqDiff, Nat.reduceLT, Nat.reduceLeDiff, Nat.reduceAdd, Nat.reduceMul, Nat.reduceSub, Nat.reduceBEq, ↓reduceIte, bne_self_eq_false, Bool.and_false, Bool.false_and, Bool.true_or, Bool.false_or])
                        | (refine call_of (cR) ?_ ?_
                           · first | rfl | simp only [go_sem, List.getElem?_toArray, str_beq, reduceCtorEq, Nat.reduceEqDiff, Nat.reduceLT, Nat.reduceLeDiff, Nat.reduceAdd, Nat.reduceMul, Nat.reduceSub, Nat.reduceBEq, ↓reduceIte, bne_self_eq_false, Bool.and_false, Bool.false_and, Bool.true_or, Bool.false_or, shut_col]
                           simp only [go_sem, List.getElem?_toArray, str_beq, reduceCtorEq, Nat.reduceEqDiff, Nat.reduceLT, Nat.reduceLeDiff, Nat.reduceAdd, Nat.reduceMul, Nat.reduceSub, Nat.reduceBEq, ↓reduceIte, bne_self_eq_false, Bool.and_false, Bool.false_and, Bool.true_or, Bool.false_or])
                        | (refine call_of (cG) ?_ ?_
                           · first | rfl | simp only [go_sem, List.getElem?_toArray, str_beq, reduceCtorEq, Nat.reduceEqDiff, Nat.reduceLT, Nat.reduceLeDiff, Nat.reduceAdd, Nat.reduceMul, Nat.reduceSub, Nat.reduceBEq, ↓reduceIte, bne_self_eq_false, Bool.and_false, Bool.false_and, Bool.true_or, Bool.false_or, shut_col]
                           simp only [go_sem, List.getElem?_toArray, str_beq, reduceCtorEq, Nat.reduceEqDiff, Nat.reduceLT, Nat.reduceLeDiff, Nat.reduceAdd, Nat.reduceMul, Nat.reduceSub, Nat.reduceBEq, ↓reduceIte, bne_self_eq_false, Bool.and_false, Bool.false_and, Bool.true_or, Bool.false_or])
                        | (refine call_of (cH) ?_ ?_
                           · first | rfl | simp only [go_sem, List.getElem?_toArray, str_beq, reduceCtorEq, Nat.reduceEqDiff, Nat.reduceLT, Nat.reduceLeDiff, Nat.reduceAdd, Nat.reduceMul, Nat.reduceSub, Nat.reduceBEq, ↓reduceIte, bne_self_eq_false, Bool.and_false, Bool.false_and, Bool.true_or, Bool.false_or, shut_col]
                           simp only [go_sem, List.getElem?_toArray, str_beq, reduceCtorEq, Nat.reduceEqDiff, Nat.reduceLT, Nat.reduceLeDiff, Nat.reduceAdd, Nat.reduceMul, Nat.reduceSub, Nat.reduceBEq, ↓reduceIte, bne_self_eq_false, Bool.and_false, Bool.false_and, Bool.true_or, Bool.false_or])
                        | refine k_of (by assumption) ?_
                        | refine tr_block ?_
                        | refine tr_scope ?_
                        | (refine tr_skip ?_; try simp only [ex_seq, ex_block])
                        | (refine tr_label ?_; try simp only [ex_seq, ex_block])
                        | (refine tr_exit ?_; try simp only [ex_seq_exit, ex_block_exit, Nat.reduceEqDiff, if_true, if_false, ex_seq, ex_block, reduceCtorEq, ↓reduceIte])
                        | (refine tr_ret ?_; try simp only [ex_seq_ret, ex_block_ret]))
                    refine (hQ _ _ [bA true] ?_ (fun m => ?_)).2 <;> simp only [go_sem, List.getElem?_toArray, str_beq, reduceCtorEq, Nat.reduceEqDiff, Nat.reduceLT, Nat.reduceLeDiff, Nat.reduceAdd, Nat.reduceMul, Nat.reduceSub, Nat.reduceBEq, ↓reduceIte, bne_self_eq_false, Bool.and_false, Bool.false_and, Bool.true_or, Bool.false_or, Tryd.f6,]
end Go.Proofs.YtaeehadibckcjaaDoor

/-
  From a row's condition on the listed variables to the table that the walks read.
-/
namespace Go.Proofs.YtaeehadibckcjaaDoor
open Go.RowKit Go.Vs Go.Vs.Ab
set_option maxRecDepth 100000
theorem gl_of_tab {W : World} (h : Lib.TabIs Tryd.prog W "internal/strconv.uint64pow10" .u64 Lib.pow10Tab) : Gl W := by
  have hn : Tryd.prog.globalNamed "internal/strconv.uint64pow10" = some 0 := by kernel_rfl
  have h1 : W.var? Tryd.prog "internal/strconv.uint64pow10" = some (Lib.pow10Tab.map fun z => Value.int .u64 z).toArray := h
  unfold World.var? at h1
  rw [hn] at h1
  intro p hp
  rcases List.mem_cons.1 hp with rfl | hp
  · change (match W.heap[0]? with | some (.cells cs _ _) => some cs | _ => none) = _ at h1
    split at h1
    · rename_i cs t z hb
      injection h1 with h1
      subst h1
      exact ⟨t, z, hb.trans (by kernel_rfl)⟩
    · cases h1
  · cases hp
theorem gl_of_laid {l : List (String × DataW Unit)} {W : World} (hp : (l.all fun x => x.2.handleName?.isNone) = true)
    (hf : (l.filter fun x => x.1 == "internal/strconv.uint64pow10") = [("internal/strconv.uint64pow10", Lib.tabData .u64 Lib.pow10Tab)])
    (h : laidMetH Tryd.prog l W) : Gl W := by
  rw [MakeChecks.laidMetH_plain _ _ _ hp] at h
  have h2 := h.filter (fun x => x.1 == "internal/strconv.uint64pow10")
  rw [hf] at h2
  exact gl_of_tab (Lib.tabIs_of_head (g := 0) (t := 136) (e := 116) (n := 20) (by kernel_rfl) (by kernel_rfl) (by kernel_rfl) (by kernel_rfl) (by kernel_rfl) (by kernel_rfl) h2)
end Go.Proofs.YtaeehadibckcjaaDoor

namespace Go.Proofs.YtaeehadibckcjaaDoor.calls
open Go.ChangeShapes Go.WideShapes Go.ChangeAt Go.RowKit Go.Vs Go.Vs.Ab
theorem own : ownKnob Tryd.prog.godebug = none := by kernel_rfl
theorem laidOut : laidOutB Tryd.prog = true := by kernel_rfl
theorem readable : (Tryd.f6.params.toList.all fun t => Tryd.prog.readableRec t && decide (t < Tryd.prog.types.size)) = true := by kernel_rfl
theorem shape29 : shapeOf Tryd.prog 8 29 = some poSh := by kernel_rfl
theorem shape42 : shapeOf Tryd.prog 8 42 = some [.str, .str, .int, .bool, .str, .bool, .str, .bool, .str, .bool, .str] := by kernel_rfl
set_option maxRecDepth 100000 in
theorem door_met (os : Os) (args : Array Value) : laidMetH Tryd.prog Rows.printerCallsRow.laid ((World.doorLaid Tryd.prog 400 os).forCall (fun _ _ => 0) ⟨#[], args, []⟩).memory :=
  laidMetH_of_parts3 (fuel := 8) (laidMet_of_run' 8 (by kernel_rfl) (by kernel_rfl)) (by kernel_rfl) (by kernel_rfl)
set_option maxRecDepth 100000 in
theorem lifted (os : Os) (started : os.Started) (H : Type) (enc : TypeId × Value → H) :
    ReturnsInHanded {} Tryd.checked os 6 .any (fun w args => (Rows.printerCallsSpec.pre enc Tryd.prog Tryd.f6 [] false w args ∧ laidMetH Tryd.prog Rows.printerCallsRow.laid w) ∧ sizedMet enc Tryd.prog Tryd.f6 (OpenSpec.ofChange Rows.printerCallsSpec) false w args) (Rows.printerCallsSpec.post enc Tryd.prog Tryd.f6 false true false false) := by
  refine returnsInHanded_of_change_and (C := Tryd.checked) (X := fun w _ => laidMetH Tryd.prog Rows.printerCallsRow.laid w) (fun _ _ _ hh h => h.of_heap hh) own started (by kernel_rfl) Tryd.func6
    (ChangeSpec.witness_shaped (enc := enc) (C := Tryd.checked) (os := os) (X := fun w _ => laidMetH Tryd.prog Rows.printerCallsRow.laid w) false (World.doorLaid Tryd.prog 400 os) #[.agg #[.slice none 0 0, .slice none 0 0, .slice none 0 0, .int .i64 0, .int .i64 0, .slice none 0 0, .slice none 0 0], .agg #[.string ⟨#[]⟩, .string ⟨#[]⟩, .int .i64 0, .bool false, .string ⟨#[]⟩, .bool false, .string ⟨#[]⟩, .bool false, .string ⟨#[]⟩, .bool false, .string ⟨#[]⟩]] 8 rfl (World.shaped_of_RefB (by kernel_rfl) (by kernel_rfl)) (by kernel_rfl) (by kernel_rfl) (by kernel_rfl) (door_met os _)) ?_
  intro W base args ds gs before hval0 hW _ hwt hL _
  have hval : ∀ (j : Nat) t v, Tryd.f6.params[j]? = some t → args[j]? = some v → Value.okWide Tryd.prog W .any base t v := hval0
  have hW' := hW
  obtain ⟨p, q, hA0, hV, rfl, hfz, hnd⟩ := hW
  have hA : DataW.TrodAll enc Tryd.prog W 0 (fun _ => true) true Tryd.f6.params.toList args.toList ds p := hA0
  rw [Tryd.params6] at hA hval
  obtain ⟨v0, vs0, d0, ds0, p0, q0, hargs, rfl, rfl, h0, r0⟩ := trodAll_cons hA
  obtain ⟨v1, vs1, d1, ds1, p1, q1, rfl, rfl, rfl, h1, r1⟩ := trodAll_cons r0
  obtain ⟨rfl, rfl, rfl⟩ := trodAll_nil r1
  obtain rfl : args = #[v0, v1] := by cases args; simp_all
  obtain ⟨rfl, rfl⟩ := trodVars_none hV
  obtain ⟨a0, R0, g0⟩ := openz_agg Tryd.underlying29 shape29 poZ (hval 0 29 v0 rfl rfl) h0 (sized_of hwt (j := 0) (t := 29) (by kernel_rfl) rfl)
  obtain ⟨a1, R1, _⟩ := open_agg Tryd.underlying42 shape42 atD (hval 1 42 v1 rfl rfl) h1
  refine ((pcalls_does a0 a1 g0).bool (Reps.cons R0 (Reps.cons R1 Reps.nil)) (gl_of_laid (by kernel_rfl) (by kernel_rfl) hL)).mono fun e W' ⟨he, hb⟩ => ?_
  subst he
  refine ⟨_, rfl, law_post (tb := 4) hW' rfl rfl laidOut (fun t ht => ?_) rfl Tryd.underlying4 hb⟩
  have := List.all_eq_true.1 readable t ht
  simp only [Bool.and_eq_true, decide_eq_true_eq] at this
  exact this
theorem row_holds : Rows.PrinterCallsSaid :=
  OpenClaim.holds_of_wide 6 Tryd.f6 rfl rfl rfl rfl rfl rfl rfl ⟨rfl, rfl, rfl, rfl, rfl⟩ rfl rfl rfl rfl rfl (by kernel_rfl) Tryd.func6 (by kernel_rfl)
    (of_decide_eq_true (by kernel_rfl)) (by unfold Func.isWrapper; first | (rw [if_pos (by decide +kernel)]; kernel_rfl) | (rw [if_neg (by decide +kernel)]; exact ⟨rfl, rfl⟩))
    (fun os started H enc _ => lifted os started H enc)
theorem holds : Rows.PrinterCallsCardSaid :=
  Claim7.holds_tied_plain_at .later [] [.data, .data, .data] true (true, "f37234fd77400c584e10aa3671dc226d2b52cb94022700707c3a844a9caa0d3f") false
    row_holds (fun _ h => by cases h) (by kernel_rfl) (fun _ h => by cases h) printerCalls_row_tie rfl ⟨rfl, rfl⟩ (by kernel_rfl) rfl
    (fun f fn hf hfn => by
      obtain rfl : f = 6 := Option.some.inj ((show Tryd.prog.funcNamed "vouchsafe/vouchsafelaw11.PrinterCalls" = some 6 by kernel_rfl).symm.trans hf) |>.symm
      obtain rfl : fn = Tryd.f6 := (Option.some.inj (Tryd.func6.symm.trans hfn)).symm
      exact ⟨by kernel_rfl, fun j t ht => by
        have hm : t ∈ Tryd.f6.params.toList := by simpa using Array.mem_of_getElem? ht
        have hall : (Tryd.f6.params.toList.all fun u => !Tryd.prog.wantsStandIn u) = true := by kernel_rfl
        exact (show Tryd.prog.wantsStandIn t = false by simpa using List.all_eq_true.1 hall t hm)⟩)
    (by kernel_rfl)
#print axioms holds
end Go.Proofs.YtaeehadibckcjaaDoor.calls
