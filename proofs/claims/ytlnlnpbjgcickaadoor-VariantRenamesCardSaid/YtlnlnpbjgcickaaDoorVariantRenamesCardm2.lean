/-
  For every input the statement VariantRenames returns true, and leaves its arguments as they were.
-/
import Derived.Test.YtlnlnpbjgcickaaDoorVariantRenamesCardm1
import Derived.Test.YtlnlnpbjgcickaaDoorAm
import Derived.Test.YtlnlnpbjgcickaaDoorAp
import Derived.Test.YtlnlnpbjgcickaaDoorAq
import Derived.Test.YtlnlnpbjgcickaaDoorLaw
import Derived.Test.YtlnlnpbjgcickaaDoorRows
import Derived.Test.YtlnlnpbjgcickaaDoorCards
import Derived.Test.YtlnlnpbjgcickaaDoorTie
import Derived.ProofKit
import Derived.LaidMore
import Derived.LaidHandle
import Derived.OpenShut
import Derived.Stop.Joined
import Derived.SevenTiedAt
/-
  Chapter 7: the statement VariantCalls.
-/
set_option linter.unusedSimpArgs false
set_option linter.unusedVariables false
namespace Go.Proofs.YtlnlnpbjgcickaaDoor
open Go.Vs Go.Vs.Ab
set_option maxRecDepth 100000
set_option maxHeartbeats 4000000

theorem light_parts {a : Atm} (h : lightA a = true) : a.says.size ≤ 300 ∧ a.pred.size ≤ 300 ∧ ∀ k, k < 4 → (a.arg k).name.size ≤ 300 := by
  unfold lightA lightK at h
  simp only [Bool.and_eq_true, decide_eq_true_eq, List.all_eq_true] at h
  refine ⟨h.1.1, h.1.2, fun k hk => ?_⟩
  have := h.2 (a.arg k) (by
    obtain rfl | rfl | rfl | rfl : k = 0 ∨ k = 1 ∨ k = 2 ∨ k = 3 := by omega
    all_goals simp [Atm.args, Atm.arg])
  simpa [tmL] using this
theorem atsz_of {a : Atm} (h1 : a.says.size ≤ 1000000) (h2 : a.pred.size ≤ 1000000) (h3 : ∀ k, k < 4 → (a.arg k).name.size ≤ 1000000) : AtSz a := ⟨h1, h2, fun k => by
  by_cases hk : k < 4
  · exact h3 k hk
  · obtain ⟨j, rfl⟩ : ∃ j, k = j + 4 := ⟨k - 4, by omega⟩
    exact h3 3 (by omega)⟩
theorem light_sz {a : Atm} (h : lightA a = true) : AtSz a := by
  obtain ⟨h1, h2, h3⟩ := light_parts h
  exact atsz_of (by omega) (by omega) fun k hk => by have := h3 k hk; omega
theorem light_csz {a : Atm} (h : lightA a = true) : AtSz (pcanon a) := by
  obtain ⟨h1, h2, h3⟩ := light_parts h
  refine atsz_of (by show a.says.size ≤ _; omega) (by show a.pred.size ≤ _; omega) fun k hk => ?_
  have h4 := h3 k hk
  by_cases hc : k < a.count
  · rw [pcanon_arg hc]
    unfold pct
    split
    · exact (by decide : (2 : Nat) ≤ 1000000)
    · omega
  · rw [pcanon_rest (by omega) hk]
    omega
theorem lightAs_len' {l : List Atm} (h : lightAs l 40 = true) : l.length ≤ 40 := by
  have := lightAs_len h
  omega
theorem bin_bb (x y : Bool) : pureVal Tryd.prog (binOp .eql 4 (.bool x) (.bool y)) = some (.bool (x == y)) := by
  cases x <;> cases y <;> kernel_rfl
theorem vcalls_does (a b : Atm) (l : List Atm) (ga : Atm.okay a) (gb : Atm.okay b) (gl : ∀ x ∈ l, Atm.okay x) (ex : Bool) : Does Tryd.prog 7 [atA a, atA b, slT ex l] (fun m => (bA true, m)) := by
  have h7 := lives7_does
  have la := lightA_does a
  have lb := lightA_does b
  have ll := lightAtoms_does l 40 ex (by omega)
  cases h1 : lightA a with
  | false =>
    rw [h1] at la
    refine does_of' Tryd.func7 rfl (by kernel_rfl) rfl Tryd.ntmps7 rfl rfl fun Q hQ => ?_
    repeat (first
        | refine tr_seq_k fun _ _ => ?_
        | (refine tr_region ?_; simp only [go_sem, List.getElem?_toArray, str_beq, reduceCtorEq, Nat.reduceEqDiff, Nat.reduceLT, Nat.reduceLeDiff, Nat.reduceAdd, Nat.reduceMul, Nat.reduceSub, Nat.reduceBEq, ↓reduceIte, bne_self_eq_false, Bool.and_false, Bool.false_and, Bool.true_or, Bool.false_or])
        | (refine tr_draw (id := 5) follows 10000 [1, 3, 7, 9, 15, 18, 23, 24, 26, 27] [0, 2, 1, 3, 4, 5, 6, 8, 7, 9, 10, 11, 12, 13, 14, 16, 17, 15, 18, 19, 20, 21, 22, 25, 23, 24, 26, 27, 28, 29] (by kernel_rfl) ?_; simp only [go_sem, List.getElem?_toArray, str_beq, reduceCtorEq, Nat.reduceEqDiff, Nat.reduceLT, Nat.reduceLeDiff, Nat.reduceAdd, Nat.reduceMul, Nat.reduceSub, Nat.reduceBEq, ↓reduceIte, bne_self_eq_false, Bool.and_false, Bool.false_and, Bool.true_or, Bool.false_or])
        | (refine call_of (h7) ?_ ?_
           · first | rfl | simp only [go_sem, List.getElem?_toArray, str_beq, reduceCtorEq, Nat.reduceEqDiff, Nat.reduceLT, Nat.reduceLeDiff, Nat.reduceAdd, Nat.reduceMul, Nat.reduceSub, Nat.reduceBEq, ↓reduceIte, bne_self_eq_false, Bool.and_false, Bool.false_and, Bool.true_or, Bool.false_or, shut_col]
           simp only [go_sem, List.getElem?_toArray, str_beq, reduceCtorEq, Nat.reduceEqDiff, Nat.reduceLT, Nat.reduceLeDiff, Nat.reduceAdd, Nat.reduceMul, Nat.reduceSub, Nat.reduceBEq, ↓reduceIte, bne_self_eq_false, Bool.and_false, Bool.false_and, Bool.true_or, Bool.false_or])
        | refine k_of (by assumption) ?_
        | refine tr_block ?_
        | refine tr_scope ?_
        | (refine tr_skip ?_; try simp only [ex_seq, ex_block])
        | (refine tr_label ?_; try simp only [ex_seq, ex_block])
        | (refine tr_exit ?_; try simp only [ex_seq_exit, ex_block_exit, Nat.reduceEqDiff, if_true, if_false, ex_seq, ex_block, reduceCtorEq, ↓reduceIte])
        | (refine tr_ret ?_; try simp only [ex_seq_ret, ex_block_ret]))
    refine tr_cond rfl (fun ht => ?_) (fun hf => ?_)
    · cases ht
    · repeat (first
          | refine tr_seq_k fun _ _ => ?_
          | (refine tr_region ?_; simp only [go_sem, List.getElem?_toArray, str_beq, reduceCtorEq, Nat.reduceEqDiff, Nat.reduceLT, Nat.reduceLeDiff, Nat.reduceAdd, Nat.reduceMul, Nat.reduceSub, Nat.reduceBEq, ↓reduceIte, bne_self_eq_false, Bool.and_false, Bool.false_and, Bool.true_or, Bool.false_or])
          | (refine tr_draw (id := 5) follows 10000 [1, 3, 7, 9, 15, 18, 23, 24, 26, 27] [0, 2, 1, 3, 4, 5, 6, 8, 7, 9, 10, 11, 12, 13, 14, 16, 17, 15, 18, 19, 20, 21, 22, 25, 23, 24, 26, 27, 28, 29] (by kernel_rfl) ?_; simp only [go_sem, List.getElem?_toArray, str_beq, reduceCtorEq, Nat.reduceEqDiff, Nat.reduceLT, Nat.reduceLeDiff, Nat.reduceAdd, Nat.reduceMul, Nat.reduceSub, Nat.reduceBEq, ↓reduceIte, bne_self_eq_false, Bool.and_false, Bool.false_and, Bool.true_or, Bool.false_or])
          | (refine call_of (la) ?_ ?_
             · first | rfl | simp only [go_sem, List.getElem?_toArray, str_beq, reduceCtorEq, Nat.reduceEqDiff, Nat.reduceLT, Nat.reduceLeDiff, Nat.reduceAdd, Nat.reduceMul, Nat.reduceSub, Nat.reduceBEq, ↓reduceIte, bne_self_eq_false, Bool.and_false, Bool.false_and, Bool.true_or, Bool.false_or, shut_col]
             simp only [go_sem, List.getElem?_toArray, str_beq, reduceCtorEq, Nat.reduceEqDiff, Nat.reduceLT, Nat.reduceLeDiff, Nat.reduceAdd, Nat.reduceMul, Nat.reduceSub, Nat.reduceBEq, ↓reduceIte, bne_self_eq_false, Bool.and_false, Bool.false_and, Bool.true_or, Bool.false_or])
          | refine k_of (by assumption) ?_
          | refine tr_block ?_
          | refine tr_scope ?_
          | (refine tr_skip ?_; try simp only [ex_seq, ex_block])
          | (refine tr_label ?_; try simp only [ex_seq, ex_block])
          | (refine tr_exit ?_; try simp only [ex_seq_exit, ex_block_exit, Nat.reduceEqDiff, if_true, if_false, ex_seq, ex_block, reduceCtorEq, ↓reduceIte])
          | (refine tr_ret ?_; try simp only [ex_seq_ret, ex_block_ret]))
      refine tr_cond rfl (fun ht => ?_) (fun hf => ?_)
      · repeat (first
            | refine tr_seq_k fun _ _ => ?_
            | (refine tr_region ?_; simp only [go_sem, List.getElem?_toArray, str_beq, reduceCtorEq, Nat.reduceEqDiff, Nat.reduceLT, Nat.reduceLeDiff, Nat.reduceAdd, Nat.reduceMul, Nat.reduceSub, Nat.reduceBEq, ↓reduceIte, bne_self_eq_false, Bool.and_false, Bool.false_and, Bool.true_or, Bool.false_or])
            | (refine tr_draw (id := 5) follows 10000 [1, 3, 7, 9, 15, 18, 23, 24, 26, 27] [0, 2, 1, 3, 4, 5, 6, 8, 7, 9, 10, 11, 12, 13, 14, 16, 17, 15, 18, 19, 20, 21, 22, 25, 23, 24, 26, 27, 28, 29] (by kernel_rfl) ?_; simp only [go_sem, List.getElem?_toArray, str_beq, reduceCtorEq, Nat.reduceEqDiff, Nat.reduceLT, Nat.reduceLeDiff, Nat.reduceAdd, Nat.reduceMul, Nat.reduceSub, Nat.reduceBEq, ↓reduceIte, bne_self_eq_false, Bool.and_false, Bool.false_and, Bool.true_or, Bool.false_or])
            | refine k_of (by assumption) ?_
            | refine tr_block ?_
            | refine tr_scope ?_
            | (refine tr_skip ?_; try simp only [ex_seq, ex_block])
            | (refine tr_label ?_; try simp only [ex_seq, ex_block])
            | (refine tr_exit ?_; try simp only [ex_seq_exit, ex_block_exit, Nat.reduceEqDiff, if_true, if_false, ex_seq, ex_block, reduceCtorEq, ↓reduceIte])
            | (refine tr_ret ?_; try simp only [ex_seq_ret, ex_block_ret]))
        refine (hQ _ _ [bA true] ?_ (fun m => rfl)).2 <;> simp only [go_sem, List.getElem?_toArray, str_beq, reduceCtorEq, Nat.reduceEqDiff, Nat.reduceLT, Nat.reduceLeDiff, Nat.reduceAdd, Nat.reduceMul, Nat.reduceSub, Nat.reduceBEq, ↓reduceIte, bne_self_eq_false, Bool.and_false, Bool.false_and, Bool.true_or, Bool.false_or, Tryd.f7]
      · cases hf
  | true =>
    rw [h1] at la
    cases h2 : lightA b with
    | false =>
      rw [h2] at lb
      refine does_of' Tryd.func7 rfl (by kernel_rfl) rfl Tryd.ntmps7 rfl rfl fun Q hQ => ?_
      repeat (first
          | refine tr_seq_k fun _ _ => ?_
          | (refine tr_region ?_; simp only [go_sem, List.getElem?_toArray, str_beq, reduceCtorEq, Nat.reduceEqDiff, Nat.reduceLT, Nat.reduceLeDiff, Nat.reduceAdd, Nat.reduceMul, Nat.reduceSub, Nat.reduceBEq, ↓reduceIte, bne_self_eq_false, Bool.and_false, Bool.false_and, Bool.true_or, Bool.false_or])
          | (refine tr_draw (id := 5) follows 10000 [1, 3, 7, 9, 15, 18, 23, 24, 26, 27] [0, 2, 1, 3, 4, 5, 6, 8, 7, 9, 10, 11, 12, 13, 14, 16, 17, 15, 18, 19, 20, 21, 22, 25, 23, 24, 26, 27, 28, 29] (by kernel_rfl) ?_; simp only [go_sem, List.getElem?_toArray, str_beq, reduceCtorEq, Nat.reduceEqDiff, Nat.reduceLT, Nat.reduceLeDiff, Nat.reduceAdd, Nat.reduceMul, Nat.reduceSub, Nat.reduceBEq, ↓reduceIte, bne_self_eq_false, Bool.and_false, Bool.false_and, Bool.true_or, Bool.false_or])
          | (refine call_of (h7) ?_ ?_
             · first | rfl | simp only [go_sem, List.getElem?_toArray, str_beq, reduceCtorEq, Nat.reduceEqDiff, Nat.reduceLT, Nat.reduceLeDiff, Nat.reduceAdd, Nat.reduceMul, Nat.reduceSub, Nat.reduceBEq, ↓reduceIte, bne_self_eq_false, Bool.and_false, Bool.false_and, Bool.true_or, Bool.false_or, shut_col]
             simp only [go_sem, List.getElem?_toArray, str_beq, reduceCtorEq, Nat.reduceEqDiff, Nat.reduceLT, Nat.reduceLeDiff, Nat.reduceAdd, Nat.reduceMul, Nat.reduceSub, Nat.reduceBEq, ↓reduceIte, bne_self_eq_false, Bool.and_false, Bool.false_and, Bool.true_or, Bool.false_or])
          | refine k_of (by assumption) ?_
          | refine tr_block ?_
          | refine tr_scope ?_
          | (refine tr_skip ?_; try simp only [ex_seq, ex_block])
          | (refine tr_label ?_; try simp only [ex_seq, ex_block])
          | (refine tr_exit ?_; try simp only [ex_seq_exit, ex_block_exit, Nat.reduceEqDiff, if_true, if_false, ex_seq, ex_block, reduceCtorEq, ↓reduceIte])
          | (refine tr_ret ?_; try simp only [ex_seq_ret, ex_block_ret]))
      refine tr_cond rfl (fun ht => ?_) (fun hf => ?_)
      · cases ht
      · repeat (first
            | refine tr_seq_k fun _ _ => ?_
            | (refine tr_region ?_; simp only [go_sem, List.getElem?_toArray, str_beq, reduceCtorEq, Nat.reduceEqDiff, Nat.reduceLT, Nat.reduceLeDiff, Nat.reduceAdd, Nat.reduceMul, Nat.reduceSub, Nat.reduceBEq, ↓reduceIte, bne_self_eq_false, Bool.and_false, Bool.false_and, Bool.true_or, Bool.false_or])
            | (refine tr_draw (id := 5) follows 10000 [1, 3, 7, 9, 15, 18, 23, 24, 26, 27] [0, 2, 1, 3, 4, 5, 6, 8, 7, 9, 10, 11, 12, 13, 14, 16, 17, 15, 18, 19, 20, 21, 22, 25, 23, 24, 26, 27, 28, 29] (by kernel_rfl) ?_; simp only [go_sem, List.getElem?_toArray, str_beq, reduceCtorEq, Nat.reduceEqDiff, Nat.reduceLT, Nat.reduceLeDiff, Nat.reduceAdd, Nat.reduceMul, Nat.reduceSub, Nat.reduceBEq, ↓reduceIte, bne_self_eq_false, Bool.and_false, Bool.false_and, Bool.true_or, Bool.false_or])
            | (refine call_of (la) ?_ ?_
               · first | rfl | simp only [go_sem, List.getElem?_toArray, str_beq, reduceCtorEq, Nat.reduceEqDiff, Nat.reduceLT, Nat.reduceLeDiff, Nat.reduceAdd, Nat.reduceMul, Nat.reduceSub, Nat.reduceBEq, ↓reduceIte, bne_self_eq_false, Bool.and_false, Bool.false_and, Bool.true_or, Bool.false_or, shut_col]
               simp only [go_sem, List.getElem?_toArray, str_beq, reduceCtorEq, Nat.reduceEqDiff, Nat.reduceLT, Nat.reduceLeDiff, Nat.reduceAdd, Nat.reduceMul, Nat.reduceSub, Nat.reduceBEq, ↓reduceIte, bne_self_eq_false, Bool.and_false, Bool.false_and, Bool.true_or, Bool.false_or])
            | (refine call_of (lb) ?_ ?_
               · first | rfl | simp only [go_sem, List.getElem?_toArray, str_beq, reduceCtorEq, Nat.reduceEqDiff, Nat.reduceLT, Nat.reduceLeDiff, Nat.reduceAdd, Nat.reduceMul, Nat.reduceSub, Nat.reduceBEq, ↓reduceIte, bne_self_eq_false, Bool.and_false, Bool.false_and, Bool.true_or, Bool.false_or, shut_col]
               simp only [go_sem, List.getElem?_toArray, str_beq, reduceCtorEq, Nat.reduceEqDiff, Nat.reduceLT, Nat.reduceLeDiff, Nat.reduceAdd, Nat.reduceMul, Nat.reduceSub, Nat.reduceBEq, ↓reduceIte, bne_self_eq_false, Bool.and_false, Bool.false_and, Bool.true_or, Bool.false_or])
            | refine k_of (by assumption) ?_
            | refine tr_block ?_
            | refine tr_scope ?_
            | (refine tr_skip ?_; try simp only [ex_seq, ex_block])
            | (refine tr_label ?_; try simp only [ex_seq, ex_block])
            | (refine tr_exit ?_; try simp only [ex_seq_exit, ex_block_exit, Nat.reduceEqDiff, if_true, if_false, ex_seq, ex_block, reduceCtorEq, ↓reduceIte])
            | (refine tr_ret ?_; try simp only [ex_seq_ret, ex_block_ret]))
        refine tr_cond rfl (fun ht => ?_) (fun hf => ?_)
        · repeat (first
              | refine tr_seq_k fun _ _ => ?_
              | (refine tr_region ?_; simp only [go_sem, List.getElem?_toArray, str_beq, reduceCtorEq, Nat.reduceEqDiff, Nat.reduceLT, Nat.reduceLeDiff, Nat.reduceAdd, Nat.reduceMul, Nat.reduceSub, Nat.reduceBEq, ↓reduceIte, bne_self_eq_false, Bool.and_false, Bool.false_and, Bool.true_or, Bool.false_or])
              | (refine tr_draw (id := 5) follows 10000 [1, 3, 7, 9, 15, 18, 23, 24, 26, 27] [0, 2, 1, 3, 4, 5, 6, 8, 7, 9, 10, 11, 12, 13, 14, 16, 17, 15, 18, 19, 20, 21, 22, 25, 23, 24, 26, 27, 28, 29] (by kernel_rfl) ?_; simp only [go_sem, List.getElem?_toArray, str_beq, reduceCtorEq, Nat.reduceEqDiff, Nat.reduceLT, Nat.reduceLeDiff, Nat.reduceAdd, Nat.reduceMul, Nat.reduceSub, Nat.reduceBEq, ↓reduceIte, bne_self_eq_false, Bool.and_false, Bool.false_and, Bool.true_or, Bool.false_or])
              | refine k_of (by assumption) ?_
              | refine tr_block ?_
              | refine tr_scope ?_
              | (refine tr_skip ?_; try simp only [ex_seq, ex_block])
              | (refine tr_label ?_; try simp only [ex_seq, ex_block])
              | (refine tr_exit ?_; try simp only [ex_seq_exit, ex_block_exit, Nat.reduceEqDiff, if_true, if_false, ex_seq, ex_block, reduceCtorEq, ↓reduceIte])
              | (refine tr_ret ?_; try simp only [ex_seq_ret, ex_block_ret]))
          refine (hQ _ _ [bA true] ?_ (fun m => rfl)).2 <;> simp only [go_sem, List.getElem?_toArray, str_beq, reduceCtorEq, Nat.reduceEqDiff, Nat.reduceLT, Nat.reduceLeDiff, Nat.reduceAdd, Nat.reduceMul, Nat.reduceSub, Nat.reduceBEq, ↓reduceIte, bne_self_eq_false, Bool.and_false, Bool.false_and, Bool.true_or, Bool.false_or, Tryd.f7]
        · cases hf
    | true =>
      rw [h2] at lb
      cases h3 : lightAs l 40 with
      | false =>
        rw [h3] at ll
        refine does_of' Tryd.func7 rfl (by kernel_rfl) rfl Tryd.ntmps7 rfl rfl fun Q hQ => ?_
        repeat (first
            | refine tr_seq_k fun _ _ => ?_
            | (refine tr_region ?_; simp only [go_sem, List.getElem?_toArray, str_beq, reduceCtorEq, Nat.reduceEqDiff, Nat.reduceLT, Nat.reduceLeDiff, Nat.reduceAdd, Nat.reduceMul, Nat.reduceSub, Nat.reduceBEq, ↓reduceIte, bne_self_eq_false, Bool.and_false, Bool.false_and, Bool.true_or, Bool.false_or])
            | (refine tr_draw (id := 5) follows 10000 [1, 3, 7, 9, 15, 18, 23, 24, 26, 27] [0, 2, 1, 3, 4, 5, 6, 8, 7, 9, 10, 11, 12, 13, 14, 16, 17, 15, 18, 19, 20, 21, 22, 25, 23, 24, 26, 27, 28, 29] (by kernel_rfl) ?_; simp only [go_sem, List.getElem?_toArray, str_beq, reduceCtorEq, Nat.reduceEqDiff, Nat.reduceLT, Nat.reduceLeDiff, Nat.reduceAdd, Nat.reduceMul, Nat.reduceSub, Nat.reduceBEq, ↓reduceIte, bne_self_eq_false, Bool.and_false, Bool.false_and, Bool.true_or, Bool.false_or])
            | (refine call_of (h7) ?_ ?_
               · first | rfl | simp only [go_sem, List.getElem?_toArray, str_beq, reduceCtorEq, Nat.reduceEqDiff, Nat.reduceLT, Nat.reduceLeDiff, Nat.reduceAdd, Nat.reduceMul, Nat.reduceSub, Nat.reduceBEq, ↓reduceIte, bne_self_eq_false, Bool.and_false, Bool.false_and, Bool.true_or, Bool.false_or, shut_col]
               simp only [go_sem, List.getElem?_toArray, str_beq, reduceCtorEq, Nat.reduceEqDiff, Nat.reduceLT, Nat.reduceLeDiff, Nat.reduceAdd, Nat.reduceMul, Nat.reduceSub, Nat.reduceBEq, ↓reduceIte, bne_self_eq_false, Bool.and_false, Bool.false_and, Bool.true_or, Bool.false_or])
            | refine k_of (by assumption) ?_
            | refine tr_block ?_
            | refine tr_scope ?_
            | (refine tr_skip ?_; try simp only [ex_seq, ex_block])
            | (refine tr_label ?_; try simp only [ex_seq, ex_block])
            | (refine tr_exit ?_; try simp only [ex_seq_exit, ex_block_exit, Nat.reduceEqDiff, if_true, if_false, ex_seq, ex_block, reduceCtorEq, ↓reduceIte])
            | (refine tr_ret ?_; try simp only [ex_seq_ret, ex_block_ret]))
        refine tr_cond rfl (fun ht => ?_) (fun hf => ?_)
        · cases ht
        · repeat (first
              | refine tr_seq_k fun _ _ => ?_
              | (refine tr_region ?_; simp only [go_sem, List.getElem?_toArray, str_beq, reduceCtorEq, Nat.reduceEqDiff, Nat.reduceLT, Nat.reduceLeDiff, Nat.reduceAdd, Nat.reduceMul, Nat.reduceSub, Nat.reduceBEq, ↓reduceIte, bne_self_eq_false, Bool.and_false, Bool.false_and, Bool.true_or, Bool.false_or])
              | (refine tr_draw (id := 5) follows 10000 [1, 3, 7, 9, 15, 18, 23, 24, 26, 27] [0, 2, 1, 3, 4, 5, 6, 8, 7, 9, 10, 11, 12, 13, 14, 16, 17, 15, 18, 19, 20, 21, 22, 25, 23, 24, 26, 27, 28, 29] (by kernel_rfl) ?_; simp only [go_sem, List.getElem?_toArray, str_beq, reduceCtorEq, Nat.reduceEqDiff, Nat.reduceLT, Nat.reduceLeDiff, Nat.reduceAdd, Nat.reduceMul, Nat.reduceSub, Nat.reduceBEq, ↓reduceIte, bne_self_eq_false, Bool.and_false, Bool.false_and, Bool.true_or, Bool.false_or])
              | (refine call_of (la) ?_ ?_
                 · first | rfl | simp only [go_sem, List.getElem?_toArray, str_beq, reduceCtorEq, Nat.reduceEqDiff, Nat.reduceLT, Nat.reduceLeDiff, Nat.reduceAdd, Nat.reduceMul, Nat.reduceSub, Nat.reduceBEq, ↓reduceIte, bne_self_eq_false, Bool.and_false, Bool.false_and, Bool.true_or, Bool.false_or, shut_col]
                 simp only [go_sem, List.getElem?_toArray, str_beq, reduceCtorEq, Nat.reduceEqDiff, Nat.reduceLT, Nat.reduceLeDiff, Nat.reduceAdd, Nat.reduceMul, Nat.reduceSub, Nat.reduceBEq, ↓reduceIte, bne_self_eq_false, Bool.and_false, Bool.false_and, Bool.true_or, Bool.false_or])
              | (refine call_of (lb) ?_ ?_
                 · first | rfl | simp only [go_sem, List.getElem?_toArray, str_beq, reduceCtorEq, Nat.reduceEqDiff, Nat.reduceLT, Nat.reduceLeDiff, Nat.reduceAdd, Nat.reduceMul, Nat.reduceSub, Nat.reduceBEq, ↓reduceIte, bne_self_eq_false, Bool.and_false, Bool.false_and, Bool.true_or, Bool.false_or, shut_col]
                 simp only [go_sem, List.getElem?_toArray, str_beq, reduceCtorEq, Nat.reduceEqDiff, Nat.reduceLT, Nat.reduceLeDiff, Nat.reduceAdd, Nat.reduceMul, Nat.reduceSub, Nat.reduceBEq, ↓reduceIte, bne_self_eq_false, Bool.and_false, Bool.false_and, Bool.true_or, Bool.false_or])
              | (refine call_of (ll) ?_ ?_
                 · first | rfl | simp only [go_sem, List.getElem?_toArray, str_beq, reduceCtorEq, Nat.reduceEqDiff, Nat.reduceLT, Nat.reduceLeDiff, Nat.reduceAdd, Nat.reduceMul, Nat.reduceSub, Nat.reduceBEq, ↓reduceIte, bne_self_eq_false, Bool.and_false, Bool.false_and, Bool.true_or, Bool.false_or, shut_col]
                 simp only [go_sem, List.getElem?_toArray, str_beq, reduceCtorEq, Nat.reduceEqDiff, Nat.reduceLT, Nat.reduceLeDiff, Nat.reduceAdd, Nat.reduceMul, Nat.reduceSub, Nat.reduceBEq, ↓reduceIte, bne_self_eq_false, Bool.and_false, Bool.false_and, Bool.true_or, Bool.false_or])
              | refine k_of (by assumption) ?_
              | refine tr_block ?_
              | refine tr_scope ?_
              | (refine tr_skip ?_; try simp only [ex_seq, ex_block])
              | (refine tr_label ?_; try simp only [ex_seq, ex_block])
              | (refine tr_exit ?_; try simp only [ex_seq_exit, ex_block_exit, Nat.reduceEqDiff, if_true, if_false, ex_seq, ex_block, reduceCtorEq, ↓reduceIte])
              | (refine tr_ret ?_; try simp only [ex_seq_ret, ex_block_ret]))
          refine tr_cond rfl (fun ht => ?_) (fun hf => ?_)
          · repeat (first
                | refine tr_seq_k fun _ _ => ?_
                | (refine tr_region ?_; simp only [go_sem, List.getElem?_toArray, str_beq, reduceCtorEq, Nat.reduceEqDiff, Nat.reduceLT, Nat.reduceLeDiff, Nat.reduceAdd, Nat.reduceMul, Nat.reduceSub, Nat.reduceBEq, ↓reduceIte, bne_self_eq_false, Bool.and_false, Bool.false_and, Bool.true_or, Bool.false_or])
                | (refine tr_draw (id := 5) follows 10000 [1, 3, 7, 9, 15, 18, 23, 24, 26, 27] [0, 2, 1, 3, 4, 5, 6, 8, 7, 9, 10, 11, 12, 13, 14, 16, 17, 15, 18, 19, 20, 21, 22, 25, 23, 24, 26, 27, 28, 29] (by kernel_rfl) ?_; simp only [go_sem, List.getElem?_toArray, str_beq, reduceCtorEq, Nat.reduceEqDiff, Nat.reduceLT, Nat.reduceLeDiff, Nat.reduceAdd, Nat.reduceMul, Nat.reduceSub, Nat.reduceBEq, ↓reduceIte, bne_self_eq_false, Bool.and_false, Bool.false_and, Bool.true_or, Bool.false_or])
                | refine k_of (by assumption) ?_
                | refine tr_block ?_
                | refine tr_scope ?_
                | (refine tr_skip ?_; try simp only [ex_seq, ex_block])
                | (refine tr_label ?_; try simp only [ex_seq, ex_block])
                | (refine tr_exit ?_; try simp only [ex_seq_exit, ex_block_exit, Nat.reduceEqDiff, if_true, if_false, ex_seq, ex_block, reduceCtorEq, ↓reduceIte])
                | (refine tr_ret ?_; try simp only [ex_seq_ret, ex_block_ret]))
            refine (hQ _ _ [bA true] ?_ (fun m => rfl)).2 <;> simp only [go_sem, List.getElem?_toArray, str_beq, reduceCtorEq, Nat.reduceEqDiff, Nat.reduceLT, Nat.reduceLeDiff, Nat.reduceAdd, Nat.reduceMul, Nat.reduceSub, Nat.reduceBEq, ↓reduceIte, bne_self_eq_false, Bool.and_false, Bool.false_and, Bool.true_or, Bool.false_or, Tryd.f7]
          · cases hf
      | true =>
        rw [h3] at ll
        have hl40 := lightAs_len' h3
        have hO := ownA_does l ex (by omega)
        have hD := distinct_does l l.isEmpty (by omega)
        have hR := r7dist_does l ex (by omega) gl
        have hdl := pdist_le l
        have sA' := sameA_does (pdist l) (pdist l) (pdist l).isEmpty (pdist l).isEmpty (by omega)
        rw [decide_eq_true rfl] at sA'
        have c1 := canon_does a
        have c2 := r7canon_does a ga
        have k1 := key_does a (light_csz h1)
        have k2 := r7key_does a ga (light_csz h1)
        have s1 := sameV_does a b
        have s2 := r7same_does a b ga gb
        have e := fun x y => bin_eqA2 x y (pcanon a) (pcanon a)
        rw [decide_eq_true rfl] at e
        simp only [pv_bind] at e
        have kk : decide (ptext (pcanon a) = ptext (pcanon a)) = true := decide_eq_true rfl
        generalize decide (pcanon a = pcanon b) = q at s1 s2
        refine does_of' Tryd.func7 rfl (by kernel_rfl) rfl Tryd.ntmps7 rfl rfl fun Q hQ => ?_
        repeat (first
            | refine tr_seq_k fun _ _ => ?_
            | (refine tr_region ?_; simp only [go_sem, List.getElem?_toArray, str_beq, reduceCtorEq, Nat.reduceEqDiff, Nat.reduceLT, Nat.reduceLeDiff, Nat.reduceAdd, Nat.reduceMul, Nat.reduceSub, Nat.reduceBEq, ↓reduceIte, bne_self_eq_false, Bool.and_false, Bool.false_and, Bool.true_or, Bool.false_or])
            | (refine tr_draw (id := 5) follows 10000 [1, 3, 7, 9, 15, 18, 23, 24, 26, 27] [0, 2, 1, 3, 4, 5, 6, 8, 7, 9, 10, 11, 12, 13, 14, 16, 17, 15, 18, 19, 20, 21, 22, 25, 23, 24, 26, 27, 28, 29] (by kernel_rfl) ?_; simp only [go_sem, List.getElem?_toArray, str_beq, reduceCtorEq, Nat.reduceEqDiff, Nat.reduceLT, Nat.reduceLeDiff, Nat.reduceAdd, Nat.reduceMul, Nat.reduceSub, Nat.reduceBEq, ↓reduceIte, bne_self_eq_false, Bool.and_false, Bool.false_and, Bool.true_or, Bool.false_or])
            | (refine call_of (h7) ?_ ?_
               · first | rfl | simp only [go_sem, List.getElem?_toArray, str_beq, reduceCtorEq, Nat.reduceEqDiff, Nat.reduceLT, Nat.reduceLeDiff, Nat.reduceAdd, Nat.reduceMul, Nat.reduceSub, Nat.reduceBEq, ↓reduceIte, bne_self_eq_false, Bool.and_false, Bool.false_and, Bool.true_or, Bool.false_or, shut_col]
               simp only [go_sem, List.getElem?_toArray, str_beq, reduceCtorEq, Nat.reduceEqDiff, Nat.reduceLT, Nat.reduceLeDiff, Nat.reduceAdd, Nat.reduceMul, Nat.reduceSub, Nat.reduceBEq, ↓reduceIte, bne_self_eq_false, Bool.and_false, Bool.false_and, Bool.true_or, Bool.false_or])
            | refine k_of (by assumption) ?_
            | refine tr_block ?_
            | refine tr_scope ?_
            | (refine tr_skip ?_; try simp only [ex_seq, ex_block])
            | (refine tr_label ?_; try simp only [ex_seq, ex_block])
            | (refine tr_exit ?_; try simp only [ex_seq_exit, ex_block_exit, Nat.reduceEqDiff, if_true, if_false, ex_seq, ex_block, reduceCtorEq, ↓reduceIte])
            | (refine tr_ret ?_; try simp only [ex_seq_ret, ex_block_ret]))
        refine tr_cond rfl (fun ht => ?_) (fun hf => ?_)
        · cases ht
        · repeat (first
              | refine tr_seq_k fun _ _ => ?_
              | (refine tr_region ?_; simp only [go_sem, List.getElem?_toArray, str_beq, reduceCtorEq, Nat.reduceEqDiff, Nat.reduceLT, Nat.reduceLeDiff, Nat.reduceAdd, Nat.reduceMul, Nat.reduceSub, Nat.reduceBEq, ↓reduceIte, bne_self_eq_false, Bool.and_false, Bool.false_and, Bool.true_or, Bool.false_or])
              | (refine tr_draw (id := 5) follows 10000 [1, 3, 7, 9, 15, 18, 23, 24, 26, 27] [0, 2, 1, 3, 4, 5, 6, 8, 7, 9, 10, 11, 12, 13, 14, 16, 17, 15, 18, 19, 20, 21, 22, 25, 23, 24, 26, 27, 28, 29] (by kernel_rfl) ?_; simp only [go_sem, List.getElem?_toArray, str_beq, reduceCtorEq, Nat.reduceEqDiff, Nat.reduceLT, Nat.reduceLeDiff, Nat.reduceAdd, Nat.reduceMul, Nat.reduceSub, Nat.reduceBEq, ↓reduceIte, bne_self_eq_false, Bool.and_false, Bool.false_and, Bool.true_or, Bool.false_or])
              | (refine call_of (la) ?_ ?_
                 · first | rfl | simp only [go_sem, List.getElem?_toArray, str_beq, reduceCtorEq, Nat.reduceEqDiff, Nat.reduceLT, Nat.reduceLeDiff, Nat.reduceAdd, Nat.reduceMul, Nat.reduceSub, Nat.reduceBEq, ↓reduceIte, bne_self_eq_false, Bool.and_false, Bool.false_and, Bool.true_or, Bool.false_or, shut_col]
                 simp only [go_sem, List.getElem?_toArray, str_beq, reduceCtorEq, Nat.reduceEqDiff, Nat.reduceLT, Nat.reduceLeDiff, Nat.reduceAdd, Nat.reduceMul, Nat.reduceSub, Nat.reduceBEq, ↓reduceIte, bne_self_eq_false, Bool.and_false, Bool.false_and, Bool.true_or, Bool.false_or])
              | (refine call_of (lb) ?_ ?_
                 · first | rfl | simp only [go_sem, List.getElem?_toArray, str_beq, reduceCtorEq, Nat.reduceEqDiff, Nat.reduceLT, Nat.reduceLeDiff, Nat.reduceAdd, Nat.reduceMul, Nat.reduceSub, Nat.reduceBEq, ↓reduceIte, bne_self_eq_false, Bool.and_false, Bool.false_and, Bool.true_or, Bool.false_or, shut_col]
                 simp only [go_sem, List.getElem?_toArray, str_beq, reduceCtorEq, Nat.reduceEqDiff, Nat.reduceLT, Nat.reduceLeDiff, Nat.reduceAdd, Nat.reduceMul, Nat.reduceSub, Nat.reduceBEq, ↓reduceIte, bne_self_eq_false, Bool.and_false, Bool.false_and, Bool.true_or, Bool.false_or])
              | (refine call_of (ll) ?_ ?_
                 · first | rfl | simp only [go_sem, List.getElem?_toArray, str_beq, reduceCtorEq, Nat.reduceEqDiff, Nat.reduceLT, Nat.reduceLeDiff, Nat.reduceAdd, Nat.reduceMul, Nat.reduceSub, Nat.reduceBEq, ↓reduceIte, bne_self_eq_false, Bool.and_false, Bool.false_and, Bool.true_or, Bool.false_or, shut_col]
                 simp only [go_sem, List.getElem?_toArray, str_beq, reduceCtorEq, Nat.reduceEqDiff, Nat.reduceLT, Nat.reduceLeDiff, Nat.reduceAdd, Nat.reduceMul, Nat.reduceSub, Nat.reduceBEq, ↓reduceIte, bne_self_eq_false, Bool.and_false, Bool.false_and, Bool.true_or, Bool.false_or])
              | refine k_of (by assumption) ?_
              | refine tr_block ?_
              | refine tr_scope ?_
              | (refine tr_skip ?_; try simp only [ex_seq, ex_block])
              | (refine tr_label ?_; try simp only [ex_seq, ex_block])
              | (refine tr_exit ?_; try simp only [ex_seq_exit, ex_block_exit, Nat.reduceEqDiff, if_true, if_false, ex_seq, ex_block, reduceCtorEq, ↓reduceIte])
              | (refine tr_ret ?_; try simp only [ex_seq_ret, ex_block_ret]))
          refine tr_cond rfl (fun ht => ?_) (fun hf => ?_)
          · cases ht
          · repeat (first
                | refine tr_seq_k fun _ _ => ?_
                | (refine tr_region ?_; simp only [go_sem, List.getElem?_toArray, str_beq, reduceCtorEq, Nat.reduceEqDiff, Nat.reduceLT, Nat.reduceLeDiff, Nat.reduceAdd, Nat.reduceMul, Nat.reduceSub, Nat.reduceBEq, ↓reduceIte, bne_self_eq_false, Bool.and_false, Bool.false_and, Bool.true_or, Bool.false_or, e, kk, bin_bb])
                | (refine tr_draw (id := 5) follows 10000 [1, 3, 7, 9, 15, 18, 23, 24, 26, 27] [0, 2, 1, 3, 4, 5, 6, 8, 7, 9, 10, 11, 12, 13, 14, 16, 17, 15, 18, 19, 20, 21, 22, 25, 23, 24, 26, 27, 28, 29] (by kernel_rfl) ?_; simp only [go_sem, List.getElem?_toArray, str_beq, reduceCtorEq, Nat.reduceEqDiff, Nat.reduceLT, Nat.reduceLeDiff, Nat.reduceAdd, Nat.reduceMul, Nat.reduceSub, Nat.reduceBEq, ↓reduceIte, bne_self_eq_false, Bool.and_false, Bool.false_and, Bool.true_or, Bool.false_or, e, kk, bin_bb])
                | (refine call_of (c1) ?_ ?_
                   · first | rfl | simp only [go_sem, List.getElem?_toArray, str_beq, reduceCtorEq, Nat.reduceEqDiff, Nat.reduceLT, Nat.reduceLeDiff, Nat.reduceAdd, Nat.reduceMul, Nat.reduceSub, Nat.reduceBEq, ↓reduceIte, bne_self_eq_false, Bool.and_false, Bool.false_and, Bool.true_or, Bool.false_or, e, kk, bin_bb, shut_col]
                   simp only [go_sem, List.getElem?_toArray, str_beq, reduceCtorEq, Nat.reduceEqDiff, Nat.reduceLT, Nat.reduceLeDiff, Nat.reduceAdd, Nat.reduceMul, Nat.reduceSub, Nat.reduceBEq, ↓reduceIte, bne_self_eq_false, Bool.and_false, Bool.false_and, Bool.true_or, Bool.false_or, e, kk, bin_bb])
                | (refine call_of (c2) ?_ ?_
                   · first | rfl | simp only [go_sem, List.getElem?_toArray, str_beq, reduceCtorEq, Nat.reduceEqDiff, Nat.reduceLT, Nat.reduceLeDiff, Nat.reduceAdd, Nat.reduceMul, Nat.reduceSub, Nat.reduceBEq, ↓reduceIte, bne_self_eq_false, Bool.and_false, Bool.false_and, Bool.true_or, Bool.false_or, e, kk, bin_bb, shut_col]
                   simp only [go_sem, List.getElem?_toArray, str_beq, reduceCtorEq, Nat.reduceEqDiff, Nat.reduceLT, Nat.reduceLeDiff, Nat.reduceAdd, Nat.reduceMul, Nat.reduceSub, Nat.reduceBEq, ↓reduceIte, bne_self_eq_false, Bool.and_false, Bool.false_and, Bool.true_or, Bool.false_or, e, kk, bin_bb])
                | (refine call_of (k1) ?_ ?_
                   · first | rfl | simp only [go_sem, List.getElem?_toArray, str_beq, reduceCtorEq, Nat.reduceEqDiff, Nat.reduceLT, Nat.reduceLeDiff, Nat.reduceAdd, Nat.reduceMul, Nat.reduceSub, Nat.reduceBEq, ↓reduceIte, bne_self_eq_false, Bool.and_false, Bool.false_and, Bool.true_or, Bool.false_or, e, kk, bin_bb, shut_col]
                   simp only [go_sem, List.getElem?_toArray, str_beq, reduceCtorEq, Nat.reduceEqDiff, Nat.reduceLT, Nat.reduceLeDiff, Nat.reduceAdd, Nat.reduceMul, Nat.reduceSub, Nat.reduceBEq, ↓reduceIte, bne_self_eq_false, Bool.and_false, Bool.false_and, Bool.true_or, Bool.false_or, e, kk, bin_bb])
                | (refine call_of (k2) ?_ ?_
                   · first | rfl | simp only [go_sem, List.getElem?_toArray, str_beq, reduceCtorEq, Nat.reduceEqDiff, Nat.reduceLT, Nat.reduceLeDiff, Nat.reduceAdd, Nat.reduceMul, Nat.reduceSub, Nat.reduceBEq, ↓reduceIte, bne_self_eq_false, Bool.and_false, Bool.false_and, Bool.true_or, Bool.false_or, e, kk, bin_bb, shut_col]
                   simp only [go_sem, List.getElem?_toArray, str_beq, reduceCtorEq, Nat.reduceEqDiff, Nat.reduceLT, Nat.reduceLeDiff, Nat.reduceAdd, Nat.reduceMul, Nat.reduceSub, Nat.reduceBEq, ↓reduceIte, bne_self_eq_false, Bool.and_false, Bool.false_and, Bool.true_or, Bool.false_or, e, kk, bin_bb])
                | (refine call_of (s1) ?_ ?_
                   · first | rfl | simp only [go_sem, List.getElem?_toArray, str_beq, reduceCtorEq, Nat.reduceEqDiff, Nat.reduceLT, Nat.reduceLeDiff, Nat.reduceAdd, Nat.reduceMul, Nat.reduceSub, Nat.reduceBEq, ↓reduceIte, bne_self_eq_false, Bool.and_false, Bool.false_and, Bool.true_or, Bool.false_or, e, kk, bin_bb, shut_col]
                   simp only [go_sem, List.getElem?_toArray, str_beq, reduceCtorEq, Nat.reduceEqDiff, Nat.reduceLT, Nat.reduceLeDiff, Nat.reduceAdd, Nat.reduceMul, Nat.reduceSub, Nat.reduceBEq, ↓reduceIte, bne_self_eq_false, Bool.and_false, Bool.false_and, Bool.true_or, Bool.false_or, e, kk, bin_bb])
                | (refine call_of (s2) ?_ ?_
                   · first | rfl | simp only [go_sem, List.getElem?_toArray, str_beq, reduceCtorEq, Nat.reduceEqDiff, Nat.reduceLT, Nat.reduceLeDiff, Nat.reduceAdd, Nat.reduceMul, Nat.reduceSub, Nat.reduceBEq, ↓reduceIte, bne_self_eq_false, Bool.and_false, Bool.false_and, Bool.true_or, Bool.false_or, e, kk, bin_bb, shut_col]
                   simp only [go_sem, List.getElem?_toArray, str_beq, reduceCtorEq, Nat.reduceEqDiff, Nat.reduceLT, Nat.reduceLeDiff, Nat.reduceAdd, Nat.reduceMul, Nat.reduceSub, Nat.reduceBEq, ↓reduceIte, bne_self_eq_false, Bool.and_false, Bool.false_and, Bool.true_or, Bool.false_or, e, kk, bin_bb])
                | (refine call_of (hO) ?_ ?_
                   · first | rfl | simp only [go_sem, List.getElem?_toArray, str_beq, reduceCtorEq, Nat.reduceEqDiff, Nat.reduceLT, Nat.reduceLeDiff, Nat.reduceAdd, Nat.reduceMul, Nat.reduceSub, Nat.reduceBEq, ↓reduceIte, bne_self_eq_false, Bool.and_false, Bool.false_and, Bool.true_or, Bool.false_or, e, kk, bin_bb, shut_col]
                   simp only [go_sem, List.getElem?_toArray, str_beq, reduceCtorEq, Nat.reduceEqDiff, Nat.reduceLT, Nat.reduceLeDiff, Nat.reduceAdd, Nat.reduceMul, Nat.reduceSub, Nat.reduceBEq, ↓reduceIte, bne_self_eq_false, Bool.and_false, Bool.false_and, Bool.true_or, Bool.false_or, e, kk, bin_bb])
                | (refine call_of (hD) ?_ ?_
                   · first | rfl | simp only [go_sem, List.getElem?_toArray, str_beq, reduceCtorEq, Nat.reduceEqDiff, Nat.reduceLT, Nat.reduceLeDiff, Nat.reduceAdd, Nat.reduceMul, Nat.reduceSub, Nat.reduceBEq, ↓reduceIte, bne_self_eq_false, Bool.and_false, Bool.false_and, Bool.true_or, Bool.false_or, e, kk, bin_bb, shut_col]
                   simp only [go_sem, List.getElem?_toArray, str_beq, reduceCtorEq, Nat.reduceEqDiff, Nat.reduceLT, Nat.reduceLeDiff, Nat.reduceAdd, Nat.reduceMul, Nat.reduceSub, Nat.reduceBEq, ↓reduceIte, bne_self_eq_false, Bool.and_false, Bool.false_and, Bool.true_or, Bool.false_or, e, kk, bin_bb])
                | (refine call_of (hR) ?_ ?_
                   · first | rfl | simp only [go_sem, List.getElem?_toArray, str_beq, reduceCtorEq, Nat.reduceEqDiff, Nat.reduceLT, Nat.reduceLeDiff, Nat.reduceAdd, Nat.reduceMul, Nat.reduceSub, Nat.reduceBEq, ↓reduceIte, bne_self_eq_false, Bool.and_false, Bool.false_and, Bool.true_or, Bool.false_or, e, kk, bin_bb, shut_col]
                   simp only [go_sem, List.getElem?_toArray, str_beq, reduceCtorEq, Nat.reduceEqDiff, Nat.reduceLT, Nat.reduceLeDiff, Nat.reduceAdd, Nat.reduceMul, Nat.reduceSub, Nat.reduceBEq, ↓reduceIte, bne_self_eq_false, Bool.and_false, Bool.false_and, Bool.true_or, Bool.false_or, e, kk, bin_bb])
                | (refine call_of (sA') ?_ ?_
                   · first | rfl | simp only [go_sem, List.getElem?_toArray, str_beq, reduceCtorEq, Nat.reduceEqDiff, Nat.reduceLT, Nat.reduceLeDiff, Nat.reduceAdd, Nat.reduceMul, Nat.reduceSub, Nat.reduceBEq, ↓reduceIte, bne_self_eq_false, Bool.and_false, Bool.false_and, Bool.true_or, Bool.false_or, e, kk, bin_bb, shut_col]
                   simp only [go_sem, List.getElem?_toArray, str_beq, reduceCtorEq, Nat.reduceEqDiff, Nat.reduceLT, Nat.reduceLeDiff, Nat.reduceAdd, Nat.reduceMul, Nat.reduceSub, Nat.reduceBEq, ↓reduceIte, bne_self_eq_false, Bool.and_false, Bool.false_and, Bool.true_or, Bool.false_or, e, kk, bin_bb])
                | refine k_of (by assumption) ?_
                | refine tr_block ?_
                | refine tr_scope ?_
                | (refine tr_skip ?_; try simp only [ex_seq, ex_block])
                | (refine tr_label ?_; try simp only [ex_seq, ex_block])
                | (refine tr_exit ?_; try simp only [ex_seq_exit, ex_block_exit, Nat.reduceEqDiff, if_true, if_false, ex_seq, ex_block, reduceCtorEq, ↓reduceIte])
                | (refine tr_ret ?_; try simp only [ex_seq_ret, ex_block_ret]))
            refine (hQ _ _ [bA true] ?_ (fun m => rfl)).2 <;> simp only [go_sem, List.getElem?_toArray, str_beq, reduceCtorEq, Nat.reduceEqDiff, Nat.reduceLT, Nat.reduceLeDiff, Nat.reduceAdd, Nat.reduceMul, Nat.reduceSub, Nat.reduceBEq, ↓reduceIte, bne_self_eq_false, Bool.and_false, Bool.false_and, Bool.true_or, Bool.false_or, Tryd.f7]
end Go.Proofs.YtlnlnpbjgcickaaDoor

/-
  Chapter 7: variants: the plain laws of the statement VariantBoth.
-/
set_option linter.unusedSimpArgs false
set_option linter.unusedVariables false
namespace Go.Proofs.YtlnlnpbjgcickaaDoor
open Go.Vs Go.Vs.Ab Go.RowKit

/-! ### canonical atoms that may be -/
theorem vname_var {n : Nat} (h : n < 4) : pvariable (vname n) = true := by
  obtain rfl | rfl | rfl | rfl : n = 0 ∨ n = 1 ∨ n = 2 ∨ n = 3 := by omega
  all_goals decide +kernel
theorem pct_v (V : List ByteArray) (t : Tm) : (pct V t).v = t.v := by
  unfold pct
  split
  · rename_i h; rw [h]
  · rfl
theorem canon_check {a : Atm} (h : pcheck3 a = 0) : pcheck3 (pcanon a) = 0 := by
  obtain ⟨h1, h2, h3, h4, h5, h6⟩ := check3_zero h
  have hc := count_n h3 h4
  refine check3_ok h1 h2 h3 h4 (termsB_iff.2 fun k hk hn => ?_) (restB_iff.2 fun k hk hn => ?_)
  · have hn' : (k : Int) < a.n := hn
    have hkc : k < a.count := by omega
    rw [pcanon_arg hkc]
    have := termsB_iff.1 h5 k hk hn'
    unfold pct
    split
    · rename_i hv
      have hm := name_mem hkc hv
      have hp := posOf_lt hm
      have := pvars_len a
      unfold ptermok
      rw [if_pos rfl]
      exact vname_var (by omega)
    · exact this
  · have hn' : ¬ (k : Int) < a.n := hn
    rw [pcanon_rest (by omega) hk]
    exact restB_iff.1 h6 k hk hn'
theorem canon_ground (a : Atm) : (pcanon a).ground = a.ground := by
  rw [Bool.eq_iff_iff, ground_iff, ground_iff]
  constructor
  · intro h k hk
    have := h k hk
    rwa [pcanon_arg hk, pct_v] at this
  · intro h k hk
    have hk' : k < a.count := hk
    rw [pcanon_arg hk', pct_v]
    exact h k hk'
theorem canon_id {a : Atm} (h : a.ground = true) : pcanon a = a := by
  refine atm_ext rfl rfl rfl fun i hi => ?_
  by_cases hc : i < a.count
  · rw [pcanon_arg hc]
    unfold pct
    rw [ground_iff.1 h i hc]
    rfl
  · exact pcanon_rest (Nat.le_of_not_lt hc) hi
theorem tm_ext {s t : Tm} (h1 : s.v = t.v) (h2 : s.name = t.name) : s = t := by
  cases s; cases t; simp only at h1 h2; rw [h1, h2]

/-! ### each under the other one -/
def fwd (a b : Atm) (x : ByteArray) : ByteArray :=
  match (List.range 4).find? (fun i => decide (i < a.count) && ((a.arg i).v && decide ((a.arg i).name = x))) with
  | some i => (b.arg i).name
  | none => x
theorem half_under {a b : Atm} (ha : pcheck3 a = 0) (h : pcanon a = pcanon b) : pund a b = true := by
  obtain ⟨_, _, h3, h4, _⟩ := check3_zero ha
  have hs : (pcanon a).says = (pcanon b).says := by rw [h]
  change a.says = b.says at hs
  have hp : (pcanon a).pred = (pcanon b).pred := by rw [h]
  change a.pred = b.pred at hp
  have hn : (pcanon a).n = (pcanon b).n := by rw [h]
  change a.n = b.n at hn
  have hc : a.count = b.count := by unfold Atm.count; rw [hn]
  have key : ∀ i, i < a.count → pct (pnames a true) (a.arg i) = pct (pnames b true) (b.arg i) := fun i hi => by
    rw [← pcanon_arg hi, ← pcanon_arg (a := b) (by omega), h]
  have hv : ∀ i, i < a.count → (a.arg i).v = (b.arg i).v := fun i hi => by
    have := congrArg Tm.v (key i hi)
    rwa [pct_v, pct_v] at this
  refine pund_iff.2 ⟨palike_iff.2 ⟨hs, hp, hn, h3, h4⟩, fun i hi hbv => ?_, fun i j hi hj hbv he => ?_⟩
  · have := key i hi
    have hav := (hv i hi).trans hbv
    unfold pct at this
    rw [hav, hbv] at this
    exact this.symm
  · have h1 := key i hi
    have h2 := key j hj
    rw [← he, ← h1] at h2
    have vi := (hv i hi).trans hbv
    have vj : (a.arg j).v = true := (hv j hj).trans (by rw [← he]; exact hbv)
    unfold pct at h2
    rw [if_pos vi, if_pos vj] at h2
    have h3 := congrArg Tm.name h2
    have mi := name_mem hi vi
    have mj := name_mem hj vj
    have pi := posOf_lt mi
    have pj := posOf_lt mj
    have hl := pvars_len a
    have := posOf_inj mj mi (vname_inj (by omega) (by omega) h3)
    exact tm_ext (vi.trans vj.symm) this.symm
theorem under_both {a b : Atm} (ha : pcheck3 a = 0) (hb : pcheck3 b = 0) : (pund a b && pund b a) = decide (pcanon a = pcanon b) := by
  rw [Bool.eq_iff_iff, decide_eq_true_eq, Bool.and_eq_true]
  constructor
  · rintro ⟨h1, h2⟩
    obtain ⟨l1, c1, e1⟩ := pund_iff.1 h1
    obtain ⟨_, c2, e2⟩ := pund_iff.1 h2
    have hc := alike_count l1
    have h4 := a.count_le
    obtain ⟨s1, s2, s3, s4, s5⟩ := palike_iff.1 l1
    have hv : ∀ i, i < a.count → (a.arg i).v = (b.arg i).v := fun i hi => by
      cases hx : (a.arg i).v with
      | false => rw [← c2 i (by omega) hx]; exact hx.symm
      | true =>
        cases hy : (b.arg i).v with
        | true => rfl
        | false =>
          have := c1 i hi hy
          rw [this, hx] at hy
          cases hy
    have hf : ∀ i, i < a.count → (a.arg i).v = true → fwd a b (a.arg i).name = (b.arg i).name := fun i hi hx => by
      unfold fwd
      cases hfd : (List.range 4).find? (fun j => decide (j < a.count) && ((a.arg j).v && decide ((a.arg j).name = (a.arg i).name))) with
      | none =>
        rw [List.find?_eq_none] at hfd
        have := hfd i (List.mem_range.2 (by omega))
        simp [hi, hx] at this
      | some j =>
        have hj := List.find?_some hfd
        simp only [Bool.and_eq_true, decide_eq_true_eq] at hj
        have he : a.arg j = a.arg i := tm_ext (hj.2.1.trans hx.symm) hj.2.2
        have := e2 j i (by omega) (by omega) hj.2.1 he
        show (b.arg j).name = _
        rw [this]
    have hren : aren (fwd a b) a = b := by
      refine atm_ext s1 s2 s3 fun i hi => ?_
      by_cases hic : i < a.count
      · rw [aren_arg hic]
        unfold rt
        split
        · rename_i hx
          exact tm_ext (hx.symm.trans (hv i hic)) (hf i hic hx)
        · rename_i hx
          exact c2 i (by omega) (by simpa using hx)
      · rw [aren_rest (Nat.le_of_not_lt hic) hi]
        obtain ⟨_, _, a3, a4, _, a6⟩ := check3_zero ha
        obtain ⟨_, _, b3, b4, _, b6⟩ := check3_zero hb
        have ca := count_n a3 a4
        have cb := count_n b3 b4
        rw [restB_iff.1 a6 i hi (by omega), restB_iff.1 b6 i hi (by omega)]
    have hinj : ∀ x ∈ pnames a true, ∀ y ∈ pnames a true, fwd a b x = fwd a b y → x = y := fun x hx y hy e => by
      obtain ⟨i, i1, i2, rfl⟩ := (mem_pnamesK a.count_le).1 hx
      obtain ⟨j, j1, j2, rfl⟩ := (mem_pnamesK a.count_le).1 hy
      rw [hf i i1 i2, hf j j1 j2] at e
      have hb : b.arg i = b.arg j := tm_ext (by rw [← hv i i1, ← hv j j1, i2, j2]) e
      have := e1 i j i1 j1 (by rw [← hv i i1]; exact i2) hb
      rw [this]
    have := canon_ren hinj
    rw [hren] at this
    exact this.symm
  · intro h
    exact ⟨half_under ha h, half_under hb h.symm⟩

/-! ### different atoms that may be have different texts -/
theorem run_split {p : UInt8 → Bool} : ∀ {x y r s : List UInt8}, (∀ c ∈ x, p c = true) → (∀ c ∈ y, p c = true) → headL p r = false → headL p s = false → x ++ r = y ++ s → x = y ∧ r = s
  | [], [], r, s, _, _, _, _, h => ⟨rfl, h⟩
  | [], d :: y, r, s, _, hy, hr, _, h => by
    rw [List.nil_append] at h
    subst h
    have := hy d (by simp)
    simp only [List.cons_append, headL] at hr
    rw [this] at hr
    cases hr
  | c :: x, [], r, s, hx, _, _, hs, h => by
    rw [List.nil_append] at h
    subst h
    have := hx c (by simp)
    simp only [List.cons_append, headL] at hs
    rw [this] at hs
    cases hs
  | c :: x, d :: y, r, s, hx, hy, hr, hs, h => by
    simp only [List.cons_append, List.cons.injEq] at h
    obtain ⟨e1, e2⟩ := h
    obtain ⟨g1, g2⟩ := run_split (fun u hu => hx u (by simp [hu])) (fun u hu => hy u (by simp [hu])) hr hs e2
    exact ⟨by rw [e1, g1], g2⟩
def jt : List (List UInt8) → List UInt8
  | [] => [41]
  | [x] => x ++ [41]
  | x :: y :: r => x ++ (44 :: 32 :: jt (y :: r))
theorem jt_eq : ∀ l : List (List UInt8), l ≠ [] → Lib.join l [44, 32] ++ [41] = jt l
  | [], h => absurd rfl h
  | [x], _ => by rw [Lib.join_one]; rfl
  | x :: y :: r, _ => by
    have := jt_eq (y :: r) (by simp)
    show _ = x ++ (44 :: 32 :: jt (y :: r))
    rw [← this]
    simp only [Lib.join, List.intercalate, List.intersperse_cons_cons, List.flatten_cons, List.append_assoc]
    rfl
theorem jt_inj {p : UInt8 → Bool} (h1 : p 41 = false) (h2 : p 44 = false) : ∀ (l m : List (List UInt8)), l ≠ [] → m ≠ [] → (∀ x ∈ l, ∀ c ∈ x, p c = true) → (∀ x ∈ m, ∀ c ∈ x, p c = true) → jt l = jt m → l = m
  | [], _, h, _, _, _, _ => absurd rfl h
  | _ :: _, [], _, h, _, _, _ => absurd rfl h
  | [x], [y], _, _, hl, hm, h => by
    have := (run_split (r := [41]) (s := [41]) (hl x (by simp)) (hm y (by simp)) h1 h1 h).1
    rw [this]
  | [x], y :: z :: m, _, _, hl, hm, h => by
    have := (run_split (r := [41]) (s := 44 :: 32 :: jt (z :: m)) (hl x (by simp)) (hm y (by simp)) h1 h2 h).2
    exact absurd (List.cons.inj this).1 (by decide)
  | x :: z :: l, [y], _, _, hl, hm, h => by
    have := (run_split (r := 44 :: 32 :: jt (z :: l)) (s := [41]) (hl x (by simp)) (hm y (by simp)) h2 h1 h).2
    exact absurd (List.cons.inj this).1 (by decide)
  | x :: z :: l, y :: u :: m, _, _, hl, hm, h => by
    obtain ⟨e1, e2⟩ := run_split (r := 44 :: 32 :: jt (z :: l)) (s := 44 :: 32 :: jt (u :: m)) (hl x (by simp)) (hm y (by simp)) h2 h2 h
    have e3 : jt (z :: l) = jt (u :: m) := by simpa using e2
    rw [e1, jt_inj h1 h2 (z :: l) (u :: m) (by simp) (by simp) (fun x hx => hl x (by simp at hx ⊢; exact Or.inr hx)) (fun x hx => hm x (by simp at hx ⊢; exact Or.inr hx)) e3]

theorem const_run {s : ByteArray} (h : pconstant s = true) : ∀ c ∈ lts s, varB c = true := fun c hc => by
  unfold pconstant pconst0 at h
  simp only [Bool.and_eq_true, List.all_eq_true] at h
  have := h.1.2 c hc
  unfold constB at this
  unfold varB
  simp only [Bool.or_eq_true] at this ⊢
  rcases this with (h | h) | h
  · exact Or.inl (Or.inl (Or.inl h))
  · exact Or.inl (Or.inr h)
  · exact Or.inr h
theorem prin_run {s : ByteArray} (h : pprincipal s = true) : ∀ c ∈ lts s, varB c = true := by
  unfold pprincipal at h
  simp only [Bool.and_eq_true] at h
  exact const_run h.1
theorem term_run {t : Tm} (h : ptermok t = true) : ∀ c ∈ lts t.name, varB c = true := by
  unfold ptermok at h
  split at h
  · unfold pvariable at h
    simp only [Bool.and_eq_true, List.all_eq_true] at h
    exact h.2
  · exact const_run h
theorem term_kind {s t : Tm} (hs : ptermok s = true) (ht : ptermok t = true) (h : s.name = t.name) : s = t := by
  have key : ∀ n : ByteArray, pvariable n = true → pconstant n = true → False := fun n h1 h2 => by
    unfold pvariable at h1
    unfold pconstant pconst0 at h2
    simp only [Bool.and_eq_true, List.all_eq_true] at h1 h2
    have h3 := h1.1.2
    unfold headB at h3
    cases hl : lts n with
    | nil => rw [hl] at h3; cases h3
    | cons c r =>
      have h4 := h2.1.2 c (by rw [hl]; simp)
      rw [hl] at h3
      have h3 : upperB c = true := h3
      unfold upperB at h3
      unfold constB lowerB digB underB at h4
      simp only [Bool.and_eq_true, Bool.or_eq_true, decide_eq_true_eq] at h3 h4
      omega
  unfold ptermok at hs ht
  cases h1 : s.v <;> cases h2 : t.v <;> rw [h1] at hs <;> rw [h2] at ht
  · exact tm_ext (by rw [h1, h2]) h
  · exact (key _ ht (by rw [← h]; exact hs)).elim
  · exact (key _ hs (by rw [h]; exact ht)).elim
  · exact tm_ext (by rw [h1, h2]) h
theorem lts_add (a b : ByteArray) : lts (a ++ b) = lts a ++ lts b := by
  simp only [lts, ByteArray.data_append, Array.toList_append]
def saidL (a : Atm) : List UInt8 := if 0 < a.count then 40 :: jt ((anames a a.count).map lts) else []
theorem said_lts (a : Atm) : lts (psaid a) = lts a.pred ++ saidL a := by
  unfold psaid saidL
  split
  · rename_i h
    have hne : (anames a a.count).map lts ≠ [] := by
      intro e
      have := congrArg List.length e
      simp [anames] at this
      omega
    rw [psaid_join a _ h, lts_add, lts_add, lts_add, ← jt_eq _ hne]
    simp only [List.append_assoc]
    rfl
  · simp
theorem text_inj {a b : Atm} (ha : pcheck3 a = 0) (hb : pcheck3 b = 0) (h : ptext a = ptext b) : a = b := by
  obtain ⟨a1, a2, a3, a4, a5, a6⟩ := check3_zero ha
  obtain ⟨b1, b2, b3, b4, b5, b6⟩ := check3_zero hb
  have ca := count_n a3 a4
  have cb := count_n b3 b4
  have ha4 := a.count_le
  have hb4 := b.count_le
  have h1 : lts (ptext a) = lts (ptext b) := by rw [h]
  unfold ptext at h1
  rw [lts_add, lts_add, lts_add, lts_add, List.append_assoc, List.append_assoc] at h1
  obtain ⟨e1, e2⟩ := run_split (p := varB) (prin_run a1) (prin_run b1) rfl rfl h1
  rw [List.append_cancel_left_eq, said_lts, said_lts] at e2
  have hh : ∀ x : Atm, headL varB (saidL x) = false := fun x => by
    unfold saidL
    split <;> rfl
  obtain ⟨e3, e4⟩ := run_split (p := varB) (prin_run a2) (prin_run b2) (hh a) (hh b) e2
  have ta : ∀ i, i < a.count → ptermok (a.arg i) = true := fun i hi => termsB_iff.1 a5 i (by omega) (by omega)
  have tb : ∀ i, i < b.count → ptermok (b.arg i) = true := fun i hi => termsB_iff.1 b5 i (by omega) (by omega)
  have runs : ∀ x : Atm, (∀ i, i < x.count → ptermok (x.arg i) = true) → ∀ y ∈ (anames x x.count).map lts, ∀ c ∈ y, varB c = true := fun x hx y hy => by
    simp only [anames, List.map_map, List.mem_map, List.mem_range] at hy
    obtain ⟨i, hi, rfl⟩ := hy
    exact term_run (hx i hi)
  have e5 : (anames a a.count).map lts = (anames b b.count).map lts := by
    unfold saidL at e4
    by_cases h1 : 0 < a.count <;> by_cases h2 : 0 < b.count
    · rw [if_pos h1, if_pos h2] at e4
      have e4 : jt _ = jt _ := (List.cons.inj e4).2
      refine jt_inj (p := varB) rfl rfl _ _ ?_ ?_ (runs a ta) (runs b tb) e4
      · intro e; have := congrArg List.length e; simp [anames] at this; omega
      · intro e; have := congrArg List.length e; simp [anames] at this; omega
    · rw [if_pos h1, if_neg h2] at e4; cases e4
    · rw [if_neg h1, if_pos h2] at e4; cases e4
    · rw [show a.count = 0 by omega, show b.count = 0 by omega]
      rfl
  have hc : a.count = b.count := by
    have := congrArg List.length e5
    simpa [anames] using this
  refine atm_ext (str_inj e1) (str_inj e3) (by omega) fun i hi => ?_
  by_cases hic : i < a.count
  · have e6 : ((anames a a.count).map lts)[i]? = ((anames b b.count).map lts)[i]? := by rw [e5]
    simp only [anames, List.map_map, List.getElem?_map, List.getElem?_range hic, List.getElem?_range (show i < b.count by omega), Option.map_some, Option.some.injEq, Function.comp] at e6
    exact term_kind (ta i hic) (tb i (by omega)) (str_inj e6)
  · rw [restB_iff.1 a6 i hi (by omega), restB_iff.1 b6 i hi (by omega)]
end Go.Proofs.YtlnlnpbjgcickaaDoor

/-
  Chapter 7: variables renamed: the plain laws of the statement VariantRenames.
-/
set_option linter.unusedSimpArgs false
set_option linter.unusedVariables false
namespace Go.Proofs.YtlnlnpbjgcickaaDoor
open Go.Vs Go.Vs.Ab Go.RowKit

/-- The first k variables, each with its new name. -/
def rnK (V N : List ByteArray) : Nat → List Bd
  | 0 => []
  | k + 1 => rnK V N k ++ [⟨V.getD k default, ⟨true, N.getD k default⟩⟩]
theorem rnK_len (V N : List ByteArray) : ∀ k, (rnK V N k).length = k
  | 0 => rfl
  | k + 1 => by unfold rnK; rw [List.length_append, rnK_len V N k]; rfl
theorem getD_get {l : List ByteArray} {k : Nat} (h : k < l.length) : l.getD k default = l[k] := by
  rw [List.getD_eq_getElem?_getD, List.getElem?_eq_getElem h]; rfl
theorem rnK_next {V N : List ByteArray} {k : Nat} (h1 : k < V.length) (h2 : k < N.length) : rnK V N (k + 1) = rnK V N k ++ [⟨V[k], ⟨true, N[k]⟩⟩] := by
  show rnK V N k ++ _ = _
  rw [getD_get h1, getD_get h2]
theorem posOf_get_lt {x : ByteArray} : ∀ {l : List ByteArray}, posOf l x < l.length → x ∈ l
  | [], h => by simp at h
  | y :: r, h => by
    unfold posOf at h
    by_cases e : y = x
    · simp [e]
    · rw [if_neg e, List.length_cons] at h
      have := posOf_get_lt (l := r) (x := x) (by omega)
      simp [this]
theorem rnK_get (V N : List ByteArray) {x : ByteArray} : ∀ {k : Nat}, k ≤ V.length → V.Nodup → pget (rnK V N k) x = if posOf V x < k then some ⟨true, N.getD (posOf V x) default⟩ else none
  | 0, _, _ => by rw [if_neg (Nat.not_lt_zero _)]; rfl
  | k + 1, hk, hn => by
    have hlt : k < V.length := by omega
    have ih := rnK_get V N (x := x) (k := k) (by omega) hn
    unfold rnK
    rw [pget_append, ih, pget_cons, getD_get hlt]
    have hp : V[k] = x → posOf V x = k := fun e => by
      have hm : x ∈ V := by rw [← e]; exact List.getElem_mem hlt
      have h1 := posOf_lt hm
      have h2 := posOf_get hm
      have h3 : V[posOf V x] = x := (List.getElem?_eq_some_iff.1 h2).2
      exact nodup_inj hn h1 hlt (by rw [h3, e])
    by_cases h1 : posOf V x < k
    · rw [if_pos h1, if_pos (show posOf V x < k + 1 by omega)]
      rfl
    · rw [if_neg h1]
      by_cases h2 : V[k] = x
      · rw [if_pos h2, hp h2, if_pos (Nat.lt_succ_self k)]
        rfl
      · rw [if_neg h2]
        have : ¬ posOf V x < k + 1 := fun h => by
          have e : posOf V x = k := by omega
          have hm : x ∈ V := by
            have := posOf_get_lt (l := V) (x := x) (by omega)
            exact this
          have h3 := (List.getElem?_eq_some_iff.1 (posOf_get hm)).2
          simp only [e] at h3
          exact h2 h3
        rw [if_neg this]
        rfl

/-- What a variable becomes. -/
def rnF (V N : List ByteArray) (x : ByteArray) : ByteArray := if posOf V x < V.length then N.getD (posOf V x) default else x
theorem papp_ren {a : Atm} {L : List Bd} {f : ByteArray → ByteArray} (h : ∀ x ∈ pnames a true, pget L x = some ⟨true, f x⟩) : papp L a = aren f a := by
  refine atm_ext rfl rfl rfl fun i hi => ?_
  rw [papp_arg L a hi]
  by_cases hc : i < a.count
  · rw [if_pos hc, aren_arg hc]
    unfold pterm rt
    cases hv : (a.arg i).v with
    | false => rfl
    | true =>
      rw [if_pos rfl, if_pos rfl, h _ (name_mem hc hv)]
      rfl
  · rw [if_neg hc, aren_rest (Nat.le_of_not_lt hc) hi]
theorem pvars_nodup (a : Atm) : (pnames a true).Nodup := pnames_nodup a true a.count a.count_le
theorem ren_app {a : Atm} {N : List ByteArray} : papp (rnK (pnames a true) N (pnames a true).length) a = aren (fun x => N.getD (posOf (pnames a true) x) default) a := by
  refine papp_ren fun x hx => ?_
  rw [rnK_get _ _ (Nat.le_refl _) (pvars_nodup a), if_pos (posOf_lt hx)]
/-- Different names, each of them taken once. -/
def DistN (N : List ByteArray) (k : Nat) : Prop := ∀ i j, i < j → j < k → N.getD i default ≠ N.getD j default
theorem distN_inj {N : List ByteArray} {k i j : Nat} (h : DistN N k) (hi : i < k) (hj : j < k) (e : N.getD i default = N.getD j default) : i = j := by
  rcases Nat.lt_trichotomy i j with h1 | h1 | h1
  · exact absurd e (h i j h1 hj)
  · exact h1
  · exact absurd e.symm (h j i h1 hi)
theorem ren_canon {a : Atm} {N : List ByteArray} (h : DistN N (pnames a true).length) : pcanon (papp (rnK (pnames a true) N (pnames a true).length) a) = pcanon a := by
  rw [ren_app]
  refine canon_ren fun x hx y hy e => ?_
  have h1 := posOf_lt hx
  have h2 := posOf_lt hy
  exact posOf_inj hx hy (distN_inj h h1 h2 e)
/-- Two of them made equal. -/
def rnEq : List Bd → List Bd
  | x :: y :: r => ⟨x.var, y.t⟩ :: y :: r
  | l => l
theorem rnK_head (V N : List ByteArray) : ∀ k, ∃ r, rnK V N (k + 2) = ⟨V.getD 0 default, ⟨true, N.getD 0 default⟩⟩ :: ⟨V.getD 1 default, ⟨true, N.getD 1 default⟩⟩ :: r
  | 0 => ⟨[], rfl⟩
  | k + 1 => by
    obtain ⟨r, hr⟩ := rnK_head V N k
    refine ⟨r ++ [⟨V.getD (k + 2) default, ⟨true, N.getD (k + 2) default⟩⟩], ?_⟩
    show rnK V N (k + 2) ++ _ = _
    rw [hr]
    rfl
theorem eq_app {a : Atm} {N : List ByteArray} (ha : pcheck3 a = 0) (h2 : 2 ≤ (pnames a true).length) : decide (pcanon a = pcanon (papp (rnEq (rnK (pnames a true) N (pnames a true).length)) a)) = false := by
  rw [decide_eq_false_iff_not]
  intro h
  have hu := pund_iff.1 (half_under ha h)
  have hn := pvars_nodup a
  obtain ⟨k, hk⟩ : ∃ k, (pnames a true).length = k + 2 := ⟨(pnames a true).length - 2, by omega⟩
  obtain ⟨r, hr⟩ := rnK_head (pnames a true) N k
  rw [hk, hr] at hu h
  have l0 : 0 < (pnames a true).length := by omega
  have l1 : 1 < (pnames a true).length := by omega
  rw [getD_get l0, getD_get l1] at hu
  generalize hL : rnEq (⟨(pnames a true)[0], ⟨true, N.getD 0 default⟩⟩ :: ⟨(pnames a true)[1], ⟨true, N.getD 1 default⟩⟩ :: r) = L at hu
  have hne : (pnames a true)[0] ≠ (pnames a true)[1] := fun e => by
    have := nodup_inj hn l0 l1 e
    omega
  have g0 : pget L (pnames a true)[0] = some ⟨true, N.getD 1 default⟩ := by
    rw [← hL]
    show pget (⟨_, _⟩ :: _) _ = _
    rw [pget_cons, if_pos rfl]
  have g1 : pget L (pnames a true)[1] = some ⟨true, N.getD 1 default⟩ := by
    rw [← hL]
    show pget (⟨_, _⟩ :: ⟨_, _⟩ :: r) _ = _
    rw [pget_cons, if_neg hne, pget_cons, if_pos rfl]
  obtain ⟨i, i1, i2, i3⟩ := (mem_pnamesK a.count_le).1 (List.getElem_mem l0)
  obtain ⟨j, j1, j2, j3⟩ := (mem_pnamesK a.count_le).1 (List.getElem_mem l1)
  have h4 := a.count_le
  have e0 : ∀ q, q < a.count → (a.arg q).v = true → ∀ t, pget L (a.arg q).name = some t → (papp L a).arg q = t := fun q hq hv t ht => by
    rw [papp_arg L a (by omega), if_pos hq]
    unfold pterm
    rw [if_pos hv, ht]
    rfl
  have b0 := e0 i i1 i2 _ (by rw [i3]; exact g0)
  have b1 := e0 j j1 j2 _ (by rw [j3]; exact g1)
  have := hu.2.2 i j i1 j1 (by rw [b0]) (by rw [b0, b1])
  rw [this] at i3
  exact hne (i3.symm.trans j3)
end Go.Proofs.YtlnlnpbjgcickaaDoor

/-
  A slice that was collected by a callee, as a local block of the caller's; a callee that works in the caller's memory. No program in sight.
-/
set_option linter.unusedVariables false
set_option linter.unusedSimpArgs false
namespace Go.Vs.Ab
open Go.RowKit

variable {P : Program} {X : Mem} {W0 w w' : World} {m : Mm}

theorem vals_getv : ∀ {cs : List CV} {xs : List Value}, vals cs = some xs → ∀ (i : Nat) (c : CV), cs[i]? = some c → ∃ x, c = .v x ∧ xs[i]? = some x
  | [], xs, h, i, c, hc => by simp at hc
  | .sl .. :: _, _, h, _, _, _ => by simp [vals] at h
  | .v x :: r, xs, h, i, c, hc => by
    simp only [vals, Option.map_eq_some_iff] at h
    obtain ⟨ys, h1, rfl⟩ := h
    cases i with
    | zero => simp at hc; exact ⟨x, hc.symm, rfl⟩
    | succ i =>
      obtain ⟨y, h2, h3⟩ := vals_getv h1 i c (by simpa using hc)
      exact ⟨y, h2, by simpa using h3⟩

def Mem.adopt (X : Mem) (i β R : Nat) : Mem := ⟨X.cell, fun j => if j = i then some β else X.loc j, X.own, fun γ => if γ = β then R else X.room γ⟩
/-- A block that nobody knows as yet, as a local one. -/
theorem MR.adopt (M : MR X W0 m w) {β R : Nat} {cur : Array Value} {t : TypeId} {cs : List AV} (hW : W0.heap.size ≤ β) (hcell : ∀ o, X.cell β o = none) (hloc : ∀ i, X.loc i ≠ some β) (hown : ∀ k T, X.own k = some T → T.g ≠ β)
    (hheap : w.heap[β]? = some (.cells cur t (0, 0))) (hl : cs.length ≤ cur.size) (hr : Reps X cs (cur.toList.take cs.length)) (hR : X.room β ≤ R) (hRs : R ≤ cur.size) :
    MR (X.adopt m.hp.length β R) W0 { m with hp := m.hp ++ [⟨false, cs⟩] } w ∧ X.Le W0.heap.size (X.adopt m.hp.length β R) := by
  have hle : X.Le W0.heap.size (X.adopt m.hp.length β R) := by
    refine ⟨fun _ _ _ h => h, fun _ _ _ _ h => h, fun i γ h => ?_, fun k T h => ⟨T, h, Or.inl rfl⟩, fun γ => ?_⟩
    · have := M.ldom i γ h
      simp only [Mem.adopt]
      rw [if_neg (by omega)]
      exact h
    · simp only [Mem.adopt]
      split
      · rename_i e; rw [e]; exact hR
      · exact Nat.le_refl _
  refine ⟨⟨M.below, M.cell, fun i γ h => ?_, fun i blk h => ?_, fun i j γ bi bj h1 h2 g1 g2 => ?_, M.odom, fun k n h => ?_, M.oinj, fun γ hγ => ?_⟩, hle⟩
  · simp only [Mem.adopt] at h
    simp only [List.length_append, List.length_singleton]
    split at h
    · omega
    · have := M.ldom i γ h; omega
  · by_cases hi : i < m.hp.length
    · simp only at h
      rw [List.getElem?_append_left hi] at h
      obtain ⟨γ, h1, h2, h3, hB⟩ := M.locs i blk h
      exact ⟨γ, hle.loc _ _ h1, h2, h3, hB.move hle (fun _ => rfl) (fun _ h => h)⟩
    · simp only at h
      rw [List.getElem?_append_right (by omega)] at h
      have hi2 : i = m.hp.length := by
        have := (List.getElem?_eq_some_iff.1 h).1
        simp at this
        omega
      subst hi2
      simp at h
      subst h
      exact ⟨β, by simp [Mem.adopt], hW, (Array.getElem?_eq_some_iff.1 hheap).1, .cells hheap hl (hr.mono hle) (fun hf => by cases hf) fun _ o => hcell o⟩
  · simp only [Mem.adopt] at h1 h2
    split at h1
    · split at h2
      · left; omega
      · injection h1 with h1
        subst h1
        exact absurd h2 (hloc j)
    · split at h2
      · injection h2 with h2
        subst h2
        exact absurd h1 (hloc i)
      · have hi := M.ldom i γ h1
        have hj := M.ldom j γ h2
        simp only at g1 g2
        rw [List.getElem?_append_left hi] at g1
        rw [List.getElem?_append_left hj] at g2
        exact M.inj i j γ bi bj h1 h2 g1 g2
  · obtain ⟨T, h1, h2, h3, h4, h5, h6, h7, h8, h9⟩ := M.toks k n h
    refine ⟨T, h1, h2, h3, h4, h5, h6, h7, h8, fun i hi => ?_⟩
    simp only [Mem.adopt] at hi
    split at hi
    · injection hi with hi
      exact hown k T h1 hi.symm
    · exact h9 i hi
  · simp only [Mem.adopt] at hγ ⊢
    by_cases e : γ = β
    · subst e
      rw [if_pos rfl]
      exact ⟨cur, t, hheap, hRs⟩
    · rw [if_neg e] at hγ ⊢
      exact M.rm γ hγ

/-- What a callee collected (all of it plain), as a block of the caller's. -/
theorem Does.lsl {F : FuncId} {args args' : List AV} {f : Mm → AV × Mm} (h : Does P F args' f) (hs : shuts args = some args') {k n : Nat} {e : TypeId} {size : Nat} {cs : List CV} {xs : List Value} {m1 : Mm} (hf : f ⟨[], []⟩ = (.own k n cs, m1)) (hk : m1.hw[k]? = some ⟨n, e, size⟩) (hv : vals cs = some xs) (m : Mm) :
    Gives P F args m (.lsl m.hp.length 0 n size) { m with hp := m.hp ++ [⟨false, cs.map .c⟩] } := by
  refine ⟨h.1, fun X W0 w vs M ha => ?_⟩
  refine (h.2 X.bare w ⟨[], []⟩ w vs (bare_MR M) (shuts_rep (X := X) (Y := X.bare) rfl hs ha)).mono ?_
  rintro _ w' ⟨v, X1, rfl, k1, k2, k3, _⟩
  rw [hf] at k2 k3
  have M1 := M.grow k3.below
  obtain ⟨T, t1, ⟨t2, t2e, t2s⟩, t3, t4, t5, t6, ⟨cur, t7, t8⟩, t9, t10⟩ := k3.toks k _ hk
  simp only at t2 t2e t2s
  cases k2 with
  | own hr hn1 hc hx ht =>
    rename_i ys a cap
    obtain ⟨T', u1, u2, u3⟩ := ht
    rw [t1] at u1
    injection u1 with u1
    subst u1
    obtain ⟨rfl, rfl⟩ := u3 t2.symm
    have hnew : ∀ o, X.cell T.g o = none := fun o => by
      cases hq : X.cell T.g o with
      | none => rfl
      | some x => have := M.cellBlock hq; omega
    have hroom : X.room T.g = 0 := by
      rcases Nat.eq_zero_or_pos (X.room T.g) with h0 | h0
      · exact h0
      · obtain ⟨ar, tt, q1, _⟩ := M.rm T.g h0
        have := (Array.getElem?_eq_some_iff.1 q1).1
        omega
    have hcurj : ∀ (j : Nat) (x : Value), ys[j]? = some x → cur[j]? = some x := fun j x hj => by
      obtain ⟨b, o, e1, e2⟩ := hx j x hj
      injection e1 with e1
      injection e1 with e1 e3
      subst e1 e3
      have h5 := k3.cell _ _ _ e2
      rw [Nat.zero_add] at h5
      simp only [World.cell?, t7] at h5
      simpa using h5
    have hlen : cs.length ≤ cur.size := by
      rcases Nat.eq_zero_or_pos cs.length with h0 | h0
      · omega
      · have hl : cs.length - 1 < ys.length := by rw [← hr.1]; omega
        have := hcurj _ _ (List.getElem?_eq_getElem hl)
        have := (Array.getElem?_eq_some_iff.1 this).1
        omega
    have hrp : Reps X (cs.map .c) (cur.toList.take (cs.map AV.c).length) := by
      rw [List.length_map]
      refine ⟨by rw [List.length_map, List.length_take]; simp only [Array.length_toList]; omega, fun i c x h1 h2 => ?_⟩
      rw [List.getElem?_map, Option.map_eq_some_iff] at h1
      obtain ⟨c0, h1, rfl⟩ := h1
      have hi := (List.getElem?_eq_some_iff.1 h1).1
      rw [List.getElem?_take, if_pos hi, Array.getElem?_toList] at h2
      obtain ⟨x0, rfl, _⟩ := vals_getv hv i c0 h1
      have hl : i < ys.length := by rw [← hr.1]; exact hi
      have h3 := hcurj i _ (List.getElem?_eq_getElem hl)
      rw [h2] at h3
      injection h3 with h3
      have h4 := hr.2 i _ _ h1 (List.getElem?_eq_getElem hl)
      rw [← h3] at h4
      cases h4 with
      | v h5 => exact .c (.v h5)
    obtain ⟨A, hle⟩ := M1.adopt (β := T.g) (R := T.cap * T.size) (Nat.le_trans M.below.size t3) hnew (fun i hi => by have := (M.locBlock hi).1; omega) (fun k S hS e => by have := (M.tokBlock hS).1; omega) t7 (by rw [List.length_map]; exact hlen) hrp (by rw [hroom]; exact Nat.zero_le _) (by rw [t8]; exact Nat.le_refl _)
    refine ⟨_, X.adopt m.hp.length T.g (T.cap * T.size), rfl, hle, ?_, A, fun i β hi => k3.below.block β (M.locBlock hi).1⟩
    refine .lsl (by simp [Mem.adopt]) (fun _ => by rw [Nat.zero_mul]) hn1 hc.1 ?_
    simp only [Mem.adopt, if_true]
    rw [t2s, Nat.zero_add]
    exact Nat.le_refl _

/-- A function, by its body, called in the caller's memory. -/
theorem givesW_of {F : FuncId} {fn : Func} {c : Code} (hF : P.funcs[F]? = some fn) (hb : fn.body = some c) (hcb : callableB fn = true) {args : List AV} {r : AV} {m m' : Mm} (hle : args.length ≤ fn.ntmps)
    (h : Tr fle P fn.ntmps c (initFr 0 args) m (fun e fr m1 => (∀ id, e ≠ .exit id) ∧ ∃ cs, resAll P fr m1 fn.results.toList = some cs ∧ resV cs = r ∧ m1 = m')) : GivesW P F args m r m' := by
  refine ⟨callable_of hF hcb, fun X W0 w vs M hargs => ?_⟩
  refine (calls_of_wp hF hb (R := fun e w' => ∃ v X', e = .returned v ∧ X.Le W0.heap.size X' ∧ Rep X' r v ∧ MR X' W0 m' w') (wp_mono (h X W0 w _ (FR.init hargs hle) M) ?_))
  rintro _ a' w' ⟨ex, fr', m1, X1, rfl, ⟨hne, cs, h1, rfl, rfl⟩, k1, k2, k3⟩
  obtain ⟨vs', g1, g2⟩ := resAll_ok k2 k3 h1
  have : a'.defers = [] ∧ ∃ v, (results fn a'.tmps).run P w' = .ok v w' ∧ ∃ v2 X', Ending.returned v = .returned v2 ∧ X.Le W0.heap.size X' ∧ Rep X' (resV cs) v2 ∧ MR X' W0 m1 w' :=
    ⟨k2.defers, _, results_run g2, _, X1, rfl, k1, resV_ok g1, k3⟩
  cases ex with
  | nrm => exact this
  | ret => exact this
  | exit id => exact absurd rfl (hne id)
theorem givesW_of' {F : FuncId} {fn : Func} {c : Code} {rs : List ResultVar} (hF : P.funcs[F]? = some fn) (hb : fn.body = some c) (hcb : callableB fn = true) {args : List AV} {r : AV} {m m' : Mm} {nt : Nat} (hnt : fn.ntmps = nt) (hle : Nat.ble args.length nt = true) (hrs : fn.results.toList = rs)
    (h : ∀ Q : Ex → Fr → Mm → Prop, (∀ fr m1 cs, resAll P fr m1 rs = some cs → resV cs = r → m1 = m' → Q .nrm fr m1 ∧ Q .ret fr m1) → Tr fle P nt c (initFr 0 args) m Q) : GivesW P F args m r m' := by
  subst hnt hrs
  exact givesW_of hF hb hcb (by simpa using hle) (h _ fun fr m1 cs h1 h2 h3 => ⟨⟨(fun _ h => by cases h), cs, h1, h2, h3⟩, ⟨(fun _ h => by cases h), cs, h1, h2, h3⟩⟩)
end Go.Vs.Ab

/-
  Blocks that hold a list of encoded things; slices over them, written in place, closed. No program in sight.
-/
set_option linter.unusedVariables false
set_option linter.unusedSimpArgs false
namespace Go.Vs.Ab
open Go.RowKit

variable {P : Program} {X : Mem} {W0 w w' : World} {m : Mm}

/-- The cells of a list of encoded things. -/
def blC {T : Type} (enc : T → List CV) (l : List T) : List AV := (l.flatMap enc).map .c
theorem plainB_blC {T : Type} {enc : T → List CV} {l : List T} : plainB (blC enc l) = true := by
  unfold blC
  cases l.flatMap enc <;> rfl
theorem lows_c (i j : Nat) : ∀ ds : List CV, lows i j (ds.map .c) = true
  | [] => rfl
  | d :: r => by
    show (low i j (.c d) && lows i j (r.map .c)) = true
    rw [lows_c i j r]
    rfl
theorem lows_blC {T : Type} {enc : T → List CV} {l : List T} {i j : Nat} : lows i j (blC enc l) = true := lows_c i j _
theorem len_blC {T : Type} {enc : T → List CV} {size : Nat} (hk : ∀ x, (enc x).length = size) (l : List T) : (blC enc l).length = l.length * size := by
  unfold blC
  rw [List.length_map, flat_length enc size hk]
theorem cleans_map : ∀ ds : List CV, cleans (ds.map .c) = some ds
  | [] => rfl
  | d :: r => by
    show cleans (.c d :: r.map .c) = _
    simp only [cleans, clean, cleans_map r]
theorem drop_blC {T : Type} {enc : T → List CV} {size : Nat} (hk : ∀ x, (enc x).length = size) {l : List T} {k : Nat} (h : k < l.length) : List.drop (k * size) (blC enc l) = (enc l[k]).map .c ++ blC enc (l.drop (k + 1)) := by
  unfold blC
  rw [← List.map_drop, flat_drop enc size hk l k h, List.map_append]
theorem fit_blC {T : Type} {enc : T → List CV} {size : Nat} (hk : ∀ x, (enc x).length = size) {l : List T} {k : Nat} (h : k < l.length) : k * size + size ≤ (blC enc l).length := by
  rw [len_blC hk]
  have : (k + 1) * size ≤ l.length * size := Nat.mul_le_mul_right _ h
  rwa [Nat.add_mul, Nat.one_mul] at this
theorem take_flat {T : Type} {enc : T → List CV} {size : Nat} (hk : ∀ x, (enc x).length = size) (l : List T) (k : Nat) : List.take (k * size) (l.flatMap enc) = (l.take k).flatMap enc := by
  induction k generalizing l with
  | zero => simp
  | succ k ih =>
    cases l with
    | nil => simp
    | cons x l =>
      rw [List.flatMap_cons, List.take_succ_cons, List.flatMap_cons, ← ih l]
      have : (k + 1) * size = (enc x).length + k * size := by rw [hk, Nat.add_mul, Nat.one_mul, Nat.add_comm]
      rw [this, List.take_append]
      have h1 : List.take ((enc x).length + k * size) (enc x) = enc x := List.take_of_length_le (by omega)
      rw [h1]
      congr 2
      omega
theorem drop_flat {T : Type} {enc : T → List CV} {size : Nat} (hk : ∀ x, (enc x).length = size) (l : List T) (k : Nat) : List.drop (k * size) (l.flatMap enc) = (l.drop k).flatMap enc := by
  induction k generalizing l with
  | zero => simp
  | succ k ih =>
    cases l with
    | nil => simp
    | cons x l =>
      rw [List.flatMap_cons, List.drop_succ_cons, ← ih l]
      have : (k + 1) * size = (enc x).length + k * size := by rw [hk, Nat.add_mul, Nat.one_mul, Nat.add_comm]
      rw [this, ← List.drop_drop, List.drop_left' rfl]
theorem set_blC {T : Type} {enc : T → List CV} {size : Nat} (hk : ∀ x, (enc x).length = size) {l : List T} {k : Nat} (h : k < l.length) (x : T) : List.take (k * size) (blC enc l) ++ (enc x).map AV.c ++ List.drop (k * size + size) (blC enc l) = blC enc (l.set k x) := by
  unfold blC
  have e : k * size + size = (k + 1) * size := by rw [Nat.add_mul, Nat.one_mul]
  rw [← List.map_take, ← List.map_drop, e, take_flat hk, drop_flat hk, List.set_eq_take_append_cons_drop, if_pos h, List.flatMap_append, List.flatMap_cons, List.map_append, List.map_append, List.append_assoc]

/-- A place in a slice over a local block; parts of it. -/
theorem idxL {t e : TypeId} {size : Nat} (ht : P.underlying t = some (.slice e)) (hs : tsz P e = some size) (h0 : 0 < size) {b lo n k : Nat} {ik : IntKind} (h : k < n) : aIndexL P t (.lsl b lo n size) (.c (.v (.int ik (k : Int)))) = some (.ptr b ((lo + k) * size)) := by
  have h1 : Nat.blt k n = true := by simpa using h
  have h2 : Nat.blt 0 size = true := by simpa using h0
  have hn : natI (k : Int) = some k := natI_nat k
  simp only [aIndexL, ht, lsV, intV, hs, hn, h1, h2, Nat.beq_refl, Bool.and_self, if_true]
theorem slL_from {t e : TypeId} {size : Nat} (ht : P.underlying t = some (.slice e)) (hs : tsz P e = some size) {b lo n k : Nat} (h : k ≤ n) : aSliceL P t (.lsl b lo n size) (some (k : Int)) none none = some (.lsl b (lo + k) (n - k) size) := by
  have hb : bnds n (some (k : Int)) none none = some (k, n, none) := by
    unfold bnds
    simp [natI_nat, h]
  simp only [aSliceL, ht, lsV, hs, hb, Nat.beq_refl, if_true]
theorem slL_to {t e : TypeId} {size : Nat} (ht : P.underlying t = some (.slice e)) (hs : tsz P e = some size) {b lo n k : Nat} (h : k ≤ n) : aSliceL P t (.lsl b lo n size) none (some (k : Int)) none = some (.lsl b lo k size) := by
  have hb : bnds n none (some (k : Int)) none = some (0, k, none) := by
    unfold bnds
    simp [natI_nat, h]
  simp only [aSliceL, ht, lsV, hs, hb, Nat.beq_refl, if_true, Nat.add_zero, Nat.sub_zero]
theorem zrs_rep {T : Type} {enc : T → List CV} (z : T) (n : Nat) (h : 0 < (enc z).length) : zrs n (enc z) = blC enc (List.replicate n z) := by
  have key : ∀ n, (List.range (n * (enc z).length)).map (fun i => (enc z).getD (i % (enc z).length) default) = (List.replicate n z).flatMap enc := fun n => by
    induction n with
    | zero => simp
    | succ n ih =>
      rw [List.replicate_succ', List.flatMap_append, ← ih, Nat.add_mul, Nat.one_mul, List.range_add, List.map_append]
      congr 1
      simp only [List.flatMap_cons, List.flatMap_nil, List.append_nil, List.map_map]
      apply List.ext_getElem?
      intro i
      rw [List.getElem?_map]
      by_cases hi : i < (enc z).length
      · rw [List.getElem?_range hi]
        simp only [Option.map_some, Function.comp]
        rw [Nat.add_comm, Nat.add_mul_mod_self_right, Nat.mod_eq_of_lt hi, List.getD_eq_getElem?_getD, List.getElem?_eq_getElem hi]
        rfl
      · rw [List.getElem?_eq_none (by simpa using hi), List.getElem?_eq_none (Nat.le_of_not_lt hi)]
        rfl
  unfold zrs blC
  rw [key]
theorem clear_blC {T : Type} {enc : T → List CV} {size : Nat} (hk : ∀ x, (enc x).length = size) (h0 : 0 < size) {t e : TypeId} (ht : P.underlying t = some (.slice e)) {z : T} (hz : tzero P e = some (enc z)) {l : List T} {i : Nat} (hi : i ≤ l.length) {hw : List Hw} :
    aClear P ⟨[⟨false, blC enc l⟩], hw⟩ t (.lsl 0 i (l.length - i) size) = some ⟨[⟨false, blC enc (l.take i ++ List.replicate (l.length - i) z)⟩], hw⟩ := by
  simp only [aClear, ht, lsV, hz]
  by_cases hn : l.length - i = 0
  · rw [hn]
    rw [if_pos (by rfl)]
    rw [List.take_of_length_le (by omega)]
    simp
  · have hb : Nat.beq (l.length - i) 0 = false := by
      rw [Bool.eq_false_iff]
      exact fun e => hn (Nat.eq_of_beq_eq_true e)
    have hle : Nat.ble (i * size + (l.length - i) * size) (blC enc l).length = true := by
      rw [len_blC hk, ← Nat.add_mul, Nat.ble_eq]
      exact Nat.mul_le_mul_right _ (by omega)
    simp only [hb, if_false, List.getElem?_cons_zero, hk, Nat.beq_refl, plainB_blC, hle, Bool.not_false, Bool.and_self, if_true, Bool.false_eq_true]
    rw [zrs_rep z _ (by rw [hk]; exact h0)]
    have e1 : List.drop (i * size + (l.length - i) * size) (blC enc l) = [] := by
      apply List.drop_eq_nil_of_le
      rw [len_blC hk, ← Nat.add_mul]
      exact Nat.mul_le_mul_right _ (by omega)
    rw [e1, List.append_nil]
    unfold blC
    rw [← List.map_take, take_flat hk, ← List.map_append, ← List.flatMap_append]
    rfl

/-- A slice over a local block that is written no more. -/
theorem GivesW.freeze {F : FuncId} {args : List AV} {b lo n k : Nat} {m1 : Mm} (h : GivesW P F args m (.lsl b lo n k) m1) {ds : List CV} (hb : m1.hp[b]? = some ⟨false, ds.map .c⟩) :
    GivesW P F args m (.c (.sl false n ((ds.drop (lo * k)).take (n * k)))) { m1 with hp := m1.hp.set b ⟨true, ds.map .c⟩ } := by
  refine ⟨h.1, fun X W0 w vs M hargs => (h.2 X W0 w vs M hargs).mono ?_⟩
  rintro _ w' ⟨v, X1, rfl, k1, k2, k3⟩
  have hz : aFreeze m1 b = some { m1 with hp := m1.hp.set b ⟨true, ds.map .c⟩ } := by
    simp only [aFreeze, hb, cleans_map]
    rfl
  obtain ⟨X2, l1, l2, _⟩ := aFreeze_ok k3 hz
  have hlt := (List.getElem?_eq_some_iff.1 hb).1
  refine ⟨v, X2, rfl, k1.trans l1, ?_, l2⟩
  have k4 := k2.mono l1
  cases k4 with
  | lsl hl ho hn hcap hrm =>
    rename_i β o cap
    have hf : fixedAt { m1 with hp := m1.hp.set b ⟨true, ds.map .c⟩ } (.ptr b (lo * k)) = some (ds.drop (lo * k)) := by
      simp only [fixedAt, List.getElem?_set_self hlt, if_true, cleans_map, Option.map_some]
    obtain ⟨b', o', xs, e, r1, r2⟩ := fixedAt_rep l2 hf (.ptr hl)
    injection e with e
    injection e with e
    injection e with e1 e2
    subst e1 e2
    have q1 := r1.take (n * k)
    have q2 := r2.take (n * k)
    refine .c (.sl q1.1 q1.2 hn ⟨hcap, fun e => by cases e⟩ (fun e => by cases e) ?_)
    rcases Nat.eq_zero_or_pos cap with h0 | h0
    · have : n = 0 := by omega
      subst this
      rw [Nat.zero_mul, List.take_zero]
      exact fun j x h => by cases h
    · rw [ho h0]
      exact q2
attribute [go_sem] plainB_blC
end Go.Vs.Ab

/-
  A slice that was collected, from now on a local block; what was claimed of new cells is forgotten. No program in sight.
-/
set_option linter.unusedVariables false
set_option linter.unusedSimpArgs false
namespace Go.Vs.Ab
open Go.RowKit

variable {P : Program} {X : Mem} {W0 w w' : World} {m : Mm} {nt : Nat} {fr : Fr} {Q : Ex → Fr → Mm → Prop}

def allV : List CV → Bool
  | [] => true
  | .v _ :: r => allV r
  | .sl .. :: _ => false
/-- Needs no claim on any cell. -/
def free : AV → Bool
  | .c (.v _) => true
  | .agg cs => allV cs
  | .ptr _ _ => true
  | .mapp _ => true
  | _ => false
def frees : List AV → Bool
  | [] => true
  | c :: r => free c && frees r
def freeF : Fr → Bool
  | [] => true
  | (_, c) :: r => free c && freeF r
def freeB : List Blk → Bool
  | [] => true
  | b :: r => !b.fz && (frees b.cs && freeB r)
theorem allV_rep {C D : Nat → Nat → Option Value} : ∀ {cs : List CV} {xs : List Value}, allV cs = true → RepCs C cs xs → RepCs D cs xs := fun {cs xs} h hr => by
  refine ⟨hr.1, fun i c x h1 h2 => ?_⟩
  have key : ∀ {cs : List CV} (i : Nat) (c : CV), allV cs = true → cs[i]? = some c → ∃ v, c = .v v := fun {cs} => by
    induction cs with
    | nil => intro i c _ h; simp at h
    | cons d r ih =>
      intro i c ha hc
      cases d with
      | v x =>
        cases i with
        | zero => simp at hc; exact ⟨x, hc.symm⟩
        | succ i => exact ih i c ha (by simpa using hc)
      | sl => cases ha
  obtain ⟨v, rfl⟩ := key i c h h1
  have := hr.2 i _ x h1 h2
  cases this with
  | v h => exact .v h
theorem Rep.free {Y : Mem} {c : AV} {x : Value} (h : Rep X c x) (hf : Ab.free c = true) (hl : ∀ i β, X.loc i = some β → Y.loc i = some β) : Rep Y c x := by
  cases h with
  | c h =>
    cases h with
    | v h => exact .c (.v h)
    | sl => cases hf
  | agg h => exact .agg (allV_rep hf h)
  | ptr h => exact .ptr (hl _ _ h)
  | mapp h => exact .mapp (hl _ _ h)
  | tup => cases hf
  | own => cases hf
  | cptr => cases hf
  | fn => cases hf
  | lsl => cases hf
  | ifc => cases hf
  | strc => cases hf
theorem frees_get : ∀ {cs : List AV}, frees cs = true → ∀ (k : Nat) (c : AV), cs[k]? = some c → free c = true
  | [], _, k, c, h => by simp at h
  | x :: r, h, k, c, hc => by
    simp only [frees, Bool.and_eq_true] at h
    cases k with
    | zero => simp at hc; subst hc; exact h.1
    | succ k => exact frees_get h.2 k c (by simpa using hc)
theorem freeF_find : ∀ {fr : Fr}, freeF fr = true → ∀ t c, find fr t = some c → free c = true
  | [], _, t, c, h => by cases h
  | (s, d) :: r, h, t, c, hc => by
    simp only [freeF, Bool.and_eq_true] at h
    simp only [find] at hc
    split at hc
    · injection hc with hc; subst hc; exact h.1
    · exact freeF_find h.2 t c hc
theorem freeB_get : ∀ {bs : List Blk}, freeB bs = true → ∀ (k : Nat) (b : Blk), bs[k]? = some b → b.fz = false ∧ frees b.cs = true
  | [], _, k, b, h => by simp at h
  | x :: r, h, k, b, hb => by
    simp only [freeB, Bool.and_eq_true, Bool.not_eq_true'] at h
    cases k with
    | zero => simp at hb; subst hb; exact ⟨h.1, h.2.1⟩
    | succ k => exact freeB_get h.2.2 k b (by simpa using hb)

/-- Claims on cells from base on are forgotten, rooms too. -/
def Mem.old (X : Mem) (base : Nat) : Mem := ⟨fun b o => if b < base then X.cell b o else none, X.loc, fun _ => none, X.room⟩
theorem MR.old (M : MR X W0 m w) (hb : freeB m.hp = true) : MR (X.old W0.heap.size) W0 ⟨m.hp, []⟩ w := by
  have hsub : ∀ b o x, (X.old W0.heap.size).cell b o = some x → X.cell b o = some x := fun b o x h => by
    simp only [Mem.old] at h
    split at h
    · exact h
    · cases h
  have hno : ∀ β, (∀ o, X.cell β o = none) → ∀ o, (X.old W0.heap.size).cell β o = none := fun β h o => by
    simp only [Mem.old]
    split
    · exact h o
    · rfl
  refine ⟨M.below, fun b o x h => M.cell b o x (hsub b o x h), M.ldom, fun i blk h => ?_, M.inj, fun k T h => (by cases h), fun k n h => (by simp at h), fun i j S T h => (by cases h), M.rm⟩
  obtain ⟨β, h1, h2, h3, hB⟩ := M.locs i blk h
  obtain ⟨hfz, hfr⟩ := freeB_get hb i blk h
  refine ⟨β, h1, h2, h3, ?_⟩
  cases hB with
  | dead h => exact .dead h
  | ent g1 g2 g3 g4 g5 => exact .ent g1 g2 g3 g4 (hno β g5)
  | cells g1 g2 g3 g4 g5 =>
    refine .cells g1 g2 ⟨g3.1, fun k c x q1 q2 => (g3.2 k c x q1 q2).free (frees_get hfr k c q1) fun _ _ h => h⟩ (fun e => by rw [hfz] at e; cases e) (fun e => hno β (g5 e))

theorem tr_thaw {c : Code} {s k n : Nat} {cs : List CV} {xs : List Value} {e : TypeId} {size : Nat} {fr0 : Fr} (hf : find fr s = some (.own k n cs)) (hk : m.hw[k]? = some ⟨n, e, size⟩) (hv : vals cs = some xs) (hs : SubF fr0 fr) (hc : freeF fr0 = true) (hb : freeB m.hp = true)
    (h : Tr cle P nt c ((s, .lsl m.hp.length 0 n size) :: fr0) ⟨m.hp ++ [⟨false, cs.map .c⟩], []⟩ Q) : Tr cle P nt c fr m Q := fun X W0 w a F M => by
  obtain ⟨v, hv1, hv2⟩ := F.slot s _ hf
  obtain ⟨T, t1, ⟨t2, t2e, t2s⟩, t3, t4, t5, t6, ⟨cur, t7, t8⟩, t9, t10⟩ := M.toks k _ hk
  simp only at t2 t2e t2s
  cases hv2 with
  | own hr hn1 hcap hx ht =>
    rename_i ys a0 cap
    obtain ⟨T', u1, u2, u3⟩ := ht
    rw [t1] at u1
    injection u1 with u1
    subst u1
    obtain ⟨rfl, rfl⟩ := u3 t2.symm
    have hcurj : ∀ (j : Nat) (x : Value), ys[j]? = some x → cur[j]? = some x := fun j x hj => by
      obtain ⟨b, o, e1, e2⟩ := hx j x hj
      injection e1 with e1
      injection e1 with e1 e3
      subst e1 e3
      have h5 := M.cell _ _ _ e2
      rw [Nat.zero_add] at h5
      simp only [World.cell?, t7] at h5
      simpa using h5
    have hlen : cs.length ≤ cur.size := by
      rcases Nat.eq_zero_or_pos cs.length with h0 | h0
      · omega
      · have hl : cs.length - 1 < ys.length := by rw [← hr.1]; omega
        have := hcurj _ _ (List.getElem?_eq_getElem hl)
        have := (Array.getElem?_eq_some_iff.1 this).1
        omega
    have hrp : Reps (X.old W0.heap.size) (cs.map .c) (cur.toList.take (cs.map AV.c).length) := by
      rw [List.length_map]
      refine ⟨by rw [List.length_map, List.length_take]; simp only [Array.length_toList]; omega, fun i c x h1 h2 => ?_⟩
      rw [List.getElem?_map, Option.map_eq_some_iff] at h1
      obtain ⟨c0, h1, rfl⟩ := h1
      have hi := (List.getElem?_eq_some_iff.1 h1).1
      rw [List.getElem?_take, if_pos hi, Array.getElem?_toList] at h2
      obtain ⟨x0, rfl, _⟩ := vals_getv hv i c0 h1
      have hl : i < ys.length := by rw [← hr.1]; exact hi
      have h3 := hcurj i _ (List.getElem?_eq_getElem hl)
      rw [h2] at h3
      injection h3 with h3
      have h4 := hr.2 i _ _ h1 (List.getElem?_eq_getElem hl)
      rw [← h3] at h4
      cases h4 with
      | v h5 => exact .c (.v h5)
    have hroom : (X.old W0.heap.size).room T.g ≤ T.cap * T.size := by
      show X.room T.g ≤ _
      rcases Nat.eq_zero_or_pos (X.room T.g) with h0 | h0
      · omega
      · obtain ⟨ar, tt, q1, q2⟩ := M.rm T.g h0
        rw [t7] at q1
        injection q1 with q1
        injection q1 with q1 q3
        subst q1
        omega
    obtain ⟨A, hle⟩ := (M.old hb).adopt (β := T.g) (R := T.cap * T.size) (cs := cs.map .c) t3 (fun o => by simp only [Mem.old]; rw [if_neg (by omega)]) t10 (fun k S hS => by cases hS) t7 (by rw [List.length_map]; exact hlen) hrp hroom (by rw [t8]; exact Nat.le_refl _)
    have hXY : cle W0.heap.size X ((X.old W0.heap.size).adopt m.hp.length T.g (T.cap * T.size)) := by
      refine ⟨fun b o x hb hx => ?_, fun b o x hb hx => ?_, hle.loc, hle.room⟩
      · simp only [Mem.adopt, Mem.old]
        rw [if_pos hb]
        exact hx
      · simp only [Mem.adopt, Mem.old] at hx
        rw [if_pos hb] at hx
        exact hx
    have F' : FR ((X.old W0.heap.size).adopt m.hp.length T.g (T.cap * T.size)) nt ((s, .lsl m.hp.length 0 n size) :: fr0) a := by
      refine ⟨F.size, F.defers, fun t c' hc' => ?_⟩
      simp only [find] at hc'
      split at hc'
      · rename_i est
        have est := Nat.eq_of_beq_eq_true est
        subst est
        injection hc' with hc'
        subst hc'
        refine ⟨_, hv1, .lsl (by simp [Mem.adopt]) (fun _ => by rw [Nat.zero_mul]) hn1 hcap.1 ?_⟩
        simp only [Mem.adopt, if_true]
        rw [t2s, Nat.zero_add]
        exact Nat.le_refl _
      · obtain ⟨x, p1, p2⟩ := F.slot t c' (hs.spec t c' hc')
        exact ⟨x, p1, p2.free (freeF_find hc t c' hc') hle.loc⟩
    refine wp_mono (h _ W0 w a F' A) ?_
    rintro _ a' w' ⟨ex, fr', m', X', rfl, hq, k1, k2, k3⟩
    exact ⟨ex, fr', m', X', rfl, hq, RelOk.trans hXY k1, k2, k3⟩

theorem lsl_closed {b lo n k : Nat} {ds : List CV} {v : Value} (l2 : MR X W0 { m with hp := m.hp.set b ⟨true, ds.map .c⟩ } w) (hlt : b < m.hp.length) (k4 : Rep X (.lsl b lo n k) v) : Rep X (.c (.sl false n ((ds.drop (lo * k)).take (n * k)))) v := by
  cases k4 with
  | lsl hl ho hn hcap hrm =>
    rename_i β o cap
    have hf : fixedAt { m with hp := m.hp.set b ⟨true, ds.map .c⟩ } (.ptr b (lo * k)) = some (ds.drop (lo * k)) := by
      simp only [fixedAt, List.getElem?_set_self hlt, if_true, cleans_map, Option.map_some]
    obtain ⟨b', o', xs, e, r1, r2⟩ := fixedAt_rep l2 hf (.ptr hl)
    injection e with e
    injection e with e
    injection e with e1 e2
    subst e1 e2
    have q1 := r1.take (n * k)
    have q2 := r2.take (n * k)
    refine .c (.sl q1.1 q1.2 hn ⟨hcap, fun e => by cases e⟩ (fun e => by cases e) ?_)
    rcases Nat.eq_zero_or_pos cap with h0 | h0
    · have : n = 0 := by omega
      subst this
      rw [Nat.zero_mul, List.take_zero]
      exact fun j x h => by cases h
    · rw [ho h0]
      exact q2
/-- A slice over a local block that is written no more. -/
theorem tr_frz {R : MRel} [hR : RelOk R] {c : Code} {s b lo n k : Nat} {ds : List CV} (hf : find fr s = some (.lsl b lo n k)) (hb : m.hp[b]? = some ⟨false, ds.map .c⟩)
    (h : Tr R P nt c ((s, .c (.sl false n ((ds.drop (lo * k)).take (n * k)))) :: fr) { m with hp := m.hp.set b ⟨true, ds.map .c⟩ } Q) : Tr R P nt c fr m Q := fun X W0 w a F M => by
  have hz : aFreeze m b = some { m with hp := m.hp.set b ⟨true, ds.map .c⟩ } := by
    simp only [aFreeze, hb, cleans_map]
    rfl
  obtain ⟨X2, l1, l2, _⟩ := aFreeze_ok M hz
  have hlt := (List.getElem?_eq_some_iff.1 hb).1
  have F' : FR X2 nt ((s, .c (.sl false n ((ds.drop (lo * k)).take (n * k)))) :: fr) a := by
    refine ⟨F.size, F.defers, fun t c' hc' => ?_⟩
    simp only [find] at hc'
    split at hc'
    · rename_i est
      have est := Nat.eq_of_beq_eq_true est
      subst est
      injection hc' with hc'
      subst hc'
      obtain ⟨v, p1, p2⟩ := F.slot s _ hf
      exact ⟨v, p1, lsl_closed l2 hlt (p2.mono l1)⟩
    · obtain ⟨x, p1, p2⟩ := F.slot t c' hc'
      exact ⟨x, p1, p2.mono l1⟩
  refine wp_mono (h X2 W0 w a F' l2) ?_
  rintro _ a' w' ⟨ex, fr', m', X', rfl, hq, k1, k2, k3⟩
  exact ⟨ex, fr', m', X', rfl, hq, hR.trans (hR.of l1) k1, k2, k3⟩
end Go.Vs.Ab

/-
  Chapter 7: the statement VariantRenames: the walk on abstract values.
-/
set_option linter.unusedSimpArgs false
set_option linter.unusedVariables false
namespace Go.Proofs.YtlnlnpbjgcickaaDoor
open Go.Vs Go.Vs.Ab
set_option maxRecDepth 100000
set_option maxHeartbeats 8000000

theorem rnEq_len (l : List Bd) : (rnEq l).length = l.length := by
  match l with
  | [] => rfl
  | [_] => rfl
  | _ :: _ :: _ => rfl
theorem renames_does (a : Atm) (N : List ByteArray) (ga : Atm.okay a) (ex : Bool) : Does Tryd.prog 5 [atA a, slS ex N] (fun m => (bA true, m)) := by
  have h7 := lives7_does
  have la := lightA_does a
  have ka := check3_does a
  have lN := lightTexts_does N 9 2700 ex (by omega)
  cases h1 : lightA a with
  | false =>
    rw [h1] at la
    refine does_of' Tryd.func5 rfl (by kernel_rfl) rfl Tryd.ntmps5 rfl rfl fun Q hQ => ?_
    repeat (first
        | refine tr_seq_k fun _ _ => ?_
        | (refine tr_region ?_; simp only [go_sem, List.getElem?_toArray, str_beq, reduceCtorEq, Nat.reduceEqDiff, Nat.reduceLT, Nat.reduceLeDiff, Nat.reduceAdd, Nat.reduceMul, Nat.reduceSub, Nat.reduceBEq, ↓reduceIte, bne_self_eq_false, Bool.and_false, Bool.false_and, Bool.true_or, Bool.false_or])
        | (refine tr_drawC (id := 15) follows 10000 (by kernel_rfl) ?_; simp only [go_sem, List.getElem?_toArray, str_beq, reduceCtorEq, Nat.reduceEqDiff, Nat.reduceLT, Nat.reduceLeDiff, Nat.reduceAdd, Nat.reduceMul, Nat.reduceSub, Nat.reduceBEq, ↓reduceIte, bne_self_eq_false, Bool.and_false, Bool.false_and, Bool.true_or, Bool.false_or])
        | (refine tr_draw (id := 19) follows 10000 [9, 11, 12] [0, 1, 2, 3, 4, 5, 6, 7, 8, 9, 10, 11, 12, 13] (by kernel_rfl) ?_; simp only [go_sem, List.getElem?_toArray, str_beq, reduceCtorEq, Nat.reduceEqDiff, Nat.reduceLT, Nat.reduceLeDiff, Nat.reduceAdd, Nat.reduceMul, Nat.reduceSub, Nat.reduceBEq, ↓reduceIte, bne_self_eq_false, Bool.and_false, Bool.false_and, Bool.true_or, Bool.false_or])
        | (refine tr_draw (id := 21) follows 10000 [2, 6, 8] [0, 1, 2, 3, 4, 5, 7, 6, 8, 9, 10] (by kernel_rfl) ?_; simp only [go_sem, List.getElem?_toArray, str_beq, reduceCtorEq, Nat.reduceEqDiff, Nat.reduceLT, Nat.reduceLeDiff, Nat.reduceAdd, Nat.reduceMul, Nat.reduceSub, Nat.reduceBEq, ↓reduceIte, bne_self_eq_false, Bool.and_false, Bool.false_and, Bool.true_or, Bool.false_or])
        | (refine tr_draw (id := 26) follows 10000 [3, 4] [0, 1, 2, 3, 4, 5, 6] (by kernel_rfl) ?_; simp only [go_sem, List.getElem?_toArray, str_beq, reduceCtorEq, Nat.reduceEqDiff, Nat.reduceLT, Nat.reduceLeDiff, Nat.reduceAdd, Nat.reduceMul, Nat.reduceSub, Nat.reduceBEq, ↓reduceIte, bne_self_eq_false, Bool.and_false, Bool.false_and, Bool.true_or, Bool.false_or])
        | (refine call_of (h7) ?_ ?_
           · first | rfl | simp only [go_sem, List.getElem?_toArray, str_beq, reduceCtorEq, Nat.reduceEqDiff, Nat.reduceLT, Nat.reduceLeDiff, Nat.reduceAdd, Nat.reduceMul, Nat.reduceSub, Nat.reduceBEq, ↓reduceIte, bne_self_eq_false, Bool.and_false, Bool.false_and, Bool.true_or, Bool.false_or, shut_col]
           simp only [go_sem, List.getElem?_toArray, str_beq, reduceCtorEq, Nat.reduceEqDiff, Nat.reduceLT, Nat.reduceLeDiff, Nat.reduceAdd, Nat.reduceMul, Nat.reduceSub, Nat.reduceBEq, ↓reduceIte, bne_self_eq_false, Bool.and_false, Bool.false_and, Bool.true_or, Bool.false_or])
        | refine k_of (by assumption) ?_
        | refine tr_block ?_
        | refine tr_scope ?_
        | (refine tr_skip ?_; try simp only [ex_seq, ex_block])
        | (refine tr_label ?_; try simp only [ex_seq, ex_block])
        | (refine tr_exit ?_; try simp only [ex_seq_exit, ex_block_exit, Nat.reduceEqDiff, if_true, if_false, ex_seq, ex_block, reduceCtorEq, ↓reduceIte])
        | (refine tr_ret ?_; try simp only [ex_seq_ret, ex_block_ret]))
    refine tr_cond rfl (fun ht => ?_) (fun hf => ?_)
    · cases ht
    · repeat (first
          | refine tr_seq_k fun _ _ => ?_
          | (refine tr_region ?_; simp only [go_sem, List.getElem?_toArray, str_beq, reduceCtorEq, Nat.reduceEqDiff, Nat.reduceLT, Nat.reduceLeDiff, Nat.reduceAdd, Nat.reduceMul, Nat.reduceSub, Nat.reduceBEq, ↓reduceIte, bne_self_eq_false, Bool.and_false, Bool.false_and, Bool.true_or, Bool.false_or])
          | (refine tr_drawC (id := 15) follows 10000 (by kernel_rfl) ?_; simp only [go_sem, List.getElem?_toArray, str_beq, reduceCtorEq, Nat.reduceEqDiff, Nat.reduceLT, Nat.reduceLeDiff, Nat.reduceAdd, Nat.reduceMul, Nat.reduceSub, Nat.reduceBEq, ↓reduceIte, bne_self_eq_false, Bool.and_false, Bool.false_and, Bool.true_or, Bool.false_or])
          | (refine tr_draw (id := 19) follows 10000 [9, 11, 12] [0, 1, 2, 3, 4, 5, 6, 7, 8, 9, 10, 11, 12, 13] (by kernel_rfl) ?_; simp only [go_sem, List.getElem?_toArray, str_beq, reduceCtorEq, Nat.reduceEqDiff, Nat.reduceLT, Nat.reduceLeDiff, Nat.reduceAdd, Nat.reduceMul, Nat.reduceSub, Nat.reduceBEq, ↓reduceIte, bne_self_eq_false, Bool.and_false, Bool.false_and, Bool.true_or, Bool.false_or])
          | (refine tr_draw (id := 21) follows 10000 [2, 6, 8] [0, 1, 2, 3, 4, 5, 7, 6, 8, 9, 10] (by kernel_rfl) ?_; simp only [go_sem, List.getElem?_toArray, str_beq, reduceCtorEq, Nat.reduceEqDiff, Nat.reduceLT, Nat.reduceLeDiff, Nat.reduceAdd, Nat.reduceMul, Nat.reduceSub, Nat.reduceBEq, ↓reduceIte, bne_self_eq_false, Bool.and_false, Bool.false_and, Bool.true_or, Bool.false_or])
          | (refine tr_draw (id := 26) follows 10000 [3, 4] [0, 1, 2, 3, 4, 5, 6] (by kernel_rfl) ?_; simp only [go_sem, List.getElem?_toArray, str_beq, reduceCtorEq, Nat.reduceEqDiff, Nat.reduceLT, Nat.reduceLeDiff, Nat.reduceAdd, Nat.reduceMul, Nat.reduceSub, Nat.reduceBEq, ↓reduceIte, bne_self_eq_false, Bool.and_false, Bool.false_and, Bool.true_or, Bool.false_or])
          | (refine call_of (la) ?_ ?_
             · first | rfl | simp only [go_sem, List.getElem?_toArray, str_beq, reduceCtorEq, Nat.reduceEqDiff, Nat.reduceLT, Nat.reduceLeDiff, Nat.reduceAdd, Nat.reduceMul, Nat.reduceSub, Nat.reduceBEq, ↓reduceIte, bne_self_eq_false, Bool.and_false, Bool.false_and, Bool.true_or, Bool.false_or, shut_col]
             simp only [go_sem, List.getElem?_toArray, str_beq, reduceCtorEq, Nat.reduceEqDiff, Nat.reduceLT, Nat.reduceLeDiff, Nat.reduceAdd, Nat.reduceMul, Nat.reduceSub, Nat.reduceBEq, ↓reduceIte, bne_self_eq_false, Bool.and_false, Bool.false_and, Bool.true_or, Bool.false_or])
          | refine k_of (by assumption) ?_
          | refine tr_block ?_
          | refine tr_scope ?_
          | (refine tr_skip ?_; try simp only [ex_seq, ex_block])
          | (refine tr_label ?_; try simp only [ex_seq, ex_block])
          | (refine tr_exit ?_; try simp only [ex_seq_exit, ex_block_exit, Nat.reduceEqDiff, if_true, if_false, ex_seq, ex_block, reduceCtorEq, ↓reduceIte])
          | (refine tr_ret ?_; try simp only [ex_seq_ret, ex_block_ret]))
      refine tr_cond rfl (fun ht => ?_) (fun hf => ?_)
      · repeat (first
            | refine tr_seq_k fun _ _ => ?_
            | (refine tr_region ?_; simp only [go_sem, List.getElem?_toArray, str_beq, reduceCtorEq, Nat.reduceEqDiff, Nat.reduceLT, Nat.reduceLeDiff, Nat.reduceAdd, Nat.reduceMul, Nat.reduceSub, Nat.reduceBEq, ↓reduceIte, bne_self_eq_false, Bool.and_false, Bool.false_and, Bool.true_or, Bool.false_or])
            | (refine tr_drawC (id := 15) follows 10000 (by kernel_rfl) ?_; simp only [go_sem, List.getElem?_toArray, str_beq, reduceCtorEq, Nat.reduceEqDiff, Nat.reduceLT, Nat.reduceLeDiff, Nat.reduceAdd, Nat.reduceMul, Nat.reduceSub, Nat.reduceBEq, ↓reduceIte, bne_self_eq_false, Bool.and_false, Bool.false_and, Bool.true_or, Bool.false_or])
            | (refine tr_draw (id := 19) follows 10000 [9, 11, 12] [0, 1, 2, 3, 4, 5, 6, 7, 8, 9, 10, 11, 12, 13] (by kernel_rfl) ?_; simp only [go_sem, List.getElem?_toArray, str_beq, reduceCtorEq, Nat.reduceEqDiff, Nat.reduceLT, Nat.reduceLeDiff, Nat.reduceAdd, Nat.reduceMul, Nat.reduceSub, Nat.reduceBEq, ↓reduceIte, bne_self_eq_false, Bool.and_false, Bool.false_and, Bool.true_or, Bool.false_or])
            | (refine tr_draw (id := 21) follows 10000 [2, 6, 8] [0, 1, 2, 3, 4, 5, 7, 6, 8, 9, 10] (by kernel_rfl) ?_; simp only [go_sem, List.getElem?_toArray, str_beq, reduceCtorEq, Nat.reduceEqDiff, Nat.reduceLT, Nat.reduceLeDiff, Nat.reduceAdd, Nat.reduceMul, Nat.reduceSub, Nat.reduceBEq, ↓reduceIte, bne_self_eq_false, Bool.and_false, Bool.false_and, Bool.true_or, Bool.false_or])
            | (refine tr_draw (id := 26) follows 10000 [3, 4] [0, 1, 2, 3, 4, 5, 6] (by kernel_rfl) ?_; simp only [go_sem, List.getElem?_toArray, str_beq, reduceCtorEq, Nat.reduceEqDiff, Nat.reduceLT, Nat.reduceLeDiff, Nat.reduceAdd, Nat.reduceMul, Nat.reduceSub, Nat.reduceBEq, ↓reduceIte, bne_self_eq_false, Bool.and_false, Bool.false_and, Bool.true_or, Bool.false_or])
            | refine k_of (by assumption) ?_
            | refine tr_block ?_
            | refine tr_scope ?_
            | (refine tr_skip ?_; try simp only [ex_seq, ex_block])
            | (refine tr_label ?_; try simp only [ex_seq, ex_block])
            | (refine tr_exit ?_; try simp only [ex_seq_exit, ex_block_exit, Nat.reduceEqDiff, if_true, if_false, ex_seq, ex_block, reduceCtorEq, ↓reduceIte])
            | (refine tr_ret ?_; try simp only [ex_seq_ret, ex_block_ret]))
        refine (hQ _ _ [bA true] ?_ (fun m => rfl)).2 <;> simp only [go_sem, List.getElem?_toArray, str_beq, reduceCtorEq, Nat.reduceEqDiff, Nat.reduceLT, Nat.reduceLeDiff, Nat.reduceAdd, Nat.reduceMul, Nat.reduceSub, Nat.reduceBEq, ↓reduceIte, bne_self_eq_false, Bool.and_false, Bool.false_and, Bool.true_or, Bool.false_or, Tryd.f5]
      · cases hf
  | true =>
    rw [h1] at la
    cases h2 : decide (pcheck3 a = 0) with
    | false =>
      refine does_of' Tryd.func5 rfl (by kernel_rfl) rfl Tryd.ntmps5 rfl rfl fun Q hQ => ?_
      repeat (first
          | refine tr_seq_k fun _ _ => ?_
          | (refine tr_region ?_; simp only [go_sem, List.getElem?_toArray, str_beq, reduceCtorEq, Nat.reduceEqDiff, Nat.reduceLT, Nat.reduceLeDiff, Nat.reduceAdd, Nat.reduceMul, Nat.reduceSub, Nat.reduceBEq, ↓reduceIte, bne_self_eq_false, Bool.and_false, Bool.false_and, Bool.true_or, Bool.false_or])
          | (refine tr_drawC (id := 15) follows 10000 (by kernel_rfl) ?_; simp only [go_sem, List.getElem?_toArray, str_beq, reduceCtorEq, Nat.reduceEqDiff, Nat.reduceLT, Nat.reduceLeDiff, Nat.reduceAdd, Nat.reduceMul, Nat.reduceSub, Nat.reduceBEq, ↓reduceIte, bne_self_eq_false, Bool.and_false, Bool.false_and, Bool.true_or, Bool.false_or])
          | (refine tr_draw (id := 19) follows 10000 [9, 11, 12] [0, 1, 2, 3, 4, 5, 6, 7, 8, 9, 10, 11, 12, 13] (by kernel_rfl) ?_; simp only [go_sem, List.getElem?_toArray, str_beq, reduceCtorEq, Nat.reduceEqDiff, Nat.reduceLT, Nat.reduceLeDiff, Nat.reduceAdd, Nat.reduceMul, Nat.reduceSub, Nat.reduceBEq, ↓reduceIte, bne_self_eq_false, Bool.and_false, Bool.false_and, Bool.true_or, Bool.false_or])
          | (refine tr_draw (id := 21) follows 10000 [2, 6, 8] [0, 1, 2, 3, 4, 5, 7, 6, 8, 9, 10] (by kernel_rfl) ?_; simp only [go_sem, List.getElem?_toArray, str_beq, reduceCtorEq, Nat.reduceEqDiff, Nat.reduceLT, Nat.reduceLeDiff, Nat.reduceAdd, Nat.reduceMul, Nat.reduceSub, Nat.reduceBEq, ↓reduceIte, bne_self_eq_false, Bool.and_false, Bool.false_and, Bool.true_or, Bool.false_or])
          | (refine tr_draw (id := 26) follows 10000 [3, 4] [0, 1, 2, 3, 4, 5, 6] (by kernel_rfl) ?_; simp only [go_sem, List.getElem?_toArray, str_beq, reduceCtorEq, Nat.reduceEqDiff, Nat.reduceLT, Nat.reduceLeDiff, Nat.reduceAdd, Nat.reduceMul, Nat.reduceSub, Nat.reduceBEq, ↓reduceIte, bne_self_eq_false, Bool.and_false, Bool.false_and, Bool.true_or, Bool.false_or])
          | (refine call_of (h7) ?_ ?_
             · first | rfl | simp only [go_sem, List.getElem?_toArray, str_beq, reduceCtorEq, Nat.reduceEqDiff, Nat.reduceLT, Nat.reduceLeDiff, Nat.reduceAdd, Nat.reduceMul, Nat.reduceSub, Nat.reduceBEq, ↓reduceIte, bne_self_eq_false, Bool.and_false, Bool.false_and, Bool.true_or, Bool.false_or, shut_col]
             simp only [go_sem, List.getElem?_toArray, str_beq, reduceCtorEq, Nat.reduceEqDiff, Nat.reduceLT, Nat.reduceLeDiff, Nat.reduceAdd, Nat.reduceMul, Nat.reduceSub, Nat.reduceBEq, ↓reduceIte, bne_self_eq_false, Bool.and_false, Bool.false_and, Bool.true_or, Bool.false_or])
          | refine k_of (by assumption) ?_
          | refine tr_block ?_
          | refine tr_scope ?_
          | (refine tr_skip ?_; try simp only [ex_seq, ex_block])
          | (refine tr_label ?_; try simp only [ex_seq, ex_block])
          | (refine tr_exit ?_; try simp only [ex_seq_exit, ex_block_exit, Nat.reduceEqDiff, if_true, if_false, ex_seq, ex_block, reduceCtorEq, ↓reduceIte])
          | (refine tr_ret ?_; try simp only [ex_seq_ret, ex_block_ret]))
      refine tr_cond rfl (fun ht => ?_) (fun hf => ?_)
      · cases ht
      · repeat (first
            | refine tr_seq_k fun _ _ => ?_
            | (refine tr_region ?_; simp only [go_sem, List.getElem?_toArray, str_beq, reduceCtorEq, Nat.reduceEqDiff, Nat.reduceLT, Nat.reduceLeDiff, Nat.reduceAdd, Nat.reduceMul, Nat.reduceSub, Nat.reduceBEq, ↓reduceIte, bne_self_eq_false, Bool.and_false, Bool.false_and, Bool.true_or, Bool.false_or, h2])
            | (refine tr_drawC (id := 15) follows 10000 (by kernel_rfl) ?_; simp only [go_sem, List.getElem?_toArray, str_beq, reduceCtorEq, Nat.reduceEqDiff, Nat.reduceLT, Nat.reduceLeDiff, Nat.reduceAdd, Nat.reduceMul, Nat.reduceSub, Nat.reduceBEq, ↓reduceIte, bne_self_eq_false, Bool.and_false, Bool.false_and, Bool.true_or, Bool.false_or, h2])
            | (refine tr_draw (id := 19) follows 10000 [9, 11, 12] [0, 1, 2, 3, 4, 5, 6, 7, 8, 9, 10, 11, 12, 13] (by kernel_rfl) ?_; simp only [go_sem, List.getElem?_toArray, str_beq, reduceCtorEq, Nat.reduceEqDiff, Nat.reduceLT, Nat.reduceLeDiff, Nat.reduceAdd, Nat.reduceMul, Nat.reduceSub, Nat.reduceBEq, ↓reduceIte, bne_self_eq_false, Bool.and_false, Bool.false_and, Bool.true_or, Bool.false_or, h2])
            | (refine tr_draw (id := 21) follows 10000 [2, 6, 8] [0, 1, 2, 3, 4, 5, 7, 6, 8, 9, 10] (by kernel_rfl) ?_; simp only [go_sem, List.getElem?_toArray, str_beq, reduceCtorEq, Nat.reduceEqDiff, Nat.reduceLT, Nat.reduceLeDiff, Nat.reduceAdd, Nat.reduceMul, Nat.reduceSub, Nat.reduceBEq, ↓reduceIte, bne_self_eq_false, Bool.and_false, Bool.false_and, Bool.true_or, Bool.false_or, h2])
            | (refine tr_draw (id := 26) follows 10000 [3, 4] [0, 1, 2, 3, 4, 5, 6] (by kernel_rfl) ?_; simp only [go_sem, List.getElem?_toArray, str_beq, reduceCtorEq, Nat.reduceEqDiff, Nat.reduceLT, Nat.reduceLeDiff, Nat.reduceAdd, Nat.reduceMul, Nat.reduceSub, Nat.reduceBEq, ↓reduceIte, bne_self_eq_false, Bool.and_false, Bool.false_and, Bool.true_or, Bool.false_or, h2])
            | (refine call_of (la) ?_ ?_
               · first | rfl | simp only [go_sem, List.getElem?_toArray, str_beq, reduceCtorEq, Nat.reduceEqDiff, Nat.reduceLT, Nat.reduceLeDiff, Nat.reduceAdd, Nat.reduceMul, Nat.reduceSub, Nat.reduceBEq, ↓reduceIte, bne_self_eq_false, Bool.and_false, Bool.false_and, Bool.true_or, Bool.false_or, h2, shut_col]
               simp only [go_sem, List.getElem?_toArray, str_beq, reduceCtorEq, Nat.reduceEqDiff, Nat.reduceLT, Nat.reduceLeDiff, Nat.reduceAdd, Nat.reduceMul, Nat.reduceSub, Nat.reduceBEq, ↓reduceIte, bne_self_eq_false, Bool.and_false, Bool.false_and, Bool.true_or, Bool.false_or, h2])
            | (refine call_of (ka) ?_ ?_
               · first | rfl | simp only [go_sem, List.getElem?_toArray, str_beq, reduceCtorEq, Nat.reduceEqDiff, Nat.reduceLT, Nat.reduceLeDiff, Nat.reduceAdd, Nat.reduceMul, Nat.reduceSub, Nat.reduceBEq, ↓reduceIte, bne_self_eq_false, Bool.and_false, Bool.false_and, Bool.true_or, Bool.false_or, h2, shut_col]
               simp only [go_sem, List.getElem?_toArray, str_beq, reduceCtorEq, Nat.reduceEqDiff, Nat.reduceLT, Nat.reduceLeDiff, Nat.reduceAdd, Nat.reduceMul, Nat.reduceSub, Nat.reduceBEq, ↓reduceIte, bne_self_eq_false, Bool.and_false, Bool.false_and, Bool.true_or, Bool.false_or, h2])
            | refine k_of (by assumption) ?_
            | refine tr_block ?_
            | refine tr_scope ?_
            | (refine tr_skip ?_; try simp only [ex_seq, ex_block])
            | (refine tr_label ?_; try simp only [ex_seq, ex_block])
            | (refine tr_exit ?_; try simp only [ex_seq_exit, ex_block_exit, Nat.reduceEqDiff, if_true, if_false, ex_seq, ex_block, reduceCtorEq, ↓reduceIte])
            | (refine tr_ret ?_; try simp only [ex_seq_ret, ex_block_ret]))
        refine tr_cond rfl (fun ht => ?_) (fun hf => ?_)
        · repeat (first
              | refine tr_seq_k fun _ _ => ?_
              | (refine tr_region ?_; simp only [go_sem, List.getElem?_toArray, str_beq, reduceCtorEq, Nat.reduceEqDiff, Nat.reduceLT, Nat.reduceLeDiff, Nat.reduceAdd, Nat.reduceMul, Nat.reduceSub, Nat.reduceBEq, ↓reduceIte, bne_self_eq_false, Bool.and_false, Bool.false_and, Bool.true_or, Bool.false_or])
              | (refine tr_drawC (id := 15) follows 10000 (by kernel_rfl) ?_; simp only [go_sem, List.getElem?_toArray, str_beq, reduceCtorEq, Nat.reduceEqDiff, Nat.reduceLT, Nat.reduceLeDiff, Nat.reduceAdd, Nat.reduceMul, Nat.reduceSub, Nat.reduceBEq, ↓reduceIte, bne_self_eq_false, Bool.and_false, Bool.false_and, Bool.true_or, Bool.false_or])
              | (refine tr_draw (id := 19) follows 10000 [9, 11, 12] [0, 1, 2, 3, 4, 5, 6, 7, 8, 9, 10, 11, 12, 13] (by kernel_rfl) ?_; simp only [go_sem, List.getElem?_toArray, str_beq, reduceCtorEq, Nat.reduceEqDiff, Nat.reduceLT, Nat.reduceLeDiff, Nat.reduceAdd, Nat.reduceMul, Nat.reduceSub, Nat.reduceBEq, ↓reduceIte, bne_self_eq_false, Bool.and_false, Bool.false_and, Bool.true_or, Bool.false_or])
              | (refine tr_draw (id := 21) follows 10000 [2, 6, 8] [0, 1, 2, 3, 4, 5, 7, 6, 8, 9, 10] (by kernel_rfl) ?_; simp only [go_sem, List.getElem?_toArray, str_beq, reduceCtorEq, Nat.reduceEqDiff, Nat.reduceLT, Nat.reduceLeDiff, Nat.reduceAdd, Nat.reduceMul, Nat.reduceSub, Nat.reduceBEq, ↓reduceIte, bne_self_eq_false, Bool.and_false, Bool.false_and, Bool.true_or, Bool.false_or])
              | (refine tr_draw (id := 26) follows 10000 [3, 4] [0, 1, 2, 3, 4, 5, 6] (by kernel_rfl) ?_; simp only [go_sem, List.getElem?_toArray, str_beq, reduceCtorEq, Nat.reduceEqDiff, Nat.reduceLT, Nat.reduceLeDiff, Nat.reduceAdd, Nat.reduceMul, Nat.reduceSub, Nat.reduceBEq, ↓reduceIte, bne_self_eq_false, Bool.and_false, Bool.false_and, Bool.true_or, Bool.false_or])
              | refine k_of (by assumption) ?_
              | refine tr_block ?_
              | refine tr_scope ?_
              | (refine tr_skip ?_; try simp only [ex_seq, ex_block])
              | (refine tr_label ?_; try simp only [ex_seq, ex_block])
              | (refine tr_exit ?_; try simp only [ex_seq_exit, ex_block_exit, Nat.reduceEqDiff, if_true, if_false, ex_seq, ex_block, reduceCtorEq, ↓reduceIte])
              | (refine tr_ret ?_; try simp only [ex_seq_ret, ex_block_ret]))
          refine (hQ _ _ [bA true] ?_ (fun m => rfl)).2 <;> simp only [go_sem, List.getElem?_toArray, str_beq, reduceCtorEq, Nat.reduceEqDiff, Nat.reduceLT, Nat.reduceLeDiff, Nat.reduceAdd, Nat.reduceMul, Nat.reduceSub, Nat.reduceBEq, ↓reduceIte, bne_self_eq_false, Bool.and_false, Bool.false_and, Bool.true_or, Bool.false_or, Tryd.f5]
        · cases hf
    | true =>
      cases h3 : lightTx N 9 2700 with
      | false =>
        rw [h3] at lN
        refine does_of' Tryd.func5 rfl (by kernel_rfl) rfl Tryd.ntmps5 rfl rfl fun Q hQ => ?_
        repeat (first
            | refine tr_seq_k fun _ _ => ?_
            | (refine tr_region ?_; simp only [go_sem, List.getElem?_toArray, str_beq, reduceCtorEq, Nat.reduceEqDiff, Nat.reduceLT, Nat.reduceLeDiff, Nat.reduceAdd, Nat.reduceMul, Nat.reduceSub, Nat.reduceBEq, ↓reduceIte, bne_self_eq_false, Bool.and_false, Bool.false_and, Bool.true_or, Bool.false_or])
            | (refine tr_drawC (id := 15) follows 10000 (by kernel_rfl) ?_; simp only [go_sem, List.getElem?_toArray, str_beq, reduceCtorEq, Nat.reduceEqDiff, Nat.reduceLT, Nat.reduceLeDiff, Nat.reduceAdd, Nat.reduceMul, Nat.reduceSub, Nat.reduceBEq, ↓reduceIte, bne_self_eq_false, Bool.and_false, Bool.false_and, Bool.true_or, Bool.false_or])
            | (refine tr_draw (id := 19) follows 10000 [9, 11, 12] [0, 1, 2, 3, 4, 5, 6, 7, 8, 9, 10, 11, 12, 13] (by kernel_rfl) ?_; simp only [go_sem, List.getElem?_toArray, str_beq, reduceCtorEq, Nat.reduceEqDiff, Nat.reduceLT, Nat.reduceLeDiff, Nat.reduceAdd, Nat.reduceMul, Nat.reduceSub, Nat.reduceBEq, ↓reduceIte, bne_self_eq_false, Bool.and_false, Bool.false_and, Bool.true_or, Bool.false_or])
            | (refine tr_draw (id := 21) follows 10000 [2, 6, 8] [0, 1, 2, 3, 4, 5, 7, 6, 8, 9, 10] (by kernel_rfl) ?_; simp only [go_sem, List.getElem?_toArray, str_beq, reduceCtorEq, Nat.reduceEqDiff, Nat.reduceLT, Nat.reduceLeDiff, Nat.reduceAdd, Nat.reduceMul, Nat.reduceSub, Nat.reduceBEq, ↓reduceIte, bne_self_eq_false, Bool.and_false, Bool.false_and, Bool.true_or, Bool.false_or])
            | (refine tr_draw (id := 26) follows 10000 [3, 4] [0, 1, 2, 3, 4, 5, 6] (by kernel_rfl) ?_; simp only [go_sem, List.getElem?_toArray, str_beq, reduceCtorEq, Nat.reduceEqDiff, Nat.reduceLT, Nat.reduceLeDiff, Nat.reduceAdd, Nat.reduceMul, Nat.reduceSub, Nat.reduceBEq, ↓reduceIte, bne_self_eq_false, Bool.and_false, Bool.false_and, Bool.true_or, Bool.false_or])
            | (refine call_of (h7) ?_ ?_
               · first | rfl | simp only [go_sem, List.getElem?_toArray, str_beq, reduceCtorEq, Nat.reduceEqDiff, Nat.reduceLT, Nat.reduceLeDiff, Nat.reduceAdd, Nat.reduceMul, Nat.reduceSub, Nat.reduceBEq, ↓reduceIte, bne_self_eq_false, Bool.and_false, Bool.false_and, Bool.true_or, Bool.false_or, shut_col]
               simp only [go_sem, List.getElem?_toArray, str_beq, reduceCtorEq, Nat.reduceEqDiff, Nat.reduceLT, Nat.reduceLeDiff, Nat.reduceAdd, Nat.reduceMul, Nat.reduceSub, Nat.reduceBEq, ↓reduceIte, bne_self_eq_false, Bool.and_false, Bool.false_and, Bool.true_or, Bool.false_or])
            | refine k_of (by assumption) ?_
            | refine tr_block ?_
            | refine tr_scope ?_
            | (refine tr_skip ?_; try simp only [ex_seq, ex_block])
            | (refine tr_label ?_; try simp only [ex_seq, ex_block])
            | (refine tr_exit ?_; try simp only [ex_seq_exit, ex_block_exit, Nat.reduceEqDiff, if_true, if_false, ex_seq, ex_block, reduceCtorEq, ↓reduceIte])
            | (refine tr_ret ?_; try simp only [ex_seq_ret, ex_block_ret]))
        refine tr_cond rfl (fun ht => ?_) (fun hf => ?_)
        · cases ht
        · repeat (first
              | refine tr_seq_k fun _ _ => ?_
              | (refine tr_region ?_; simp only [go_sem, List.getElem?_toArray, str_beq, reduceCtorEq, Nat.reduceEqDiff, Nat.reduceLT, Nat.reduceLeDiff, Nat.reduceAdd, Nat.reduceMul, Nat.reduceSub, Nat.reduceBEq, ↓reduceIte, bne_self_eq_false, Bool.and_false, Bool.false_and, Bool.true_or, Bool.false_or, h2])
              | (refine tr_drawC (id := 15) follows 10000 (by kernel_rfl) ?_; simp only [go_sem, List.getElem?_toArray, str_beq, reduceCtorEq, Nat.reduceEqDiff, Nat.reduceLT, Nat.reduceLeDiff, Nat.reduceAdd, Nat.reduceMul, Nat.reduceSub, Nat.reduceBEq, ↓reduceIte, bne_self_eq_false, Bool.and_false, Bool.false_and, Bool.true_or, Bool.false_or, h2])
              | (refine tr_draw (id := 19) follows 10000 [9, 11, 12] [0, 1, 2, 3, 4, 5, 6, 7, 8, 9, 10, 11, 12, 13] (by kernel_rfl) ?_; simp only [go_sem, List.getElem?_toArray, str_beq, reduceCtorEq, Nat.reduceEqDiff, Nat.reduceLT, Nat.reduceLeDiff, Nat.reduceAdd, Nat.reduceMul, Nat.reduceSub, Nat.reduceBEq, ↓reduceIte, bne_self_eq_false, Bool.and_false, Bool.false_and, Bool.true_or, Bool.false_or, h2])
              | (refine tr_draw (id := 21) follows 10000 [2, 6, 8] [0, 1, 2, 3, 4, 5, 7, 6, 8, 9, 10] (by kernel_rfl) ?_; simp only [go_sem, List.getElem?_toArray, str_beq, reduceCtorEq, Nat.reduceEqDiff, Nat.reduceLT, Nat.reduceLeDiff, Nat.reduceAdd, Nat.reduceMul, Nat.reduceSub, Nat.reduceBEq, ↓reduceIte, bne_self_eq_false, Bool.and_false, Bool.false_and, Bool.true_or, Bool.false_or, h2])
              | (refine tr_draw (id := 26) follows 10000 [3, 4] [0, 1, 2, 3, 4, 5, 6] (by kernel_rfl) ?_; simp only [go_sem, List.getElem?_toArray, str_beq, reduceCtorEq, Nat.reduceEqDiff, Nat.reduceLT, Nat.reduceLeDiff, Nat.reduceAdd, Nat.reduceMul, Nat.reduceSub, Nat.reduceBEq, ↓reduceIte, bne_self_eq_false, Bool.and_false, Bool.false_and, Bool.true_or, Bool.false_or, h2])
              | (refine call_of (la) ?_ ?_
                 · first | rfl | simp only [go_sem, List.getElem?_toArray, str_beq, reduceCtorEq, Nat.reduceEqDiff, Nat.reduceLT, Nat.reduceLeDiff, Nat.reduceAdd, Nat.reduceMul, Nat.reduceSub, Nat.reduceBEq, ↓reduceIte, bne_self_eq_false, Bool.and_false, Bool.false_and, Bool.true_or, Bool.false_or, h2, shut_col]
                 simp only [go_sem, List.getElem?_toArray, str_beq, reduceCtorEq, Nat.reduceEqDiff, Nat.reduceLT, Nat.reduceLeDiff, Nat.reduceAdd, Nat.reduceMul, Nat.reduceSub, Nat.reduceBEq, ↓reduceIte, bne_self_eq_false, Bool.and_false, Bool.false_and, Bool.true_or, Bool.false_or, h2])
              | (refine call_of (ka) ?_ ?_
                 · first | rfl | simp only [go_sem, List.getElem?_toArray, str_beq, reduceCtorEq, Nat.reduceEqDiff, Nat.reduceLT, Nat.reduceLeDiff, Nat.reduceAdd, Nat.reduceMul, Nat.reduceSub, Nat.reduceBEq, ↓reduceIte, bne_self_eq_false, Bool.and_false, Bool.false_and, Bool.true_or, Bool.false_or, h2, shut_col]
                 simp only [go_sem, List.getElem?_toArray, str_beq, reduceCtorEq, Nat.reduceEqDiff, Nat.reduceLT, Nat.reduceLeDiff, Nat.reduceAdd, Nat.reduceMul, Nat.reduceSub, Nat.reduceBEq, ↓reduceIte, bne_self_eq_false, Bool.and_false, Bool.false_and, Bool.true_or, Bool.false_or, h2])
              | (refine call_of (lN) ?_ ?_
                 · first | rfl | simp only [go_sem, List.getElem?_toArray, str_beq, reduceCtorEq, Nat.reduceEqDiff, Nat.reduceLT, Nat.reduceLeDiff, Nat.reduceAdd, Nat.reduceMul, Nat.reduceSub, Nat.reduceBEq, ↓reduceIte, bne_self_eq_false, Bool.and_false, Bool.false_and, Bool.true_or, Bool.false_or, h2, shut_col]
                 simp only [go_sem, List.getElem?_toArray, str_beq, reduceCtorEq, Nat.reduceEqDiff, Nat.reduceLT, Nat.reduceLeDiff, Nat.reduceAdd, Nat.reduceMul, Nat.reduceSub, Nat.reduceBEq, ↓reduceIte, bne_self_eq_false, Bool.and_false, Bool.false_and, Bool.true_or, Bool.false_or, h2])
              | refine k_of (by assumption) ?_
              | refine tr_block ?_
              | refine tr_scope ?_
              | (refine tr_skip ?_; try simp only [ex_seq, ex_block])
              | (refine tr_label ?_; try simp only [ex_seq, ex_block])
              | (refine tr_exit ?_; try simp only [ex_seq_exit, ex_block_exit, Nat.reduceEqDiff, if_true, if_false, ex_seq, ex_block, reduceCtorEq, ↓reduceIte])
              | (refine tr_ret ?_; try simp only [ex_seq_ret, ex_block_ret]))
          refine tr_cond rfl (fun ht => ?_) (fun hf => ?_)
          · repeat (first
                | refine tr_seq_k fun _ _ => ?_
                | (refine tr_region ?_; simp only [go_sem, List.getElem?_toArray, str_beq, reduceCtorEq, Nat.reduceEqDiff, Nat.reduceLT, Nat.reduceLeDiff, Nat.reduceAdd, Nat.reduceMul, Nat.reduceSub, Nat.reduceBEq, ↓reduceIte, bne_self_eq_false, Bool.and_false, Bool.false_and, Bool.true_or, Bool.false_or])
                | (refine tr_drawC (id := 15) follows 10000 (by kernel_rfl) ?_; simp only [go_sem, List.getElem?_toArray, str_beq, reduceCtorEq, Nat.reduceEqDiff, Nat.reduceLT, Nat.reduceLeDiff, Nat.reduceAdd, Nat.reduceMul, Nat.reduceSub, Nat.reduceBEq, ↓reduceIte, bne_self_eq_false, Bool.and_false, Bool.false_and, Bool.true_or, Bool.false_or])
                | (refine tr_draw (id := 19) follows 10000 [9, 11, 12] [0, 1, 2, 3, 4, 5, 6, 7, 8, 9, 10, 11, 12, 13] (by kernel_rfl) ?_; simp only [go_sem, List.getElem?_toArray, str_beq, reduceCtorEq, Nat.reduceEqDiff, Nat.reduceLT, Nat.reduceLeDiff, Nat.reduceAdd, Nat.reduceMul, Nat.reduceSub, Nat.reduceBEq, ↓reduceIte, bne_self_eq_false, Bool.and_false, Bool.false_and, Bool.true_or, Bool.false_or])
                | (refine tr_draw (id := 21) follows 10000 [2, 6, 8] [0, 1, 2, 3, 4, 5, 7, 6, 8, 9, 10] (by kernel_rfl) ?_; simp only [go_sem, List.getElem?_toArray, str_beq, reduceCtorEq, Nat.reduceEqDiff, Nat.reduceLT, Nat.reduceLeDiff, Nat.reduceAdd, Nat.reduceMul, Nat.reduceSub, Nat.reduceBEq, ↓reduceIte, bne_self_eq_false, Bool.and_false, Bool.false_and, Bool.true_or, Bool.false_or])
                | (refine tr_draw (id := 26) follows 10000 [3, 4] [0, 1, 2, 3, 4, 5, 6] (by kernel_rfl) ?_; simp only [go_sem, List.getElem?_toArray, str_beq, reduceCtorEq, Nat.reduceEqDiff, Nat.reduceLT, Nat.reduceLeDiff, Nat.reduceAdd, Nat.reduceMul, Nat.reduceSub, Nat.reduceBEq, ↓reduceIte, bne_self_eq_false, Bool.and_false, Bool.false_and, Bool.true_or, Bool.false_or])
                | refine k_of (by assumption) ?_
                | refine tr_block ?_
                | refine tr_scope ?_
                | (refine tr_skip ?_; try simp only [ex_seq, ex_block])
                | (refine tr_label ?_; try simp only [ex_seq, ex_block])
                | (refine tr_exit ?_; try simp only [ex_seq_exit, ex_block_exit, Nat.reduceEqDiff, if_true, if_false, ex_seq, ex_block, reduceCtorEq, ↓reduceIte])
                | (refine tr_ret ?_; try simp only [ex_seq_ret, ex_block_ret]))
            refine (hQ _ _ [bA true] ?_ (fun m => rfl)).2 <;> simp only [go_sem, List.getElem?_toArray, str_beq, reduceCtorEq, Nat.reduceEqDiff, Nat.reduceLT, Nat.reduceLeDiff, Nat.reduceAdd, Nat.reduceMul, Nat.reduceSub, Nat.reduceBEq, ↓reduceIte, bne_self_eq_false, Bool.and_false, Bool.false_and, Bool.true_or, Bool.false_or, Tryd.f5]
          · cases hf
      | true =>
        rw [h3] at lN
        have hN9 := lightTx_len h3
        have z1 := of_decide_eq_true h2
        have cv := vars_does ga
        have hV4 := pvars_len a
        refine does_of' Tryd.func5 rfl (by kernel_rfl) rfl Tryd.ntmps5 rfl rfl fun Q hQ => ?_
        repeat (first
            | refine tr_seq_k fun _ _ => ?_
            | (refine tr_region ?_; simp only [go_sem, List.getElem?_toArray, str_beq, reduceCtorEq, Nat.reduceEqDiff, Nat.reduceLT, Nat.reduceLeDiff, Nat.reduceAdd, Nat.reduceMul, Nat.reduceSub, Nat.reduceBEq, ↓reduceIte, bne_self_eq_false, Bool.and_false, Bool.false_and, Bool.true_or, Bool.false_or])
            | (refine tr_drawC (id := 15) follows 10000 (by kernel_rfl) ?_; simp only [go_sem, List.getElem?_toArray, str_beq, reduceCtorEq, Nat.reduceEqDiff, Nat.reduceLT, Nat.reduceLeDiff, Nat.reduceAdd, Nat.reduceMul, Nat.reduceSub, Nat.reduceBEq, ↓reduceIte, bne_self_eq_false, Bool.and_false, Bool.false_and, Bool.true_or, Bool.false_or])
            | (refine tr_draw (id := 19) follows 10000 [9, 11, 12] [0, 1, 2, 3, 4, 5, 6, 7, 8, 9, 10, 11, 12, 13] (by kernel_rfl) ?_; simp only [go_sem, List.getElem?_toArray, str_beq, reduceCtorEq, Nat.reduceEqDiff, Nat.reduceLT, Nat.reduceLeDiff, Nat.reduceAdd, Nat.reduceMul, Nat.reduceSub, Nat.reduceBEq, ↓reduceIte, bne_self_eq_false, Bool.and_false, Bool.false_and, Bool.true_or, Bool.false_or])
            | (refine tr_draw (id := 21) follows 10000 [2, 6, 8] [0, 1, 2, 3, 4, 5, 7, 6, 8, 9, 10] (by kernel_rfl) ?_; simp only [go_sem, List.getElem?_toArray, str_beq, reduceCtorEq, Nat.reduceEqDiff, Nat.reduceLT, Nat.reduceLeDiff, Nat.reduceAdd, Nat.reduceMul, Nat.reduceSub, Nat.reduceBEq, ↓reduceIte, bne_self_eq_false, Bool.and_false, Bool.false_and, Bool.true_or, Bool.false_or])
            | (refine tr_draw (id := 26) follows 10000 [3, 4] [0, 1, 2, 3, 4, 5, 6] (by kernel_rfl) ?_; simp only [go_sem, List.getElem?_toArray, str_beq, reduceCtorEq, Nat.reduceEqDiff, Nat.reduceLT, Nat.reduceLeDiff, Nat.reduceAdd, Nat.reduceMul, Nat.reduceSub, Nat.reduceBEq, ↓reduceIte, bne_self_eq_false, Bool.and_false, Bool.false_and, Bool.true_or, Bool.false_or])
            | (refine call_of (h7) ?_ ?_
               · first | rfl | simp only [go_sem, List.getElem?_toArray, str_beq, reduceCtorEq, Nat.reduceEqDiff, Nat.reduceLT, Nat.reduceLeDiff, Nat.reduceAdd, Nat.reduceMul, Nat.reduceSub, Nat.reduceBEq, ↓reduceIte, bne_self_eq_false, Bool.and_false, Bool.false_and, Bool.true_or, Bool.false_or, shut_col]
               simp only [go_sem, List.getElem?_toArray, str_beq, reduceCtorEq, Nat.reduceEqDiff, Nat.reduceLT, Nat.reduceLeDiff, Nat.reduceAdd, Nat.reduceMul, Nat.reduceSub, Nat.reduceBEq, ↓reduceIte, bne_self_eq_false, Bool.and_false, Bool.false_and, Bool.true_or, Bool.false_or])
            | refine k_of (by assumption) ?_
            | refine tr_block ?_
            | refine tr_scope ?_
            | (refine tr_skip ?_; try simp only [ex_seq, ex_block])
            | (refine tr_label ?_; try simp only [ex_seq, ex_block])
            | (refine tr_exit ?_; try simp only [ex_seq_exit, ex_block_exit, Nat.reduceEqDiff, if_true, if_false, ex_seq, ex_block, reduceCtorEq, ↓reduceIte])
            | (refine tr_ret ?_; try simp only [ex_seq_ret, ex_block_ret]))
        refine tr_cond rfl (fun ht => ?_) (fun hf => ?_)
        · cases ht
        · repeat (first
              | refine tr_seq_k fun _ _ => ?_
              | (refine tr_region ?_; simp only [go_sem, List.getElem?_toArray, str_beq, reduceCtorEq, Nat.reduceEqDiff, Nat.reduceLT, Nat.reduceLeDiff, Nat.reduceAdd, Nat.reduceMul, Nat.reduceSub, Nat.reduceBEq, ↓reduceIte, bne_self_eq_false, Bool.and_false, Bool.false_and, Bool.true_or, Bool.false_or, h2])
              | (refine tr_drawC (id := 15) follows 10000 (by kernel_rfl) ?_; simp only [go_sem, List.getElem?_toArray, str_beq, reduceCtorEq, Nat.reduceEqDiff, Nat.reduceLT, Nat.reduceLeDiff, Nat.reduceAdd, Nat.reduceMul, Nat.reduceSub, Nat.reduceBEq, ↓reduceIte, bne_self_eq_false, Bool.and_false, Bool.false_and, Bool.true_or, Bool.false_or, h2])
              | (refine tr_draw (id := 19) follows 10000 [9, 11, 12] [0, 1, 2, 3, 4, 5, 6, 7, 8, 9, 10, 11, 12, 13] (by kernel_rfl) ?_; simp only [go_sem, List.getElem?_toArray, str_beq, reduceCtorEq, Nat.reduceEqDiff, Nat.reduceLT, Nat.reduceLeDiff, Nat.reduceAdd, Nat.reduceMul, Nat.reduceSub, Nat.reduceBEq, ↓reduceIte, bne_self_eq_false, Bool.and_false, Bool.false_and, Bool.true_or, Bool.false_or, h2])
              | (refine tr_draw (id := 21) follows 10000 [2, 6, 8] [0, 1, 2, 3, 4, 5, 7, 6, 8, 9, 10] (by kernel_rfl) ?_; simp only [go_sem, List.getElem?_toArray, str_beq, reduceCtorEq, Nat.reduceEqDiff, Nat.reduceLT, Nat.reduceLeDiff, Nat.reduceAdd, Nat.reduceMul, Nat.reduceSub, Nat.reduceBEq, ↓reduceIte, bne_self_eq_false, Bool.and_false, Bool.false_and, Bool.true_or, Bool.false_or, h2])
              | (refine tr_draw (id := 26) follows 10000 [3, 4] [0, 1, 2, 3, 4, 5, 6] (by kernel_rfl) ?_; simp only [go_sem, List.getElem?_toArray, str_beq, reduceCtorEq, Nat.reduceEqDiff, Nat.reduceLT, Nat.reduceLeDiff, Nat.reduceAdd, Nat.reduceMul, Nat.reduceSub, Nat.reduceBEq, ↓reduceIte, bne_self_eq_false, Bool.and_false, Bool.false_and, Bool.true_or, Bool.false_or, h2])
              | (refine call_of (la) ?_ ?_
                 · first | rfl | simp only [go_sem, List.getElem?_toArray, str_beq, reduceCtorEq, Nat.reduceEqDiff, Nat.reduceLT, Nat.reduceLeDiff, Nat.reduceAdd, Nat.reduceMul, Nat.reduceSub, Nat.reduceBEq, ↓reduceIte, bne_self_eq_false, Bool.and_false, Bool.false_and, Bool.true_or, Bool.false_or, h2, shut_col]
                 simp only [go_sem, List.getElem?_toArray, str_beq, reduceCtorEq, Nat.reduceEqDiff, Nat.reduceLT, Nat.reduceLeDiff, Nat.reduceAdd, Nat.reduceMul, Nat.reduceSub, Nat.reduceBEq, ↓reduceIte, bne_self_eq_false, Bool.and_false, Bool.false_and, Bool.true_or, Bool.false_or, h2])
              | (refine call_of (ka) ?_ ?_
                 · first | rfl | simp only [go_sem, List.getElem?_toArray, str_beq, reduceCtorEq, Nat.reduceEqDiff, Nat.reduceLT, Nat.reduceLeDiff, Nat.reduceAdd, Nat.reduceMul, Nat.reduceSub, Nat.reduceBEq, ↓reduceIte, bne_self_eq_false, Bool.and_false, Bool.false_and, Bool.true_or, Bool.false_or, h2, shut_col]
                 simp only [go_sem, List.getElem?_toArray, str_beq, reduceCtorEq, Nat.reduceEqDiff, Nat.reduceLT, Nat.reduceLeDiff, Nat.reduceAdd, Nat.reduceMul, Nat.reduceSub, Nat.reduceBEq, ↓reduceIte, bne_self_eq_false, Bool.and_false, Bool.false_and, Bool.true_or, Bool.false_or, h2])
              | (refine call_of (lN) ?_ ?_
                 · first | rfl | simp only [go_sem, List.getElem?_toArray, str_beq, reduceCtorEq, Nat.reduceEqDiff, Nat.reduceLT, Nat.reduceLeDiff, Nat.reduceAdd, Nat.reduceMul, Nat.reduceSub, Nat.reduceBEq, ↓reduceIte, bne_self_eq_false, Bool.and_false, Bool.false_and, Bool.true_or, Bool.false_or, h2, shut_col]
                 simp only [go_sem, List.getElem?_toArray, str_beq, reduceCtorEq, Nat.reduceEqDiff, Nat.reduceLT, Nat.reduceLeDiff, Nat.reduceAdd, Nat.reduceMul, Nat.reduceSub, Nat.reduceBEq, ↓reduceIte, bne_self_eq_false, Bool.and_false, Bool.false_and, Bool.true_or, Bool.false_or, h2])
              | refine k_of (by assumption) ?_
              | refine tr_block ?_
              | refine tr_scope ?_
              | (refine tr_skip ?_; try simp only [ex_seq, ex_block])
              | (refine tr_label ?_; try simp only [ex_seq, ex_block])
              | (refine tr_exit ?_; try simp only [ex_seq_exit, ex_block_exit, Nat.reduceEqDiff, if_true, if_false, ex_seq, ex_block, reduceCtorEq, ↓reduceIte])
              | (refine tr_ret ?_; try simp only [ex_seq_ret, ex_block_ret]))
          refine tr_cond rfl (fun ht => ?_) (fun hf => ?_)
          · cases ht
          · cases h4 : decide ((N.length : Int) < ((pnames a true).length : Int)) with
            | true =>
              repeat (first
                  | refine tr_seq_k fun _ _ => ?_
                  | (refine tr_region ?_; simp only [go_sem, List.getElem?_toArray, str_beq, reduceCtorEq, Nat.reduceEqDiff, Nat.reduceLT, Nat.reduceLeDiff, Nat.reduceAdd, Nat.reduceMul, Nat.reduceSub, Nat.reduceBEq, ↓reduceIte, bne_self_eq_false, Bool.and_false, Bool.false_and, Bool.true_or, Bool.false_or, h4])
                  | (refine tr_drawC (id := 15) follows 10000 (by kernel_rfl) ?_; simp only [go_sem, List.getElem?_toArray, str_beq, reduceCtorEq, Nat.reduceEqDiff, Nat.reduceLT, Nat.reduceLeDiff, Nat.reduceAdd, Nat.reduceMul, Nat.reduceSub, Nat.reduceBEq, ↓reduceIte, bne_self_eq_false, Bool.and_false, Bool.false_and, Bool.true_or, Bool.false_or, h4])
                  | (refine tr_draw (id := 19) follows 10000 [9, 11, 12] [0, 1, 2, 3, 4, 5, 6, 7, 8, 9, 10, 11, 12, 13] (by kernel_rfl) ?_; simp only [go_sem, List.getElem?_toArray, str_beq, reduceCtorEq, Nat.reduceEqDiff, Nat.reduceLT, Nat.reduceLeDiff, Nat.reduceAdd, Nat.reduceMul, Nat.reduceSub, Nat.reduceBEq, ↓reduceIte, bne_self_eq_false, Bool.and_false, Bool.false_and, Bool.true_or, Bool.false_or, h4])
                  | (refine tr_draw (id := 21) follows 10000 [2, 6, 8] [0, 1, 2, 3, 4, 5, 7, 6, 8, 9, 10] (by kernel_rfl) ?_; simp only [go_sem, List.getElem?_toArray, str_beq, reduceCtorEq, Nat.reduceEqDiff, Nat.reduceLT, Nat.reduceLeDiff, Nat.reduceAdd, Nat.reduceMul, Nat.reduceSub, Nat.reduceBEq, ↓reduceIte, bne_self_eq_false, Bool.and_false, Bool.false_and, Bool.true_or, Bool.false_or, h4])
                  | (refine tr_draw (id := 26) follows 10000 [3, 4] [0, 1, 2, 3, 4, 5, 6] (by kernel_rfl) ?_; simp only [go_sem, List.getElem?_toArray, str_beq, reduceCtorEq, Nat.reduceEqDiff, Nat.reduceLT, Nat.reduceLeDiff, Nat.reduceAdd, Nat.reduceMul, Nat.reduceSub, Nat.reduceBEq, ↓reduceIte, bne_self_eq_false, Bool.and_false, Bool.false_and, Bool.true_or, Bool.false_or, h4])
                  | (refine call_of (cv) ?_ ?_
                     · first | rfl | simp only [go_sem, List.getElem?_toArray, str_beq, reduceCtorEq, Nat.reduceEqDiff, Nat.reduceLT, Nat.reduceLeDiff, Nat.reduceAdd, Nat.reduceMul, Nat.reduceSub, Nat.reduceBEq, ↓reduceIte, bne_self_eq_false, Bool.and_false, Bool.false_and, Bool.true_or, Bool.false_or, h4, shut_col]
                     simp only [go_sem, List.getElem?_toArray, str_beq, reduceCtorEq, Nat.reduceEqDiff, Nat.reduceLT, Nat.reduceLeDiff, Nat.reduceAdd, Nat.reduceMul, Nat.reduceSub, Nat.reduceBEq, ↓reduceIte, bne_self_eq_false, Bool.and_false, Bool.false_and, Bool.true_or, Bool.false_or, h4])
                  | refine k_of (by assumption) ?_
                  | refine tr_block ?_
                  | refine tr_scope ?_
                  | (refine tr_skip ?_; try simp only [ex_seq, ex_block])
                  | (refine tr_label ?_; try simp only [ex_seq, ex_block])
                  | (refine tr_exit ?_; try simp only [ex_seq_exit, ex_block_exit, Nat.reduceEqDiff, if_true, if_false, ex_seq, ex_block, reduceCtorEq, ↓reduceIte])
                  | (refine tr_ret ?_; try simp only [ex_seq_ret, ex_block_ret]))
              refine tr_cond rfl (fun ht => ?_) (fun hf => ?_)
              · repeat (first
                    | refine tr_seq_k fun _ _ => ?_
                    | (refine tr_region ?_; simp only [go_sem, List.getElem?_toArray, str_beq, reduceCtorEq, Nat.reduceEqDiff, Nat.reduceLT, Nat.reduceLeDiff, Nat.reduceAdd, Nat.reduceMul, Nat.reduceSub, Nat.reduceBEq, ↓reduceIte, bne_self_eq_false, Bool.and_false, Bool.false_and, Bool.true_or, Bool.false_or])
                    | (refine tr_drawC (id := 15) follows 10000 (by kernel_rfl) ?_; simp only [go_sem, List.getElem?_toArray, str_beq, reduceCtorEq, Nat.reduceEqDiff, Nat.reduceLT, Nat.reduceLeDiff, Nat.reduceAdd, Nat.reduceMul, Nat.reduceSub, Nat.reduceBEq, ↓reduceIte, bne_self_eq_false, Bool.and_false, Bool.false_and, Bool.true_or, Bool.false_or])
                    | (refine tr_draw (id := 19) follows 10000 [9, 11, 12] [0, 1, 2, 3, 4, 5, 6, 7, 8, 9, 10, 11, 12, 13] (by kernel_rfl) ?_; simp only [go_sem, List.getElem?_toArray, str_beq, reduceCtorEq, Nat.reduceEqDiff, Nat.reduceLT, Nat.reduceLeDiff, Nat.reduceAdd, Nat.reduceMul, Nat.reduceSub, Nat.reduceBEq, ↓reduceIte, bne_self_eq_false, Bool.and_false, Bool.false_and, Bool.true_or, Bool.false_or])
                    | (refine tr_draw (id := 21) follows 10000 [2, 6, 8] [0, 1, 2, 3, 4, 5, 7, 6, 8, 9, 10] (by kernel_rfl) ?_; simp only [go_sem, List.getElem?_toArray, str_beq, reduceCtorEq, Nat.reduceEqDiff, Nat.reduceLT, Nat.reduceLeDiff, Nat.reduceAdd, Nat.reduceMul, Nat.reduceSub, Nat.reduceBEq, ↓reduceIte, bne_self_eq_false, Bool.and_false, Bool.false_and, Bool.true_or, Bool.false_or])
                    | (refine tr_draw (id := 26) follows 10000 [3, 4] [0, 1, 2, 3, 4, 5, 6] (by kernel_rfl) ?_; simp only [go_sem, List.getElem?_toArray, str_beq, reduceCtorEq, Nat.reduceEqDiff, Nat.reduceLT, Nat.reduceLeDiff, Nat.reduceAdd, Nat.reduceMul, Nat.reduceSub, Nat.reduceBEq, ↓reduceIte, bne_self_eq_false, Bool.and_false, Bool.false_and, Bool.true_or, Bool.false_or])
                    | refine k_of (by assumption) ?_
                    | refine tr_block ?_
                    | refine tr_scope ?_
                    | (refine tr_skip ?_; try simp only [ex_seq, ex_block])
                    | (refine tr_label ?_; try simp only [ex_seq, ex_block])
                    | (refine tr_exit ?_; try simp only [ex_seq_exit, ex_block_exit, Nat.reduceEqDiff, if_true, if_false, ex_seq, ex_block, reduceCtorEq, ↓reduceIte])
                    | (refine tr_ret ?_; try simp only [ex_seq_ret, ex_block_ret]))
                refine (hQ _ _ [bA true] ?_ (fun m => rfl)).2 <;> simp only [go_sem, List.getElem?_toArray, str_beq, reduceCtorEq, Nat.reduceEqDiff, Nat.reduceLT, Nat.reduceLeDiff, Nat.reduceAdd, Nat.reduceMul, Nat.reduceSub, Nat.reduceBEq, ↓reduceIte, bne_self_eq_false, Bool.and_false, Bool.false_and, Bool.true_or, Bool.false_or, Tryd.f5]
              · cases hf
            | false =>
              have hVN : (pnames a true).length ≤ N.length := by
                have := of_decide_eq_false h4
                omega
              repeat (first
                  | refine tr_seq_k fun _ _ => ?_
                  | (refine tr_region ?_; simp only [go_sem, List.getElem?_toArray, str_beq, reduceCtorEq, Nat.reduceEqDiff, Nat.reduceLT, Nat.reduceLeDiff, Nat.reduceAdd, Nat.reduceMul, Nat.reduceSub, Nat.reduceBEq, ↓reduceIte, bne_self_eq_false, Bool.and_false, Bool.false_and, Bool.true_or, Bool.false_or, h4])
                  | (refine tr_drawC (id := 15) follows 10000 (by kernel_rfl) ?_; simp only [go_sem, List.getElem?_toArray, str_beq, reduceCtorEq, Nat.reduceEqDiff, Nat.reduceLT, Nat.reduceLeDiff, Nat.reduceAdd, Nat.reduceMul, Nat.reduceSub, Nat.reduceBEq, ↓reduceIte, bne_self_eq_false, Bool.and_false, Bool.false_and, Bool.true_or, Bool.false_or, h4])
                  | (refine tr_draw (id := 19) follows 10000 [9, 11, 12] [0, 1, 2, 3, 4, 5, 6, 7, 8, 9, 10, 11, 12, 13] (by kernel_rfl) ?_; simp only [go_sem, List.getElem?_toArray, str_beq, reduceCtorEq, Nat.reduceEqDiff, Nat.reduceLT, Nat.reduceLeDiff, Nat.reduceAdd, Nat.reduceMul, Nat.reduceSub, Nat.reduceBEq, ↓reduceIte, bne_self_eq_false, Bool.and_false, Bool.false_and, Bool.true_or, Bool.false_or, h4])
                  | (refine tr_draw (id := 21) follows 10000 [2, 6, 8] [0, 1, 2, 3, 4, 5, 7, 6, 8, 9, 10] (by kernel_rfl) ?_; simp only [go_sem, List.getElem?_toArray, str_beq, reduceCtorEq, Nat.reduceEqDiff, Nat.reduceLT, Nat.reduceLeDiff, Nat.reduceAdd, Nat.reduceMul, Nat.reduceSub, Nat.reduceBEq, ↓reduceIte, bne_self_eq_false, Bool.and_false, Bool.false_and, Bool.true_or, Bool.false_or, h4])
                  | (refine tr_draw (id := 26) follows 10000 [3, 4] [0, 1, 2, 3, 4, 5, 6] (by kernel_rfl) ?_; simp only [go_sem, List.getElem?_toArray, str_beq, reduceCtorEq, Nat.reduceEqDiff, Nat.reduceLT, Nat.reduceLeDiff, Nat.reduceAdd, Nat.reduceMul, Nat.reduceSub, Nat.reduceBEq, ↓reduceIte, bne_self_eq_false, Bool.and_false, Bool.false_and, Bool.true_or, Bool.false_or, h4])
                  | (refine call_of (cv) ?_ ?_
                     · first | rfl | simp only [go_sem, List.getElem?_toArray, str_beq, reduceCtorEq, Nat.reduceEqDiff, Nat.reduceLT, Nat.reduceLeDiff, Nat.reduceAdd, Nat.reduceMul, Nat.reduceSub, Nat.reduceBEq, ↓reduceIte, bne_self_eq_false, Bool.and_false, Bool.false_and, Bool.true_or, Bool.false_or, h4, shut_col]
                     simp only [go_sem, List.getElem?_toArray, str_beq, reduceCtorEq, Nat.reduceEqDiff, Nat.reduceLT, Nat.reduceLeDiff, Nat.reduceAdd, Nat.reduceMul, Nat.reduceSub, Nat.reduceBEq, ↓reduceIte, bne_self_eq_false, Bool.and_false, Bool.false_and, Bool.true_or, Bool.false_or, h4])
                  | refine k_of (by assumption) ?_
                  | refine tr_block ?_
                  | refine tr_scope ?_
                  | (refine tr_skip ?_; try simp only [ex_seq, ex_block])
                  | (refine tr_label ?_; try simp only [ex_seq, ex_block])
                  | (refine tr_exit ?_; try simp only [ex_seq_exit, ex_block_exit, Nat.reduceEqDiff, if_true, if_false, ex_seq, ex_block, reduceCtorEq, ↓reduceIte])
                  | (refine tr_ret ?_; try simp only [ex_seq_ret, ex_block_ret]))
              refine tr_cond rfl (fun ht => ?_) (fun hf => ?_)
              · cases ht
              · repeat (first
                    | refine tr_seq_k fun _ _ => ?_
                    | (refine tr_region ?_; simp only [go_sem, List.getElem?_toArray, str_beq, reduceCtorEq, Nat.reduceEqDiff, Nat.reduceLT, Nat.reduceLeDiff, Nat.reduceAdd, Nat.reduceMul, Nat.reduceSub, Nat.reduceBEq, ↓reduceIte, bne_self_eq_false, Bool.and_false, Bool.false_and, Bool.true_or, Bool.false_or])
                    | (refine tr_drawC (id := 15) follows 10000 (by kernel_rfl) ?_; simp only [go_sem, List.getElem?_toArray, str_beq, reduceCtorEq, Nat.reduceEqDiff, Nat.reduceLT, Nat.reduceLeDiff, Nat.reduceAdd, Nat.reduceMul, Nat.reduceSub, Nat.reduceBEq, ↓reduceIte, bne_self_eq_false, Bool.and_false, Bool.false_and, Bool.true_or, Bool.false_or])
                    | (refine tr_draw (id := 19) follows 10000 [9, 11, 12] [0, 1, 2, 3, 4, 5, 6, 7, 8, 9, 10, 11, 12, 13] (by kernel_rfl) ?_; simp only [go_sem, List.getElem?_toArray, str_beq, reduceCtorEq, Nat.reduceEqDiff, Nat.reduceLT, Nat.reduceLeDiff, Nat.reduceAdd, Nat.reduceMul, Nat.reduceSub, Nat.reduceBEq, ↓reduceIte, bne_self_eq_false, Bool.and_false, Bool.false_and, Bool.true_or, Bool.false_or])
                    | (refine tr_draw (id := 21) follows 10000 [2, 6, 8] [0, 1, 2, 3, 4, 5, 7, 6, 8, 9, 10] (by kernel_rfl) ?_; simp only [go_sem, List.getElem?_toArray, str_beq, reduceCtorEq, Nat.reduceEqDiff, Nat.reduceLT, Nat.reduceLeDiff, Nat.reduceAdd, Nat.reduceMul, Nat.reduceSub, Nat.reduceBEq, ↓reduceIte, bne_self_eq_false, Bool.and_false, Bool.false_and, Bool.true_or, Bool.false_or])
                    | (refine tr_draw (id := 26) follows 10000 [3, 4] [0, 1, 2, 3, 4, 5, 6] (by kernel_rfl) ?_; simp only [go_sem, List.getElem?_toArray, str_beq, reduceCtorEq, Nat.reduceEqDiff, Nat.reduceLT, Nat.reduceLeDiff, Nat.reduceAdd, Nat.reduceMul, Nat.reduceSub, Nat.reduceBEq, ↓reduceIte, bne_self_eq_false, Bool.and_false, Bool.false_and, Bool.true_or, Bool.false_or])
                    | refine k_of (by assumption) ?_
                    | refine tr_block ?_
                    | refine tr_scope ?_
                    | (refine tr_skip ?_; try simp only [ex_seq, ex_block])
                    | (refine tr_label ?_; try simp only [ex_seq, ex_block])
                    | (refine tr_exit ?_; try simp only [ex_seq_exit, ex_block_exit, Nat.reduceEqDiff, if_true, if_false, ex_seq, ex_block, reduceCtorEq, ↓reduceIte])
                    | (refine tr_ret ?_; try simp only [ex_seq_ret, ex_block_ret]))
                refine tr_loop_k (σ := Nat) (fun i => [(1, slS ex N), (2, .ptr 0 0), (5, slS false (pnames a true)), (6, colA bdC 0 (rnK (pnames a true) N i)), (7, iA i)]) (fun i => ⟨[⟨false, ([.c (.v (.string a.says)), .c (.v (.string a.pred)), .c (.v (.int .i64 a.n)), .c (.v (.bool a.a0.v)), .c (.v (.string a.a0.name)), .c (.v (.bool a.a1.v)), .c (.v (.string a.a1.name)), .c (.v (.bool a.a2.v)), .c (.v (.string a.a2.name)), .c (.v (.bool a.a3.v)), .c (.v (.string a.a3.name))] : List AV)⟩], colH 45 3 (rnK (pnames a true) N i)⟩)
                  (fun i => i ≤ (pnames a true).length ∧ DistN N i) (fun i => (pnames a true).length - i) 0 ⟨Nat.zero_le _, fun i j _ h => absurd h (Nat.not_lt_zero _)⟩ ⟨rfl, rfl, rfl, rfl, rfl, trivial⟩ rfl ?_
                rintro i ⟨hi, hd⟩ K hK
                repeat (first
                    | refine tr_seq_k fun _ _ => ?_
                    | (refine tr_region ?_; simp only [go_sem, List.getElem?_toArray, str_beq, reduceCtorEq, Nat.reduceEqDiff, Nat.reduceLT, Nat.reduceLeDiff, Nat.reduceAdd, Nat.reduceMul, Nat.reduceSub, Nat.reduceBEq, ↓reduceIte, bne_self_eq_false, Bool.and_false, Bool.false_and, Bool.true_or, Bool.false_or])
                    | (refine tr_drawC (id := 15) follows 10000 (by kernel_rfl) ?_; simp only [go_sem, List.getElem?_toArray, str_beq, reduceCtorEq, Nat.reduceEqDiff, Nat.reduceLT, Nat.reduceLeDiff, Nat.reduceAdd, Nat.reduceMul, Nat.reduceSub, Nat.reduceBEq, ↓reduceIte, bne_self_eq_false, Bool.and_false, Bool.false_and, Bool.true_or, Bool.false_or])
                    | (refine tr_draw (id := 19) follows 10000 [9, 11, 12] [0, 1, 2, 3, 4, 5, 6, 7, 8, 9, 10, 11, 12, 13] (by kernel_rfl) ?_; simp only [go_sem, List.getElem?_toArray, str_beq, reduceCtorEq, Nat.reduceEqDiff, Nat.reduceLT, Nat.reduceLeDiff, Nat.reduceAdd, Nat.reduceMul, Nat.reduceSub, Nat.reduceBEq, ↓reduceIte, bne_self_eq_false, Bool.and_false, Bool.false_and, Bool.true_or, Bool.false_or])
                    | (refine tr_draw (id := 21) follows 10000 [2, 6, 8] [0, 1, 2, 3, 4, 5, 7, 6, 8, 9, 10] (by kernel_rfl) ?_; simp only [go_sem, List.getElem?_toArray, str_beq, reduceCtorEq, Nat.reduceEqDiff, Nat.reduceLT, Nat.reduceLeDiff, Nat.reduceAdd, Nat.reduceMul, Nat.reduceSub, Nat.reduceBEq, ↓reduceIte, bne_self_eq_false, Bool.and_false, Bool.false_and, Bool.true_or, Bool.false_or])
                    | (refine tr_draw (id := 26) follows 10000 [3, 4] [0, 1, 2, 3, 4, 5, 6] (by kernel_rfl) ?_; simp only [go_sem, List.getElem?_toArray, str_beq, reduceCtorEq, Nat.reduceEqDiff, Nat.reduceLT, Nat.reduceLeDiff, Nat.reduceAdd, Nat.reduceMul, Nat.reduceSub, Nat.reduceBEq, ↓reduceIte, bne_self_eq_false, Bool.and_false, Bool.false_and, Bool.true_or, Bool.false_or])
                    | refine k_of (by assumption) ?_
                    | refine tr_block ?_
                    | refine tr_scope ?_
                    | (refine tr_skip ?_; try simp only [ex_seq, ex_block])
                    | (refine tr_label ?_; try simp only [ex_seq, ex_block])
                    | (refine tr_exit ?_; try simp only [ex_seq_exit, ex_block_exit, Nat.reduceEqDiff, if_true, if_false, ex_seq, ex_block, reduceCtorEq, ↓reduceIte])
                    | (refine tr_ret ?_; try simp only [ex_seq_ret, ex_block_ret]))
                refine tr_cond rfl (fun ht => ?_) (fun hf => ?_)
                · have hlt : i < (pnames a true).length := by simpa using ht
                  have hiN : i < N.length := by omega
                  have ws := wrap_succ (show i ≤ 1000000000 by omega)
                  repeat (first
                      | refine tr_seq_k fun _ _ => ?_
                      | (refine tr_region ?_; simp only [go_sem, List.getElem?_toArray, str_beq, reduceCtorEq, Nat.reduceEqDiff, Nat.reduceLT, Nat.reduceLeDiff, Nat.reduceAdd, Nat.reduceMul, Nat.reduceSub, Nat.reduceBEq, ↓reduceIte, bne_self_eq_false, Bool.and_false, Bool.false_and, Bool.true_or, Bool.false_or])
                      | (refine tr_drawC (id := 15) follows 10000 (by kernel_rfl) ?_; simp only [go_sem, List.getElem?_toArray, str_beq, reduceCtorEq, Nat.reduceEqDiff, Nat.reduceLT, Nat.reduceLeDiff, Nat.reduceAdd, Nat.reduceMul, Nat.reduceSub, Nat.reduceBEq, ↓reduceIte, bne_self_eq_false, Bool.and_false, Bool.false_and, Bool.true_or, Bool.false_or])
                      | (refine tr_draw (id := 19) follows 10000 [9, 11, 12] [0, 1, 2, 3, 4, 5, 6, 7, 8, 9, 10, 11, 12, 13] (by kernel_rfl) ?_; simp only [go_sem, List.getElem?_toArray, str_beq, reduceCtorEq, Nat.reduceEqDiff, Nat.reduceLT, Nat.reduceLeDiff, Nat.reduceAdd, Nat.reduceMul, Nat.reduceSub, Nat.reduceBEq, ↓reduceIte, bne_self_eq_false, Bool.and_false, Bool.false_and, Bool.true_or, Bool.false_or])
                      | (refine tr_draw (id := 21) follows 10000 [2, 6, 8] [0, 1, 2, 3, 4, 5, 7, 6, 8, 9, 10] (by kernel_rfl) ?_; simp only [go_sem, List.getElem?_toArray, str_beq, reduceCtorEq, Nat.reduceEqDiff, Nat.reduceLT, Nat.reduceLeDiff, Nat.reduceAdd, Nat.reduceMul, Nat.reduceSub, Nat.reduceBEq, ↓reduceIte, bne_self_eq_false, Bool.and_false, Bool.false_and, Bool.true_or, Bool.false_or])
                      | (refine tr_draw (id := 26) follows 10000 [3, 4] [0, 1, 2, 3, 4, 5, 6] (by kernel_rfl) ?_; simp only [go_sem, List.getElem?_toArray, str_beq, reduceCtorEq, Nat.reduceEqDiff, Nat.reduceLT, Nat.reduceLeDiff, Nat.reduceAdd, Nat.reduceMul, Nat.reduceSub, Nat.reduceBEq, ↓reduceIte, bne_self_eq_false, Bool.and_false, Bool.false_and, Bool.true_or, Bool.false_or])
                      | refine k_of (by assumption) ?_
                      | refine tr_block ?_
                      | refine tr_scope ?_
                      | (refine tr_skip ?_; try simp only [ex_seq, ex_block])
                      | (refine tr_label ?_; try simp only [ex_seq, ex_block])
                      | (refine tr_exit ?_; try simp only [ex_seq_exit, ex_block_exit, Nat.reduceEqDiff, if_true, if_false, ex_seq, ex_block, reduceCtorEq, ↓reduceIte])
                      | (refine tr_ret ?_; try simp only [ex_seq_ret, ex_block_ret]))
                  refine tr_loop_k (σ := Nat) (fun k => [(1, slS ex N), (2, .ptr 0 0), (5, slS false (pnames a true)), (6, colA bdC 0 (rnK (pnames a true) N i)), (7, iA i), (8, iA k)]) (fun _ => ⟨[⟨false, ([.c (.v (.string a.says)), .c (.v (.string a.pred)), .c (.v (.int .i64 a.n)), .c (.v (.bool a.a0.v)), .c (.v (.string a.a0.name)), .c (.v (.bool a.a1.v)), .c (.v (.string a.a1.name)), .c (.v (.bool a.a2.v)), .c (.v (.string a.a2.name)), .c (.v (.bool a.a3.v)), .c (.v (.string a.a3.name))] : List AV)⟩], colH 45 3 (rnK (pnames a true) N i)⟩)
                    (fun k => k ≤ i ∧ ∀ j, j < k → N.getD j default ≠ N.getD i default) (fun k => i - k) 0 ⟨Nat.zero_le _, fun j h => absurd h (Nat.not_lt_zero _)⟩ ⟨rfl, rfl, rfl, rfl, rfl, rfl, trivial⟩ rfl ?_
                  rintro k ⟨hk, hdk⟩ K2 hK2
                  repeat (first
                      | refine tr_seq_k fun _ _ => ?_
                      | (refine tr_region ?_; simp only [go_sem, List.getElem?_toArray, str_beq, reduceCtorEq, Nat.reduceEqDiff, Nat.reduceLT, Nat.reduceLeDiff, Nat.reduceAdd, Nat.reduceMul, Nat.reduceSub, Nat.reduceBEq, ↓reduceIte, bne_self_eq_false, Bool.and_false, Bool.false_and, Bool.true_or, Bool.false_or])
                      | (refine tr_drawC (id := 15) follows 10000 (by kernel_rfl) ?_; simp only [go_sem, List.getElem?_toArray, str_beq, reduceCtorEq, Nat.reduceEqDiff, Nat.reduceLT, Nat.reduceLeDiff, Nat.reduceAdd, Nat.reduceMul, Nat.reduceSub, Nat.reduceBEq, ↓reduceIte, bne_self_eq_false, Bool.and_false, Bool.false_and, Bool.true_or, Bool.false_or])
                      | (refine tr_draw (id := 19) follows 10000 [9, 11, 12] [0, 1, 2, 3, 4, 5, 6, 7, 8, 9, 10, 11, 12, 13] (by kernel_rfl) ?_; simp only [go_sem, List.getElem?_toArray, str_beq, reduceCtorEq, Nat.reduceEqDiff, Nat.reduceLT, Nat.reduceLeDiff, Nat.reduceAdd, Nat.reduceMul, Nat.reduceSub, Nat.reduceBEq, ↓reduceIte, bne_self_eq_false, Bool.and_false, Bool.false_and, Bool.true_or, Bool.false_or])
                      | (refine tr_draw (id := 21) follows 10000 [2, 6, 8] [0, 1, 2, 3, 4, 5, 7, 6, 8, 9, 10] (by kernel_rfl) ?_; simp only [go_sem, List.getElem?_toArray, str_beq, reduceCtorEq, Nat.reduceEqDiff, Nat.reduceLT, Nat.reduceLeDiff, Nat.reduceAdd, Nat.reduceMul, Nat.reduceSub, Nat.reduceBEq, ↓reduceIte, bne_self_eq_false, Bool.and_false, Bool.false_and, Bool.true_or, Bool.false_or])
                      | (refine tr_draw (id := 26) follows 10000 [3, 4] [0, 1, 2, 3, 4, 5, 6] (by kernel_rfl) ?_; simp only [go_sem, List.getElem?_toArray, str_beq, reduceCtorEq, Nat.reduceEqDiff, Nat.reduceLT, Nat.reduceLeDiff, Nat.reduceAdd, Nat.reduceMul, Nat.reduceSub, Nat.reduceBEq, ↓reduceIte, bne_self_eq_false, Bool.and_false, Bool.false_and, Bool.true_or, Bool.false_or])
                      | refine k_of (by assumption) ?_
                      | refine tr_block ?_
                      | refine tr_scope ?_
                      | (refine tr_skip ?_; try simp only [ex_seq, ex_block])
                      | (refine tr_label ?_; try simp only [ex_seq, ex_block])
                      | (refine tr_exit ?_; try simp only [ex_seq_exit, ex_block_exit, Nat.reduceEqDiff, if_true, if_false, ex_seq, ex_block, reduceCtorEq, ↓reduceIte])
                      | (refine tr_ret ?_; try simp only [ex_seq_ret, ex_block_ret]))
                  refine tr_cond rfl (fun ht => ?_) (fun hf => ?_)
                  · have hkl : k < i := by simpa using ht
                    have hkN : k < N.length := by omega
                    have wk := wrap_succ (show k ≤ 1000000000 by omega)
                    cases he : decide (N[k] = N[i]) with
                    | true =>
                      repeat (first
                          | refine tr_seq_k fun _ _ => ?_
                          | (refine tr_region ?_; simp only [go_sem, List.getElem?_toArray, str_beq, reduceCtorEq, Nat.reduceEqDiff, Nat.reduceLT, Nat.reduceLeDiff, Nat.reduceAdd, Nat.reduceMul, Nat.reduceSub, Nat.reduceBEq, ↓reduceIte, bne_self_eq_false, Bool.and_false, Bool.false_and, Bool.true_or, Bool.false_or, idxS hkN, idxS hiN, he])
                          | (refine tr_drawC (id := 15) follows 10000 (by kernel_rfl) ?_; simp only [go_sem, List.getElem?_toArray, str_beq, reduceCtorEq, Nat.reduceEqDiff, Nat.reduceLT, Nat.reduceLeDiff, Nat.reduceAdd, Nat.reduceMul, Nat.reduceSub, Nat.reduceBEq, ↓reduceIte, bne_self_eq_false, Bool.and_false, Bool.false_and, Bool.true_or, Bool.false_or, idxS hkN, idxS hiN, he])
                          | (refine tr_draw (id := 19) follows 10000 [9, 11, 12] [0, 1, 2, 3, 4, 5, 6, 7, 8, 9, 10, 11, 12, 13] (by kernel_rfl) ?_; simp only [go_sem, List.getElem?_toArray, str_beq, reduceCtorEq, Nat.reduceEqDiff, Nat.reduceLT, Nat.reduceLeDiff, Nat.reduceAdd, Nat.reduceMul, Nat.reduceSub, Nat.reduceBEq, ↓reduceIte, bne_self_eq_false, Bool.and_false, Bool.false_and, Bool.true_or, Bool.false_or, idxS hkN, idxS hiN, he])
                          | (refine tr_draw (id := 21) follows 10000 [2, 6, 8] [0, 1, 2, 3, 4, 5, 7, 6, 8, 9, 10] (by kernel_rfl) ?_; simp only [go_sem, List.getElem?_toArray, str_beq, reduceCtorEq, Nat.reduceEqDiff, Nat.reduceLT, Nat.reduceLeDiff, Nat.reduceAdd, Nat.reduceMul, Nat.reduceSub, Nat.reduceBEq, ↓reduceIte, bne_self_eq_false, Bool.and_false, Bool.false_and, Bool.true_or, Bool.false_or, idxS hkN, idxS hiN, he])
                          | (refine tr_draw (id := 26) follows 10000 [3, 4] [0, 1, 2, 3, 4, 5, 6] (by kernel_rfl) ?_; simp only [go_sem, List.getElem?_toArray, str_beq, reduceCtorEq, Nat.reduceEqDiff, Nat.reduceLT, Nat.reduceLeDiff, Nat.reduceAdd, Nat.reduceMul, Nat.reduceSub, Nat.reduceBEq, ↓reduceIte, bne_self_eq_false, Bool.and_false, Bool.false_and, Bool.true_or, Bool.false_or, idxS hkN, idxS hiN, he])
                          | refine k_of (by assumption) ?_
                          | refine tr_block ?_
                          | refine tr_scope ?_
                          | (refine tr_skip ?_; try simp only [ex_seq, ex_block])
                          | (refine tr_label ?_; try simp only [ex_seq, ex_block])
                          | (refine tr_exit ?_; try simp only [ex_seq_exit, ex_block_exit, Nat.reduceEqDiff, if_true, if_false, ex_seq, ex_block, reduceCtorEq, ↓reduceIte])
                          | (refine tr_ret ?_; try simp only [ex_seq_ret, ex_block_ret]))
                      refine tr_cond rfl (fun ht => ?_) (fun hf => ?_)
                      · repeat (first
                            | refine tr_seq_k fun _ _ => ?_
                            | (refine tr_region ?_; simp only [go_sem, List.getElem?_toArray, str_beq, reduceCtorEq, Nat.reduceEqDiff, Nat.reduceLT, Nat.reduceLeDiff, Nat.reduceAdd, Nat.reduceMul, Nat.reduceSub, Nat.reduceBEq, ↓reduceIte, bne_self_eq_false, Bool.and_false, Bool.false_and, Bool.true_or, Bool.false_or])
                            | (refine tr_drawC (id := 15) follows 10000 (by kernel_rfl) ?_; simp only [go_sem, List.getElem?_toArray, str_beq, reduceCtorEq, Nat.reduceEqDiff, Nat.reduceLT, Nat.reduceLeDiff, Nat.reduceAdd, Nat.reduceMul, Nat.reduceSub, Nat.reduceBEq, ↓reduceIte, bne_self_eq_false, Bool.and_false, Bool.false_and, Bool.true_or, Bool.false_or])
                            | (refine tr_draw (id := 19) follows 10000 [9, 11, 12] [0, 1, 2, 3, 4, 5, 6, 7, 8, 9, 10, 11, 12, 13] (by kernel_rfl) ?_; simp only [go_sem, List.getElem?_toArray, str_beq, reduceCtorEq, Nat.reduceEqDiff, Nat.reduceLT, Nat.reduceLeDiff, Nat.reduceAdd, Nat.reduceMul, Nat.reduceSub, Nat.reduceBEq, ↓reduceIte, bne_self_eq_false, Bool.and_false, Bool.false_and, Bool.true_or, Bool.false_or])
                            | (refine tr_draw (id := 21) follows 10000 [2, 6, 8] [0, 1, 2, 3, 4, 5, 7, 6, 8, 9, 10] (by kernel_rfl) ?_; simp only [go_sem, List.getElem?_toArray, str_beq, reduceCtorEq, Nat.reduceEqDiff, Nat.reduceLT, Nat.reduceLeDiff, Nat.reduceAdd, Nat.reduceMul, Nat.reduceSub, Nat.reduceBEq, ↓reduceIte, bne_self_eq_false, Bool.and_false, Bool.false_and, Bool.true_or, Bool.false_or])
                            | (refine tr_draw (id := 26) follows 10000 [3, 4] [0, 1, 2, 3, 4, 5, 6] (by kernel_rfl) ?_; simp only [go_sem, List.getElem?_toArray, str_beq, reduceCtorEq, Nat.reduceEqDiff, Nat.reduceLT, Nat.reduceLeDiff, Nat.reduceAdd, Nat.reduceMul, Nat.reduceSub, Nat.reduceBEq, ↓reduceIte, bne_self_eq_false, Bool.and_false, Bool.false_and, Bool.true_or, Bool.false_or])
                            | refine k_of (by assumption) ?_
                            | refine tr_block ?_
                            | refine tr_scope ?_
                            | (refine tr_skip ?_; try simp only [ex_seq, ex_block])
                            | (refine tr_label ?_; try simp only [ex_seq, ex_block])
                            | (refine tr_exit ?_; try simp only [ex_seq_exit, ex_block_exit, Nat.reduceEqDiff, if_true, if_false, ex_seq, ex_block, reduceCtorEq, ↓reduceIte])
                            | (refine tr_ret ?_; try simp only [ex_seq_ret, ex_block_ret]))
                        refine (hQ _ _ [bA true] ?_ (fun m => rfl)).2 <;> simp only [go_sem, List.getElem?_toArray, str_beq, reduceCtorEq, Nat.reduceEqDiff, Nat.reduceLT, Nat.reduceLeDiff, Nat.reduceAdd, Nat.reduceMul, Nat.reduceSub, Nat.reduceBEq, ↓reduceIte, bne_self_eq_false, Bool.and_false, Bool.false_and, Bool.true_or, Bool.false_or, Tryd.f5]
                      · cases hf
                    | false =>
                      repeat (first
                          | refine tr_seq_k fun _ _ => ?_
                          | (refine tr_region ?_; simp only [go_sem, List.getElem?_toArray, str_beq, reduceCtorEq, Nat.reduceEqDiff, Nat.reduceLT, Nat.reduceLeDiff, Nat.reduceAdd, Nat.reduceMul, Nat.reduceSub, Nat.reduceBEq, ↓reduceIte, bne_self_eq_false, Bool.and_false, Bool.false_and, Bool.true_or, Bool.false_or, idxS hkN, idxS hiN, he])
                          | (refine tr_drawC (id := 15) follows 10000 (by kernel_rfl) ?_; simp only [go_sem, List.getElem?_toArray, str_beq, reduceCtorEq, Nat.reduceEqDiff, Nat.reduceLT, Nat.reduceLeDiff, Nat.reduceAdd, Nat.reduceMul, Nat.reduceSub, Nat.reduceBEq, ↓reduceIte, bne_self_eq_false, Bool.and_false, Bool.false_and, Bool.true_or, Bool.false_or, idxS hkN, idxS hiN, he])
                          | (refine tr_draw (id := 19) follows 10000 [9, 11, 12] [0, 1, 2, 3, 4, 5, 6, 7, 8, 9, 10, 11, 12, 13] (by kernel_rfl) ?_; simp only [go_sem, List.getElem?_toArray, str_beq, reduceCtorEq, Nat.reduceEqDiff, Nat.reduceLT, Nat.reduceLeDiff, Nat.reduceAdd, Nat.reduceMul, Nat.reduceSub, Nat.reduceBEq, ↓reduceIte, bne_self_eq_false, Bool.and_false, Bool.false_and, Bool.true_or, Bool.false_or, idxS hkN, idxS hiN, he])
                          | (refine tr_draw (id := 21) follows 10000 [2, 6, 8] [0, 1, 2, 3, 4, 5, 7, 6, 8, 9, 10] (by kernel_rfl) ?_; simp only [go_sem, List.getElem?_toArray, str_beq, reduceCtorEq, Nat.reduceEqDiff, Nat.reduceLT, Nat.reduceLeDiff, Nat.reduceAdd, Nat.reduceMul, Nat.reduceSub, Nat.reduceBEq, ↓reduceIte, bne_self_eq_false, Bool.and_false, Bool.false_and, Bool.true_or, Bool.false_or, idxS hkN, idxS hiN, he])
                          | (refine tr_draw (id := 26) follows 10000 [3, 4] [0, 1, 2, 3, 4, 5, 6] (by kernel_rfl) ?_; simp only [go_sem, List.getElem?_toArray, str_beq, reduceCtorEq, Nat.reduceEqDiff, Nat.reduceLT, Nat.reduceLeDiff, Nat.reduceAdd, Nat.reduceMul, Nat.reduceSub, Nat.reduceBEq, ↓reduceIte, bne_self_eq_false, Bool.and_false, Bool.false_and, Bool.true_or, Bool.false_or, idxS hkN, idxS hiN, he])
                          | refine k_of (by assumption) ?_
                          | refine tr_block ?_
                          | refine tr_scope ?_
                          | (refine tr_skip ?_; try simp only [ex_seq, ex_block])
                          | (refine tr_label ?_; try simp only [ex_seq, ex_block])
                          | (refine tr_exit ?_; try simp only [ex_seq_exit, ex_block_exit, Nat.reduceEqDiff, if_true, if_false, ex_seq, ex_block, reduceCtorEq, ↓reduceIte])
                          | (refine tr_ret ?_; try simp only [ex_seq_ret, ex_block_ret]))
                      refine tr_cond rfl (fun ht => ?_) (fun hf => ?_)
                      · cases ht
                      · repeat (first
                            | refine tr_seq_k fun _ _ => ?_
                            | (refine tr_region ?_; simp only [go_sem, List.getElem?_toArray, str_beq, reduceCtorEq, Nat.reduceEqDiff, Nat.reduceLT, Nat.reduceLeDiff, Nat.reduceAdd, Nat.reduceMul, Nat.reduceSub, Nat.reduceBEq, ↓reduceIte, bne_self_eq_false, Bool.and_false, Bool.false_and, Bool.true_or, Bool.false_or, wk])
                            | (refine tr_drawC (id := 15) follows 10000 (by kernel_rfl) ?_; simp only [go_sem, List.getElem?_toArray, str_beq, reduceCtorEq, Nat.reduceEqDiff, Nat.reduceLT, Nat.reduceLeDiff, Nat.reduceAdd, Nat.reduceMul, Nat.reduceSub, Nat.reduceBEq, ↓reduceIte, bne_self_eq_false, Bool.and_false, Bool.false_and, Bool.true_or, Bool.false_or, wk])
                            | (refine tr_draw (id := 19) follows 10000 [9, 11, 12] [0, 1, 2, 3, 4, 5, 6, 7, 8, 9, 10, 11, 12, 13] (by kernel_rfl) ?_; simp only [go_sem, List.getElem?_toArray, str_beq, reduceCtorEq, Nat.reduceEqDiff, Nat.reduceLT, Nat.reduceLeDiff, Nat.reduceAdd, Nat.reduceMul, Nat.reduceSub, Nat.reduceBEq, ↓reduceIte, bne_self_eq_false, Bool.and_false, Bool.false_and, Bool.true_or, Bool.false_or, wk])
                            | (refine tr_draw (id := 21) follows 10000 [2, 6, 8] [0, 1, 2, 3, 4, 5, 7, 6, 8, 9, 10] (by kernel_rfl) ?_; simp only [go_sem, List.getElem?_toArray, str_beq, reduceCtorEq, Nat.reduceEqDiff, Nat.reduceLT, Nat.reduceLeDiff, Nat.reduceAdd, Nat.reduceMul, Nat.reduceSub, Nat.reduceBEq, ↓reduceIte, bne_self_eq_false, Bool.and_false, Bool.false_and, Bool.true_or, Bool.false_or, wk])
                            | (refine tr_draw (id := 26) follows 10000 [3, 4] [0, 1, 2, 3, 4, 5, 6] (by kernel_rfl) ?_; simp only [go_sem, List.getElem?_toArray, str_beq, reduceCtorEq, Nat.reduceEqDiff, Nat.reduceLT, Nat.reduceLeDiff, Nat.reduceAdd, Nat.reduceMul, Nat.reduceSub, Nat.reduceBEq, ↓reduceIte, bne_self_eq_false, Bool.and_false, Bool.false_and, Bool.true_or, Bool.false_or, wk])
                            | refine k_of (by assumption) ?_
                            | refine tr_block ?_
                            | refine tr_scope ?_
                            | (refine tr_skip ?_; try simp only [ex_seq, ex_block])
                            | (refine tr_label ?_; try simp only [ex_seq, ex_block])
                            | (refine tr_exit ?_; try simp only [ex_seq_exit, ex_block_exit, Nat.reduceEqDiff, if_true, if_false, ex_seq, ex_block, reduceCtorEq, ↓reduceIte])
                            | (refine tr_ret ?_; try simp only [ex_seq_ret, ex_block_ret]))
                        exact hK2 (k + 1) _ _ ⟨hkl, fun j hj => by
                          by_cases e : j = k
                          · subst e
                            rw [getD_get hkN, getD_get hiN]
                            exact of_decide_eq_false he
                          · exact hdk j (by omega)⟩ ⟨⟨rfl, rfl, rfl, rfl, rfl, rfl, trivial⟩, Keep.of (eh := []) (ew := []) rfl (List.append_nil _).symm, by simp only [lowF, low_col]; rfl, rfl, Nat.le_refl _, Nat.le_refl _⟩ (by omega)
                  · have hki : k = i := by
                      have := of_decide_eq_false hf
                      omega
                    subst hki
                    have hd' : DistN N (k + 1) := fun p q hpq hq => by
                      by_cases e : q = k
                      · subst e; exact hdk p hpq
                      · exact hd p q hpq (by omega)
                    cases he : decide (N[k] = ⟨#[]⟩) with
                    | true =>
                      repeat (first
                          | refine tr_seq_k fun _ _ => ?_
                          | (refine tr_region ?_; simp only [go_sem, List.getElem?_toArray, str_beq, reduceCtorEq, Nat.reduceEqDiff, Nat.reduceLT, Nat.reduceLeDiff, Nat.reduceAdd, Nat.reduceMul, Nat.reduceSub, Nat.reduceBEq, ↓reduceIte, bne_self_eq_false, Bool.and_false, Bool.false_and, Bool.true_or, Bool.false_or, idxS hiN, he])
                          | (refine tr_drawC (id := 15) follows 10000 (by kernel_rfl) ?_; simp only [go_sem, List.getElem?_toArray, str_beq, reduceCtorEq, Nat.reduceEqDiff, Nat.reduceLT, Nat.reduceLeDiff, Nat.reduceAdd, Nat.reduceMul, Nat.reduceSub, Nat.reduceBEq, ↓reduceIte, bne_self_eq_false, Bool.and_false, Bool.false_and, Bool.true_or, Bool.false_or, idxS hiN, he])
                          | (refine tr_draw (id := 19) follows 10000 [9, 11, 12] [0, 1, 2, 3, 4, 5, 6, 7, 8, 9, 10, 11, 12, 13] (by kernel_rfl) ?_; simp only [go_sem, List.getElem?_toArray, str_beq, reduceCtorEq, Nat.reduceEqDiff, Nat.reduceLT, Nat.reduceLeDiff, Nat.reduceAdd, Nat.reduceMul, Nat.reduceSub, Nat.reduceBEq, ↓reduceIte, bne_self_eq_false, Bool.and_false, Bool.false_and, Bool.true_or, Bool.false_or, idxS hiN, he])
                          | (refine tr_draw (id := 21) follows 10000 [2, 6, 8] [0, 1, 2, 3, 4, 5, 7, 6, 8, 9, 10] (by kernel_rfl) ?_; simp only [go_sem, List.getElem?_toArray, str_beq, reduceCtorEq, Nat.reduceEqDiff, Nat.reduceLT, Nat.reduceLeDiff, Nat.reduceAdd, Nat.reduceMul, Nat.reduceSub, Nat.reduceBEq, ↓reduceIte, bne_self_eq_false, Bool.and_false, Bool.false_and, Bool.true_or, Bool.false_or, idxS hiN, he])
                          | (refine tr_draw (id := 26) follows 10000 [3, 4] [0, 1, 2, 3, 4, 5, 6] (by kernel_rfl) ?_; simp only [go_sem, List.getElem?_toArray, str_beq, reduceCtorEq, Nat.reduceEqDiff, Nat.reduceLT, Nat.reduceLeDiff, Nat.reduceAdd, Nat.reduceMul, Nat.reduceSub, Nat.reduceBEq, ↓reduceIte, bne_self_eq_false, Bool.and_false, Bool.false_and, Bool.true_or, Bool.false_or, idxS hiN, he])
                          | refine k_of (by assumption) ?_
                          | refine tr_block ?_
                          | refine tr_scope ?_
                          | (refine tr_skip ?_; try simp only [ex_seq, ex_block])
                          | (refine tr_label ?_; try simp only [ex_seq, ex_block])
                          | (refine tr_exit ?_; try simp only [ex_seq_exit, ex_block_exit, Nat.reduceEqDiff, if_true, if_false, ex_seq, ex_block, reduceCtorEq, ↓reduceIte])
                          | (refine tr_ret ?_; try simp only [ex_seq_ret, ex_block_ret]))
                      refine tr_cond rfl (fun ht => ?_) (fun hf => ?_)
                      · repeat (first
                            | refine tr_seq_k fun _ _ => ?_
                            | (refine tr_region ?_; simp only [go_sem, List.getElem?_toArray, str_beq, reduceCtorEq, Nat.reduceEqDiff, Nat.reduceLT, Nat.reduceLeDiff, Nat.reduceAdd, Nat.reduceMul, Nat.reduceSub, Nat.reduceBEq, ↓reduceIte, bne_self_eq_false, Bool.and_false, Bool.false_and, Bool.true_or, Bool.false_or])
                            | (refine tr_drawC (id := 15) follows 10000 (by kernel_rfl) ?_; simp only [go_sem, List.getElem?_toArray, str_beq, reduceCtorEq, Nat.reduceEqDiff, Nat.reduceLT, Nat.reduceLeDiff, Nat.reduceAdd, Nat.reduceMul, Nat.reduceSub, Nat.reduceBEq, ↓reduceIte, bne_self_eq_false, Bool.and_false, Bool.false_and, Bool.true_or, Bool.false_or])
                            | (refine tr_draw (id := 19) follows 10000 [9, 11, 12] [0, 1, 2, 3, 4, 5, 6, 7, 8, 9, 10, 11, 12, 13] (by kernel_rfl) ?_; simp only [go_sem, List.getElem?_toArray, str_beq, reduceCtorEq, Nat.reduceEqDiff, Nat.reduceLT, Nat.reduceLeDiff, Nat.reduceAdd, Nat.reduceMul, Nat.reduceSub, Nat.reduceBEq, ↓reduceIte, bne_self_eq_false, Bool.and_false, Bool.false_and, Bool.true_or, Bool.false_or])
                            | (refine tr_draw (id := 21) follows 10000 [2, 6, 8] [0, 1, 2, 3, 4, 5, 7, 6, 8, 9, 10] (by kernel_rfl) ?_; simp only [go_sem, List.getElem?_toArray, str_beq, reduceCtorEq, Nat.reduceEqDiff, Nat.reduceLT, Nat.reduceLeDiff, Nat.reduceAdd, Nat.reduceMul, Nat.reduceSub, Nat.reduceBEq, ↓reduceIte, bne_self_eq_false, Bool.and_false, Bool.false_and, Bool.true_or, Bool.false_or])
                            | (refine tr_draw (id := 26) follows 10000 [3, 4] [0, 1, 2, 3, 4, 5, 6] (by kernel_rfl) ?_; simp only [go_sem, List.getElem?_toArray, str_beq, reduceCtorEq, Nat.reduceEqDiff, Nat.reduceLT, Nat.reduceLeDiff, Nat.reduceAdd, Nat.reduceMul, Nat.reduceSub, Nat.reduceBEq, ↓reduceIte, bne_self_eq_false, Bool.and_false, Bool.false_and, Bool.true_or, Bool.false_or])
                            | refine k_of (by assumption) ?_
                            | refine tr_block ?_
                            | refine tr_scope ?_
                            | (refine tr_skip ?_; try simp only [ex_seq, ex_block])
                            | (refine tr_label ?_; try simp only [ex_seq, ex_block])
                            | (refine tr_exit ?_; try simp only [ex_seq_exit, ex_block_exit, Nat.reduceEqDiff, if_true, if_false, ex_seq, ex_block, reduceCtorEq, ↓reduceIte])
                            | (refine tr_ret ?_; try simp only [ex_seq_ret, ex_block_ret]))
                        refine (hQ _ _ [bA true] ?_ (fun m => rfl)).2 <;> simp only [go_sem, List.getElem?_toArray, str_beq, reduceCtorEq, Nat.reduceEqDiff, Nat.reduceLT, Nat.reduceLeDiff, Nat.reduceAdd, Nat.reduceMul, Nat.reduceSub, Nat.reduceBEq, ↓reduceIte, bne_self_eq_false, Bool.and_false, Bool.false_and, Bool.true_or, Bool.false_or, Tryd.f5]
                      · cases hf
                    | false =>
                      have cV := v_does N[k]
                      have ap := fun hp => appB hp (rnK (pnames a true) N k) ⟨(pnames a true)[k], ⟨true, N[k]⟩⟩ (by rw [rnK_len]; omega)
                      rw [← rnK_next hlt hiN] at ap
                      repeat (first
                          | refine tr_seq_k fun _ _ => ?_
                          | (refine tr_region ?_; simp only [go_sem, List.getElem?_toArray, str_beq, reduceCtorEq, Nat.reduceEqDiff, Nat.reduceLT, Nat.reduceLeDiff, Nat.reduceAdd, Nat.reduceMul, Nat.reduceSub, Nat.reduceBEq, ↓reduceIte, bne_self_eq_false, Bool.and_false, Bool.false_and, Bool.true_or, Bool.false_or, idxS hiN, he])
                          | (refine tr_drawC (id := 15) follows 10000 (by kernel_rfl) ?_; simp only [go_sem, List.getElem?_toArray, str_beq, reduceCtorEq, Nat.reduceEqDiff, Nat.reduceLT, Nat.reduceLeDiff, Nat.reduceAdd, Nat.reduceMul, Nat.reduceSub, Nat.reduceBEq, ↓reduceIte, bne_self_eq_false, Bool.and_false, Bool.false_and, Bool.true_or, Bool.false_or, idxS hiN, he])
                          | (refine tr_draw (id := 19) follows 10000 [9, 11, 12] [0, 1, 2, 3, 4, 5, 6, 7, 8, 9, 10, 11, 12, 13] (by kernel_rfl) ?_; simp only [go_sem, List.getElem?_toArray, str_beq, reduceCtorEq, Nat.reduceEqDiff, Nat.reduceLT, Nat.reduceLeDiff, Nat.reduceAdd, Nat.reduceMul, Nat.reduceSub, Nat.reduceBEq, ↓reduceIte, bne_self_eq_false, Bool.and_false, Bool.false_and, Bool.true_or, Bool.false_or, idxS hiN, he])
                          | (refine tr_draw (id := 21) follows 10000 [2, 6, 8] [0, 1, 2, 3, 4, 5, 7, 6, 8, 9, 10] (by kernel_rfl) ?_; simp only [go_sem, List.getElem?_toArray, str_beq, reduceCtorEq, Nat.reduceEqDiff, Nat.reduceLT, Nat.reduceLeDiff, Nat.reduceAdd, Nat.reduceMul, Nat.reduceSub, Nat.reduceBEq, ↓reduceIte, bne_self_eq_false, Bool.and_false, Bool.false_and, Bool.true_or, Bool.false_or, idxS hiN, he])
                          | (refine tr_draw (id := 26) follows 10000 [3, 4] [0, 1, 2, 3, 4, 5, 6] (by kernel_rfl) ?_; simp only [go_sem, List.getElem?_toArray, str_beq, reduceCtorEq, Nat.reduceEqDiff, Nat.reduceLT, Nat.reduceLeDiff, Nat.reduceAdd, Nat.reduceMul, Nat.reduceSub, Nat.reduceBEq, ↓reduceIte, bne_self_eq_false, Bool.and_false, Bool.false_and, Bool.true_or, Bool.false_or, idxS hiN, he])
                          | refine k_of (by assumption) ?_
                          | refine tr_block ?_
                          | refine tr_scope ?_
                          | (refine tr_skip ?_; try simp only [ex_seq, ex_block])
                          | (refine tr_label ?_; try simp only [ex_seq, ex_block])
                          | (refine tr_exit ?_; try simp only [ex_seq_exit, ex_block_exit, Nat.reduceEqDiff, if_true, if_false, ex_seq, ex_block, reduceCtorEq, ↓reduceIte])
                          | (refine tr_ret ?_; try simp only [ex_seq_ret, ex_block_ret]))
                      refine tr_cond rfl (fun ht => ?_) (fun hf => ?_)
                      · cases ht
                      · repeat (first
                            | refine tr_seq_k fun _ _ => ?_
                            | (refine tr_region ?_; simp only [go_sem, List.getElem?_toArray, str_beq, reduceCtorEq, Nat.reduceEqDiff, Nat.reduceLT, Nat.reduceLeDiff, Nat.reduceAdd, Nat.reduceMul, Nat.reduceSub, Nat.reduceBEq, ↓reduceIte, bne_self_eq_false, Bool.and_false, Bool.false_and, Bool.true_or, Bool.false_or, idxS hiN, idxS hlt, build1B', one_max, ap, ws])
                            | (refine tr_drawC (id := 15) follows 10000 (by kernel_rfl) ?_; simp only [go_sem, List.getElem?_toArray, str_beq, reduceCtorEq, Nat.reduceEqDiff, Nat.reduceLT, Nat.reduceLeDiff, Nat.reduceAdd, Nat.reduceMul, Nat.reduceSub, Nat.reduceBEq, ↓reduceIte, bne_self_eq_false, Bool.and_false, Bool.false_and, Bool.true_or, Bool.false_or, idxS hiN, idxS hlt, build1B', one_max, ap, ws])
                            | (refine tr_draw (id := 19) follows 10000 [9, 11, 12] [0, 1, 2, 3, 4, 5, 6, 7, 8, 9, 10, 11, 12, 13] (by kernel_rfl) ?_; simp only [go_sem, List.getElem?_toArray, str_beq, reduceCtorEq, Nat.reduceEqDiff, Nat.reduceLT, Nat.reduceLeDiff, Nat.reduceAdd, Nat.reduceMul, Nat.reduceSub, Nat.reduceBEq, ↓reduceIte, bne_self_eq_false, Bool.and_false, Bool.false_and, Bool.true_or, Bool.false_or, idxS hiN, idxS hlt, build1B', one_max, ap, ws])
                            | (refine tr_draw (id := 21) follows 10000 [2, 6, 8] [0, 1, 2, 3, 4, 5, 7, 6, 8, 9, 10] (by kernel_rfl) ?_; simp only [go_sem, List.getElem?_toArray, str_beq, reduceCtorEq, Nat.reduceEqDiff, Nat.reduceLT, Nat.reduceLeDiff, Nat.reduceAdd, Nat.reduceMul, Nat.reduceSub, Nat.reduceBEq, ↓reduceIte, bne_self_eq_false, Bool.and_false, Bool.false_and, Bool.true_or, Bool.false_or, idxS hiN, idxS hlt, build1B', one_max, ap, ws])
                            | (refine tr_draw (id := 26) follows 10000 [3, 4] [0, 1, 2, 3, 4, 5, 6] (by kernel_rfl) ?_; simp only [go_sem, List.getElem?_toArray, str_beq, reduceCtorEq, Nat.reduceEqDiff, Nat.reduceLT, Nat.reduceLeDiff, Nat.reduceAdd, Nat.reduceMul, Nat.reduceSub, Nat.reduceBEq, ↓reduceIte, bne_self_eq_false, Bool.and_false, Bool.false_and, Bool.true_or, Bool.false_or, idxS hiN, idxS hlt, build1B', one_max, ap, ws])
                            | (refine call_of (cV) ?_ ?_
                               · first | rfl | simp only [go_sem, List.getElem?_toArray, str_beq, reduceCtorEq, Nat.reduceEqDiff, Nat.reduceLT, Nat.reduceLeDiff, Nat.reduceAdd, Nat.reduceMul, Nat.reduceSub, Nat.reduceBEq, ↓reduceIte, bne_self_eq_false, Bool.and_false, Bool.false_and, Bool.true_or, Bool.false_or, idxS hiN, idxS hlt, build1B', one_max, ap, ws, shut_col]
                               simp only [go_sem, List.getElem?_toArray, str_beq, reduceCtorEq, Nat.reduceEqDiff, Nat.reduceLT, Nat.reduceLeDiff, Nat.reduceAdd, Nat.reduceMul, Nat.reduceSub, Nat.reduceBEq, ↓reduceIte, bne_self_eq_false, Bool.and_false, Bool.false_and, Bool.true_or, Bool.false_or, idxS hiN, idxS hlt, build1B', one_max, ap, ws])
                            | refine k_of (by assumption) ?_
                            | refine tr_block ?_
                            | refine tr_scope ?_
                            | (refine tr_skip ?_; try simp only [ex_seq, ex_block])
                            | (refine tr_label ?_; try simp only [ex_seq, ex_block])
                            | (refine tr_exit ?_; try simp only [ex_seq_exit, ex_block_exit, Nat.reduceEqDiff, if_true, if_false, ex_seq, ex_block, reduceCtorEq, ↓reduceIte])
                            | (refine tr_ret ?_; try simp only [ex_seq_ret, ex_block_ret]))
                        exact hK (k + 1) _ _ ⟨hlt, hd'⟩ ⟨⟨rfl, rfl, rfl, rfl, rfl, trivial⟩, Keep.of (eh := []) (ew := []) rfl (List.append_nil _).symm, by simp only [lowF, low_col]; rfl, rfl, Nat.le_refl _, Nat.zero_le _⟩ (by omega)
                · have hil : i = (pnames a true).length := by
                    have := of_decide_eq_false hf
                    omega
                  subst hil
                  have hLl := rnK_len (pnames a true) N (pnames a true).length
                  have hcan := ren_canon hd
                  have eqA := fun h => eq_app (N := N) z1 h
                  have hdr := rnK_head (pnames a true) N ((pnames a true).length - 2)
                  have hL2 : 2 ≤ (pnames a true).length → rnK (pnames a true) N ((pnames a true).length - 2 + 2) = rnK (pnames a true) N (pnames a true).length := fun h => by rw [Nat.sub_add_cancel h]
                  generalize rnK (pnames a true) N (pnames a true).length = L at *
                  have aL := r4apply_does L a L.isEmpty (by omega)
                  have s1 := sameV_does a (papp L a)
                  rw [hcan, decide_eq_true rfl] at s1
                  have k1 := key_does a (light_csz h1)
                  have k2 := key_does (papp L a) (by rw [hcan]; exact light_csz h1)
                  rw [hcan] at k2
                  have kk : decide (ptext (pcanon a) = ptext (pcanon a)) = true := decide_eq_true rfl
                  repeat (first
                      | refine tr_seq_k fun _ _ => ?_
                      | (refine tr_region ?_; simp only [go_sem, List.getElem?_toArray, str_beq, reduceCtorEq, Nat.reduceEqDiff, Nat.reduceLT, Nat.reduceLeDiff, Nat.reduceAdd, Nat.reduceMul, Nat.reduceSub, Nat.reduceBEq, ↓reduceIte, bne_self_eq_false, Bool.and_false, Bool.false_and, Bool.true_or, Bool.false_or, kk])
                      | (refine tr_drawC (id := 15) follows 10000 (by kernel_rfl) ?_; simp only [go_sem, List.getElem?_toArray, str_beq, reduceCtorEq, Nat.reduceEqDiff, Nat.reduceLT, Nat.reduceLeDiff, Nat.reduceAdd, Nat.reduceMul, Nat.reduceSub, Nat.reduceBEq, ↓reduceIte, bne_self_eq_false, Bool.and_false, Bool.false_and, Bool.true_or, Bool.false_or, kk])
                      | (refine tr_draw (id := 19) follows 10000 [9, 11, 12] [0, 1, 2, 3, 4, 5, 6, 7, 8, 9, 10, 11, 12, 13] (by kernel_rfl) ?_; simp only [go_sem, List.getElem?_toArray, str_beq, reduceCtorEq, Nat.reduceEqDiff, Nat.reduceLT, Nat.reduceLeDiff, Nat.reduceAdd, Nat.reduceMul, Nat.reduceSub, Nat.reduceBEq, ↓reduceIte, bne_self_eq_false, Bool.and_false, Bool.false_and, Bool.true_or, Bool.false_or, kk])
                      | (refine tr_draw (id := 21) follows 10000 [2, 6, 8] [0, 1, 2, 3, 4, 5, 7, 6, 8, 9, 10] (by kernel_rfl) ?_; simp only [go_sem, List.getElem?_toArray, str_beq, reduceCtorEq, Nat.reduceEqDiff, Nat.reduceLT, Nat.reduceLeDiff, Nat.reduceAdd, Nat.reduceMul, Nat.reduceSub, Nat.reduceBEq, ↓reduceIte, bne_self_eq_false, Bool.and_false, Bool.false_and, Bool.true_or, Bool.false_or, kk])
                      | (refine tr_draw (id := 26) follows 10000 [3, 4] [0, 1, 2, 3, 4, 5, 6] (by kernel_rfl) ?_; simp only [go_sem, List.getElem?_toArray, str_beq, reduceCtorEq, Nat.reduceEqDiff, Nat.reduceLT, Nat.reduceLeDiff, Nat.reduceAdd, Nat.reduceMul, Nat.reduceSub, Nat.reduceBEq, ↓reduceIte, bne_self_eq_false, Bool.and_false, Bool.false_and, Bool.true_or, Bool.false_or, kk])
                      | (refine call_of (aL) ?_ ?_
                         · first | rfl | simp only [go_sem, List.getElem?_toArray, str_beq, reduceCtorEq, Nat.reduceEqDiff, Nat.reduceLT, Nat.reduceLeDiff, Nat.reduceAdd, Nat.reduceMul, Nat.reduceSub, Nat.reduceBEq, ↓reduceIte, bne_self_eq_false, Bool.and_false, Bool.false_and, Bool.true_or, Bool.false_or, kk, shut_col]
                         simp only [go_sem, List.getElem?_toArray, str_beq, reduceCtorEq, Nat.reduceEqDiff, Nat.reduceLT, Nat.reduceLeDiff, Nat.reduceAdd, Nat.reduceMul, Nat.reduceSub, Nat.reduceBEq, ↓reduceIte, bne_self_eq_false, Bool.and_false, Bool.false_and, Bool.true_or, Bool.false_or, kk])
                      | (refine call_of (s1) ?_ ?_
                         · first | rfl | simp only [go_sem, List.getElem?_toArray, str_beq, reduceCtorEq, Nat.reduceEqDiff, Nat.reduceLT, Nat.reduceLeDiff, Nat.reduceAdd, Nat.reduceMul, Nat.reduceSub, Nat.reduceBEq, ↓reduceIte, bne_self_eq_false, Bool.and_false, Bool.false_and, Bool.true_or, Bool.false_or, kk, shut_col]
                         simp only [go_sem, List.getElem?_toArray, str_beq, reduceCtorEq, Nat.reduceEqDiff, Nat.reduceLT, Nat.reduceLeDiff, Nat.reduceAdd, Nat.reduceMul, Nat.reduceSub, Nat.reduceBEq, ↓reduceIte, bne_self_eq_false, Bool.and_false, Bool.false_and, Bool.true_or, Bool.false_or, kk])
                      | (refine call_of (k1) ?_ ?_
                         · first | rfl | simp only [go_sem, List.getElem?_toArray, str_beq, reduceCtorEq, Nat.reduceEqDiff, Nat.reduceLT, Nat.reduceLeDiff, Nat.reduceAdd, Nat.reduceMul, Nat.reduceSub, Nat.reduceBEq, ↓reduceIte, bne_self_eq_false, Bool.and_false, Bool.false_and, Bool.true_or, Bool.false_or, kk, shut_col]
                         simp only [go_sem, List.getElem?_toArray, str_beq, reduceCtorEq, Nat.reduceEqDiff, Nat.reduceLT, Nat.reduceLeDiff, Nat.reduceAdd, Nat.reduceMul, Nat.reduceSub, Nat.reduceBEq, ↓reduceIte, bne_self_eq_false, Bool.and_false, Bool.false_and, Bool.true_or, Bool.false_or, kk])
                      | (refine call_of (k2) ?_ ?_
                         · first | rfl | simp only [go_sem, List.getElem?_toArray, str_beq, reduceCtorEq, Nat.reduceEqDiff, Nat.reduceLT, Nat.reduceLeDiff, Nat.reduceAdd, Nat.reduceMul, Nat.reduceSub, Nat.reduceBEq, ↓reduceIte, bne_self_eq_false, Bool.and_false, Bool.false_and, Bool.true_or, Bool.false_or, kk, shut_col]
                         simp only [go_sem, List.getElem?_toArray, str_beq, reduceCtorEq, Nat.reduceEqDiff, Nat.reduceLT, Nat.reduceLeDiff, Nat.reduceAdd, Nat.reduceMul, Nat.reduceSub, Nat.reduceBEq, ↓reduceIte, bne_self_eq_false, Bool.and_false, Bool.false_and, Bool.true_or, Bool.false_or, kk])
                      | refine k_of (by assumption) ?_
                      | refine tr_block ?_
                      | refine tr_scope ?_
                      | (refine tr_skip ?_; try simp only [ex_seq, ex_block])
                      | (refine tr_label ?_; try simp only [ex_seq, ex_block])
                      | (refine tr_exit ?_; try simp only [ex_seq_exit, ex_block_exit, Nat.reduceEqDiff, if_true, if_false, ex_seq, ex_block, reduceCtorEq, ↓reduceIte])
                      | (refine tr_ret ?_; try simp only [ex_seq_ret, ex_block_ret]))
                  refine tr_cond rfl (fun ht => ?_) (fun hf => ?_)
                  · cases ht
                  · cases h5 : decide (((pnames a true).length : Int) < 2) with
                    | true =>
                      repeat (first
                          | refine tr_seq_k fun _ _ => ?_
                          | (refine tr_region ?_; simp only [go_sem, List.getElem?_toArray, str_beq, reduceCtorEq, Nat.reduceEqDiff, Nat.reduceLT, Nat.reduceLeDiff, Nat.reduceAdd, Nat.reduceMul, Nat.reduceSub, Nat.reduceBEq, ↓reduceIte, bne_self_eq_false, Bool.and_false, Bool.false_and, Bool.true_or, Bool.false_or, h5])
                          | (refine tr_drawC (id := 15) follows 10000 (by kernel_rfl) ?_; simp only [go_sem, List.getElem?_toArray, str_beq, reduceCtorEq, Nat.reduceEqDiff, Nat.reduceLT, Nat.reduceLeDiff, Nat.reduceAdd, Nat.reduceMul, Nat.reduceSub, Nat.reduceBEq, ↓reduceIte, bne_self_eq_false, Bool.and_false, Bool.false_and, Bool.true_or, Bool.false_or, h5])
                          | (refine tr_draw (id := 19) follows 10000 [9, 11, 12] [0, 1, 2, 3, 4, 5, 6, 7, 8, 9, 10, 11, 12, 13] (by kernel_rfl) ?_; simp only [go_sem, List.getElem?_toArray, str_beq, reduceCtorEq, Nat.reduceEqDiff, Nat.reduceLT, Nat.reduceLeDiff, Nat.reduceAdd, Nat.reduceMul, Nat.reduceSub, Nat.reduceBEq, ↓reduceIte, bne_self_eq_false, Bool.and_false, Bool.false_and, Bool.true_or, Bool.false_or, h5])
                          | (refine tr_draw (id := 21) follows 10000 [2, 6, 8] [0, 1, 2, 3, 4, 5, 7, 6, 8, 9, 10] (by kernel_rfl) ?_; simp only [go_sem, List.getElem?_toArray, str_beq, reduceCtorEq, Nat.reduceEqDiff, Nat.reduceLT, Nat.reduceLeDiff, Nat.reduceAdd, Nat.reduceMul, Nat.reduceSub, Nat.reduceBEq, ↓reduceIte, bne_self_eq_false, Bool.and_false, Bool.false_and, Bool.true_or, Bool.false_or, h5])
                          | (refine tr_draw (id := 26) follows 10000 [3, 4] [0, 1, 2, 3, 4, 5, 6] (by kernel_rfl) ?_; simp only [go_sem, List.getElem?_toArray, str_beq, reduceCtorEq, Nat.reduceEqDiff, Nat.reduceLT, Nat.reduceLeDiff, Nat.reduceAdd, Nat.reduceMul, Nat.reduceSub, Nat.reduceBEq, ↓reduceIte, bne_self_eq_false, Bool.and_false, Bool.false_and, Bool.true_or, Bool.false_or, h5])
                          | refine k_of (by assumption) ?_
                          | refine tr_block ?_
                          | refine tr_scope ?_
                          | (refine tr_skip ?_; try simp only [ex_seq, ex_block])
                          | (refine tr_label ?_; try simp only [ex_seq, ex_block])
                          | (refine tr_exit ?_; try simp only [ex_seq_exit, ex_block_exit, Nat.reduceEqDiff, if_true, if_false, ex_seq, ex_block, reduceCtorEq, ↓reduceIte])
                          | (refine tr_ret ?_; try simp only [ex_seq_ret, ex_block_ret]))
                      refine tr_cond rfl (fun ht => ?_) (fun hf => ?_)
                      · repeat (first
                            | refine tr_seq_k fun _ _ => ?_
                            | (refine tr_region ?_; simp only [go_sem, List.getElem?_toArray, str_beq, reduceCtorEq, Nat.reduceEqDiff, Nat.reduceLT, Nat.reduceLeDiff, Nat.reduceAdd, Nat.reduceMul, Nat.reduceSub, Nat.reduceBEq, ↓reduceIte, bne_self_eq_false, Bool.and_false, Bool.false_and, Bool.true_or, Bool.false_or])
                            | (refine tr_drawC (id := 15) follows 10000 (by kernel_rfl) ?_; simp only [go_sem, List.getElem?_toArray, str_beq, reduceCtorEq, Nat.reduceEqDiff, Nat.reduceLT, Nat.reduceLeDiff, Nat.reduceAdd, Nat.reduceMul, Nat.reduceSub, Nat.reduceBEq, ↓reduceIte, bne_self_eq_false, Bool.and_false, Bool.false_and, Bool.true_or, Bool.false_or])
                            | (refine tr_draw (id := 19) follows 10000 [9, 11, 12] [0, 1, 2, 3, 4, 5, 6, 7, 8, 9, 10, 11, 12, 13] (by kernel_rfl) ?_; simp only [go_sem, List.getElem?_toArray, str_beq, reduceCtorEq, Nat.reduceEqDiff, Nat.reduceLT, Nat.reduceLeDiff, Nat.reduceAdd, Nat.reduceMul, Nat.reduceSub, Nat.reduceBEq, ↓reduceIte, bne_self_eq_false, Bool.and_false, Bool.false_and, Bool.true_or, Bool.false_or])
                            | (refine tr_draw (id := 21) follows 10000 [2, 6, 8] [0, 1, 2, 3, 4, 5, 7, 6, 8, 9, 10] (by kernel_rfl) ?_; simp only [go_sem, List.getElem?_toArray, str_beq, reduceCtorEq, Nat.reduceEqDiff, Nat.reduceLT, Nat.reduceLeDiff, Nat.reduceAdd, Nat.reduceMul, Nat.reduceSub, Nat.reduceBEq, ↓reduceIte, bne_self_eq_false, Bool.and_false, Bool.false_and, Bool.true_or, Bool.false_or])
                            | (refine tr_draw (id := 26) follows 10000 [3, 4] [0, 1, 2, 3, 4, 5, 6] (by kernel_rfl) ?_; simp only [go_sem, List.getElem?_toArray, str_beq, reduceCtorEq, Nat.reduceEqDiff, Nat.reduceLT, Nat.reduceLeDiff, Nat.reduceAdd, Nat.reduceMul, Nat.reduceSub, Nat.reduceBEq, ↓reduceIte, bne_self_eq_false, Bool.and_false, Bool.false_and, Bool.true_or, Bool.false_or])
                            | refine k_of (by assumption) ?_
                            | refine tr_block ?_
                            | refine tr_scope ?_
                            | (refine tr_skip ?_; try simp only [ex_seq, ex_block])
                            | (refine tr_label ?_; try simp only [ex_seq, ex_block])
                            | (refine tr_exit ?_; try simp only [ex_seq_exit, ex_block_exit, Nat.reduceEqDiff, if_true, if_false, ex_seq, ex_block, reduceCtorEq, ↓reduceIte])
                            | (refine tr_ret ?_; try simp only [ex_seq_ret, ex_block_ret]))
                        refine (hQ _ _ [bA true] ?_ (fun m => rfl)).2 <;> simp only [go_sem, List.getElem?_toArray, str_beq, reduceCtorEq, Nat.reduceEqDiff, Nat.reduceLT, Nat.reduceLeDiff, Nat.reduceAdd, Nat.reduceMul, Nat.reduceSub, Nat.reduceBEq, ↓reduceIte, bne_self_eq_false, Bool.and_false, Bool.false_and, Bool.true_or, Bool.false_or, Tryd.f5]
                      · cases hf
                    | false =>
                      have hge : 2 ≤ (pnames a true).length := by
                        have := of_decide_eq_false h5
                        omega
                      have eqA := eqA hge
                      obtain ⟨r, hr⟩ := hdr
                      rw [hL2 hge] at hr
                      have hne : L ≠ [] := by rw [hr]; simp
                      repeat (first
                          | refine tr_seq_k fun _ _ => ?_
                          | (refine tr_region ?_; simp only [go_sem, List.getElem?_toArray, str_beq, reduceCtorEq, Nat.reduceEqDiff, Nat.reduceLT, Nat.reduceLeDiff, Nat.reduceAdd, Nat.reduceMul, Nat.reduceSub, Nat.reduceBEq, ↓reduceIte, bne_self_eq_false, Bool.and_false, Bool.false_and, Bool.true_or, Bool.false_or, h5])
                          | (refine tr_drawC (id := 15) follows 10000 (by kernel_rfl) ?_; simp only [go_sem, List.getElem?_toArray, str_beq, reduceCtorEq, Nat.reduceEqDiff, Nat.reduceLT, Nat.reduceLeDiff, Nat.reduceAdd, Nat.reduceMul, Nat.reduceSub, Nat.reduceBEq, ↓reduceIte, bne_self_eq_false, Bool.and_false, Bool.false_and, Bool.true_or, Bool.false_or, h5])
                          | (refine tr_draw (id := 19) follows 10000 [9, 11, 12] [0, 1, 2, 3, 4, 5, 6, 7, 8, 9, 10, 11, 12, 13] (by kernel_rfl) ?_; simp only [go_sem, List.getElem?_toArray, str_beq, reduceCtorEq, Nat.reduceEqDiff, Nat.reduceLT, Nat.reduceLeDiff, Nat.reduceAdd, Nat.reduceMul, Nat.reduceSub, Nat.reduceBEq, ↓reduceIte, bne_self_eq_false, Bool.and_false, Bool.false_and, Bool.true_or, Bool.false_or, h5])
                          | (refine tr_draw (id := 21) follows 10000 [2, 6, 8] [0, 1, 2, 3, 4, 5, 7, 6, 8, 9, 10] (by kernel_rfl) ?_; simp only [go_sem, List.getElem?_toArray, str_beq, reduceCtorEq, Nat.reduceEqDiff, Nat.reduceLT, Nat.reduceLeDiff, Nat.reduceAdd, Nat.reduceMul, Nat.reduceSub, Nat.reduceBEq, ↓reduceIte, bne_self_eq_false, Bool.and_false, Bool.false_and, Bool.true_or, Bool.false_or, h5])
                          | (refine tr_draw (id := 26) follows 10000 [3, 4] [0, 1, 2, 3, 4, 5, 6] (by kernel_rfl) ?_; simp only [go_sem, List.getElem?_toArray, str_beq, reduceCtorEq, Nat.reduceEqDiff, Nat.reduceLT, Nat.reduceLeDiff, Nat.reduceAdd, Nat.reduceMul, Nat.reduceSub, Nat.reduceBEq, ↓reduceIte, bne_self_eq_false, Bool.and_false, Bool.false_and, Bool.true_or, Bool.false_or, h5])
                          | refine k_of (by assumption) ?_
                          | refine tr_block ?_
                          | refine tr_scope ?_
                          | (refine tr_skip ?_; try simp only [ex_seq, ex_block])
                          | (refine tr_label ?_; try simp only [ex_seq, ex_block])
                          | (refine tr_exit ?_; try simp only [ex_seq_exit, ex_block_exit, Nat.reduceEqDiff, if_true, if_false, ex_seq, ex_block, reduceCtorEq, ↓reduceIte])
                          | (refine tr_ret ?_; try simp only [ex_seq_ret, ex_block_ret]))
                      refine tr_cond rfl (fun ht => ?_) (fun hf => ?_)
                      · cases ht
                      · rw [colA_ne _ _ hne, colH_ne _ _ hne]
                        refine tr_thaw (s := 6) (k := 0) (fr0 := [(2, .ptr 0 0)]) rfl rfl (vals_flat (encV := fun b : Bd => [Value.string b.var, .bool b.t.v, .string b.t.name]) (fun _ => rfl) L) ⟨rfl, trivial⟩ rfl rfl ?_
                        generalize (pnames a true).getD 0 default = v0 at hr
                        generalize (pnames a true).getD 1 default = v1 at hr
                        generalize N.getD 0 default = n0 at hr
                        generalize N.getD 1 default = n1 at hr
                        have hcells : List.map AV.c (List.flatMap bdC L) = .c (.v (.string v0)) :: .c (.v (.bool true)) :: .c (.v (.string n0)) :: .c (.v (.string v1)) :: .c (.v (.bool true)) :: .c (.v (.string n1)) :: List.map AV.c (List.flatMap bdC r) := by rw [hr]; rfl
                        have hcells2 : List.map AV.c (List.flatMap bdC (rnEq L)) = .c (.v (.string v0)) :: .c (.v (.bool true)) :: .c (.v (.string n1)) :: .c (.v (.string v1)) :: .c (.v (.bool true)) :: .c (.v (.string n1)) :: List.map AV.c (List.flatMap bdC r) := by rw [hr]; rfl
                        have hL0 : 1 < L.length := by omega
                        have ix1 : aIndexL Tryd.prog 42 (.lsl 2 0 L.length 3) (.c (.v (.int .i64 1))) = some (.ptr 2 3) := idxL (P := Tryd.prog) (size := 3) Tryd.underlying42 sz45 (by decide) (b := 2) (lo := 0) (k := 1) (ik := .i64) hL0
                        have ix0 : aIndexL Tryd.prog 42 (.lsl 2 0 L.length 3) (.c (.v (.int .i64 0))) = some (.ptr 2 0) := idxL (P := Tryd.prog) (size := 3) Tryd.underlying42 sz45 (by decide) (b := 2) (lo := 0) (k := 0) (ik := .i64) (by omega)
                        have hEl : (rnEq L).length = L.length := rnEq_len L
                        have aE := r4apply_does (rnEq L) a false (by omega)
                        have s2 := sameV_does a (papp (rnEq L) a)
                        rw [eqA] at s2
                        have le6 : ∀ n : Nat, (6 ≤ n + 1 + 1 + 1 + 1 + 1 + 1) = True := fun n => eq_true (by omega)
                        have le3 : ∀ n : Nat, (3 ≤ n + 1 + 1 + 1 + 1 + 1 + 1) = True := fun n => eq_true (by omega)
                        rw [hcells]
                        simp only [List.length_cons, List.length_nil, Nat.reduceAdd, List.cons_append, List.nil_append]
                        repeat (first
                            | refine tr_seq_k fun _ _ => ?_
                            | (refine tr_region ?_; simp only [go_sem, List.getElem?_toArray, str_beq, reduceCtorEq, Nat.reduceEqDiff, Nat.reduceLT, Nat.reduceLeDiff, Nat.reduceAdd, Nat.reduceMul, Nat.reduceSub, Nat.reduceBEq, ↓reduceIte, bne_self_eq_false, Bool.and_false, Bool.false_and, Bool.true_or, Bool.false_or, ix0, ix1, le6, le3])
                            | (refine tr_drawC (id := 15) follows 10000 (by kernel_rfl) ?_; simp only [go_sem, List.getElem?_toArray, str_beq, reduceCtorEq, Nat.reduceEqDiff, Nat.reduceLT, Nat.reduceLeDiff, Nat.reduceAdd, Nat.reduceMul, Nat.reduceSub, Nat.reduceBEq, ↓reduceIte, bne_self_eq_false, Bool.and_false, Bool.false_and, Bool.true_or, Bool.false_or, ix0, ix1, le6, le3])
                            | (refine tr_draw (id := 19) follows 10000 [9, 11, 12] [0, 1, 2, 3, 4, 5, 6, 7, 8, 9, 10, 11, 12, 13] (by kernel_rfl) ?_; simp only [go_sem, List.getElem?_toArray, str_beq, reduceCtorEq, Nat.reduceEqDiff, Nat.reduceLT, Nat.reduceLeDiff, Nat.reduceAdd, Nat.reduceMul, Nat.reduceSub, Nat.reduceBEq, ↓reduceIte, bne_self_eq_false, Bool.and_false, Bool.false_and, Bool.true_or, Bool.false_or, ix0, ix1, le6, le3])
                            | (refine tr_draw (id := 21) follows 10000 [2, 6, 8] [0, 1, 2, 3, 4, 5, 7, 6, 8, 9, 10] (by kernel_rfl) ?_; simp only [go_sem, List.getElem?_toArray, str_beq, reduceCtorEq, Nat.reduceEqDiff, Nat.reduceLT, Nat.reduceLeDiff, Nat.reduceAdd, Nat.reduceMul, Nat.reduceSub, Nat.reduceBEq, ↓reduceIte, bne_self_eq_false, Bool.and_false, Bool.false_and, Bool.true_or, Bool.false_or, ix0, ix1, le6, le3])
                            | refine k_of (by assumption) ?_
                            | refine tr_block ?_
                            | refine tr_scope ?_
                            | (refine tr_skip ?_; try simp only [ex_seq, ex_block])
                            | (refine tr_label ?_; try simp only [ex_seq, ex_block])
                            | (refine tr_exit ?_; try simp only [ex_seq_exit, ex_block_exit, Nat.reduceEqDiff, if_true, if_false, ex_seq, ex_block, reduceCtorEq, ↓reduceIte])
                            | (refine tr_ret ?_; try simp only [ex_seq_ret, ex_block_ret]))
                        rw [← hcells2]
                        refine tr_frz (s := 6) (b := 2) (lo := 0) (n := L.length) (k := 3) (ds := List.flatMap bdC (rnEq L)) rfl rfl ?_
                        have hcl : List.take (L.length * 3) (List.drop (0 * 3) (List.flatMap bdC (rnEq L))) = List.flatMap bdC (rnEq L) := by
                          rw [Nat.zero_mul, List.drop_zero]
                          refine List.take_of_length_le ?_
                          rw [flat_length bdC 3 (fun _ => rfl), hEl]
                          exact Nat.le_refl _
                        have hsl : AV.c (.sl false L.length (List.flatMap bdC (rnEq L))) = slB false (rnEq L) := by
                          rw [← hEl]; rfl
                        rw [hcl, hsl]
                        repeat (first
                            | refine tr_seq_k fun _ _ => ?_
                            | (refine tr_region ?_; simp only [go_sem, List.getElem?_toArray, str_beq, reduceCtorEq, Nat.reduceEqDiff, Nat.reduceLT, Nat.reduceLeDiff, Nat.reduceAdd, Nat.reduceMul, Nat.reduceSub, Nat.reduceBEq, ↓reduceIte, bne_self_eq_false, Bool.and_false, Bool.false_and, Bool.true_or, Bool.false_or])
                            | (refine tr_drawC (id := 15) follows 10000 (by kernel_rfl) ?_; simp only [go_sem, List.getElem?_toArray, str_beq, reduceCtorEq, Nat.reduceEqDiff, Nat.reduceLT, Nat.reduceLeDiff, Nat.reduceAdd, Nat.reduceMul, Nat.reduceSub, Nat.reduceBEq, ↓reduceIte, bne_self_eq_false, Bool.and_false, Bool.false_and, Bool.true_or, Bool.false_or])
                            | (refine tr_draw (id := 19) follows 10000 [9, 11, 12] [0, 1, 2, 3, 4, 5, 6, 7, 8, 9, 10, 11, 12, 13] (by kernel_rfl) ?_; simp only [go_sem, List.getElem?_toArray, str_beq, reduceCtorEq, Nat.reduceEqDiff, Nat.reduceLT, Nat.reduceLeDiff, Nat.reduceAdd, Nat.reduceMul, Nat.reduceSub, Nat.reduceBEq, ↓reduceIte, bne_self_eq_false, Bool.and_false, Bool.false_and, Bool.true_or, Bool.false_or])
                            | (refine tr_draw (id := 21) follows 10000 [2, 6, 8] [0, 1, 2, 3, 4, 5, 7, 6, 8, 9, 10] (by kernel_rfl) ?_; simp only [go_sem, List.getElem?_toArray, str_beq, reduceCtorEq, Nat.reduceEqDiff, Nat.reduceLT, Nat.reduceLeDiff, Nat.reduceAdd, Nat.reduceMul, Nat.reduceSub, Nat.reduceBEq, ↓reduceIte, bne_self_eq_false, Bool.and_false, Bool.false_and, Bool.true_or, Bool.false_or])
                            | (refine tr_draw (id := 26) follows 10000 [3, 4] [0, 1, 2, 3, 4, 5, 6] (by kernel_rfl) ?_; simp only [go_sem, List.getElem?_toArray, str_beq, reduceCtorEq, Nat.reduceEqDiff, Nat.reduceLT, Nat.reduceLeDiff, Nat.reduceAdd, Nat.reduceMul, Nat.reduceSub, Nat.reduceBEq, ↓reduceIte, bne_self_eq_false, Bool.and_false, Bool.false_and, Bool.true_or, Bool.false_or])
                            | (refine call_of (aE) ?_ ?_
                               · first | rfl | simp only [go_sem, List.getElem?_toArray, str_beq, reduceCtorEq, Nat.reduceEqDiff, Nat.reduceLT, Nat.reduceLeDiff, Nat.reduceAdd, Nat.reduceMul, Nat.reduceSub, Nat.reduceBEq, ↓reduceIte, bne_self_eq_false, Bool.and_false, Bool.false_and, Bool.true_or, Bool.false_or, shut_col]
                               simp only [go_sem, List.getElem?_toArray, str_beq, reduceCtorEq, Nat.reduceEqDiff, Nat.reduceLT, Nat.reduceLeDiff, Nat.reduceAdd, Nat.reduceMul, Nat.reduceSub, Nat.reduceBEq, ↓reduceIte, bne_self_eq_false, Bool.and_false, Bool.false_and, Bool.true_or, Bool.false_or])
                            | (refine call_of (s2) ?_ ?_
                               · first | rfl | simp only [go_sem, List.getElem?_toArray, str_beq, reduceCtorEq, Nat.reduceEqDiff, Nat.reduceLT, Nat.reduceLeDiff, Nat.reduceAdd, Nat.reduceMul, Nat.reduceSub, Nat.reduceBEq, ↓reduceIte, bne_self_eq_false, Bool.and_false, Bool.false_and, Bool.true_or, Bool.false_or, shut_col]
                               simp only [go_sem, List.getElem?_toArray, str_beq, reduceCtorEq, Nat.reduceEqDiff, Nat.reduceLT, Nat.reduceLeDiff, Nat.reduceAdd, Nat.reduceMul, Nat.reduceSub, Nat.reduceBEq, ↓reduceIte, bne_self_eq_false, Bool.and_false, Bool.false_and, Bool.true_or, Bool.false_or])
                            | refine k_of (by assumption) ?_
                            | refine tr_block ?_
                            | refine tr_scope ?_
                            | (refine tr_skip ?_; try simp only [ex_seq, ex_block])
                            | (refine tr_label ?_; try simp only [ex_seq, ex_block])
                            | (refine tr_exit ?_; try simp only [ex_seq_exit, ex_block_exit, Nat.reduceEqDiff, if_true, if_false, ex_seq, ex_block, reduceCtorEq, ↓reduceIte])
                            | (refine tr_ret ?_; try simp only [ex_seq_ret, ex_block_ret]))
                        refine (hQ _ _ [bA true] ?_ (fun m => rfl)).2 <;> simp only [go_sem, List.getElem?_toArray, str_beq, reduceCtorEq, Nat.reduceEqDiff, Nat.reduceLT, Nat.reduceLeDiff, Nat.reduceAdd, Nat.reduceMul, Nat.reduceSub, Nat.reduceBEq, ↓reduceIte, bne_self_eq_false, Bool.and_false, Bool.false_and, Bool.true_or, Bool.false_or, Tryd.f5]
end Go.Proofs.YtlnlnpbjgcickaaDoor

namespace Go.Proofs.YtlnlnpbjgcickaaDoor.renames
open Go.ChangeShapes Go.WideShapes Go.ChangeAt Go.RowKit Go.Vs Go.Vs.Ab

theorem own : ownKnob Tryd.prog.godebug = none := by kernel_rfl
theorem laidOut : laidOutB Tryd.prog = true := by kernel_rfl
theorem readable : (Tryd.f5.params.toList.all fun t => Tryd.prog.readableRec t && decide (t < Tryd.prog.types.size)) = true := by kernel_rfl
theorem shape30 : shapeOf Tryd.prog 8 30 = some [.str, .str, .int, .bool, .str, .bool, .str, .bool, .str, .bool, .str] := by kernel_rfl
theorem shape39 : shapeOf Tryd.prog 8 39 = some [.sl [.str]] := by kernel_rfl

set_option maxRecDepth 100000 in
theorem door_met (os : Os) (args : Array Value) : laidMetH Tryd.prog Rows.variantRenamesRow.laid ((World.doorLaid Tryd.prog 400 os).forCall (fun _ _ => 0) ⟨#[], args, []⟩).memory :=
  laidMetH_of_parts3 (fuel := 8) (laidMet_of_run' 8 (by kernel_rfl) (by kernel_rfl)) (by kernel_rfl) (by kernel_rfl)

set_option maxRecDepth 100000 in
theorem lifted (os : Os) (started : os.Started) (H : Type) (enc : TypeId × Value → H) :
    ReturnsInHanded {} Tryd.checked os 5 .any (fun w args => (Rows.variantRenamesSpec.pre enc Tryd.prog Tryd.f5 [] false w args ∧ laidMetH Tryd.prog Rows.variantRenamesRow.laid w) ∧ sizedMet enc Tryd.prog Tryd.f5 (OpenSpec.ofChange Rows.variantRenamesSpec) false w args) (Rows.variantRenamesSpec.post enc Tryd.prog Tryd.f5 false true false false) := by
  refine returnsInHanded_of_change_and (C := Tryd.checked) (X := fun w _ => laidMetH Tryd.prog Rows.variantRenamesRow.laid w) (fun _ _ _ hh h => h.of_heap hh) own started (by kernel_rfl) Tryd.func5
    (ChangeSpec.witness_shaped (enc := enc) (C := Tryd.checked) (os := os) (X := fun w _ => laidMetH Tryd.prog Rows.variantRenamesRow.laid w) false (World.doorLaid Tryd.prog 400 os) #[.agg #[.string ⟨#[]⟩, .string ⟨#[]⟩, .int .i64 0, .bool false, .string ⟨#[]⟩, .bool false, .string ⟨#[]⟩, .bool false, .string ⟨#[]⟩, .bool false, .string ⟨#[]⟩], .slice none 0 0] 8 rfl (World.shaped_of_RefB (by kernel_rfl) (by kernel_rfl)) (by kernel_rfl) (by kernel_rfl) (by kernel_rfl) (door_met os _)) ?_
  intro W base args ds gs before hval0 hW _ _ hL _
  have hval : ∀ (j : Nat) t v, Tryd.f5.params[j]? = some t → args[j]? = some v → Value.okWide Tryd.prog W .any base t v := hval0
  have hW' := hW
  obtain ⟨p, q, hA0, hV, rfl, hfz, hnd⟩ := hW
  have hA : DataW.TrodAll enc Tryd.prog W 0 (fun _ => true) true Tryd.f5.params.toList args.toList ds p := hA0
  rw [Tryd.params5] at hA hval
  obtain ⟨v0, vs0, d0, ds0, p0, q0, hargs, rfl, rfl, h0, r0⟩ := trodAll_cons hA
  obtain ⟨v1, vs1, d1, ds1, p1, q1, rfl, rfl, rfl, h1, r1⟩ := trodAll_cons r0
  obtain ⟨rfl, rfl, rfl⟩ := trodAll_nil r1
  obtain rfl : args = #[v0, v1] := by cases args; simp_all
  obtain ⟨rfl, rfl⟩ := trodVars_none hV
  obtain ⟨a0, R0, g0⟩ := open_agg Tryd.underlying30 shape30 atD (hval 0 30 v0 rfl rfl) h0
  obtain ⟨a1, R1, _⟩ := open_sl Tryd.underlying39 shape39 stD (hval 1 39 v1 rfl rfl) h1
  refine ((renames_does a0 a1 g0 false).bool (Reps.cons R0 (Reps.cons R1 Reps.nil))).mono fun e W' ⟨he, hb⟩ => ?_
  subst he
  refine ⟨_, rfl, law_post (tb := 4) hW' rfl rfl laidOut (fun t ht => ?_) rfl Tryd.underlying4 hb⟩
  have := List.all_eq_true.1 readable t ht
  simp only [Bool.and_eq_true, decide_eq_true_eq] at this
  exact this

theorem row_holds : Rows.VariantRenamesSaid :=
  OpenClaim.holds_of_wide 5 Tryd.f5 rfl rfl rfl rfl rfl rfl rfl ⟨rfl, rfl, rfl, rfl, rfl⟩ rfl rfl rfl rfl rfl (by kernel_rfl) Tryd.func5 (by kernel_rfl)
    (of_decide_eq_true (by kernel_rfl)) (by unfold Func.isWrapper; first | (rw [if_pos (by decide +kernel)]; kernel_rfl) | (rw [if_neg (by decide +kernel)]; exact ⟨rfl, rfl⟩))
    (fun os started H enc _ => lifted os started H enc)
theorem holds : Rows.VariantRenamesCardSaid :=
  Claim7.holds_tied_plain_at .later [] [.data, .data, .data] true (true, "92ad8b57b6dc406ecb66be2793f76a5bdd5fe2f312d5d1c4b72077021b0ddc8f") false
    row_holds (fun _ h => by cases h) (by kernel_rfl) (fun _ h => by cases h) variantRenames_row_tie rfl ⟨rfl, rfl⟩ (by kernel_rfl) rfl
    (fun f fn hf hfn => by
      obtain rfl : f = 5 := Option.some.inj ((show Tryd.prog.funcNamed "vouchsafe/vouchsafelaw07.VariantRenames" = some 5 by kernel_rfl).symm.trans hf) |>.symm
      obtain rfl : fn = Tryd.f5 := (Option.some.inj (Tryd.func5.symm.trans hfn)).symm
      exact ⟨by kernel_rfl, fun j t ht => by
        have hm : t ∈ Tryd.f5.params.toList := by simpa using Array.mem_of_getElem? ht
        have hall : (Tryd.f5.params.toList.all fun u => !Tryd.prog.wantsStandIn u) = true := by kernel_rfl
        exact (show Tryd.prog.wantsStandIn t = false by simpa using List.all_eq_true.1 hall t hm)⟩)
    (by kernel_rfl)
#print axioms holds
end Go.Proofs.YtlnlnpbjgcickaaDoor.renames
